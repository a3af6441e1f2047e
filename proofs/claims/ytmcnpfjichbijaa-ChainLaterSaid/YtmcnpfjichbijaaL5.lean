/- The document's example: it wakes. -/
import Derived.Test.YtmcnpfjichbijaaT13
import Derived.Test.YtmcnpfjichbijaaC22
set_option linter.unusedSimpArgs false
set_option linter.unusedVariables false
namespace Go.Proofs.Ytmcnpfjichbijaa
open Go Go.Proofs Go.RowKit Go.Shelf


theorem numsAt.below {w w' : World} {A : Option Addr} {l : List Int} (h : numsAt (· < w.heap.size) w A l) (hb : Below w.heap.size w w') : numsAt (· < w'.heap.size) w' A l :=
  (h.keep (Keep.of_below hb fun _ h _ => h)).mono fun j hj => by have := hb.size; have : j < w.heap.size := hj; show j < w'.heap.size; omega

theorem nums_new1 (w : World) (a : Int) (t : TypeId) : numsAt (· < (w.alloc (.cells #[.int .i64 a] t)).heap.size) (w.alloc (.cells #[.int .i64 a] t)) (some ⟨w.heap.size, 0, none⟩) [a] := fun _ => ⟨_, _, rfl, by simp, fun i n hn => by
  match i, hn with
  | 0, hn => cases hn; simp [go_sem]⟩
theorem nums_new2 (w : World) (a b : Int) (t : TypeId) : numsAt (· < (w.alloc (.cells #[.int .i64 a, .int .i64 b] t)).heap.size) (w.alloc (.cells #[.int .i64 a, .int .i64 b] t)) (some ⟨w.heap.size, 0, none⟩) [a, b] := fun _ => ⟨_, _, rfl, by simp, fun i n hn => by
  match i, hn with
  | 0, hn => cases hn; simp [go_sem]
  | 1, hn => cases hn; simp [go_sem]⟩

theorem same26 {A : Option Addr} {c : Nat} {a b : Int} {w : World} (h : numsAt (· < w.heap.size) w A [a, b]) (t : TypeId) :
    Calls Try.prog 26 #[.slice A 2 c, .slice (some ⟨w.heap.size, 0, none⟩) 2 2] (w.alloc (.cells #[.int .i64 a, .int .i64 b] t)) fun e w' => e = .returned (.bool true) ∧ Below w.heap.size w w' := by
  have b1 : Below w.heap.size w (w.alloc (.cells #[.int .i64 a, .int .i64 b] t)) := (Below.refl _ w).alloc (Nat.le_refl _) _
  refine (c26 (h.below b1) (nums_new2 w a b t) (by simp) (by simp)).mono ?_
  rintro e w' ⟨rfl, n, rfl⟩
  exact ⟨by simp, below_drewN' b1 n⟩

/-- A call's end: a list and no error. -/
def Got (l : List Int) (w : World) (e : Ending) (w' : World) : Prop :=
  ∃ A c, e = .returned (.tuple #[.slice A l.length c, .int .i64 0]) ∧ numsAt (· < w'.heap.size) w' A l ∧ Below w.heap.size w w'

theorem ListTo.got {l : List Int} {w w' : World} {e : Ending} (h : ListTo 0 l w e w') : Got l w e w' := by
  rcases h with ⟨h, _⟩ | ⟨_, A, c, h1, h2, x, h3⟩
  · exact absurd rfl h
  · exact ⟨A, c, h1, h2.mono fun j hj => hj.2, h3 ▸ over_below _ _⟩

theorem house34 {Ai Ac : Option Addr} {ci cc : Nat} {w : World} (hA : bookAt (· < w.heap.size) w Ai Ac houseB) (t : TypeId) :
    Calls Try.prog 34 #[.agg #[.slice Ai houseB.items.length ci, .slice Ac houseB.certs.length cc], .slice (some ⟨w.heap.size, 0, none⟩) 1 1] (w.alloc (.cells #[.int .i64 1] t)) (Got [3, 4] (w.alloc (.cells #[.int .i64 1] t))) := by
  refine (c34 Ai Ac _ ci cc 1 houseB [1] _ (hA.alloc _) (nums_new1 w 1 t) (by decide) (by decide) (by decide)).mono fun e w' h => ?_
  rw [house_err, house_wrong] at h
  exact h.got
theorem house19 {Ai Ac : Option Addr} {ci cc : Nat} {w : World} (hA : bookAt (· < w.heap.size) w Ai Ac houseB) (t : TypeId) :
    Calls Try.prog 19 #[.agg #[.slice Ai houseB.items.length ci, .slice Ac houseB.certs.length cc], .slice (some ⟨w.heap.size, 0, none⟩) 2 2] (w.alloc (.cells #[.int .i64 1, .int .i64 3] t)) (Got [2, 4] (w.alloc (.cells #[.int .i64 1, .int .i64 3] t))) := by
  refine (c19 Ai Ac _ ci cc 2 houseB [1, 3] _ (hA.alloc _) (nums_new2 w 1 3 t) (by decide) (by decide) (by decide)).mono fun e w' h => ?_
  rw [house_err2, house_hung] at h
  exact h.got
theorem house27 {Ai Ac : Option Addr} {ci cc : Nat} {w : World} (hA : bookAt (· < w.heap.size) w Ai Ac houseB) :
    Calls Try.prog 27 #[.agg #[.slice Ai houseB.items.length ci, .slice Ac houseB.certs.length cc], .int .i64 2, .int .i64 30] w fun e w' => e = .returned (.tuple #[.agg #[.int .i64 1000, .int .i64 1022], .int .i64 0]) ∧ Below w.heap.size w w' := by
  refine (c27 Ai Ac ci cc houseB 2 30 w hA (by decide) (by decide)).mono fun e w' h => ?_
  rw [house_span, house_spanErr] at h
  obtain ⟨h1, x, h2⟩ := h
  exact ⟨h1, h2 ▸ over_below _ _⟩
theorem house38 {Ai Ac : Option Addr} {ci cc : Nat} {w : World} (hA : bookAt (· < w.heap.size) w Ai Ac houseB) :
    Calls Try.prog 38 #[.agg #[.slice Ai houseB.items.length ci, .slice Ac houseB.certs.length cc], .int .i64 2, .int .i64 25] w (Got [1, 2] w) := by
  refine (c38 Ai Ac ci cc houseB 2 25 w hA (by decide) (by decide)).mono fun e w' h => ?_
  obtain ⟨A, c, h1, h2, x, h3⟩ := h
  rw [house_best] at h1 h2
  rw [house_ask] at h1
  exact ⟨A, c, h1, h2.mono fun j hj => hj.2, h3 ▸ over_below _ _⟩

set_option maxRecDepth 100000 in
set_option maxHeartbeats 1000000 in
theorem c18 (w : World) : Calls Try.prog 18 #[] w fun e w' => e = .returned (.bool true) ∧ ∃ x, w' = over w x := by
  go_enter Try.func18, Try.ntmps18
  go_wp2_with fail
  refine (c49 _).mono ?_
  rintro e w1 ⟨Ai, ci, Ac, cc, rfl, hA1, x1, e1⟩
  have b1 : Below w.heap.size w w1 := by rw [e1]; exact over_below _ _
  clear e1 x1
  have B1 := Lib.hid b1
  have HA1 := Lib.hid hA1
  clear hA1 b1
  go_wp2_with fail
  refine (house34 HA1.out _).mono ?_
  rintro e w2 ⟨A3, c3, rfl, hn3, b2⟩
  have B2 := Lib.hid (B1.out.trans ((((Below.refl _ w1).alloc (Nat.le_refl _) _).trans (b2.mono (by simp))).mono B1.out.size))
  have H3 := Lib.hid hn3
  clear B1 b2 hn3 HA1
  go_wp2_with fail
  refine (c49 _).mono ?_
  rintro e w3 ⟨Ai, ci, Ac, cc, rfl, hA1, x1, e1⟩
  have b1 : Below w2.heap.size w2 w3 := by rw [e1]; exact over_below _ _
  have B3 := Lib.hid (B2.out.trans (b1.mono B2.out.size))
  have H3 := Lib.hid (H3.out.below b1)
  have HA1 := Lib.hid hA1
  clear hA1 b1 e1 x1 B2
  go_wp2_with fail
  refine (house19 HA1.out _).mono ?_
  rintro e w4 ⟨A4, c4, rfl, hn4, b2⟩
  have b3 := ((Below.refl w3.heap.size w3).alloc (Nat.le_refl _) _).trans (b2.mono (by simp))
  have B4 := Lib.hid (B3.out.trans (b3.mono B3.out.size))
  have H3 := Lib.hid (H3.out.below b3)
  have H4 := Lib.hid hn4
  clear B3 b2 b3 hn4 HA1
  go_wp2_with fail
  refine (c49 _).mono ?_
  rintro e w5 ⟨Ai, ci, Ac, cc, rfl, hA1, x1, e1⟩
  have b1 : Below w4.heap.size w4 w5 := by rw [e1]; exact over_below _ _
  have B5 := Lib.hid (B4.out.trans (b1.mono B4.out.size))
  have H3 := Lib.hid (H3.out.below b1)
  have H4 := Lib.hid (H4.out.below b1)
  have HA1 := Lib.hid hA1
  clear hA1 b1 e1 x1 B4
  go_wp2_with fail
  refine (house27 HA1.out).mono ?_
  rintro e w6 ⟨rfl, b1⟩
  have B6 := Lib.hid (B5.out.trans (b1.mono B5.out.size))
  have H3 := Lib.hid (H3.out.below b1)
  have H4 := Lib.hid (H4.out.below b1)
  clear b1 B5 HA1
  go_wp2_with fail
  generalize hV : World.alloc w6 _ = V
  have c50 : V.cell? ⟨w6.heap.size, 0, none⟩ = some (.int .i64 1000) := by rw [← hV]; simp [go_sem]
  have c51 : V.cell? ⟨w6.heap.size, 1, none⟩ = some (.int .i64 1022) := by rw [← hV]; simp [go_sem]
  have bV : Below w6.heap.size w6 V := by rw [← hV]; exact (Below.refl _ _).alloc (Nat.le_refl _) _
  have BV := Lib.hid (B6.out.trans (bV.mono B6.out.size))
  have H3 := Lib.hid (H3.out.below bV)
  have H4 := Lib.hid (H4.out.below bV)
  clear hV bV B6
  refine (c49 _).mono ?_
  rintro e w7 ⟨Ai, ci, Ac, cc, rfl, hA1, x1, e1⟩
  have b1 : Below V.heap.size V w7 := by rw [e1]; exact over_below _ _
  have B7 := Lib.hid (BV.out.trans (b1.mono BV.out.size))
  have H3 := Lib.hid (H3.out.below b1)
  have H4 := Lib.hid (H4.out.below b1)
  have HA1 := Lib.hid hA1
  have kp : Keep (· < V.heap.size) V w7 := Keep.of_below b1 fun _ h _ => h
  have d0 := kp.cell c50 (lt_of_cell c50)
  have d1 := kp.cell c51 (lt_of_cell c51)
  clear hA1 b1 e1 x1 BV c50 c51 kp
  go_wp2_with fail
  refine (house38 HA1.out).mono ?_
  rintro e w8 ⟨A8, c8, rfl, hn8, b1⟩
  have B8 := Lib.hid (B7.out.trans (b1.mono B7.out.size))
  have H3 := Lib.hid (H3.out.below b1)
  have H4 := Lib.hid (H4.out.below b1)
  have H8 := Lib.hid hn8
  have kp : Keep (· < w7.heap.size) w7 w8 := Keep.of_below b1 fun _ h _ => h
  have f0 := kp.cell d0 (lt_of_cell d0)
  have f1 := kp.cell d1 (lt_of_cell d1)
  have lf := lt_of_cell f0
  clear b1 hn8 B7 d0 d1 kp HA1
  go_wp2_with fail
  refine (same26 H3.out _).mono ?_
  rintro e w9 ⟨rfl, b1⟩
  have B9 := Lib.hid (B8.out.trans (b1.mono B8.out.size))
  have H4 := Lib.hid (H4.out.below b1)
  have H8 := Lib.hid (H8.out.below b1)
  have kp : Keep (· < w8.heap.size) w8 w9 := Keep.of_below b1 fun _ h _ => h
  have d0 := kp.cell f0 lf
  have d1 := kp.cell f1 lf
  have ld := lt_of_cell d0
  clear b1 B8 f0 f1 lf kp
  go_wp2_with fail
  refine (same26 H4.out _).mono ?_
  rintro e w10 ⟨rfl, b1⟩
  have B10 := Lib.hid (B9.out.trans (b1.mono B9.out.size))
  have H8 := Lib.hid (H8.out.below b1)
  have kp : Keep (· < w9.heap.size) w9 w10 := Keep.of_below b1 fun _ h _ => h
  have f0 := kp.cell d0 ld
  have f1 := kp.cell d1 ld
  have lf := lt_of_cell f0
  clear b1 B9 d0 d1 ld kp
  go_wp2_with fail
  refine (same26 H8.out _).mono ?_
  rintro e w11 ⟨rfl, b1⟩
  have B11 := Lib.hid (B10.out.trans (b1.mono B10.out.size))
  clear b1 B10 f0 f1 lf
  go_wp2_with fail
  go_ret
  exact ⟨rfl, below_over B11.out⟩
end Go.Proofs.Ytmcnpfjichbijaa

