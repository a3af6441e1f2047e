/- The document's own small functions. -/
import Derived.Test.YtmcnpfjichbijaaC2
import Derived.Test.YtmcnpfjichbijaaT1
import Derived.RegionTactic
set_option linter.unusedSimpArgs false
set_option linter.unusedVariables false
namespace Go.Proofs.Ytmcnpfjichbijaa
open Go Go.Proofs Go.RowKit Go.Shelf


/-- The same from a world that has grown already. -/
theorem wp_region_over2 {P : Program} {id : Nat} {Q : Exit → Act → World → Prop} {a : Act} {w y : World} {l : List Oper} (hm : P.follows .mixedOrders = true) (hB : Region.lexB .any l.toArray = true)
    (h : wpQuiet P l.toArray (fun w' => ∃ x, w' = over w x) (fun a' => ∀ w', (∃ x, w' = over w x) → Q .normal a' w') l a) : (Code.region id l.toArray true).wp P Q a (over w y) :=
  wp_region_quiet (C := fun w' => ∃ x, w' = over w x) hm hB ⟨{ y with drawn := y.drawn + 1 }, rfl⟩ (by simpa using h)

theorem wp_region_over2_tail {P : Program} {id : Nat} {Q : Exit → Act → World → Prop} {a : Act} {w y : World} {l : List Oper} (n : Nat) (hm : P.follows .mixedOrders = true) (hB : Region.lexTailB .any l.toArray n = true)
    (h : wpQuiet P l.toArray (fun w' => ∃ x, w' = over w x) (fun a' => ∀ w', (∃ x, w' = over w x) → wpList P l.toArray Q (l.drop n) a' w') (l.take n) a) : (Code.region id l.toArray true).wp P Q a (over w y) :=
  wp_region_quiet_tail n hm hB ⟨{ y with drawn := y.drawn + 1 }, rfl⟩ h

theorem c56 (n lo hi : Int) (w : World) :
    Calls Try.prog 56 #[.int .i64 n, .int .i64 lo, .int .i64 hi] w fun e w' => e = .returned (.bool (inB n lo hi)) ∧ w' = w := by
  go_enter Try.func56, Try.ntmps56
  go_wp2
  all_goals (go_ret; exact ⟨by simp [inB, *]; try omega, rfl⟩)

theorem c25 {A : Option Addr} {cn : Nat} {l : List Int} (n : Int) {w : World} {S : Nat → Prop} (h : numsAt S w A l) (hl : l.length ≤ 2000) :
    Calls Try.prog 25 #[.slice A l.length cn, .int .i64 n] w fun e w' => e = .returned (.bool (decide (n ∈ l))) ∧ w' = w := by
  go_enter Try.func25, Try.ntmps25
  go_wp2_with fail
  go_loop [5] (fun t => ∃ i : Nat, i ≤ l.length ∧ t = .int .i64 i ∧ n ∉ l.take i) (fun t => l.length - (intOf t).toNat)
  case atStart => exact ⟨0, Nat.zero_le _, rfl, by simp⟩
  case round =>
    obtain ⟨i, hi, rfl, hn⟩ := hrel
    have HN := Lib.hid hn
    clear hn
    by_cases hlt : i < l.length
    · have htk := List.take_succ_eq_append_getElem hlt
      obtain ⟨q, hq⟩ : ∃ q, q = l[i] := ⟨_, rfl⟩
      rw [← hq] at htk
      have hmem : q ∈ l := by rw [hq]; exact List.getElem_mem hlt
      obtain ⟨An, Ao, eA, hSA, hns⟩ := h (by omega)
      have hcell := hns i q (by simp [hlt, hq])
      have hix := fun c => @idx26 A An Ao l.length c eA i hlt
      have HT := Lib.hid htk
      have HM := Lib.hid hmem
      clear eA hns hq htk hmem
      cases hqn : (q == n)
      · go_wp2
        go_round
        case rel => exact ⟨i + 1, by omega, by go_num, by rw [HT.out]; have := HN.out; simp at hqn; simp [this, Ne.symm hqn]⟩
        case measure => simp [intOf]; omega
      · go_wp2
        go_ret
        simp at hqn
        subst hqn
        exact ⟨by simp [HM.out], rfl⟩
    · go_wp2
      go_ret
      have := HN.out
      rw [List.take_of_length_le (by omega)] at this
      exact ⟨by simp [this], rfl⟩

set_option maxRecDepth 100000 in
set_option maxHeartbeats 1000000 in
theorem c63 (n i b d v l h day : Int) (w : World) (h1 : 0 ≤ d) (h2 : d ≤ 1000) (h3 : 0 ≤ v) (h4 : v ≤ 1000) :
    Calls Try.prog 63 #[.agg #[.int .i64 n, .int .i64 i, .int .i64 b, .int .i64 d, .int .i64 v, .int .i64 l, .int .i64 h], .int .i64 day] w
      fun e w' => e = .returned (.bool (inB day d (d + v))) ∧ ∃ x, w' = over w x := by
  go_enter Try.func63, Try.ntmps63
  go_wp2_with fail
  refine (c56 _ _ _ _).mono ?_
  rintro e w' ⟨rfl, rfl⟩
  go_wp2_with fail
  go_ret
  exact ⟨rfl, below_over (by repeat' (first | exact Below.refl _ _ | (refine below_ov ?_ ?_) | (refine Below.alloc ?_ ?_ _) | (refine below_drewN' ?_ _) | (refine Below.drew ?_) | (refine below_set ?_ _ _ ?_) | (simp; done) | (simp; omega) | omega))⟩

theorem rests_eq (n i b d v l h n2 i2 b2 d2 v2 l2 h2 : Int) : restsB ⟨n, i, b, d, v, ⟨l, h⟩⟩ ⟨n2, i2, b2, d2, v2, ⟨l2, h2⟩⟩ = (i2 == b && decide (n2 < n) && inB d d2 (d2 + v2)) := rfl

set_option maxRecDepth 100000 in
set_option maxHeartbeats 1000000 in
theorem c76 (c o : Crt) (w : World) (h1 : 0 ≤ o.day) (h2 : o.day ≤ 1000) (h3 : 0 ≤ o.valid) (h4 : o.valid ≤ 1000) :
    Calls Try.prog 76 #[crtV c, crtV o] w fun e w' => e = .returned (.bool (restsB c o)) ∧ ∃ x, w' = over w x := by
  obtain ⟨n, i, b, d, v, ⟨l, h⟩⟩ := c
  obtain ⟨n2, i2, b2, d2, v2, ⟨l2, g2⟩⟩ := o
  rw [rests_eq]
  simp only [crtV]
  dsimp only at h1 h2 h3 h4
  cases e1 : (i2 == b)
  · go_enter Try.func76, Try.ntmps76
    go_wp2_with fail
    go_ret
    exact ⟨by simp, below_over (by repeat' (first | exact Below.refl _ _ | (refine below_ov ?_ ?_) | (refine Below.alloc ?_ ?_ _) | (refine below_drewN' ?_ _) | (refine Below.drew ?_) | (refine below_set ?_ _ _ ?_) | (simp; done) | (simp; omega) | omega))⟩
  · cases e2 : decide (n2 < n)
    · go_enter Try.func76, Try.ntmps76
      go_wp2_with fail
      go_ret
      exact ⟨by simp, below_over (by repeat' (first | exact Below.refl _ _ | (refine below_ov ?_ ?_) | (refine Below.alloc ?_ ?_ _) | (refine below_drewN' ?_ _) | (refine Below.drew ?_) | (refine below_set ?_ _ _ ?_) | (simp; done) | (simp; omega) | omega))⟩
    · go_enter Try.func76, Try.ntmps76
      go_wp2_with (go_at_call 63; refine (c63 _ _ _ _ _ _ _ _ _ (by omega) (by omega) (by omega) (by omega)).mono ?_; rintro e w' ⟨rfl, x, rfl⟩)
      go_ret
      exact ⟨by simp, below_over (by repeat' (first | exact Below.refl _ _ | (refine below_ov ?_ ?_) | (refine Below.alloc ?_ ?_ _) | (refine below_drewN' ?_ _) | (refine Below.drew ?_) | (refine below_set ?_ _ _ ?_) | (simp; done) | (simp; omega) | omega))⟩
end Go.Proofs.Ytmcnpfjichbijaa

