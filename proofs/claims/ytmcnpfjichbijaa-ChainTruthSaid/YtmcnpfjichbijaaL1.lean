/- The statements' small functions: lists, the same numbers, a thin book, its error, bad ones. -/
import Derived.Test.YtmcnpfjichbijaaR4
import Derived.Test.YtmcnpfjichbijaaC9
import Derived.Deep.AppendSrc
import Derived.Test.YtmcnpfjichbijaaC15

set_option linter.unusedSimpArgs false
set_option linter.unusedVariables false
namespace Go.Proofs.Ytmcnpfjichbijaa
open Go Go.Proofs Go.RowKit Go.Shelf


/-- The same numbers? -/
theorem c26 {A B : Option Addr} {ca cb : Nat} {l m : List Int} {w : World} {S T : Nat → Prop} (hA : numsAt S w A l) (hB : numsAt T w B m) (hl : l.length ≤ 2000) (hm : m.length ≤ 2000) :
    Calls Try.prog 26 #[.slice A l.length ca, .slice B m.length cb] w fun e w' => e = .returned (.bool (decide (l = m))) ∧ ∃ n, w' = w.drewN n := by
  by_cases hlen : l.length = m.length
  · have h0 : ((l.length : Int) != (m.length : Int)) = false := by simp [hlen]
    have HL := Lib.hid hlen
    clear hlen
    go_enter Try.func26, Try.ntmps26
    go_wp2_with fail
    go_loopw [5] (fun t wr => ∃ (i n : Nat), i ≤ l.length ∧ t = .int .i64 i ∧ l.take i = m.take i ∧ wr = w.drewN n) (fun t _ => l.length - (intOf t).toNat)
    case atStart => exact ⟨0, 0, Nat.zero_le _, rfl, by simp, rfl⟩
    case round =>
      obtain ⟨i, n, hi, rfl, ht, rfl⟩ := hrel
      have HT := Lib.hid ht
      clear ht
      have hlm := HL.out
      by_cases hlt : i < l.length
      · have hlt2 : i < m.length := by omega
        obtain ⟨Ba, Oa, eA, _, ha⟩ := hA (by omega)
        obtain ⟨Bb, Ob, eB, _, hb⟩ := hB (by omega)
        obtain ⟨x, hx⟩ : ∃ x, x = l[i] := ⟨_, rfl⟩
        obtain ⟨y, hy⟩ : ∃ y, y = m[i] := ⟨_, rfl⟩
        have ca' := ha i x (by simp [hlt, hx])
        have cb' := hb i y (by simp [hlt2, hy])
        have ix := fun c => @idx26 A Ba Oa l.length c eA i hlt
        have iy := fun c => @idx26 B Bb Ob m.length c eB i hlt2
        have t1 := List.take_succ_eq_append_getElem hlt
        have t2 := List.take_succ_eq_append_getElem hlt2
        rw [← hx] at t1
        rw [← hy] at t2
        have T1 := Lib.hid t1
        have T2 := Lib.hid t2
        have HX := Lib.hid hx
        have HY := Lib.hid hy
        clear eA eB ha hb t1 t2 hx hy hlm
        cases hxy : (x == y)
        · have hne : (x != y) = true := by simp [bne, hxy]
          go_wp2_with fail
          go_quiet (fail)
          go_wp2_with fail
          go_ret
          have : decide (l = m) = false := decide_eq_false fun e => by
            have hx := HX.out; have hy := HY.out
            subst e
            rw [hx, hy] at hxy
            simp at hxy
          exact ⟨by rw [this]; rfl, n + nq, by simp only [World.drewN, Nat.add_assoc]⟩
        · have hne : (x != y) = false := by simp [bne, hxy]
          go_wp2_with fail
          go_quiet (fail)
          go_wp2_with fail
          go_roundw
          case rel => exact ⟨i + 1, _, by omega, by go_num, by rw [T1.out, T2.out, HT.out, show x = y by simpa using hxy], rfl⟩
          case measure => simp [intOf]; omega
      · clear hlm
        go_wp2_with fail
        go_ret
        have h1 := HT.out
        have h2 := HL.out
        rw [List.take_of_length_le (by omega), List.take_of_length_le (by omega)] at h1
        exact ⟨by rw [h1]; simp, n, rfl⟩
  · have h0 : ((l.length : Int) != (m.length : Int)) = true := by simp; omega
    have hd : decide (l = m) = false := decide_eq_false fun e => hlen (by rw [e])
    rw [hd]
    clear hd
    go_enter Try.func26, Try.ntmps26
    go_wp2_with fail
    go_ret
    exact ⟨rfl, 0, rfl⟩

set_option maxRecDepth 100000 in
set_option maxHeartbeats 1000000 in
theorem c17 (Ai Ac : Option Addr) (ci cc ni nc : Nat) (w : World) (h1 : ni ≤ 9223372036854775807) (h2 : nc ≤ 9223372036854775807) :
    Calls Try.prog 17 #[.agg #[.slice Ai ni ci, .slice Ac nc cc]] w fun e w' => e = .returned (.bool (decide (ni ≤ 10) && decide (nc ≤ 28))) ∧ ∃ x, w' = over w x := by
  by_cases h3 : (ni : Int) ≤ 10
  · have h3' : ni ≤ 10 := by omega
    rw [decide_eq_true h3']
    by_cases h4 : (nc : Int) ≤ 28
    · have h4' : nc ≤ 28 := by omega
      rw [decide_eq_true h4']
      go_enter Try.func17, Try.ntmps17
      go_wp2_with fail
      go_ret
      exact ⟨rfl, below_over (by repeat' (first | exact Below.refl _ _ | (refine below_ov ?_ ?_) | (refine Below.alloc ?_ ?_ _) | (refine below_drewN' ?_ _) | (refine Below.drew ?_) | (refine below_set ?_ _ _ ?_) | (simp; done) | (simp; omega) | omega))⟩
    · have h4' : ¬ nc ≤ 28 := by omega
      rw [decide_eq_false h4']
      go_enter Try.func17, Try.ntmps17
      go_wp2_with fail
      go_ret
      exact ⟨rfl, below_over (by repeat' (first | exact Below.refl _ _ | (refine below_ov ?_ ?_) | (refine Below.alloc ?_ ?_ _) | (refine below_drewN' ?_ _) | (refine Below.drew ?_) | (refine below_set ?_ _ _ ?_) | (simp; done) | (simp; omega) | omega))⟩
  · have h3' : ¬ ni ≤ 10 := by omega
    rw [decide_eq_false h3']
    go_enter Try.func17, Try.ntmps17
    go_wp2_with fail
    go_ret
    exact ⟨rfl, below_over (by repeat' (first | exact Below.refl _ _ | (refine below_ov ?_ ?_) | (refine Below.alloc ?_ ?_ _) | (refine below_drewN' ?_ _) | (refine Below.drew ?_) | (refine below_set ?_ _ _ ?_) | (simp; done) | (simp; omega) | omega))⟩

theorem c45a (Ai Ac : Option Addr) (ci cc : Nat) (b : Bk) (w : World) (hA : bookAt (· < w.heap.size) w Ai Ac b) (hl : b.items.length ≤ 1000) (hl2 : b.certs.length ≤ 1000) :
    Calls Try.prog 45 #[.agg #[.slice Ai b.items.length ci, .slice Ac b.certs.length cc]] w fun e w' => e = .returned (.int .i64 (fault b)) ∧ ∃ x, w' = over w x := by
  by_cases h3 : 8 < b.items.length ∨ 24 < b.certs.length
  · rw [fault_three h3]
    exact c45_3 Ai Ac ci cc b w hl hl2 h3
  · exact c45 Ai Ac ci cc b w hA.1 hA.2 h3

theorem bookAt.alloc {w : World} {Ai Ac : Option Addr} {b : Bk} (h : bookAt (· < w.heap.size) w Ai Ac b) (o : Obj) : bookAt (· < (w.alloc o).heap.size) (w.alloc o) Ai Ac b :=
  ⟨(h.1.keep (Keep.alloc _ _ _)).mono fun j hj => by have := hj; simp; omega, (h.2.keep (Keep.alloc _ _ _)).mono fun j hj => by have := hj; simp; omega⟩

set_option maxRecDepth 100000 in
set_option maxHeartbeats 1000000 in
theorem c22 (Ai Ac : Option Addr) (ci cc : Nat) (b : Bk) (w : World) (hA : bookAt (· < w.heap.size) w Ai Ac b) (hl : b.items.length ≤ 1000) (hl2 : b.certs.length ≤ 1000) :
    Calls Try.prog 22 #[.agg #[.slice Ai b.items.length ci, .slice Ac b.certs.length cc]] w fun e w' => e = .returned (.int .i64 (fault b)) ∧ ∃ x, w' = over w x := by
  have hc := c45a Ai Ac ci cc b _ (hA.alloc (.cells #[.slice Ai b.items.length ci, .slice Ac b.certs.length cc] 25)) hl hl2
  have HC := Lib.hid hc
  clear hc hA
  go_enter Try.func22, Try.ntmps22
  go_wp2_with (go_at_call 45; refine HC.out.mono ?_; rintro e w' ⟨rfl, x, rfl⟩)
  go_ret
  exact ⟨rfl, below_over (by repeat' (first | exact Below.refl _ _ | (refine below_ov ?_ ?_) | (refine Below.alloc ?_ ?_ _) | (refine below_drewN' ?_ _) | (refine Below.drew ?_) | (refine below_set ?_ _ _ ?_) | (simp; done) | (simp; omega) | omega))⟩
end Go.Proofs.Ytmcnpfjichbijaa


/- The document's examples: the book; bad ones. -/
set_option linter.unusedSimpArgs false
set_option linter.unusedVariables false
namespace Go.Proofs.Ytmcnpfjichbijaa
open Go Go.Proofs Go.RowKit Go.Shelf


/-- AreBad. -/
def BadUp (l : List Int) (i : Nat) : Prop := ∀ j, ∀ (h : j < l.length), j < i → (1 ≤ l[j] ∧ l[j] ≤ 999) ∧ (0 < j → l[j - 1] < l[j])

theorem badOk_true {l : List Int} (h : BadUp l l.length) : badOk l = true := by
  unfold badOk
  exact decide_eq_true fun j hj => h j hj hj
theorem badOk_false {l : List Int} {i : Nat} (hi : i < l.length) (h : ¬ ((1 ≤ l[i] ∧ l[i] ≤ 999) ∧ (0 < i → l[i - 1] < l[i]))) : badOk l = false := by
  unfold badOk
  exact decide_eq_false fun k => h (k i hi)

set_option maxRecDepth 100000 in
set_option maxHeartbeats 1000000 in
theorem c23 {A : Option Addr} {cn : Nat} {l : List Int} {w : World} {S : Nat → Prop} (h : numsAt S w A l) (hl : l.length ≤ 2000) :
    Calls Try.prog 23 #[.slice A l.length cn] w fun e w' => e = .returned (.bool (badOk l)) ∧ ∃ x, w' = over w x := by
  go_enter Try.func23, Try.ntmps23
  go_wp2_with fail
  go_loopw [3] (fun t wr => ∃ (i : Nat) (y : World), i ≤ l.length ∧ t = .int .i64 i ∧ BadUp l i ∧ wr = over w y) (fun t _ => l.length - (intOf t).toNat)
  case atStart =>
    obtain ⟨y, hy⟩ := over_refl w
    exact ⟨0, y, Nat.zero_le _, rfl, fun j _ hj => by omega, hy⟩
  case round =>
    obtain ⟨i, y, hi, rfl, hb, rfl⟩ := hrel
    have HB := Lib.hid hb
    clear hb
    by_cases hlt : i < l.length
    · obtain ⟨An, Ao, eA, hSA, hns⟩ := h (by omega)
      obtain ⟨q, hq⟩ : ∃ q, q = l[i] := ⟨_, rfl⟩
      have hcell := hns i q (by simp [hlt, hq])
      have lc := lt_of_cell hcell
      have hix := fun c => @idx26 A An Ao l.length c eA i hlt
      have HQ := Lib.hid hq
      have HNS := Lib.hid hns
      have HEA := Lib.hid eA
      clear hq hns eA
      have hfal : ¬ ((1 ≤ q ∧ q ≤ 999) ∧ (0 < i → l[i - 1] < q)) → badOk l = false := fun hh => badOk_false hlt (by rw [← HQ.out]; exact hh)
      have hnx : (1 ≤ q ∧ q ≤ 999) ∧ (0 < i → l[i - 1] < q) → BadUp l (i + 1) := fun hh j hj hji => by
        by_cases e : j = i
        · subst e; rw [← HQ.out]; exact hh
        · exact HB.out j hj (by omega)
      have HF := Lib.hid hfal
      have HN := Lib.hid hnx
      clear hfal hnx
      cases h1 : inB q 1 999
      · have h1' : ¬ (1 ≤ q ∧ q ≤ 999) := by simpa [inB] using h1
        have HF1 := Lib.hid (HF.out fun hh => h1' hh.1)
        have hc56 : ∀ z, Calls Try.prog 56 #[.int .i64 q, .int .i64 1, .int .i64 999] z fun e w' => e = .returned (.bool false) ∧ w' = z := fun z => by have := c56 q 1 999 z; rwa [h1] at this
        have HC56 := Lib.hid hc56
        clear h1' hc56 h1
        go_wp2_with fail
        refine wp_region_over2 (by kernel_rfl) (by kernel_rfl) ?_
        repeat (go_big_quiet_step (exact calls_over_same (HC56.out _)))
        refine wpQuiet_nil ?_
        rintro w' ⟨z, rfl⟩
        go_wp2_with fail
        go_ret
        exact ⟨by rw [HF1.out]; rfl, z, rfl⟩
      · have h1' : 1 ≤ q ∧ q ≤ 999 := by simpa [inB] using h1
        have hc56 : ∀ z, Calls Try.prog 56 #[.int .i64 q, .int .i64 1, .int .i64 999] z fun e w' => e = .returned (.bool true) ∧ w' = z := fun z => by have := c56 q 1 999 z; rwa [h1] at this
        have HC56 := Lib.hid hc56
        have H1 := Lib.hid h1'
        clear h1' hc56 h1
        by_cases h0 : 0 < i
        · obtain ⟨p, hp⟩ : ∃ p, p = l[i - 1] := ⟨_, rfl⟩
          have hcell2 := HNS.out (i - 1) p (by rw [hp]; simp [show i - 1 < l.length by omega])
          have lc2 := lt_of_cell hcell2
          have hix2 : ∀ c W, (Instr.indexAt 26 (.slice A l.length c) (.int .i64 ((i : Int) - 1))).run Try.prog W = .ok (.pointer (some ⟨An, Ao + (i - 1), none⟩)) W := fun c W => by
            have := @idx26 A An Ao l.length c HEA.out (i - 1) (by omega) W
            rwa [show ((i - 1 : Nat) : Int) = (i : Int) - 1 by omega] at this
          have HP := Lib.hid hp
          have h0' : decide ((0 : Int) < (i : Int)) = true := by simp; omega
          clear hp
          cases h2 : decide (q ≤ p)
          · have HN1 := Lib.hid (HN.out ⟨H1.out, fun _ => by rw [← HP.out]; have := of_decide_eq_false h2; omega⟩)
            have H2 := Lib.hid h2
            go_wp2_with fail
            refine wp_region_over2 (by kernel_rfl) (by kernel_rfl) ?_
            repeat (go_big_quiet_step (exact calls_over_same (HC56.out _)))
            refine wpQuiet_nil ?_
            rintro w' ⟨z, rfl⟩
            go_wp2_with fail
            go_roundw
            case rel => exact ⟨i + 1, z, by omega, by go_num, HN1.out, rfl⟩
            case measure => simp [intOf]; omega
          · have HF1 := Lib.hid (HF.out fun hh => by have := hh.2 h0; rw [← HP.out] at this; have := of_decide_eq_true h2; omega)
            have H2 := Lib.hid h2
            go_wp2_with fail
            refine wp_region_over2 (by kernel_rfl) (by kernel_rfl) ?_
            repeat (go_big_quiet_step (exact calls_over_same (HC56.out _)))
            refine wpQuiet_nil ?_
            rintro w' ⟨z, rfl⟩
            go_wp2_with fail
            go_ret
            exact ⟨by rw [HF1.out]; rfl, z, rfl⟩
        · have HN1 := Lib.hid (HN.out ⟨H1.out, fun h => absurd h h0⟩)
          have h0' : decide ((0 : Int) < (i : Int)) = false := by simp; omega
          go_wp2_with fail
          refine wp_region_over2 (by kernel_rfl) (by kernel_rfl) ?_
          repeat (go_big_quiet_step (exact calls_over_same (HC56.out _)))
          refine wpQuiet_nil ?_
          rintro w' ⟨z, rfl⟩
          go_wp2_with fail
          go_roundw
          case rel => exact ⟨i + 1, z, by omega, by go_num, HN1.out, rfl⟩
          case measure => simp [intOf]; omega
    · have := HB.out
      have hle : i = l.length := by omega
      rw [hle] at this
      have HOK := Lib.hid (badOk_true this)
      clear this
      go_wp2_with fail
      go_ret
      exact ⟨by rw [HOK.out]; rfl, y, rfl⟩
end Go.Proofs.Ytmcnpfjichbijaa

