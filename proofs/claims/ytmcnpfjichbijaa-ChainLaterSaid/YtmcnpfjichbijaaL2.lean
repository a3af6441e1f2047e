/- The document's examples: the book; bad ones. -/
import Derived.Test.YtmcnpfjichbijaaL1
import Derived.Test.YtmcnpfjichbijaaC15
set_option linter.unusedSimpArgs false
set_option linter.unusedVariables false
namespace Go.Proofs.Ytmcnpfjichbijaa
open Go Go.Proofs Go.RowKit Go.Shelf


/-- AreBad. -/
def BadUp (l : List Int) (i : Nat) : Prop := ∀ j, ∀ (h : j < l.length), j < i → (1 ≤ l[j] ∧ l[j] ≤ 999) ∧ (0 < j → l[j - 1] < l[j])

theorem badOk_true {l : List Int} (h : BadUp l l.length) : badOk l = true := by
  unfold badOk
  exact decide_eq_true fun j hj => h j hj hj
theorem badOk_false {l : List Int} {i : Nat} (hi : i < l.length) (h : ¬ ((1 ≤ l[i] ∧ l[i] ≤ 999) ∧ (0 < i → l[i - 1] < l[i]))) : badOk l = false := by
  unfold badOk
  exact decide_eq_false fun k => h (k i hi)

set_option maxRecDepth 100000 in
set_option maxHeartbeats 1000000 in
theorem c23 {A : Option Addr} {cn : Nat} {l : List Int} {w : World} {S : Nat → Prop} (h : numsAt S w A l) (hl : l.length ≤ 2000) :
    Calls Try.prog 23 #[.slice A l.length cn] w fun e w' => e = .returned (.bool (badOk l)) ∧ ∃ x, w' = over w x := by
  go_enter Try.func23, Try.ntmps23
  go_wp2_with fail
  go_loopw [3] (fun t wr => ∃ (i : Nat) (y : World), i ≤ l.length ∧ t = .int .i64 i ∧ BadUp l i ∧ wr = over w y) (fun t _ => l.length - (intOf t).toNat)
  case atStart =>
    obtain ⟨y, hy⟩ := over_refl w
    exact ⟨0, y, Nat.zero_le _, rfl, fun j _ hj => by omega, hy⟩
  case round =>
    obtain ⟨i, y, hi, rfl, hb, rfl⟩ := hrel
    have HB := Lib.hid hb
    clear hb
    by_cases hlt : i < l.length
    · obtain ⟨An, Ao, eA, hSA, hns⟩ := h (by omega)
      obtain ⟨q, hq⟩ : ∃ q, q = l[i] := ⟨_, rfl⟩
      have hcell := hns i q (by simp [hlt, hq])
      have lc := lt_of_cell hcell
      have hix := fun c => @idx26 A An Ao l.length c eA i hlt
      have HQ := Lib.hid hq
      have HNS := Lib.hid hns
      have HEA := Lib.hid eA
      clear hq hns eA
      have hfal : ¬ ((1 ≤ q ∧ q ≤ 999) ∧ (0 < i → l[i - 1] < q)) → badOk l = false := fun hh => badOk_false hlt (by rw [← HQ.out]; exact hh)
      have hnx : (1 ≤ q ∧ q ≤ 999) ∧ (0 < i → l[i - 1] < q) → BadUp l (i + 1) := fun hh j hj hji => by
        by_cases e : j = i
        · subst e; rw [← HQ.out]; exact hh
        · exact HB.out j hj (by omega)
      have HF := Lib.hid hfal
      have HN := Lib.hid hnx
      clear hfal hnx
      cases h1 : inB q 1 999
      · have h1' : ¬ (1 ≤ q ∧ q ≤ 999) := by simpa [inB] using h1
        have HF1 := Lib.hid (HF.out fun hh => h1' hh.1)
        have hc56 : ∀ z, Calls Try.prog 56 #[.int .i64 q, .int .i64 1, .int .i64 999] z fun e w' => e = .returned (.bool false) ∧ w' = z := fun z => by have := c56 q 1 999 z; rwa [h1] at this
        have HC56 := Lib.hid hc56
        clear h1' hc56 h1
        go_wp2_with fail
        refine wp_region_over2 (by kernel_rfl) (by kernel_rfl) ?_
        repeat (go_big_quiet_step (exact calls_over_same (HC56.out _)))
        refine wpQuiet_nil ?_
        rintro w' ⟨z, rfl⟩
        go_wp2_with fail
        go_ret
        exact ⟨by rw [HF1.out]; rfl, z, rfl⟩
      · have h1' : 1 ≤ q ∧ q ≤ 999 := by simpa [inB] using h1
        have hc56 : ∀ z, Calls Try.prog 56 #[.int .i64 q, .int .i64 1, .int .i64 999] z fun e w' => e = .returned (.bool true) ∧ w' = z := fun z => by have := c56 q 1 999 z; rwa [h1] at this
        have HC56 := Lib.hid hc56
        have H1 := Lib.hid h1'
        clear h1' hc56 h1
        by_cases h0 : 0 < i
        · obtain ⟨p, hp⟩ : ∃ p, p = l[i - 1] := ⟨_, rfl⟩
          have hcell2 := HNS.out (i - 1) p (by rw [hp]; simp [show i - 1 < l.length by omega])
          have lc2 := lt_of_cell hcell2
          have hix2 : ∀ c W, (Instr.indexAt 26 (.slice A l.length c) (.int .i64 ((i : Int) - 1))).run Try.prog W = .ok (.pointer (some ⟨An, Ao + (i - 1), none⟩)) W := fun c W => by
            have := @idx26 A An Ao l.length c HEA.out (i - 1) (by omega) W
            rwa [show ((i - 1 : Nat) : Int) = (i : Int) - 1 by omega] at this
          have HP := Lib.hid hp
          have h0' : decide ((0 : Int) < (i : Int)) = true := by simp; omega
          clear hp
          cases h2 : decide (q ≤ p)
          · have HN1 := Lib.hid (HN.out ⟨H1.out, fun _ => by rw [← HP.out]; have := of_decide_eq_false h2; omega⟩)
            have H2 := Lib.hid h2
            go_wp2_with fail
            refine wp_region_over2 (by kernel_rfl) (by kernel_rfl) ?_
            repeat (go_big_quiet_step (exact calls_over_same (HC56.out _)))
            refine wpQuiet_nil ?_
            rintro w' ⟨z, rfl⟩
            go_wp2_with fail
            go_roundw
            case rel => exact ⟨i + 1, z, by omega, by go_num, HN1.out, rfl⟩
            case measure => simp [intOf]; omega
          · have HF1 := Lib.hid (HF.out fun hh => by have := hh.2 h0; rw [← HP.out] at this; have := of_decide_eq_true h2; omega)
            have H2 := Lib.hid h2
            go_wp2_with fail
            refine wp_region_over2 (by kernel_rfl) (by kernel_rfl) ?_
            repeat (go_big_quiet_step (exact calls_over_same (HC56.out _)))
            refine wpQuiet_nil ?_
            rintro w' ⟨z, rfl⟩
            go_wp2_with fail
            go_ret
            exact ⟨by rw [HF1.out]; rfl, z, rfl⟩
        · have HN1 := Lib.hid (HN.out ⟨H1.out, fun h => absurd h h0⟩)
          have h0' : decide ((0 : Int) < (i : Int)) = false := by simp; omega
          go_wp2_with fail
          refine wp_region_over2 (by kernel_rfl) (by kernel_rfl) ?_
          repeat (go_big_quiet_step (exact calls_over_same (HC56.out _)))
          refine wpQuiet_nil ?_
          rintro w' ⟨z, rfl⟩
          go_wp2_with fail
          go_roundw
          case rel => exact ⟨i + 1, z, by omega, by go_num, HN1.out, rfl⟩
          case measure => simp [intOf]; omega
    · have := HB.out
      have hle : i = l.length := by omega
      rw [hle] at this
      have HOK := Lib.hid (badOk_true this)
      clear this
      go_wp2_with fail
      go_ret
      exact ⟨by rw [HOK.out]; rfl, y, rfl⟩
end Go.Proofs.Ytmcnpfjichbijaa

