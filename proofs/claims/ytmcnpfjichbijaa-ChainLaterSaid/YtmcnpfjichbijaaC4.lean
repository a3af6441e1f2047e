/- Whether a book is as described: the tests. -/
import Derived.Test.YtmcnpfjichbijaaC2
set_option linter.unusedSimpArgs false
set_option linter.unusedVariables false
namespace Go.Proofs.Ytmcnpfjichbijaa
open Go Go.Proofs Go.RowKit Go.Shelf

theorem c116 (n : Int) (w : World) : Calls Try.prog 116 #[.int .i64 n] w fun e w' => e = .returned (.bool (inB n (-100000) 100000)) ∧ w' = w := by
  go_enter Try.func116, Try.ntmps116
  go_wp2_with (go_at_call 99; refine (c99 _ _ _ _).mono ?_; rintro e w' ⟨rfl, rfl⟩)
  go_ret
  exact ⟨rfl, rfl⟩
theorem c80 (n : Int) (w : World) : Calls Try.prog 80 #[.int .i64 n] w fun e w' => e = .returned (.bool (inB n 1 999)) ∧ w' = w := by
  go_enter Try.func80, Try.ntmps80
  go_wp2_with (go_at_call 99; refine (c99 _ _ _ _).mono ?_; rintro e w' ⟨rfl, rfl⟩)
  go_ret
  exact ⟨rfl, rfl⟩
theorem c83 (n : Int) (w : World) : Calls Try.prog 83 #[.int .i64 n] w fun e w' => e = .returned (.bool (inB n 0 1000)) ∧ w' = w := by
  go_enter Try.func83, Try.ntmps83
  go_wp2_with (go_at_call 99; refine (c99 _ _ _ _).mono ?_; rintro e w' ⟨rfl, rfl⟩)
  go_ret
  exact ⟨rfl, rfl⟩
theorem c82 (Ai Ac : Option Addr) (ni ci nc cc : Nat) (n : Int) (w : World) (hn : ni ≤ 100) :
    Calls Try.prog 82 #[.agg #[.slice Ai ni ci, .slice Ac nc cc], .int .i64 n] w fun e w' => e = .returned (.bool (inB n 0 ((ni : Int) - 1))) ∧ ∃ x, w' = over w x := by
  go_enter Try.func82, Try.ntmps82
  go_wp2_with (go_at_call 99; refine (c99 _ _ _ _).mono ?_; rintro e w' ⟨rfl, rfl⟩)
  go_ret
  exact ⟨rfl, below_over ((Below.refl _ _).alloc (Nat.le_refl _) _)⟩
theorem c107 (lo hi : Int) (w : World) : Calls Try.prog 107 #[.agg #[.int .i64 lo, .int .i64 hi]] w fun e w' => e = .returned (.bool (spanOk ⟨lo, hi⟩)) ∧ ∃ x, w' = over w x := by
  cases h1 : inB lo (-100000) 100000 <;> cases h2 : inB hi (-100000) 100000
  all_goals
    go_enter Try.func107, Try.ntmps107
    go_wp2_with (go_at_call 116; refine (c116 _ _).mono ?_; rintro e w' ⟨rfl, rfl⟩)
    all_goals
      go_ret
      exact ⟨by simp [spanOk, h1, h2], below_over ((Below.refl _ _).alloc (Nat.le_refl _) _)⟩
theorem c94 (d : Int) (s : Bool) (lo hi : Int) (w : World) : Calls Try.prog 94 #[.agg #[.int .i64 d, .bool s, .int .i64 lo, .int .i64 hi]] w fun e w' => e = .returned (.bool (itmOk ⟨d, s, ⟨lo, hi⟩⟩)) ∧ ∃ x, w' = over w x := by
  cases h1 : inB d 0 100 <;> cases h2 : spanOk ⟨lo, hi⟩ <;> cases s
  all_goals
    have H : Hid (∀ s, itmOk ⟨d, s, ⟨lo, hi⟩⟩ = (inB d 0 100 && spanOk ⟨lo, hi⟩ && (s || (lo == 0 && hi == 0)))) := fun s => rfl
    rw [h1, h2] at H
    go_enter Try.func94, Try.ntmps94
    go_wp2_with (first | (go_at_call 99; refine (c99 _ _ _ _).mono ?_; rintro e w' ⟨rfl, rfl⟩) | (go_at_call 107; refine (c107 _ _ _).mono ?_; rintro e w' ⟨rfl, x, rfl⟩))
    all_goals try go_ret
    all_goals refine ⟨by rw [H.out]; simp [*], below_over ?_⟩
    all_goals repeat' (first | exact Below.refl _ _ | (refine below_ov ?_ ?_) | (refine Below.alloc ?_ ?_ _) | (refine below_drewN' ?_ _) | (refine Below.drew ?_) | (refine below_set ?_ _ _ ?_) | (simp; done) | (simp; omega) | omega)
theorem bne_eq (a b : Int) : (a != b) = !(a == b) := rfl

set_option maxRecDepth 100000 in
set_option maxHeartbeats 1000000 in
theorem c96 (Ai Ac : Option Addr) (ci cc : Nat) (items : List Itm) (certs : List Crt) (nc : Nat) (n i b d v lo hi : Int) (w : World) (hI : itemsAt (· < w.heap.size) w Ai items) (hlen : items.length ≤ 100) :
    Calls Try.prog 96 #[.agg #[.slice Ai items.length ci, .slice Ac nc cc], .agg #[.int .i64 n, .int .i64 i, .int .i64 b, .int .i64 d, .int .i64 v, .int .i64 lo, .int .i64 hi]] w
      fun e w' => e = .returned (.bool (crtOk ⟨items, certs⟩ ⟨n, i, b, d, v, ⟨lo, hi⟩⟩)) ∧ ∃ x, w' = over w x := by
  have H : Hid (crtOk ⟨items, certs⟩ ⟨n, i, b, d, v, ⟨lo, hi⟩⟩ = (inB n 1 999 && inB i 0 ((items.length : Int) - 1) && !stdOf ⟨items, certs⟩ i && inB b 0 ((items.length : Int) - 1) && !(b == i) && inB d 0 1000 && inB v 0 1000 && spanOk ⟨lo, hi⟩)) := rfl
  cases h1 : inB n 1 999
  · rw [h1] at H
    go_enter Try.func96, Try.ntmps96
    go_wp2_with (first | (go_at_call 80; refine (c80 _ _).mono ?_; rintro e w' ⟨rfl, rfl⟩) | (go_at_call 83; refine (c83 _ _).mono ?_; rintro e w' ⟨rfl, rfl⟩) | (go_at_call 107; refine (c107 _ _ _).mono ?_; rintro e w' ⟨rfl, x, rfl⟩) | (go_at_call 82; refine (c82 _ _ _ _ _ _ _ _ (by omega)).mono ?_; rintro e w' ⟨rfl, x, rfl⟩))
    go_ret
    exact ⟨by rw [H.out]; simp, below_over (by repeat' (first | exact Below.refl _ _ | (refine below_ov ?_ ?_) | (refine Below.alloc ?_ ?_ _) | (refine below_drewN' ?_ _) | (refine Below.drew ?_) | (refine below_set ?_ _ _ ?_) | (simp; done) | (simp; omega) | omega))⟩
  · rw [h1] at H
    cases h2 : inB i 0 ((items.length : Int) - 1)
    · rw [h2] at H
      go_enter Try.func96, Try.ntmps96
      go_wp2_with (first | (go_at_call 80; refine (c80 _ _).mono ?_; rintro e w' ⟨rfl, rfl⟩) | (go_at_call 83; refine (c83 _ _).mono ?_; rintro e w' ⟨rfl, rfl⟩) | (go_at_call 107; refine (c107 _ _ _).mono ?_; rintro e w' ⟨rfl, x, rfl⟩) | (go_at_call 82; refine (c82 _ _ _ _ _ _ _ _ (by omega)).mono ?_; rintro e w' ⟨rfl, x, rfl⟩))
      go_ret
      exact ⟨by rw [H.out]; simp, below_over (by repeat' (first | exact Below.refl _ _ | (refine below_ov ?_ ?_) | (refine Below.alloc ?_ ?_ _) | (refine below_drewN' ?_ _) | (refine Below.drew ?_) | (refine below_set ?_ _ _ ?_) | (simp; done) | (simp; omega) | omega))⟩
    · rw [h2] at H
      obtain ⟨hi0, hi1⟩ : 0 ≤ i ∧ i ≤ (items.length : Int) - 1 := by simpa [inB] using h2
      obtain ⟨j, rfl⟩ := Int.eq_ofNat_of_zero_le hi0
      obtain ⟨bi, oi, eA, hS, hc⟩ := hI (by omega)
      have hj : j < items.length := by omega
      obtain ⟨hc1, hc2, hc3, hc4⟩ := hc j items[j] (by simp [hj])
      have hix := fun c => @idx32 Ai bi oi items.length c eA j hj
      have hst : stdOf ⟨items, certs⟩ (j : Int) = items[j].std := by unfold stdOf; simp [hj]
      clear hc eA
      have hl := lt_of_cell hc2
      have hl1 : bi < w.heap.size + 1 := by omega
      have hl2 : bi < w.heap.size + 1 + 1 := by omega
      have s1 : ∀ m, bi < w.heap.size + 1 + 1 + m := fun m => by omega
      have s2 : ∀ m, w.heap.size < w.heap.size + 1 + 1 + m := fun m => by omega
      have s3 : ∀ m, w.heap.size + 1 < w.heap.size + 1 + 1 + m := fun m => by omega
      cases h3 : stdOf ⟨items, certs⟩ (j : Int)
      · rw [h3] at H
        rw [← hst, h3] at hc2
        clear hst
        cases h4 : inB b 0 ((items.length : Int) - 1)
        · rw [h4] at H
          go_enter Try.func96, Try.ntmps96
          go_wp2_with (first | (go_at_call 80; refine (c80 _ _).mono ?_; rintro e w' ⟨rfl, rfl⟩) | (go_at_call 83; refine (c83 _ _).mono ?_; rintro e w' ⟨rfl, rfl⟩) | (go_at_call 107; refine (c107 _ _ _).mono ?_; rintro e w' ⟨rfl, x, rfl⟩) | (go_at_call 82; refine (c82 _ _ _ _ _ _ _ _ (by omega)).mono ?_; rintro e w' ⟨rfl, x, rfl⟩))
          go_ret
          exact ⟨by rw [H.out]; simp, below_over (by repeat' (first | exact Below.refl _ _ | (refine below_ov ?_ ?_) | (refine Below.alloc ?_ ?_ _) | (refine below_drewN' ?_ _) | (refine Below.drew ?_) | (refine below_set ?_ _ _ ?_) | (simp; done) | (simp; omega) | omega))⟩
        · rw [h4] at H
          cases h5 : (b == (j : Int))
          · rw [h5] at H
            have h5' := bne_eq b (j : Int)
            rw [h5] at h5'
            simp only [Bool.not_true, Bool.not_false] at h5'
            cases h6 : inB d 0 1000
            · rw [h6] at H
              go_enter Try.func96, Try.ntmps96
              go_wp2_with (first | (go_at_call 80; refine (c80 _ _).mono ?_; rintro e w' ⟨rfl, rfl⟩) | (go_at_call 83; refine (c83 _ _).mono ?_; rintro e w' ⟨rfl, rfl⟩) | (go_at_call 107; refine (c107 _ _ _).mono ?_; rintro e w' ⟨rfl, x, rfl⟩) | (go_at_call 82; refine (c82 _ _ _ _ _ _ _ _ (by omega)).mono ?_; rintro e w' ⟨rfl, x, rfl⟩))
              go_ret
              exact ⟨by rw [H.out]; simp, below_over (by repeat' (first | exact Below.refl _ _ | (refine below_ov ?_ ?_) | (refine Below.alloc ?_ ?_ _) | (refine below_drewN' ?_ _) | (refine Below.drew ?_) | (refine below_set ?_ _ _ ?_) | (simp; done) | (simp; omega) | omega))⟩
            · rw [h6] at H
              cases h7 : inB v 0 1000
              · rw [h7] at H
                go_enter Try.func96, Try.ntmps96
                go_wp2_with (first | (go_at_call 80; refine (c80 _ _).mono ?_; rintro e w' ⟨rfl, rfl⟩) | (go_at_call 83; refine (c83 _ _).mono ?_; rintro e w' ⟨rfl, rfl⟩) | (go_at_call 107; refine (c107 _ _ _).mono ?_; rintro e w' ⟨rfl, x, rfl⟩) | (go_at_call 82; refine (c82 _ _ _ _ _ _ _ _ (by omega)).mono ?_; rintro e w' ⟨rfl, x, rfl⟩))
                go_ret
                exact ⟨by rw [H.out]; simp, below_over (by repeat' (first | exact Below.refl _ _ | (refine below_ov ?_ ?_) | (refine Below.alloc ?_ ?_ _) | (refine below_drewN' ?_ _) | (refine Below.drew ?_) | (refine below_set ?_ _ _ ?_) | (simp; done) | (simp; omega) | omega))⟩
              · rw [h7] at H
                cases h8 : spanOk ⟨lo, hi⟩
                · rw [h8] at H
                  go_enter Try.func96, Try.ntmps96
                  go_wp2_with (first | (go_at_call 80; refine (c80 _ _).mono ?_; rintro e w' ⟨rfl, rfl⟩) | (go_at_call 83; refine (c83 _ _).mono ?_; rintro e w' ⟨rfl, rfl⟩) | (go_at_call 107; refine (c107 _ _ _).mono ?_; rintro e w' ⟨rfl, x, rfl⟩) | (go_at_call 82; refine (c82 _ _ _ _ _ _ _ _ (by omega)).mono ?_; rintro e w' ⟨rfl, x, rfl⟩))
                  go_ret
                  exact ⟨by rw [H.out]; simp, below_over (by repeat' (first | exact Below.refl _ _ | (refine below_ov ?_ ?_) | (refine Below.alloc ?_ ?_ _) | (refine below_drewN' ?_ _) | (refine Below.drew ?_) | (refine below_set ?_ _ _ ?_) | (simp; done) | (simp; omega) | omega))⟩
                · rw [h8] at H
                  go_enter Try.func96, Try.ntmps96
                  go_wp2_with (first | (go_at_call 80; refine (c80 _ _).mono ?_; rintro e w' ⟨rfl, rfl⟩) | (go_at_call 83; refine (c83 _ _).mono ?_; rintro e w' ⟨rfl, rfl⟩) | (go_at_call 107; refine (c107 _ _ _).mono ?_; rintro e w' ⟨rfl, x, rfl⟩) | (go_at_call 82; refine (c82 _ _ _ _ _ _ _ _ (by omega)).mono ?_; rintro e w' ⟨rfl, x, rfl⟩))
                  go_ret
                  exact ⟨by rw [H.out]; simp, below_over (by repeat' (first | exact Below.refl _ _ | (refine below_ov ?_ ?_) | (refine Below.alloc ?_ ?_ _) | (refine below_drewN' ?_ _) | (refine Below.drew ?_) | (refine below_set ?_ _ _ ?_) | (simp; done) | (simp; omega) | omega))⟩
          · rw [h5] at H
            have h5' := bne_eq b (j : Int)
            rw [h5] at h5'
            simp only [Bool.not_true, Bool.not_false] at h5'
            go_enter Try.func96, Try.ntmps96
            go_wp2_with (first | (go_at_call 80; refine (c80 _ _).mono ?_; rintro e w' ⟨rfl, rfl⟩) | (go_at_call 83; refine (c83 _ _).mono ?_; rintro e w' ⟨rfl, rfl⟩) | (go_at_call 107; refine (c107 _ _ _).mono ?_; rintro e w' ⟨rfl, x, rfl⟩) | (go_at_call 82; refine (c82 _ _ _ _ _ _ _ _ (by omega)).mono ?_; rintro e w' ⟨rfl, x, rfl⟩))
            go_ret
            exact ⟨by rw [H.out]; simp, below_over (by repeat' (first | exact Below.refl _ _ | (refine below_ov ?_ ?_) | (refine Below.alloc ?_ ?_ _) | (refine below_drewN' ?_ _) | (refine Below.drew ?_) | (refine below_set ?_ _ _ ?_) | (simp; done) | (simp; omega) | omega))⟩
      · rw [h3] at H
        rw [← hst, h3] at hc2
        clear hst
        go_enter Try.func96, Try.ntmps96
        go_wp2_with (first | (go_at_call 80; refine (c80 _ _).mono ?_; rintro e w' ⟨rfl, rfl⟩) | (go_at_call 83; refine (c83 _ _).mono ?_; rintro e w' ⟨rfl, rfl⟩) | (go_at_call 107; refine (c107 _ _ _).mono ?_; rintro e w' ⟨rfl, x, rfl⟩) | (go_at_call 82; refine (c82 _ _ _ _ _ _ _ _ (by omega)).mono ?_; rintro e w' ⟨rfl, x, rfl⟩))
        go_ret
        exact ⟨by rw [H.out]; simp, below_over (by repeat' (first | exact Below.refl _ _ | (refine below_ov ?_ ?_) | (refine Below.alloc ?_ ?_ _) | (refine below_drewN' ?_ _) | (refine Below.drew ?_) | (refine below_set ?_ _ _ ?_) | (simp; done) | (simp; omega) | omega))⟩
end Go.Proofs.Ytmcnpfjichbijaa

