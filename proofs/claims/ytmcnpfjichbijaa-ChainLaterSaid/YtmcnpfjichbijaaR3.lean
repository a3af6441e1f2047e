/- The document's own: the error of a book. -/
import Derived.Test.YtmcnpfjichbijaaR2
import Derived.Test.YtmcnpfjichbijaaE1
set_option linter.unusedSimpArgs false
set_option linter.unusedVariables false
namespace Go.Proofs.Ytmcnpfjichbijaa
open Go Go.Proofs Go.RowKit Go.Shelf


set_option maxRecDepth 100000 in
set_option maxHeartbeats 1000000 in
theorem c74 (lo hi : Int) (w : World) : Calls Try.prog 74 #[.agg #[.int .i64 lo, .int .i64 hi]] w fun e w' => e = .returned (.bool (spanOk ⟨lo, hi⟩)) ∧ ∃ x, w' = over w x := by
  have H : Hid (spanOk ⟨lo, hi⟩ = (inB lo (-100000) hi && decide (hi ≤ 100000))) := by
    show spanOk ⟨lo, hi⟩ = _
    rw [Bool.eq_iff_iff]; simp [spanOk, inB]; omega
  cases h1 : inB lo (-100000) hi
  · rw [h1] at H
    go_enter Try.func74, Try.ntmps74
    go_wp2_with (go_at_call 56; refine (c56 _ _ _ _).mono ?_; rintro e w' ⟨rfl, rfl⟩)
    go_ret
    exact ⟨by rw [H.out]; simp, below_over (by repeat' (first | exact Below.refl _ _ | (refine below_ov ?_ ?_) | (refine Below.alloc ?_ ?_ _) | (refine below_drewN' ?_ _) | (refine Below.drew ?_) | (refine below_set ?_ _ _ ?_) | (simp; done) | (simp; omega) | omega))⟩
  · rw [h1] at H
    go_enter Try.func74, Try.ntmps74
    go_wp2_with (go_at_call 56; refine (c56 _ _ _ _).mono ?_; rintro e w' ⟨rfl, rfl⟩)
    all_goals
      go_ret
      exact ⟨by rw [H.out]; simp [*], below_over (by repeat' (first | exact Below.refl _ _ | (refine below_ov ?_ ?_) | (refine Below.alloc ?_ ?_ _) | (refine below_drewN' ?_ _) | (refine Below.drew ?_) | (refine below_set ?_ _ _ ?_) | (simp; done) | (simp; omega) | omega))⟩

theorem held58 : Try.prog.stoodInHeld 58 = false := by kernel_rfl
theorem held49 : Try.prog.stoodInHeld 49 = false := by kernel_rfl

theorem run_eq58 (x y : Crt) (w : World) : (Op.equalIn 10000 58 (crtV x) (crtV y)).run Try.prog w = .ok (x == y) w := by
  unfold crtV
  rw [run_equalIn_agg _ 9999 58 _ _ (by kernel_rfl) held58]
  simp [go_sem]
  have hb : ∀ b, b = (x == y) → (Result.ok b w : Result Bool) = Result.ok (x == y) w := fun b h => by rw [h]
  have hne : ∀ h : ¬ x = y, false = (x == y) := fun h => by simp [h]
  repeat' split
  · rename_i h1 h2 h3 h4 h5 h6 h7
    refine hb _ ?_
    have := (crt_ext_iff x y).2 ⟨h1, h2, h3, h4, h5, h6, h7⟩
    simp [this]
  all_goals
    refine hb _ (hne fun h => ?_)
    have := (crt_ext_iff x y).1 h
    omega

theorem run_ne58 (x y : Crt) (w : World) : (binOp .neq 58 (crtV x) (crtV y)).run Try.prog w = .ok (.bool (x != y)) w := by
  have := run_eq58 x y w
  unfold crtV at *
  rw [run_neq_struct, this]
  rfl

theorem fault_three {b : Bk} (h : 8 < b.items.length ∨ 24 < b.certs.length) : fault b = 3 := by unfold fault; rw [if_pos h]
theorem fault_one {b : Bk} (h : ¬ (8 < b.items.length ∨ 24 < b.certs.length)) (h2 : (∃ x ∈ b.items, itmOk x = false) ∨ ∃ c ∈ b.certs, crtOk b c = false) : fault b = 1 := by
  unfold fault
  rw [if_neg h, if_pos]
  rw [Bool.and_eq_false_iff]
  rcases h2 with ⟨x, hx, h2⟩ | ⟨x, hx, h2⟩
  · exact .inl (by rw [List.all_eq_false]; exact ⟨x, hx, by simp [h2]⟩)
  · exact .inr (by rw [List.all_eq_false]; exact ⟨x, hx, by simp [h2]⟩)
theorem fault_clash {b : Bk} (h : ¬ (8 < b.items.length ∨ 24 < b.certs.length)) (h1 : ∀ x ∈ b.items, itmOk x = true) (h2 : ∀ c ∈ b.certs, crtOk b c = true) (h3 : ∃ x ∈ b.certs, ∃ y ∈ b.certs, clash x y = true) : fault b = 6 := by
  obtain ⟨x, hx, y, hy, hc⟩ := h3
  unfold fault
  rw [if_neg h, if_neg (by rw [Bool.and_eq_false_iff, List.all_eq_true.2 h1, List.all_eq_true.2 h2]; simp), if_pos]
  exact List.any_eq_true.2 ⟨x, hx, List.any_eq_true.2 ⟨y, hy, hc⟩⟩
theorem fault_none {b : Bk} (h : ¬ (8 < b.items.length ∨ 24 < b.certs.length)) (h1 : ∀ x ∈ b.items, itmOk x = true) (h2 : ∀ c ∈ b.certs, crtOk b c = true) (h3 : ∀ x ∈ b.certs, ∀ y ∈ b.certs, clash x y = false) : fault b = 0 := by
  unfold fault
  rw [if_neg h, if_neg (by rw [Bool.and_eq_false_iff, List.all_eq_true.2 h1, List.all_eq_true.2 h2]; simp), if_neg]
  intro hc
  obtain ⟨x, hx, hc⟩ := List.any_eq_true.1 hc
  obtain ⟨y, hy, hc⟩ := List.any_eq_true.1 hc
  rw [h3 x hx y hy] at hc; cases hc

theorem itmOk_eq (x : Itm) : itmOk x = (inB x.drift 0 100 && spanOk x.val && (x.std || (x.val.lo == 0 && x.val.hi == 0))) := rfl
end Go.Proofs.Ytmcnpfjichbijaa

