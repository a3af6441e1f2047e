/- Two certificates are compared. -/
import Derived.Test.YtmcnpfjichbijaaPure
import Derived.Test.YtmcnpfjichbijaaC1
import Derived.Laws.StructEq
set_option linter.unusedSimpArgs false
set_option linter.unusedVariables false
namespace Go.Proofs.Ytmcnpfjichbijaa
open Go Go.Proofs Go.RowKit
theorem held90 : Try.prog.stoodInHeld 90 = false := by kernel_rfl
theorem held45 : Try.prog.stoodInHeld 45 = false := by kernel_rfl

theorem crt_ext_iff (x y : Crt) : x = y ↔ x.num = y.num ∧ x.item = y.item ∧ x.by_ = y.by_ ∧ x.day = y.day ∧ x.valid = y.valid ∧ x.diff.lo = y.diff.lo ∧ x.diff.hi = y.diff.hi := by
  obtain ⟨a, b, c, d, e, ⟨f, g⟩⟩ := x
  obtain ⟨a', b', c', d', e', ⟨f', g'⟩⟩ := y
  simp

theorem run_eq90 (x y : Crt) (w : World) : (Op.equalIn 10000 90 (crtV x) (crtV y)).run Try.prog w = .ok (x == y) w := by
  unfold crtV
  rw [run_equalIn_agg _ 9999 90 _ _ (by kernel_rfl) held90]
  simp [go_sem]
  have hb : ∀ b, b = (x == y) → (Result.ok b w : Result Bool) = Result.ok (x == y) w := fun b h => by rw [h]
  have hne : ∀ h : ¬ x = y, false = (x == y) := fun h => by simp [h]
  repeat' split
  · rename_i h1 h2 h3 h4 h5 h6 h7
    refine hb _ ?_
    have := (crt_ext_iff x y).2 ⟨h1, h2, h3, h4, h5, h6, h7⟩
    simp [this]
  all_goals
    refine hb _ (hne fun h => ?_)
    have := (crt_ext_iff x y).1 h
    omega

theorem run_ne90 (x y : Crt) (w : World) : (binOp .neq 90 (crtV x) (crtV y)).run Try.prog w = .ok (.bool (x != y)) w := by
  have := run_eq90 x y w
  unfold crtV at *
  rw [run_neq_struct, this]
  rfl

theorem run_field90_3 (c : Crt) (w : World) : (Instr.field 90 (crtV c) 3).run Try.prog w = .ok (.int .i64 c.day) w := by
  unfold crtV
  simp [go_sem, Instr.field, asAgg]
end Go.Proofs.Ytmcnpfjichbijaa
