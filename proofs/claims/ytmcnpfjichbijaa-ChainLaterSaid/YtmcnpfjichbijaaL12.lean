/- Is a book ready? -/
import Derived.Test.YtmcnpfjichbijaaL8
set_option linter.unusedSimpArgs false
set_option linter.unusedVariables false
namespace Go.Proofs.Ytmcnpfjichbijaa
open Go Go.Proofs Go.RowKit Go.Shelf


set_option maxRecDepth 100000 in
set_option maxHeartbeats 1000000 in
theorem c32 (Ai Ac : Option Addr) (ci cc : Nat) (b : Bk) (w : World) (hA : bookAt (· < w.heap.size) w Ai Ac b) (h1 : b.items.length ≤ 9223372036854775807) (h2 : b.certs.length ≤ 9223372036854775807) :
    Calls Try.prog 32 #[.agg #[.slice Ai b.items.length ci, .slice Ac b.certs.length cc]] w fun e w' => e = .returned (.bool (fault b == 0)) ∧ ∃ x, w' = over w x := by
  have HA := Lib.hid hA
  clear hA
  go_enter Try.func32, Try.ntmps32
  go_wp2_with fail
  have hCl : Cl w (.slice Ai b.items.length ci) (.slice Ac b.certs.length cc) (w.alloc (.cells #[.slice Ai b.items.length ci, .slice Ac b.certs.length cc] 25)) := ⟨by repeat' (first | exact Below.refl _ _ | (refine below_ov ?_ ?_) | (refine Below.alloc ?_ ?_ _) | (refine below_drewN' ?_ _) | (refine Below.drew ?_) | (refine below_set ?_ _ _ ?_) | (simp; done) | (simp; omega) | omega), by simp [go_sem], by simp [go_sem]⟩
  refine (c17 Ai Ac ci cc b.items.length b.certs.length _ h1 h2).mono ?_
  rintro e w1 ⟨rfl, x, rfl⟩
  have HC1 := Lib.hid (hCl.onx (x := x))
  clear hCl
  generalize over _ x = W1 at *
  have c0 := HC1.out.a0
  have c1 := HC1.out.a1
  have lw := lt_of_cell c0
  by_cases hth : (decide (b.items.length ≤ 10) && decide (b.certs.length ≤ 28)) = true
  · rw [hth]
    simp at hth
    have hc := Lib.hid (c45a Ai Ac ci cc b W1 (HA.out.below HC1.out.bel) (by omega) (by omega))
    go_wp2_with fail
    refine hc.out.mono ?_
    rintro e w2 ⟨rfl, y, rfl⟩
    go_wp2_with fail
    go_ret
    exact ⟨rfl, below_over (HC1.out.onx.bel)⟩
  · have hf : (fault b == 0) = false := by
      refine beq_eq_false_iff_ne.2 fun h => hth ?_
      have v := (fault_iff b).1 h
      have := v.il
      have := v.cl
      simp; omega
    rw [Bool.not_eq_true] at hth
    rw [hth]
    go_wp2_with fail
    go_ret
    exact ⟨by rw [hf]; rfl, below_over (HC1.out.bel)⟩
end Go.Proofs.Ytmcnpfjichbijaa

