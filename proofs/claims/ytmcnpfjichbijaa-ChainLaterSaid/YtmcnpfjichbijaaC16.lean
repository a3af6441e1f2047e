/- Spans: holding, cut. -/
import Derived.Test.YtmcnpfjichbijaaC15
set_option linter.unusedSimpArgs false
set_option linter.unusedVariables false
namespace Go.Proofs.Ytmcnpfjichbijaa
open Go Go.Proofs Go.RowKit Go.Shelf


theorem boolsAt.keepTo {w w' : World} {H : Nat} {nums : List Int} {h : Int → Bool} {S : Nat → Prop} (hm : boolsAt w H nums h) (k : Keep S w w') (hS : S H) : boolsAt w' H nums h := isMap.keep hm k hS

set_option maxRecDepth 100000 in
set_option maxHeartbeats 1000000 in
theorem c85 (S H : Nat) (nums : List Int) (h : Int → Bool) (c : Crt) (w : World) (hS : w.cell? ⟨S, 1, none⟩ = some (.map (some H))) (hm : boolsAt w H nums h) :
    Calls Try.prog 85 #[.pointer (some ⟨S, 0, none⟩), crtV c] w fun e w' => e = .returned (.bool (decide (c.num ∈ nums) && h c.num)) ∧ ∃ x, w' = over w x := by
  have hl := fun o m => (hm.keepTo ((Keep.alloc (fun _ => True) w o).trans (Keep.of_below (below_drewN' (Below.refl (w.alloc o).heap.size (w.alloc o)) m) fun _ _ h => h)) trivial).get c.num
  have ls := lt_of_cell hS
  generalize (decide (c.num ∈ nums) && h c.num) = r at hl ⊢
  have HM := Lib.hid hm
  clear hm
  simp only [crtV]
  go_enter Try.func85, Try.ntmps85
  go_wp2_with fail
  go_quiet (fail)
  go_wp2_with fail
  go_ret
  exact ⟨rfl, below_over (by repeat' (first | exact Below.refl _ _ | (refine below_ov ?_ ?_) | (refine Below.alloc ?_ ?_ _) | (refine below_drewN' ?_ _) | (refine Below.drew ?_) | (refine below_set ?_ _ _ ?_) | (simp; done) | (simp; omega) | omega))⟩
end Go.Proofs.Ytmcnpfjichbijaa

