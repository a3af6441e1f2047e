/- When a book has no error. -/
import Derived.Test.YtmcnpfjichbijaaC7
import Derived.Test.YtmcnpfjichbijaaE2
set_option linter.unusedSimpArgs false
set_option linter.unusedVariables false
namespace Go.Proofs.Ytmcnpfjichbijaa
open Go Go.Proofs Go.RowKit Go.Shelf


theorem map_look (b : Bk) (n : Int) : (look b.certs n).map crtV = if n ∈ numsOf b then some (crtV (getC b n)) else none := by
  split
  · rename_i h
    rw [(getC_spec h).2.2]; rfl
  · rename_i h
    rw [numsOf_eq, mem_sortI, ← look_isSome] at h
    cases hl : look b.certs n with
    | none => rfl
    | some c => simp [hl] at h

theorem okOf {b : Bk} {W M cn ci cc : Nat} {An Ai Ac : Option Addr} (hl : b.items.length ≤ 8) (hl2 : b.certs.length ≤ 24) (h : b.certs.all (crtOk b) = true) (hcn : (numsOf b).length ≤ cn) :
    (Wk.mk W M cn ci cc An Ai Ac b (numsOf b) (getC b) fun _ => false).Ok := by
  have hc : ∀ n ∈ numsOf b, crtOk b (getC b n) = true := fun n hn => List.all_eq_true.1 h _ (getC_spec hn).2.1
  refine ⟨?_, hl, hl2, fun n hn => (getC_spec hn).1, fun n hn => ?_, fun n hn => ?_, fun n hn => ?_, fun n hn => ?_, hcn⟩
  · have := numsOf_length b
    have := firsts_length b.certs
    show (numsOf b).length ≤ 24
    omega
  all_goals
    have h1 := hc n hn
    have h2 := (getC_spec hn).1
    simp only [crtOk, inB, Bool.and_eq_true, decide_eq_true_eq] at h1
  · show 1 ≤ n ∧ n ≤ 999
    omega
  · show 0 ≤ (getC b n).day ∧ (getC b n).day ≤ 1000 ∧ 0 ≤ (getC b n).valid ∧ (getC b n).valid ≤ 1000
    omega
  · show 0 ≤ (getC b n).by_ ∧ (getC b n).by_ < (b.items.length : Int)
    omega
  · show 0 ≤ (getC b n).item ∧ (getC b n).item < (b.items.length : Int)
    omega
end Go.Proofs.Ytmcnpfjichbijaa

