/- The numbers are sorted. -/
import Derived.Test.YtmcnpfjichbijaaC1
import Derived.Test.YtmcnpfjichbijaaShelf
import Derived.Sort.OwnSortedInts
import Derived.Test.YtmcnpfjichbijaaC7

set_option linter.unusedSimpArgs false
set_option linter.unusedVariables false
namespace Go.Proofs.Ytmcnpfjichbijaa
open Go Go.Proofs Go.RowKit Go.Shelf


theorem c97 {base : Nat} {A : Option Addr} {cn : Nat} {l : List Int} {w : World} (own : w.ownsRow base 3 1 (.slice A l.length cn) l.length (l.map (Value.int .i64))) (hl : l.length ≤ 100) :
    Calls Try.prog 97 #[.slice A l.length cn] w fun e w' => e = .returned (.tuple #[]) ∧ Keep (fun j => some j ≠ (Value.slice A l.length cn).ownBlock) w w' ∧
      w'.ownsRow base 3 1 (.slice A l.length cn) l.length ((sortI l).map (Value.int .i64)) := by
  rcases own.2 with ⟨h1, h2⟩ | ⟨g, cap, cur, h1, h2, h3, h4, h5, h6, h7⟩
  · have : l = [] := List.length_eq_zero_iff.1 h2
    subst this
    refine (Try.slices_Sort_int_none A cn w).mono ?_
    rintro e w' ⟨rfl, rfl⟩
    exact ⟨rfl, Keep.refl _ _, by simpa [sortI] using own⟩
  · cases h1
    have hlt := (Array.getElem?_eq_some_iff.1 h3).1
    refine (Try.slices_Sort_int g 0 cn l w (holds_of_blockI h3 (by simpa using h7)) hlt (by omega)).mono ?_
    rintro e w' ⟨rfl, n, os, rfl⟩
    exact ⟨rfl, Keep.grown (grownBy_sortedI _) fun r hr h => h (by simpa [Value.ownBlock] using hr.symm), ownsRow_sortedI (sortI_length l) h2 h3 h4 h5 h6⟩

theorem nums_of_own {base : Nat} {A : Option Addr} {cn : Nat} {l : List Int} {w : World} (own : w.ownsRow base 3 1 (.slice A l.length cn) l.length (l.map (Value.int .i64))) : numsAt (fun j => base ≤ j ∧ j < w.heap.size) w A l := fun h0 => by
  rcases own.2 with ⟨h1, h2⟩ | ⟨g, cap, cur, h1, h2, h3, h4, h5, h6, h7⟩
  · omega
  · cases h1
    refine ⟨g, 0, rfl, ⟨h2, (Array.getElem?_eq_some_iff.1 h3).1⟩, fun i n hn => ?_⟩
    have := own.cellAt i (by have := (List.getElem?_eq_some_iff.1 hn).1; omega)
    rw [Nat.zero_add, this]
    simp [List.getD, hn]
end Go.Proofs.Ytmcnpfjichbijaa


/- When a book has no error. -/
set_option linter.unusedSimpArgs false
set_option linter.unusedVariables false
namespace Go.Proofs.Ytmcnpfjichbijaa
open Go Go.Proofs Go.RowKit Go.Shelf


theorem map_look (b : Bk) (n : Int) : (look b.certs n).map crtV = if n ∈ numsOf b then some (crtV (getC b n)) else none := by
  split
  · rename_i h
    rw [(getC_spec h).2.2]; rfl
  · rename_i h
    rw [numsOf_eq, mem_sortI, ← look_isSome] at h
    cases hl : look b.certs n with
    | none => rfl
    | some c => simp [hl] at h

theorem okOf {b : Bk} {W M cn ci cc : Nat} {An Ai Ac : Option Addr} (hl : b.items.length ≤ 8) (hl2 : b.certs.length ≤ 24) (h : b.certs.all (crtOk b) = true) (hcn : (numsOf b).length ≤ cn) :
    (Wk.mk W M cn ci cc An Ai Ac b (numsOf b) (getC b) fun _ => false).Ok := by
  have hc : ∀ n ∈ numsOf b, crtOk b (getC b n) = true := fun n hn => List.all_eq_true.1 h _ (getC_spec hn).2.1
  refine ⟨?_, hl, hl2, fun n hn => (getC_spec hn).1, fun n hn => ?_, fun n hn => ?_, fun n hn => ?_, fun n hn => ?_, hcn⟩
  · have := numsOf_length b
    have := firsts_length b.certs
    show (numsOf b).length ≤ 24
    omega
  all_goals
    have h1 := hc n hn
    have h2 := (getC_spec hn).1
    simp only [crtOk, inB, Bool.and_eq_true, decide_eq_true_eq] at h1
  · show 1 ≤ n ∧ n ≤ 999
    omega
  · show 0 ≤ (getC b n).day ∧ (getC b n).day ≤ 1000 ∧ 0 ≤ (getC b n).valid ∧ (getC b n).valid ≤ 1000
    omega
  · show 0 ≤ (getC b n).by_ ∧ (getC b n).by_ < (b.items.length : Int)
    omega
  · show 0 ≤ (getC b n).item ∧ (getC b n).item < (b.items.length : Int)
    omega
end Go.Proofs.Ytmcnpfjichbijaa

