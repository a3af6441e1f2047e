/- A world with more blocks behind it: what a call that only makes memory of its own leaves. -/
import Derived.WalkKit
import Derived.BigQuiet
import Derived.Deep.QuietTactic
import Derived.KernelRfl
set_option linter.unusedSimpArgs false
set_option linter.unusedVariables false
namespace Go.Proofs.Ytmcnpfjichbijaa
open Go Go.RowKit

/-- The world 'w', with the blocks of 'x' behind its own, and x's count of draws. -/
def over (w x : World) : World := { w with heap := w.heap ++ x.heap, drawn := x.drawn }

@[simp, go_sem] theorem over_size (w x : World) : (over w x).heap.size = w.heap.size + x.heap.size := by simp [over]

theorem over_block (w x : World) (k : Nat) (h : k < w.heap.size) : (over w x).heap[k]? = w.heap[k]? := by
  simp [over, Array.getElem?_append, h]

@[go_sem] theorem over_cell (w x : World) (b o : Nat) (h : b < w.heap.size) : (over w x).cell? ⟨b, o, none⟩ = w.cell? ⟨b, o, none⟩ :=
  World.cell?_of_block (over_block w x b h)

@[go_sem] theorem over_frozen (w x : World) (b o : Nat) (h : b < w.heap.size) : (over w x).frozen? ⟨b, o, none⟩ = w.frozen? ⟨b, o, none⟩ :=
  World.frozen?_of_block (over_block w x b h)

theorem over_below (w x : World) : Below w.heap.size w (over w x) :=
  ⟨rfl, rfl, rfl, by simp, fun k h => over_block w x k h⟩

theorem below_over {w w' : World} (h : Below w.heap.size w w') : ∃ x, w' = over w x := by
  refine ⟨{ w' with heap := w'.heap.extract w.heap.size w'.heap.size }, ?_⟩
  obtain ⟨h1, h2, h3, h4, h5⟩ := h
  cases w' with
  | mk heap tape drawn os output =>
    simp only at h1 h2 h3 h4 h5
    subst h1 h2 h3
    simp only [over, World.mk.injEq, and_true]
    apply Array.ext_getElem?
    intro k
    rw [Array.getElem?_append]
    split
    · rw [h5 k (by assumption)]
    · rename_i hk
      rw [Array.getElem?_extract]
      by_cases hl : k < heap.size
      · rw [if_pos (by omega)]; congr 1; omega
      · rw [if_neg (by omega)]; simp; omega

@[go_sem] theorem over_over (w x y : World) : over (over w x) y = over w { y with heap := x.heap ++ y.heap } := by
  simp [over, Array.append_assoc]

theorem lt_add_of (a b c : Nat) (h : a < b) : a < b + c := by omega

/-- A draw is a growth by nothing. -/
theorem over_drawn (w : World) : { w with drawn := w.drawn + 1 } = over w { w with heap := #[], drawn := w.drawn + 1 } := by
  simp [over]

theorem over_refl (w : World) : ∃ x, w = over w x := ⟨{ w with heap := #[] }, by simp [over]⟩

/-- A region that draws its order, whose operations read and whose callees only make memory of their own: one walk in the text's order. -/
theorem wp_region_over {P : Program} {id : Nat} {Q : Exit → Act → World → Prop} {a : Act} {w : World} {l : List Oper} (hm : P.follows .mixedOrders = true) (hB : Region.lexB .any l.toArray = true)
    (h : wpQuiet P l.toArray (fun w' => ∃ x, w' = over w x) (fun a' => ∀ w', (∃ x, w' = over w x) → Q .normal a' w') l a) : (Code.region id l.toArray true).wp P Q a w :=
  wp_region_quiet (C := fun w' => ∃ x, w' = over w x) hm hB ⟨_, over_drawn w⟩ (by simpa using h)

theorem calls_over_of {P : Program} {f : FuncId} {args : Array Value} {w x : World} {v : Value}
    (h : Calls P f args (over w x) fun e w' => e = .returned v ∧ ∃ y, w' = over (over w x) y) : Calls P f args (over w x) fun e w'' => e = .returned v ∧ ∃ y, w'' = over w y :=
  h.mono fun _ _ ⟨he, _, hy⟩ => ⟨he, ⟨_, hy.trans (over_over _ _ _)⟩⟩

theorem calls_over_same {P : Program} {f : FuncId} {args : Array Value} {w x : World} {v : Value}
    (h : Calls P f args (over w x) fun e w' => e = .returned v ∧ w' = over w x) : Calls P f args (over w x) fun e w'' => e = .returned v ∧ ∃ y, w'' = over w y :=
  h.mono fun _ _ ⟨he, hy⟩ => ⟨he, x, hy⟩

theorem below_ov {n : Nat} {w W x : World} (h : Below n w W) (hn : n ≤ W.heap.size) : Below n w (over W x) := h.trans ((over_below W x).mono hn)
end Go.Proofs.Ytmcnpfjichbijaa
