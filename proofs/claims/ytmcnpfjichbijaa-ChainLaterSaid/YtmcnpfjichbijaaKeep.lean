/- What a step keeps: the blocks of a set lie as they lay. -/
import Derived.Test.YtmcnpfjichbijaaMaps
import Derived.RangeFuncBound
import Derived.RangeFuncLeaves
import Derived.OwnWalkIn
import Derived.TacticsInMore
import Derived.LoopNIn
import Derived.LoopIn
import Derived.Maps.AppendAt
set_option linter.unusedSimpArgs false
set_option linter.unusedVariables false
namespace Go.Proofs.Ytmcnpfjichbijaa
open Go Go.RowKit

@[simp, go_sem] theorem wide_fn (k : FuncId) : Fence.wide.fn k = True := rfl
@[simp, go_sem] theorem wide_depth : Fence.wide.depth = none := rfl

structure Keep (S : Nat → Prop) (w w' : World) : Prop where
  os : w'.os = w.os
  tape : w'.tape = w.tape
  output : w'.output = w.output
  size : w.heap.size ≤ w'.heap.size
  block : ∀ k, S k → k < w.heap.size → w'.heap[k]? = w.heap[k]?

theorem Keep.refl (S : Nat → Prop) (w : World) : Keep S w w := ⟨rfl, rfl, rfl, Nat.le_refl _, fun _ _ _ => rfl⟩
theorem Keep.trans {S : Nat → Prop} {a b c : World} (h : Keep S a b) (k : Keep S b c) : Keep S a c :=
  ⟨k.os.trans h.os, k.tape.trans h.tape, k.output.trans h.output, Nat.le_trans h.size k.size, fun i hi hl => (k.block i hi (Nat.lt_of_lt_of_le hl h.size)).trans (h.block i hi hl)⟩
theorem Keep.mono {S T : Nat → Prop} {a b : World} (h : Keep S a b) (hT : ∀ k, T k → S k) : Keep T a b := ⟨h.os, h.tape, h.output, h.size, fun k hk hl => h.block k (hT k hk) hl⟩
theorem Keep.alloc (S : Nat → Prop) (w : World) (o : Obj) : Keep S w (w.alloc o) := ⟨rfl, rfl, rfl, by simp, fun k _ hl => Below.heap_alloc w o k hl⟩
theorem Keep.drew (S : Nat → Prop) (w : World) : Keep S w w.drew := ⟨rfl, rfl, rfl, Nat.le_refl _, fun _ _ _ => rfl⟩
theorem Keep.over (S : Nat → Prop) (w x : World) : Keep S w (over w x) := ⟨rfl, rfl, rfl, by simp, fun k _ hl => over_block w x k hl⟩
theorem Keep.setCell {S : Nat → Prop} (w : World) (p : Addr) (v : Value) (h : ¬ S p.block) : Keep S w (w.setCell p v) :=
  ⟨rfl, rfl, rfl, by simp, fun k hk _ => Below.heap_setCell w p v k (fun e => h (e ▸ hk))⟩
theorem Keep.putObj {S : Nat → Prop} (w : World) (l : Nat) (o : Obj) (h : ¬ S l) : Keep S w (w.putObj l o) :=
  ⟨rfl, rfl, rfl, by simp, fun k hk _ => World.putObj_heap_other (fun e => h (e ▸ hk))⟩
theorem Keep.grown {S : Nat → Prop} {w w' : World} {row : Option Nat} (h : w.grownBy w' row) (hr : ∀ r, row = some r → ¬ S r) : Keep S w w' :=
  ⟨h.os, h.tape, h.output, h.size, fun k hk hl => h.block k hl (fun e => hr k e.symm hk)⟩
theorem Keep.of_below {S : Nat → Prop} {w w' : World} {n : Nat} (h : Below n w w') (hn : ∀ k, S k → k < w.heap.size → k < n) : Keep S w w' :=
  ⟨h.os, h.tape, h.output, h.size, fun k hk hl => h.block k (hn k hk hl)⟩
theorem Keep.below {S : Nat → Prop} {w w' : World} {n : Nat} (h : Keep S w w') (hn : ∀ k, k < n → S k ∧ k < w.heap.size) : Below n w w' :=
  ⟨h.os, h.tape, h.output, h.size, fun k hk => h.block k (hn k hk).1 (hn k hk).2⟩

theorem Keep.cell {S : Nat → Prop} {w w' : World} (h : Keep S w w') {b o : Nat} {v : Value} (hc : w.cell? ⟨b, o, none⟩ = some v) (hb : S b) : w'.cell? ⟨b, o, none⟩ = some v := by
  have hl : b < w.heap.size := by
    unfold World.cell? at hc
    cases hh : w.heap[b]? with
    | none => simp [hh] at hc
    | some o => exact (Array.getElem?_eq_some_iff.1 hh).1
  exact (World.cell?_of_block (a := ⟨b, o, none⟩) (h.block b hb hl)).trans hc
theorem isMap.keep {S : Nat → Prop} {w w' : World} {M : Nat} {f : Int → Option Value} (h : isMap w M f) (hk : Keep S w w') (hM : S M) : isMap w' M f := h.of_block (hk.block M hM h.lt)

theorem lt_of_cell {w : World} {b o : Nat} {v : Value} (hc : w.cell? ⟨b, o, none⟩ = some v) : b < w.heap.size := by
  unfold World.cell? at hc
  cases hh : w.heap[b]? with
  | none => simp [hh] at hc
  | some o => exact (Array.getElem?_eq_some_iff.1 hh).1

theorem over_grown (w x : World) : w.grownBy (over w x) none := ⟨rfl, rfl, rfl, by simp, fun k hk _ => over_block w x k hk⟩

/-- All but block B, of the first n. -/
def but (n B : Nat) : Nat → Prop := fun k => k < n ∧ k ≠ B

theorem butK_t {n B : Nat} {X Y Z : World} (h : Keep (but n B) X Y) (k : Keep (but n B) Y Z) : Keep (but n B) X Z := h.trans k
theorem butK_b {n B : Nat} {w : World} (hn : n ≤ w.heap.size) (W : World) (l : Nat) (o o' : Obj) (hl : w.heap.size ≤ l) (h : W.heap[l]? = some o) (_ : o.isCells = false) (_ : o.isWalk = false) : Keep (but n B) W (W.putObj l o') :=
  Keep.putObj W l o' (fun h => by unfold but at h; omega)

/-! ### Marks: what a range over a function leaves among the deferred calls -/

/-- Marks alone, each for a block of its own from B on. -/
def Marks (B : Nat) (w : World) : List Deferred → Prop
  | [] => True
  | d :: ds => (∃ D, d = { target := .collected D, args := #[] } ∧ B ≤ D ∧ w.heap[D]? = some (.deferred (some [])) ∧ ∀ d' ∈ ds, d' ≠ d) ∧ Marks B w ds

theorem Marks.of_blocks {B : Nat} {w w' : World} (h : ∀ D o, B ≤ D → w.heap[D]? = some o → o.isCells = false → o.isWalk = false → w'.heap[D]? = some o) : ∀ {ds : List Deferred}, Marks B w ds → Marks B w' ds
  | [], _ => trivial
  | d :: ds, ⟨⟨D, h1, h2, h3, h4⟩, h5⟩ => ⟨⟨D, h1, h2, h _ _ h2 h3 rfl rfl, h4⟩, h5.of_blocks h⟩

theorem Marks.keep {B : Nat} {w w' : World} {S : Nat → Prop} (k : Keep S w w') {ds : List Deferred} (h : Marks B w ds) (hS : ∀ D, B ≤ D → D < w.heap.size → (∀ c t f, w.heap[D]? ≠ some (.cells c t f)) → S D) : Marks B w' ds :=
  h.of_blocks fun D o hB ho hc _ => by
    have hl := (Array.getElem?_eq_some_iff.1 ho).1
    rw [k.block D (hS D hB hl (fun c t f e => by rw [ho] at e; cases e; cases hc)) hl, ho]

theorem Marks.below {B : Nat} {w w' : World} {n : Nat} (k : Below n w w') (hn : w.heap.size ≤ n) {ds : List Deferred} (h : Marks B w ds) : Marks B w' ds :=
  h.of_blocks fun D o _ ho _ _ => by rw [k.block D (by have := (Array.getElem?_eq_some_iff.1 ho).1; omega), ho]

theorem Marks.mem_lt {B : Nat} {w : World} : ∀ {ds : List Deferred}, Marks B w ds → ∀ d ∈ ds, ∃ D, d = { target := .collected D, args := #[] } ∧ D < w.heap.size
  | [], _, d, h => by simp at h
  | d :: ds, ⟨⟨D, h1, h2, h3, h4⟩, h5⟩, d', h => by
    rcases List.mem_cons.1 h with rfl | h
    · exact ⟨D, h1, (Array.getElem?_eq_some_iff.1 h3).1⟩
    · exact h5.mem_lt d' h

theorem Marks.cons {B D : Nat} {w : World} {ds : List Deferred} (h : Marks B w ds) (hB : B ≤ D) (hD : w.heap[D]? = some (.deferred (some []))) (hnew : ∀ d ∈ ds, d ≠ { target := .collected D, args := #[] }) :
    Marks B w ({ target := .collected D, args := #[] } :: ds) := ⟨⟨D, rfl, hB, hD, hnew⟩, h⟩

/-- The marks are taken: their blocks turn, no other does. -/
structure Gone (B : Nat) (w w' : World) : Prop where
  os : w'.os = w.os
  tape : w'.tape = w.tape
  output : w'.output = w.output
  size : w'.heap.size = w.heap.size
  low : ∀ k, k < B → w'.heap[k]? = w.heap[k]?
  other : ∀ (k : Nat) (o : Obj), w.heap[k]? = some o → (∀ x, o ≠ Obj.deferred x) → w'.heap[k]? = some o

theorem Gone.refl (B : Nat) (w : World) : Gone B w w := ⟨rfl, rfl, rfl, rfl, fun _ _ => rfl, fun _ _ h _ => h⟩

theorem Gone.cell {B : Nat} {w w' : World} (h : Gone B w w') {a : Addr} {v : Value} (hc : w.cell? a = some v) : w'.cell? a = some v := by
  unfold World.cell? at hc ⊢
  cases hh : w.heap[a.block]? with
  | none => simp [hh] at hc
  | some o =>
    rw [h.other _ _ hh (fun x e => by subst e; simp [hh] at hc)]
    rw [hh] at hc
    exact hc

theorem Gone.below {B : Nat} {w w' : World} (h : Gone B w w') : Below B w w' := ⟨h.os, h.tape, h.output, by rw [h.size]; exact Nat.le_refl _, h.low⟩

theorem Gone.isMap {B : Nat} {w w' : World} (h : Gone B w w') {M : Nat} {f : Int → Option Value} (hm : isMap w M f) : isMap w' M f := by
  obtain ⟨es, clk, hb, r⟩ := hm
  exact ⟨es, clk, h.other _ _ hb (fun x e => by cases e), r⟩

theorem leaves_marks {n : Nat} {P : Program} {fn : Func} {tmps : Array Value} {R : Ending → World → Prop} {B : Nat} : ∀ {ds : List Deferred} {w : World}, Marks B w ds →
    (∀ w', Gone B w w' → ∃ v, (results fn tmps).run P w' = .ok v w' ∧ R (.returned v) w') → LeavesInM Fence.wide n P fn tmps R ds .returning w
  | [], w, _, h => h w (Gone.refl B w)
  | d :: ds, w, ⟨⟨D, h1, h2, h3, h4⟩, h5⟩, h => by
    subst h1
    refine ⟨by simp, .inl ⟨D, _, rfl, run_takeDeferred h3, ?_⟩⟩
    have hlt := (Array.getElem?_eq_some_iff.1 h3).1
    refine leaves_marks (B := B) ?_ (fun w' hg => h w' ?_)
    · have hne : ∀ d' ∈ ds, d' ≠ { target := .collected D, args := #[] } := h4
      clear h h4
      induction ds with
      | nil => trivial
      | cons e es ih =>
        obtain ⟨⟨D', g1, g2, g3, g4⟩, g5⟩ := h5
        refine ⟨⟨D', g1, g2, ?_, g4⟩, ih g5 (fun d' hd' => hne d' (by simp [hd']))⟩
        have : D' ≠ D := fun e' => hne e (by simp) (by rw [g1, e'])
        exact (World.putObj_heap_other this).trans g3
    · have hsz : (w.putObj D (.deferred none)).heap.size = w.heap.size := by simp
      refine ⟨hg.os, hg.tape, hg.output, hg.size.trans hsz, fun k hk => ?_, fun k o hk ho => ?_⟩
      · exact (hg.low k hk).trans (World.putObj_heap_other (by omega))
      · have : k ≠ D := fun e => by subst e; rw [h3] at hk; cases hk; exact ho _ rfl
        exact hg.other k o ((World.putObj_heap_other this).trans hk) ho

theorem cells_at {w : World} {b o : Nat} {v : Value} (hc : w.cell? ⟨b, o, none⟩ = some v) : ∃ c t f, w.heap[b]? = some (.cells c t f) := by
  unfold World.cell? at hc
  cases hh : w.heap[b]? with
  | none => simp [hh] at hc
  | some ob => cases ob <;> simp_all

theorem below_drewN' {n : Nat} {w W : World} (h : Below n w W) (j : Nat) : Below n w (W.drewN j) := ⟨h.os, h.tape, h.output, h.size, h.block⟩
theorem below_putObj {n : Nat} {w W : World} (h : Below n w W) {l : Nat} (o : Obj) (hl : n ≤ l) : Below n w (W.putObj l o) :=
  h.trans ⟨rfl, rfl, rfl, by simp, fun k hk => World.putObj_heap_other (by omega)⟩

theorem Marks.drewN {B : Nat} {w : World} (n : Nat) {ds : List Deferred} (h : Marks B w ds) : Marks B (w.drewN n) ds :=
  Marks.of_blocks (w := w) (w' := w.drewN n) (fun D o _ ho _ _ => ho) h

theorem Marks.putObj {B : Nat} {w : World} {l : Nat} (o : Obj) (hl : l < B) {ds : List Deferred} (h : Marks B w ds) : Marks B (w.putObj l o) ds :=
  Marks.of_blocks (w := w) (w' := w.putObj l o) (fun D o' hB ho _ _ => (World.putObj_heap_other (by omega)).trans ho) h
end Go.Proofs.Ytmcnpfjichbijaa
