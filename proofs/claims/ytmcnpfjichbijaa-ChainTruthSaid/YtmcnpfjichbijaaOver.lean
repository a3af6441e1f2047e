/- A world with more blocks behind it: what a call that only makes memory of its own leaves. -/
import Derived.WalkKit
import Derived.BigQuiet
import Derived.Deep.QuietTactic
import Derived.KernelRfl
import Derived.RangeFuncNested
import Derived.RangeFuncBound
import Derived.RangeFuncLeaves
import Derived.OwnWalkIn
import Derived.TacticsInMore
import Derived.LoopNIn
import Derived.LoopIn
import Derived.Maps.AppendAt
import Derived.StillTail
import Derived.OrdersIn
import Derived.RangeFuncCalls

set_option linter.unusedSimpArgs false
set_option linter.unusedVariables false
namespace Go.Proofs.Ytmcnpfjichbijaa
open Go Go.RowKit

/-- The world 'w', with the blocks of 'x' behind its own, and x's count of draws. -/
def over (w x : World) : World := { w with heap := w.heap ++ x.heap, drawn := x.drawn }

@[simp, go_sem] theorem over_size (w x : World) : (over w x).heap.size = w.heap.size + x.heap.size := by simp [over]

theorem over_block (w x : World) (k : Nat) (h : k < w.heap.size) : (over w x).heap[k]? = w.heap[k]? := by
  simp [over, Array.getElem?_append, h]

@[go_sem] theorem over_cell (w x : World) (b o : Nat) (h : b < w.heap.size) : (over w x).cell? ⟨b, o, none⟩ = w.cell? ⟨b, o, none⟩ :=
  World.cell?_of_block (over_block w x b h)

@[go_sem] theorem over_frozen (w x : World) (b o : Nat) (h : b < w.heap.size) : (over w x).frozen? ⟨b, o, none⟩ = w.frozen? ⟨b, o, none⟩ :=
  World.frozen?_of_block (over_block w x b h)

theorem over_below (w x : World) : Below w.heap.size w (over w x) :=
  ⟨rfl, rfl, rfl, by simp, fun k h => over_block w x k h⟩

theorem below_over {w w' : World} (h : Below w.heap.size w w') : ∃ x, w' = over w x := by
  refine ⟨{ w' with heap := w'.heap.extract w.heap.size w'.heap.size }, ?_⟩
  obtain ⟨h1, h2, h3, h4, h5⟩ := h
  cases w' with
  | mk heap tape drawn os output =>
    simp only at h1 h2 h3 h4 h5
    subst h1 h2 h3
    simp only [over, World.mk.injEq, and_true]
    apply Array.ext_getElem?
    intro k
    rw [Array.getElem?_append]
    split
    · rw [h5 k (by assumption)]
    · rename_i hk
      rw [Array.getElem?_extract]
      by_cases hl : k < heap.size
      · rw [if_pos (by omega)]; congr 1; omega
      · rw [if_neg (by omega)]; simp; omega

@[go_sem] theorem over_over (w x y : World) : over (over w x) y = over w { y with heap := x.heap ++ y.heap } := by
  simp [over, Array.append_assoc]

theorem lt_add_of (a b c : Nat) (h : a < b) : a < b + c := by omega

/-- A draw is a growth by nothing. -/
theorem over_drawn (w : World) : { w with drawn := w.drawn + 1 } = over w { w with heap := #[], drawn := w.drawn + 1 } := by
  simp [over]

theorem over_refl (w : World) : ∃ x, w = over w x := ⟨{ w with heap := #[] }, by simp [over]⟩

/-- A region that draws its order, whose operations read and whose callees only make memory of their own: one walk in the text's order. -/
theorem wp_region_over {P : Program} {id : Nat} {Q : Exit → Act → World → Prop} {a : Act} {w : World} {l : List Oper} (hm : P.follows .mixedOrders = true) (hB : Region.lexB .any l.toArray = true)
    (h : wpQuiet P l.toArray (fun w' => ∃ x, w' = over w x) (fun a' => ∀ w', (∃ x, w' = over w x) → Q .normal a' w') l a) : (Code.region id l.toArray true).wp P Q a w :=
  wp_region_quiet (C := fun w' => ∃ x, w' = over w x) hm hB ⟨_, over_drawn w⟩ (by simpa using h)

theorem calls_over_of {P : Program} {f : FuncId} {args : Array Value} {w x : World} {v : Value}
    (h : Calls P f args (over w x) fun e w' => e = .returned v ∧ ∃ y, w' = over (over w x) y) : Calls P f args (over w x) fun e w'' => e = .returned v ∧ ∃ y, w'' = over w y :=
  h.mono fun _ _ ⟨he, _, hy⟩ => ⟨he, ⟨_, hy.trans (over_over _ _ _)⟩⟩

theorem calls_over_same {P : Program} {f : FuncId} {args : Array Value} {w x : World} {v : Value}
    (h : Calls P f args (over w x) fun e w' => e = .returned v ∧ w' = over w x) : Calls P f args (over w x) fun e w'' => e = .returned v ∧ ∃ y, w'' = over w y :=
  h.mono fun _ _ ⟨he, hy⟩ => ⟨he, x, hy⟩

theorem below_ov {n : Nat} {w W x : World} (h : Below n w W) (hn : n ≤ W.heap.size) : Below n w (over W x) := h.trans ((over_below W x).mono hn)
end Go.Proofs.Ytmcnpfjichbijaa

/- Maps from ints that the call itself makes, read as functions. -/
set_option linter.unusedSimpArgs false
set_option linter.unusedVariables false
namespace Go.Proofs.Ytmcnpfjichbijaa
open Go Go.RowKit

/-- Which entry has the key k? -/
def keyIs (k : Int) (e : MapEntry) : Bool :=
  match e.key with
  | .int .i64 j => k == j
  | _ => false

/-- Block M is a map whose keys are ints; it reads as f. -/
def isMap (w : World) (M : Nat) (f : Int → Option Value) : Prop :=
  ∃ es clk, w.heap[M]? = some (.map es clk) ∧ (∀ e ∈ es.toList, ∃ j, e.key = .int .i64 j) ∧ ∀ k, (es.toList.find? (keyIs k)).map (·.val) = f k

theorem isMap.lt {w : World} {M : Nat} {f : Int → Option Value} (h : isMap w M f) : M < w.heap.size := by
  obtain ⟨es, clk, h, _⟩ := h
  exact (Array.getElem?_eq_some_iff.1 h).1

theorem isMap.of_block {w w' : World} {M : Nat} {f : Int → Option Value} (h : isMap w M f) (hb : w'.heap[M]? = w.heap[M]?) : isMap w' M f := by
  obtain ⟨es, clk, h, r⟩ := h
  exact ⟨es, clk, hb.trans h, r⟩

theorem isMap.over {w : World} {M : Nat} {f : Int → Option Value} (h : isMap w M f) (x : World) : isMap (over w x) M f := h.of_block (over_block w x M h.lt)

theorem isMap.below {w w' : World} {M n : Nat} {f : Int → Option Value} (h : isMap w M f) (hb : Below n w w') (hn : M < n) : isMap w' M f := h.of_block (hb.block M hn)

theorem isMap.alloc {w : World} {M : Nat} {f : Int → Option Value} (h : isMap w M f) (o : Obj) : isMap (w.alloc o) M f := h.of_block (Below.heap_alloc w o M h.lt)

theorem isMap.setCell {w : World} {M : Nat} {f : Int → Option Value} (h : isMap w M f) (a : Addr) (v : Value) (hne : M ≠ a.block) : isMap (w.setCell a v) M f := h.of_block (Below.heap_setCell w a v M hne)

theorem isMap_new (w : World) : isMap (w.alloc (.map #[] 0)) w.heap.size fun _ => none :=
  ⟨#[], 0, World.alloc_heap_new w _, by simp, by simp⟩

theorem isMap.congr {w : World} {M : Nat} {f g : Int → Option Value} (h : isMap w M f) (hg : ∀ k, f k = g k) : isMap w M g := by
  have : f = g := funext hg
  rwa [← this]

theorem findNow_int (k : Int) : ∀ (es : List MapEntry) (i : Nat), (∀ e ∈ es, ∃ j, e.key = .int .i64 j) →
    ∃ r, Instr.findNow (.int .i64) (.int .i64 k) es i = some r ∧ r.map (·.2) = (es.find? (keyIs k)).map (·.val) ∧
      (r.map (·.1) = (es.findIdx? (keyIs k)).map (· + i))
  | [], i, _ => ⟨none, rfl, rfl, rfl⟩
  | e :: es, i, h => by
    obtain ⟨j, hj⟩ := h e (by simp)
    obtain ⟨r, h1, h2, h3⟩ := findNow_int k es (i + 1) (fun e he => h e (by simp [he]))
    by_cases hk : k = j
    · subst hk
      exact ⟨some (i, e.val), by simp [Instr.findNow, hj, Instr.sameNow], by simp [keyIs, hj], by simp [keyIs, hj, List.findIdx?_cons]⟩
    · have hk' : (k == j) = false := by simp [hk]
      refine ⟨r, by simp [Instr.findNow, hj, Instr.sameNow, hk', h1], by simp [keyIs, hj, hk, h2], ?_⟩
      rw [h3, List.findIdx?_cons]
      simp [keyIs, hj, hk, Option.map_map, Function.comp_def, Nat.add_comm, Nat.add_left_comm]

theorem run_checkKey_int {P : Program} {K : TypeId} (hK : P.underlying K = some (.int .i64)) (b : Bool) (k : Int) (w : World) :
    (Instr.checkKey b 10000 K (.int .i64 k)).run P w = .ok () w := by
  unfold Instr.checkKey
  simp [Sem.run_bind, run_underlying hK, Result.andThen]

theorem run_findKey_int {P : Program} {K : TypeId} (hK : P.underlying K = some (.int .i64)) (k : Int) (es : Array MapEntry) (h : ∀ e ∈ es.toList, ∃ j, e.key = .int .i64 j) (w : World) :
    ∃ r, (Instr.findKey K (.int .i64 k) es.toList).run P w = .ok r w ∧ r.map (·.2) = (es.toList.find? (keyIs k)).map (·.val) ∧ r.map (·.1) = es.toList.findIdx? (keyIs k) := by
  obtain ⟨r, h1, h2, h3⟩ := findNow_int k es.toList 0 h
  refine ⟨r, ?_, h2, by simpa using h3⟩
  unfold Instr.findKey
  simp [Sem.run_bind, run_underlying hK, Result.andThen, h1]

theorem run_lookup_map {P : Program} {t K e : TypeId} (ht : P.underlying t = some (.map K e)) (hK : P.underlying K = some (.int .i64)) {w : World} {M : Nat} {f : Int → Option Value} (h : isMap w M f)
    {z : Value} (hz : (zeroValue e).run P w = .ok z w) (k : Int) (ok : Bool) :
    (Instr.lookup t (.map (some M)) (.int .i64 k) ok).run P w = .ok (if ok then .tuple #[(f k).getD z, .bool (f k).isSome] else (f k).getD z) w := by
  obtain ⟨es, clk, hb, hk, hf⟩ := h
  obtain ⟨r, h1, h2, h3⟩ := run_findKey_int hK k es hk w
  unfold Instr.lookup
  have hg : (getObj M).run P w = .ok (.map es clk) w := by simp [getObj, Sem.run, hb]
  have hc := run_checkKey_int (P := P) hK es.isEmpty k w
  rw [← hf k, ← h2]
  simp only [Sem.run_bind, run_underlying ht, Result.andThen, Sem.run_pure, hg, hc, h1]
  cases r with
  | none => cases ok <;> simp [hz, Result.andThen, Sem.run_bind]
  | some p => cases ok <;> simp [Sem.run_bind, Result.andThen]

/-- f, with v at k. -/
def upd (f : Int → Option Value) (k : Int) (v : Value) : Int → Option Value := fun j => if j = k then some v else f j

theorem find_modify (k j : Int) (v : Value) : ∀ (es : List MapEntry) (i : Nat), (∀ e ∈ es, ∃ q, e.key = .int .i64 q) → es.findIdx? (keyIs k) = some i →
    ((es.modify i fun e => { e with key := .int .i64 k, val := v }).find? (keyIs j)).map (·.val) = if j = k then some v else (es.find? (keyIs j)).map (·.val)
  | [], i, _, h => by simp at h
  | e :: es, i, hk, h => by
    obtain ⟨q, hq⟩ := hk e (by simp)
    by_cases hkq : k = q
    · subst hkq
      have : i = 0 := by simpa [List.findIdx?_cons, keyIs, hq] using h.symm
      subst this
      by_cases hjk : j = k
      · subst hjk; simp [List.find?_cons, keyIs]
      · have : (j == k) = false := by simp [hjk]
        simp [List.find?_cons, keyIs, hq, this, hjk]
    · have hne : (k == q) = false := by simp [hkq]
      rw [List.findIdx?_cons] at h
      simp only [keyIs, hq, hne] at h
      simp at h
      obtain ⟨i', h', rfl⟩ := h
      have ih := find_modify k j v es i' (fun e he => hk e (by simp [he])) (by simpa [keyIs] using h')
      by_cases hjq : j = q
      · subst hjq
        have : ¬ j = k := fun e => hkq e.symm
        simp [List.find?_cons, keyIs, hq, this]
      · have : (j == q) = false := by simp [hjq]
        simp only [List.modify_succ_cons, List.find?_cons, keyIs, hq, this]
        exact ih

theorem find_push (k j : Int) (v : Value) (es : List MapEntry) (b : Nat) (h : es.findIdx? (keyIs k) = none) :
    ((es ++ [({ key := .int .i64 k, val := v, born := b } : MapEntry)]).find? (keyIs j)).map (·.val) = if j = k then some v else (es.find? (keyIs j)).map (·.val) := by
  rw [List.find?_append]
  by_cases hjk : j = k
  · subst hjk
    have : es.find? (keyIs j) = none := by
      rw [List.findIdx?_eq_none_iff] at h
      rw [List.find?_eq_none]
      intro x hx; simp [h x hx]
    simp [this, keyIs]
  · have : (j == k) = false := by simp [hjk]
    simp [keyIs, this, hjk]

/-- 'm[k] = v': one block turns: it reads as f, with v at k. -/
theorem run_mapUpdate_map {P : Program} {t K e : TypeId} (ht : P.underlying t = some (.map K e)) (hK : P.underlying K = some (.int .i64)) {w : World} {M : Nat} {f : Int → Option Value} (h : isMap w M f)
    (k : Int) (v : Value) :
    ∃ o, (Instr.mapUpdate t (.map (some M)) (.int .i64 k) v).run P w = .ok () (w.putObj M o) ∧ isMap (w.putObj M o) M (upd f k v) ∧ o.isCells = false ∧ (∃ o', w.heap[M]? = some o' ∧ o'.isCells = false) := by
  have hlt := h.lt
  obtain ⟨es, clk, hb, hk, hf⟩ := h
  obtain ⟨r, h1, h2, h3⟩ := run_findKey_int hK k es hk w
  have hg : (getObj M).run P w = .ok (.map es clk) w := by simp [getObj, Sem.run, hb]
  have hs : ∀ o, (setObj M o).run P w = .ok () (w.putObj M o) := fun o => by simp [setObj, Sem.run, hb, World.putObj]
  have hc := run_checkKey_int (P := P) hK false k w
  cases r with
  | none =>
    have hn : es.toList.findIdx? (keyIs k) = none := by simpa using h3.symm
    refine ⟨.map (es.push { key := .int .i64 k, val := v, born := clk }) (clk + 1), ?_, ⟨_, _, World.putObj_heap_same hlt, ?_, ?_⟩, rfl, _, hb, rfl⟩
    · unfold Instr.mapUpdate
      simp [Sem.run_bind, run_underlying ht, Result.andThen, hg, hc, h1, hs]
    · intro e he
      simp at he
      rcases he with he | rfl
      · exact hk e (by simpa using he)
      · exact ⟨k, rfl⟩
    · intro j
      rw [Array.toList_push, find_push k j v es.toList clk hn, hf]
      rfl
  | some p =>
    obtain ⟨i, u⟩ := p
    have hn : es.toList.findIdx? (keyIs k) = some i := by simpa using h3.symm
    have hi := List.findIdx?_eq_some_iff_getElem.1 hn
    obtain ⟨hil, hik, _⟩ := hi
    have hkey : es[i]?.map (·.key) = some (.int .i64 k) := by
      obtain ⟨q, hq⟩ := hk es.toList[i] (List.getElem_mem hil)
      have : k = q := by
        unfold keyIs at hik
        rw [hq] at hik
        simpa using hik
      subst this
      have hil' : i < es.size := by simpa using hil
      rw [Array.getElem?_eq_getElem hil']
      simpa using hq
    refine ⟨.map (es.modify i fun e => { e with key := .int .i64 k, val := v }) clk, ?_, ⟨_, _, World.putObj_heap_same hlt, ?_, ?_⟩, rfl, _, hb, rfl⟩
    · unfold Instr.mapUpdate
      simp [Sem.run_bind, run_underlying ht, Result.andThen, hg, hc, h1, hs, hkey, Instr.keyThatStays, Instr.sameBits]
    · intro e he
      simp [Array.toList_modify] at he
      obtain ⟨n, hnn⟩ := List.mem_iff_getElem?.1 he
      rw [List.getElem?_modify] at hnn
      by_cases hin : i = n
      · subst hin
        cases hx : es.toList[i]? with
        | none => rw [hx] at hnn; simp at hnn
        | some y => rw [hx] at hnn; simp at hnn; exact ⟨k, by rw [← hnn]⟩
      · simp [hin] at hnn
        exact hk e (List.mem_of_getElem? (by simpa using hnn))
    · intro j
      rw [Array.toList_modify, find_modify k j v es.toList i hk hn, hf]
      rfl

theorem wpList_mapUpdate {P : Program} {w : World} {ops : Array Oper} {rest : List Oper} {o : Oper} {a : Act} {Q : Exit → Act → World → Prop} {m x y : Operand} {t K e : TypeId} {M : Nat} {f : Int → Option Value} {k : Int} {v : Value}
    (hg : o.guard = none) (hop : o.op = Op.mapUpdate t m x y) (ht : P.underlying t = some (.map K e)) (hK : P.underlying K = some (.int .i64))
    (hm : a.eval m = .map (some M)) (hx : a.eval x = .int .i64 k) (hy : a.eval y = v) (h : isMap w M f)
    (hk : ∀ o', isMap (w.putObj M o') M (upd f k v) → o'.isCells = false → wpList P ops Q rest (a.put o.dst undef) (w.putObj M o')) : wpList P ops Q (o :: rest) a w := by
  refine wpList_plain hg fun K' hK' => ?_
  obtain ⟨o', h1, h2, h3, _⟩ := run_mapUpdate_map (P := P) ht hK h k v
  unfold Oper.wp
  simp only [execOp, hop, hm, hx, hy, Sem.run_bind, h1, Result.andThen, Sem.run_pure, Oper.upon]
  exact hK' _ _ (hk o' h2 h3)

theorem putObj_cell {w : World} {M : Nat} {o o' : Obj} (hM : w.heap[M]? = some o) (ho : o.isCells = false) (ho' : o'.isCells = false) (a : Addr) : (w.putObj M o').cell? a = w.cell? a := by
  unfold World.cell?
  by_cases e : a.block = M
  · rw [e, World.putObj_heap_same (Array.getElem?_eq_some_iff.1 hM).1, hM]
    cases o <;> cases o' <;> simp_all [Obj.isCells]
  · rw [World.putObj_heap_other e]

theorem isMap.putObj {w : World} {M M' : Nat} {f : Int → Option Value} {o : Obj} (h : isMap w M f) (hne : M ≠ M') : isMap (w.putObj M' o) M f := h.of_block (World.putObj_heap_other hne)

theorem isMap.notCells {w : World} {M : Nat} {f : Int → Option Value} (h : isMap w M f) : ∃ o, w.heap[M]? = some o ∧ o.isCells = false := by
  obtain ⟨es, clk, hb, _⟩ := h
  exact ⟨_, hb, rfl⟩
end Go.Proofs.Ytmcnpfjichbijaa

/- What a step keeps: the blocks of a set lie as they lay. -/
set_option linter.unusedSimpArgs false
set_option linter.unusedVariables false
namespace Go.Proofs.Ytmcnpfjichbijaa
open Go Go.RowKit

@[simp, go_sem] theorem wide_fn (k : FuncId) : Fence.wide.fn k = True := rfl
@[simp, go_sem] theorem wide_depth : Fence.wide.depth = none := rfl

structure Keep (S : Nat → Prop) (w w' : World) : Prop where
  os : w'.os = w.os
  tape : w'.tape = w.tape
  output : w'.output = w.output
  size : w.heap.size ≤ w'.heap.size
  block : ∀ k, S k → k < w.heap.size → w'.heap[k]? = w.heap[k]?

theorem Keep.refl (S : Nat → Prop) (w : World) : Keep S w w := ⟨rfl, rfl, rfl, Nat.le_refl _, fun _ _ _ => rfl⟩
theorem Keep.trans {S : Nat → Prop} {a b c : World} (h : Keep S a b) (k : Keep S b c) : Keep S a c :=
  ⟨k.os.trans h.os, k.tape.trans h.tape, k.output.trans h.output, Nat.le_trans h.size k.size, fun i hi hl => (k.block i hi (Nat.lt_of_lt_of_le hl h.size)).trans (h.block i hi hl)⟩
theorem Keep.mono {S T : Nat → Prop} {a b : World} (h : Keep S a b) (hT : ∀ k, T k → S k) : Keep T a b := ⟨h.os, h.tape, h.output, h.size, fun k hk hl => h.block k (hT k hk) hl⟩
theorem Keep.alloc (S : Nat → Prop) (w : World) (o : Obj) : Keep S w (w.alloc o) := ⟨rfl, rfl, rfl, by simp, fun k _ hl => Below.heap_alloc w o k hl⟩
theorem Keep.drew (S : Nat → Prop) (w : World) : Keep S w w.drew := ⟨rfl, rfl, rfl, Nat.le_refl _, fun _ _ _ => rfl⟩
theorem Keep.over (S : Nat → Prop) (w x : World) : Keep S w (over w x) := ⟨rfl, rfl, rfl, by simp, fun k _ hl => over_block w x k hl⟩
theorem Keep.setCell {S : Nat → Prop} (w : World) (p : Addr) (v : Value) (h : ¬ S p.block) : Keep S w (w.setCell p v) :=
  ⟨rfl, rfl, rfl, by simp, fun k hk _ => Below.heap_setCell w p v k (fun e => h (e ▸ hk))⟩
theorem Keep.putObj {S : Nat → Prop} (w : World) (l : Nat) (o : Obj) (h : ¬ S l) : Keep S w (w.putObj l o) :=
  ⟨rfl, rfl, rfl, by simp, fun k hk _ => World.putObj_heap_other (fun e => h (e ▸ hk))⟩
theorem Keep.grown {S : Nat → Prop} {w w' : World} {row : Option Nat} (h : w.grownBy w' row) (hr : ∀ r, row = some r → ¬ S r) : Keep S w w' :=
  ⟨h.os, h.tape, h.output, h.size, fun k hk hl => h.block k hl (fun e => hr k e.symm hk)⟩
theorem Keep.of_below {S : Nat → Prop} {w w' : World} {n : Nat} (h : Below n w w') (hn : ∀ k, S k → k < w.heap.size → k < n) : Keep S w w' :=
  ⟨h.os, h.tape, h.output, h.size, fun k hk hl => h.block k (hn k hk hl)⟩
theorem Keep.below {S : Nat → Prop} {w w' : World} {n : Nat} (h : Keep S w w') (hn : ∀ k, k < n → S k ∧ k < w.heap.size) : Below n w w' :=
  ⟨h.os, h.tape, h.output, h.size, fun k hk => h.block k (hn k hk).1 (hn k hk).2⟩

theorem Keep.cell {S : Nat → Prop} {w w' : World} (h : Keep S w w') {b o : Nat} {v : Value} (hc : w.cell? ⟨b, o, none⟩ = some v) (hb : S b) : w'.cell? ⟨b, o, none⟩ = some v := by
  have hl : b < w.heap.size := by
    unfold World.cell? at hc
    cases hh : w.heap[b]? with
    | none => simp [hh] at hc
    | some o => exact (Array.getElem?_eq_some_iff.1 hh).1
  exact (World.cell?_of_block (a := ⟨b, o, none⟩) (h.block b hb hl)).trans hc
theorem isMap.keep {S : Nat → Prop} {w w' : World} {M : Nat} {f : Int → Option Value} (h : isMap w M f) (hk : Keep S w w') (hM : S M) : isMap w' M f := h.of_block (hk.block M hM h.lt)

theorem lt_of_cell {w : World} {b o : Nat} {v : Value} (hc : w.cell? ⟨b, o, none⟩ = some v) : b < w.heap.size := by
  unfold World.cell? at hc
  cases hh : w.heap[b]? with
  | none => simp [hh] at hc
  | some o => exact (Array.getElem?_eq_some_iff.1 hh).1

theorem over_grown (w x : World) : w.grownBy (over w x) none := ⟨rfl, rfl, rfl, by simp, fun k hk _ => over_block w x k hk⟩

/-- All but block B, of the first n. -/
def but (n B : Nat) : Nat → Prop := fun k => k < n ∧ k ≠ B

theorem butK_t {n B : Nat} {X Y Z : World} (h : Keep (but n B) X Y) (k : Keep (but n B) Y Z) : Keep (but n B) X Z := h.trans k
theorem butK_b {n B : Nat} {w : World} (hn : n ≤ w.heap.size) (W : World) (l : Nat) (o o' : Obj) (hl : w.heap.size ≤ l) (h : W.heap[l]? = some o) (_ : o.isCells = false) (_ : o.isWalk = false) : Keep (but n B) W (W.putObj l o') :=
  Keep.putObj W l o' (fun h => by unfold but at h; omega)

/-! ### Marks: what a range over a function leaves among the deferred calls -/

/-- Marks alone, each for a block of its own from B on. -/
def Marks (B : Nat) (w : World) : List Deferred → Prop
  | [] => True
  | d :: ds => (∃ D, d = { target := .collected D, args := #[] } ∧ B ≤ D ∧ w.heap[D]? = some (.deferred (some [])) ∧ ∀ d' ∈ ds, d' ≠ d) ∧ Marks B w ds

theorem Marks.of_blocks {B : Nat} {w w' : World} (h : ∀ D o, B ≤ D → w.heap[D]? = some o → o.isCells = false → o.isWalk = false → w'.heap[D]? = some o) : ∀ {ds : List Deferred}, Marks B w ds → Marks B w' ds
  | [], _ => trivial
  | d :: ds, ⟨⟨D, h1, h2, h3, h4⟩, h5⟩ => ⟨⟨D, h1, h2, h _ _ h2 h3 rfl rfl, h4⟩, h5.of_blocks h⟩

theorem Marks.keep {B : Nat} {w w' : World} {S : Nat → Prop} (k : Keep S w w') {ds : List Deferred} (h : Marks B w ds) (hS : ∀ D, B ≤ D → D < w.heap.size → (∀ c t f, w.heap[D]? ≠ some (.cells c t f)) → S D) : Marks B w' ds :=
  h.of_blocks fun D o hB ho hc _ => by
    have hl := (Array.getElem?_eq_some_iff.1 ho).1
    rw [k.block D (hS D hB hl (fun c t f e => by rw [ho] at e; cases e; cases hc)) hl, ho]

theorem Marks.below {B : Nat} {w w' : World} {n : Nat} (k : Below n w w') (hn : w.heap.size ≤ n) {ds : List Deferred} (h : Marks B w ds) : Marks B w' ds :=
  h.of_blocks fun D o _ ho _ _ => by rw [k.block D (by have := (Array.getElem?_eq_some_iff.1 ho).1; omega), ho]

theorem Marks.mem_lt {B : Nat} {w : World} : ∀ {ds : List Deferred}, Marks B w ds → ∀ d ∈ ds, ∃ D, d = { target := .collected D, args := #[] } ∧ D < w.heap.size
  | [], _, d, h => by simp at h
  | d :: ds, ⟨⟨D, h1, h2, h3, h4⟩, h5⟩, d', h => by
    rcases List.mem_cons.1 h with rfl | h
    · exact ⟨D, h1, (Array.getElem?_eq_some_iff.1 h3).1⟩
    · exact h5.mem_lt d' h

theorem Marks.cons {B D : Nat} {w : World} {ds : List Deferred} (h : Marks B w ds) (hB : B ≤ D) (hD : w.heap[D]? = some (.deferred (some []))) (hnew : ∀ d ∈ ds, d ≠ { target := .collected D, args := #[] }) :
    Marks B w ({ target := .collected D, args := #[] } :: ds) := ⟨⟨D, rfl, hB, hD, hnew⟩, h⟩

/-- The marks are taken: their blocks turn, no other does. -/
structure Gone (B : Nat) (w w' : World) : Prop where
  os : w'.os = w.os
  tape : w'.tape = w.tape
  output : w'.output = w.output
  size : w'.heap.size = w.heap.size
  low : ∀ k, k < B → w'.heap[k]? = w.heap[k]?
  other : ∀ (k : Nat) (o : Obj), w.heap[k]? = some o → (∀ x, o ≠ Obj.deferred x) → w'.heap[k]? = some o

theorem Gone.refl (B : Nat) (w : World) : Gone B w w := ⟨rfl, rfl, rfl, rfl, fun _ _ => rfl, fun _ _ h _ => h⟩

theorem Gone.cell {B : Nat} {w w' : World} (h : Gone B w w') {a : Addr} {v : Value} (hc : w.cell? a = some v) : w'.cell? a = some v := by
  unfold World.cell? at hc ⊢
  cases hh : w.heap[a.block]? with
  | none => simp [hh] at hc
  | some o =>
    rw [h.other _ _ hh (fun x e => by subst e; simp [hh] at hc)]
    rw [hh] at hc
    exact hc

theorem Gone.below {B : Nat} {w w' : World} (h : Gone B w w') : Below B w w' := ⟨h.os, h.tape, h.output, by rw [h.size]; exact Nat.le_refl _, h.low⟩

theorem Gone.isMap {B : Nat} {w w' : World} (h : Gone B w w') {M : Nat} {f : Int → Option Value} (hm : isMap w M f) : isMap w' M f := by
  obtain ⟨es, clk, hb, r⟩ := hm
  exact ⟨es, clk, h.other _ _ hb (fun x e => by cases e), r⟩

theorem leaves_marks {n : Nat} {P : Program} {fn : Func} {tmps : Array Value} {R : Ending → World → Prop} {B : Nat} : ∀ {ds : List Deferred} {w : World}, Marks B w ds →
    (∀ w', Gone B w w' → ∃ v, (results fn tmps).run P w' = .ok v w' ∧ R (.returned v) w') → LeavesInM Fence.wide n P fn tmps R ds .returning w
  | [], w, _, h => h w (Gone.refl B w)
  | d :: ds, w, ⟨⟨D, h1, h2, h3, h4⟩, h5⟩, h => by
    subst h1
    refine ⟨by simp, .inl ⟨D, _, rfl, run_takeDeferred h3, ?_⟩⟩
    have hlt := (Array.getElem?_eq_some_iff.1 h3).1
    refine leaves_marks (B := B) ?_ (fun w' hg => h w' ?_)
    · have hne : ∀ d' ∈ ds, d' ≠ { target := .collected D, args := #[] } := h4
      clear h h4
      induction ds with
      | nil => trivial
      | cons e es ih =>
        obtain ⟨⟨D', g1, g2, g3, g4⟩, g5⟩ := h5
        refine ⟨⟨D', g1, g2, ?_, g4⟩, ih g5 (fun d' hd' => hne d' (by simp [hd']))⟩
        have : D' ≠ D := fun e' => hne e (by simp) (by rw [g1, e'])
        exact (World.putObj_heap_other this).trans g3
    · have hsz : (w.putObj D (.deferred none)).heap.size = w.heap.size := by simp
      refine ⟨hg.os, hg.tape, hg.output, hg.size.trans hsz, fun k hk => ?_, fun k o hk ho => ?_⟩
      · exact (hg.low k hk).trans (World.putObj_heap_other (by omega))
      · have : k ≠ D := fun e => by subst e; rw [h3] at hk; cases hk; exact ho _ rfl
        exact hg.other k o ((World.putObj_heap_other this).trans hk) ho

theorem cells_at {w : World} {b o : Nat} {v : Value} (hc : w.cell? ⟨b, o, none⟩ = some v) : ∃ c t f, w.heap[b]? = some (.cells c t f) := by
  unfold World.cell? at hc
  cases hh : w.heap[b]? with
  | none => simp [hh] at hc
  | some ob => cases ob <;> simp_all

theorem below_drewN' {n : Nat} {w W : World} (h : Below n w W) (j : Nat) : Below n w (W.drewN j) := ⟨h.os, h.tape, h.output, h.size, h.block⟩
theorem below_putObj {n : Nat} {w W : World} (h : Below n w W) {l : Nat} (o : Obj) (hl : n ≤ l) : Below n w (W.putObj l o) :=
  h.trans ⟨rfl, rfl, rfl, by simp, fun k hk => World.putObj_heap_other (by omega)⟩

theorem Marks.drewN {B : Nat} {w : World} (n : Nat) {ds : List Deferred} (h : Marks B w ds) : Marks B (w.drewN n) ds :=
  Marks.of_blocks (w := w) (w' := w.drewN n) (fun D o _ ho _ _ => ho) h

theorem Marks.putObj {B : Nat} {w : World} {l : Nat} (o : Obj) (hl : l < B) {ds : List Deferred} (h : Marks B w ds) : Marks B (w.putObj l o) ds :=
  Marks.of_blocks (w := w) (w' := w.putObj l o) (fun D o' hB ho _ _ => (World.putObj_heap_other (by omega)).trans ho) h
end Go.Proofs.Ytmcnpfjichbijaa

/- A region that draws its order: its first operations read, its last ones write and wait for them. One walk in the text's order. -/
set_option linter.unusedSimpArgs false
set_option linter.unusedVariables false
namespace Go.Proofs.Ytmcnpfjichbijaa
open Go Go.RowKit
variable {P : Program} {ops : Array Oper} {md : Region.Mode} {C : World → Prop}

def wpAnyLQ (P : Program) (md : Region.Mode) (ops : Array Oper) (C : World → Prop) (n : Nat) (L : Array Bool → Act → Prop) : Nat → Array Bool → Act → Prop
  | 0, listed, a => L listed a
  | f + 1, listed, a =>
    Region.ready md ops listed ≠ [] ∧ ∀ i ∈ Region.ready md ops listed, i < n ∧ qOp P ops C i (wpAnyLQ P md ops C n L f (listed.setIfInBounds i true)) a

theorem wpAny_of_headQ {n g : Nat} {L : Array Bool → Act → Prop} {Q' : Exit → Act → World → Prop} (hL : ∀ listed a w, C w → L listed a → wpAny P md ops Q' g listed a w) :
    ∀ (f : Nat) (listed : Array Bool) (a : Act) (w : World), C w → wpAnyLQ P md ops C n L f listed a → wpAny P md ops Q' (f + g) listed a w
  | 0, listed, a, w, hC, h => by rw [Nat.zero_add]; exact hL _ _ _ hC h
  | f + 1, listed, a, w, hC, h => by
    rw [show f + 1 + g = (f + g) + 1 by omega]
    exact ⟨fun h0 => absurd h0 h.1, fun i hi => wpOp_of_qOp hC (fun a' w' hw' h' => wpAny_of_headQ hL f _ a' w' hw' h') (h.2 i hi).2⟩

theorem wpAnyLQ_first {n i : Nat} {oi : Oper} {v : Value} {L : Array Bool → Act → Prop} (hi : ops[i]? = some oi) (hsel : ∀ (j : Nat) (o : Oper) cs b, ops[j]? = some o → o.op ≠ .select cs b)
    (hs : Region.sinkB md ops n = true) (hc : Region.chainB md ops n = true) (hn : n < ops.size) (hin : i < n)
    (hdone : ∀ listed a, L listed a → ∀ j ∈ Region.ready md ops listed, n ≤ j) :
    ∀ (f : Nat) (listed : Array Bool) (a : Act), HeadInv md ops n listed →
      (∀ j oj, ops[j]? = some oj → j ≠ i → listed.getD j true = false → (∀ e ∈ oj.after, Region.binds md e = true → e.on ≠ i) → oi.apart ops oj = true) →
      i ∈ Region.ready md ops listed → YieldsIn P ops C oi v a →
      wpAnyLQ P md ops C n L f (listed.setIfInBounds i true) (a.put oi.dst v) → wpAnyLQ P md ops C n L (f + 1) listed a := by
  intro f
  induction f with
  | zero =>
    intro listed a inv _ hr hy H
    have hun := (mem_ready.1 hr).1
    refine ⟨fun h => (by rw [h] at hr; cases hr), fun j hj => ?_⟩
    have hjn : j < n := by
      rcases Nat.lt_or_ge j n with h | h
      · exact h
      · exact absurd hj (tail_waits hs hc hn inv _ i rfl hin hun j h)
    refine ⟨hjn, ?_⟩
    by_cases hji : j = i
    · subst hji; exact hy.qOp hi H
    · have := hdone _ _ H j (ready_mono hj hji)
      omega
  | succ f ih =>
    intro listed a inv hfree hr hy H
    have hun := (mem_ready.1 hr).1
    refine ⟨fun h => (by rw [h] at hr; cases hr), fun j hj => ?_⟩
    have hjn : j < n := by
      rcases Nat.lt_or_ge j n with h | h
      · exact h
      · exact absurd hj (tail_waits hs hc hn inv _ i rfl hin hun j h)
    refine ⟨hjn, ?_⟩
    by_cases hji : j = i
    · subst hji; exact hy.qOp hi H
    · have h1 := (H.2 j (ready_mono hj hji)).2
      obtain ⟨hjun, oj, hoj, hall⟩ := mem_ready.1 hj
      have hnot : ∀ e ∈ oj.after, Region.binds md e = true → e.on ≠ i := fun e he hb heq => by
        have h1 := hall e he hb
        rw [heq, getD_both hun] at h1
        cases h1
      have h2 := qOp_put hoj (hfree j oj hoj hji hjun hnot) (fun cs b => hsel i oi cs b hi) (fun cs b => hsel j oj cs b hoj) hy h1
      have hfree' : ∀ k ok, ops[k]? = some ok → k ≠ i → (listed.setIfInBounds j true).getD k true = false →
          (∀ e ∈ ok.after, Region.binds md e = true → e.on ≠ i) → oi.apart ops ok = true := fun k ok hk hki hun hno => by
        refine hfree k ok hk hki ?_ hno
        by_cases hjk : j = k
        · subst hjk; exact hjun
        · rw [getD_set_ne true hjk] at hun; exact hun
      refine qOp_mono (fun a' h3 => ih (listed.setIfInBounds j true) a' (inv.set hj hjn) hfree' (ready_mono hr (Ne.symm hji)) h3.1 ?_) h2
      rw [Array.setIfInBounds_comm _ _ hji]
      exact h3.2

theorem wpAnyLQ_lex {n g : Nat} {Lq : Act → Prop} (hsel : Region.noSelect ops = true) (hs : Region.sinkB md ops n = true) (hc : Region.chainB md ops n = true) (hn : n < ops.size) :
    ∀ (l : List Oper) (k : Nat) (listed : Array Bool) (a : Act), (∀ j, j < l.length → l[j]? = ops[k + j]?) → k + l.length = n → HeadInv md ops n listed →
    Region.lexHead md ops g l.length k listed = true → wpQuiet P ops C Lq l a →
    wpAnyLQ P md ops C n (fun listed' a' => Region.seqB md ops g n listed' = true ∧ Lq a') l.length listed a
  | [], k, listed, a, _, hk, _, hB, h => by
    have : k = n := by simpa using hk
    subst this
    exact ⟨by simpa [Region.lexHead] using hB, h⟩
  | o :: l, k, listed, a, hl, hk, inv, hB, h => by
    have h0 : ops[k]? = some o := by simpa using (hl 0 (by simp)).symm
    simp only [List.length_cons, Region.lexHead, Bool.and_eq_true] at hB
    obtain ⟨⟨hr, hf⟩, hB'⟩ := hB
    have hkn : k < n := by simp only [List.length_cons] at hk; omega
    have hr' : k ∈ Region.ready md ops listed := by simpa using hr
    have hst : qOp P ops C k (wpQuiet P ops C Lq l) a := by unfold qOp; simp only [h0]; exact h
    obtain ⟨v, hy, hK⟩ := yieldsIn_of_qOp h0 hst
    exact wpAnyLQ_first h0 (Region.noSelect_spec hsel) hs hc hn hkn (fun listed' a' hL => seqB_ready hL.1) l.length listed a inv (Region.free_spec h0 hf) hr' hy
      (wpAnyLQ_lex hsel hs hc hn l (k + 1) _ _ (fun j hj => by have := hl (j + 1) (by simp; omega); simpa [Nat.add_assoc, Nat.add_comm 1 j] using this) (by simp only [List.length_cons] at hk; omega) (inv.set hr' hkn) hB' hK)

/-- Its first n operations are quiet in the class; those behind them are walked as they stand. -/
theorem wp_region_quiet_tail {id : Nat} {Q : Exit → Act → World → Prop} {a : Act} {w : World} {l : List Oper} (n : Nat) (hm : P.follows .mixedOrders = true) (hB : Region.lexTailB .any l.toArray n = true)
    (hC : C { w with drawn := w.drawn + 1 })
    (h : wpQuiet P l.toArray C (fun a' => ∀ w', C w' → wpList P l.toArray Q (l.drop n) a' w') (l.take n) a) : (Code.region id l.toArray true).wp P Q a w := by
  simp only [Region.lexTailB, Bool.and_eq_true, decide_eq_true_eq] at hB
  obtain ⟨⟨⟨⟨hsel, hn⟩, hs⟩, hc⟩, hlex⟩ := hB
  have hn' : n < l.length := by simpa using hn
  have htl : (l.take n).length = n := by simp; omega
  have hdl : (l.drop n).length = l.toArray.size - n := by simp
  have inv0 : HeadInv .any l.toArray n (Array.replicate l.toArray.size false) :=
    ⟨by simp, fun j oj _ hl => (by rw [getD_replicate_false] at hl; cases hl), fun t _ ht => getD_in (by simpa using ht) (getD_replicate_false _ _)⟩
  have H := wpAnyLQ_lex (md := .any) (g := l.toArray.size - n) hsel hs hc hn (l.take n) 0 _ a (fun j hj => by
    have hj' : j < n := by rw [htl] at hj; exact hj
    simp [hj']) (by simpa using htl) inv0 (by rw [htl]; exact hlex) h
  refine wp_region_any hm ?_
  have := wpAny_of_headQ (Q' := Q) (g := l.toArray.size - n) (fun listed a' w' hw' hL => by
    have := wpAny_of_seq (md := .any) (Q' := Q) (l.drop n) n listed a' w' (fun j => by simp [List.getElem?_drop]) (by rw [hdl]; exact hL.1) (hL.2 w' hw')
    rwa [hdl] at this) _ _ _ _ hC H
  rw [htl, show n + (l.toArray.size - n) = l.toArray.size by omega] at this
  exact this

theorem wp_region_over_tail {id : Nat} {Q : Exit → Act → World → Prop} {a : Act} {w : World} {l : List Oper} (n : Nat) (hm : P.follows .mixedOrders = true) (hB : Region.lexTailB .any l.toArray n = true)
    (h : wpQuiet P l.toArray (fun w' => ∃ x, w' = over w x) (fun a' => ∀ w', (∃ x, w' = over w x) → wpList P l.toArray Q (l.drop n) a' w') (l.take n) a) : (Code.region id l.toArray true).wp P Q a w :=
  wp_region_quiet_tail n hm hB ⟨_, over_drawn w⟩ h

theorem wp_region_drew_tail {id : Nat} {Q : Exit → Act → World → Prop} {a : Act} {w : World} {l : List Oper} (n : Nat) (hm : P.follows .mixedOrders = true) (hB : Region.lexTailB .any l.toArray n = true)
    (h : wpQuiet P l.toArray (fun w' => ∃ n, w' = w.drewN n) (fun a' => ∀ w', (∃ n, w' = w.drewN n) → wpList P l.toArray Q (l.drop n) a' w') (l.take n) a) : (Code.region id l.toArray true).wp P Q a w :=
  wp_region_quiet_tail n hm hB ⟨1, rfl⟩ h
end Go.Proofs.Ytmcnpfjichbijaa

/- The same region inside a round of a range over a function. -/
set_option linter.unusedSimpArgs false
set_option linter.unusedVariables false
namespace Go.Proofs.Ytmcnpfjichbijaa
open Go Go.RowKit
variable {P : Program} {ops : Array Oper} {md : Region.Mode} {C : World → Prop}

theorem rowsIn_round {n l : Nat} {row : String} {args : Array Value} {w : World} {R : Value → World → Prop} (h : Rows P row args w R) : RowsIn (Fence.wide.inRound l) n P row args w R :=
  fun c cs _ => let ⟨v, w', r, s⟩ := h c cs; ⟨v, w', r, stepsIn_wide.2 s⟩

theorem operIn_round {n l : Nat} {o : Oper} {a : Act} {w : World} {K : Act → World → Prop} {Q : Exit → Act → World → Prop} (hd : ∀ c, o.op ≠ .defer c) (h : o.wp P a w K Q) : o.wpIn (Fence.wide.inRound l) n P a w K Q := by
  unfold Oper.wpIn
  refine ⟨fun _ _ => trivial, ?_⟩
  rw [Oper.semAt_eq _ _ _ hd]
  unfold Oper.wp at h
  generalize (execOp a.eval o).run P w = r at h ⊢
  cases r with
  | ok x w' =>
    cases x <;> simp only [Oper.uponIn, Oper.upon] at h ⊢ <;>
      first
        | exact h
        | exact ⟨fun e => by simp [Fence.inRound, Fence.wide] at e, CallsIn.inRound l (callsIn_wide.2 h)⟩
        | exact ⟨fun e => by simp [Fence.inRound, Fence.wide] at e, rowsIn_round h⟩
  | halt x w' => cases x <;> simp only [Oper.uponIn, Oper.upon] at h ⊢ <;> exact h

theorem wpOpIn_round {n l i : Nat} {K K' : Act → World → Prop} {Q : Exit → Act → World → Prop} {a : Act} {w : World} (hd : ∀ (j : Nat) (o : Oper), ops[j]? = some o → ∀ c, o.op ≠ .defer c) (hL : ¬ LetsOut Q) (hK : ∀ a w, K a w → K' a w)
    (h : wpOp P ops Q i K a w) : wpOpIn (Fence.wide.inRound l) n P ops Q i K' a w := by
  unfold wpOp at h
  unfold wpOpIn
  split
  · rename_i ho; rw [ho] at h; exact hK _ _ h
  · rename_i o ho
    rw [ho] at h
    dsimp only at h
    split
    · rename_i hw
      rw [if_pos hw] at h
      rcases h with h | ⟨_, h⟩
      · exact Oper.wpIn_mono hK (operIn_round (hd i o ho) h)
      · exact absurd h hL
    · rename_i hw
      rw [if_neg hw] at h
      exact ⟨fun _ _ => trivial, hK _ _ h⟩

theorem wpAnyIn_round {n l : Nat} {Q : Exit → Act → World → Prop} (hd : ∀ (j : Nat) (o : Oper), ops[j]? = some o → ∀ c, o.op ≠ .defer c) (hL : ¬ LetsOut Q) : ∀ (fuel : Nat) (listed : Array Bool) (a : Act) (w : World),
    wpAny P md ops Q fuel listed a w → wpAnyIn (Fence.wide.inRound l) n P md ops Q fuel listed a w
  | 0, _, _, _, h => h
  | fuel + 1, listed, a, w, h => ⟨h.1, fun i hi => wpOpIn_round hd hL (fun a w h => wpAnyIn_round hd hL fuel _ a w h) (h.2 i hi)⟩

/-- No operation defers. -/
def noDefer (l : List Oper) : Bool := l.all fun o => match o.op with | .defer _ => false | _ => true

theorem noDefer_spec {l : List Oper} (h : noDefer l = true) : ∀ (j : Nat) (o : Oper), l.toArray[j]? = some o → ∀ c, o.op ≠ .defer c := by
  intro j o ho c e
  have := List.all_eq_true.1 h o (List.mem_of_getElem? (by simpa using ho))
  rw [e] at this
  cases this

theorem wp_region_any_of {id : Nat} {Q : Exit → Act → World → Prop} {a : Act} {w : World} {l : List Oper} {lv m : Nat} (hm : P.follows .mixedOrders = true) (hd : noDefer l = true) (hL : ¬ LetsOut Q)
    (h : wpAny P .any l.toArray Q l.toArray.size (Array.replicate l.toArray.size false) a { w with drawn := w.drawn + 1 }) : (Code.region id l.toArray true).wpIn (Fence.wide.inRound lv) m P Q a w :=
  wpIn_region_any hm (wpAnyIn_round (noDefer_spec hd) hL _ _ _ _ h)

/-- Its first n operations are quiet in the class; those behind them are walked as they stand. In a round. -/
theorem gi_region_quiet_tail {id : Nat} {Q : Exit → Act → World → Prop} {a : Act} {w : World} {l : List Oper} {lv m : Nat} (n : Nat) (hm : P.follows .mixedOrders = true) (hB : Region.lexTailB .any l.toArray n = true)
    (hd : noDefer l = true) (hL : ¬ LetsOut Q) (hC : C { w with drawn := w.drawn + 1 })
    (h : wpQuiet P l.toArray C (fun a' => ∀ w', C w' → wpList P l.toArray Q (l.drop n) a' w') (l.take n) a) : (Code.region id l.toArray true).wpIn (Fence.wide.inRound lv) m P Q a w := by
  simp only [Region.lexTailB, Bool.and_eq_true, decide_eq_true_eq] at hB
  obtain ⟨⟨⟨⟨hsel, hn⟩, hs⟩, hc⟩, hlex⟩ := hB
  have hn' : n < l.length := by simpa using hn
  have htl : (l.take n).length = n := by simp; omega
  have hdl : (l.drop n).length = l.toArray.size - n := by simp
  have inv0 : HeadInv .any l.toArray n (Array.replicate l.toArray.size false) :=
    ⟨by simp, fun j oj _ hl => (by rw [getD_replicate_false] at hl; cases hl), fun t _ ht => getD_in (by simpa using ht) (getD_replicate_false _ _)⟩
  have H := wpAnyLQ_lex (md := .any) (g := l.toArray.size - n) hsel hs hc hn (l.take n) 0 _ a (fun j hj => by
    have hj' : j < n := by rw [htl] at hj; exact hj
    simp [hj']) (by simpa using htl) inv0 (by rw [htl]; exact hlex) h
  refine wp_region_any_of hm hd hL ?_
  have := wpAny_of_headQ (Q' := Q) (g := l.toArray.size - n) (fun listed a' w' hw' hL => by
    have := wpAny_of_seq (md := .any) (Q' := Q) (l.drop n) n listed a' w' (fun j => by simp [List.getElem?_drop]) (by rw [hdl]; exact hL.1) (hL.2 w' hw')
    rwa [hdl] at this) _ _ _ _ hC H
  rw [htl, show n + (l.toArray.size - n) = l.toArray.size by omega] at this
  exact this

theorem gi_region_over_tail {id : Nat} {Q : Exit → Act → World → Prop} {a : Act} {w : World} {l : List Oper} {lv m : Nat} (n : Nat) (hm : P.follows .mixedOrders = true) (hB : Region.lexTailB .any l.toArray n = true)
    (hd : noDefer l = true) (hL : ¬ LetsOut Q)
    (h : wpQuiet P l.toArray (fun w' => ∃ x, w' = over w x) (fun a' => ∀ w', (∃ x, w' = over w x) → wpList P l.toArray Q (l.drop n) a' w') (l.take n) a) : (Code.region id l.toArray true).wpIn (Fence.wide.inRound lv) m P Q a w :=
  gi_region_quiet_tail n hm hB hd hL ⟨_, over_drawn w⟩ h

theorem gi_region_drew_tail {id : Nat} {Q : Exit → Act → World → Prop} {a : Act} {w : World} {l : List Oper} {lv m : Nat} (n : Nat) (hm : P.follows .mixedOrders = true) (hB : Region.lexTailB .any l.toArray n = true)
    (hd : noDefer l = true) (hL : ¬ LetsOut Q)
    (h : wpQuiet P l.toArray (fun w' => ∃ n, w' = w.drewN n) (fun a' => ∀ w', (∃ n, w' = w.drewN n) → wpList P l.toArray Q (l.drop n) a' w') (l.take n) a) : (Code.region id l.toArray true).wpIn (Fence.wide.inRound lv) m P Q a w :=
  gi_region_quiet_tail n hm hB hd hL ⟨1, rfl⟩ h

/-- The whole region is quiet. -/
theorem gi_region_quiet {id : Nat} {Q : Exit → Act → World → Prop} {a : Act} {w : World} {l : List Oper} {lv m : Nat} (hm : P.follows .mixedOrders = true) (hd : noDefer l = true) (hL : ¬ LetsOut Q)
    (h : ∀ Q' : Exit → Act → World → Prop, (∀ a w, Q' .normal a w → Q .normal a w) → (¬ LetsOut Q') → wpAny P .any l.toArray Q' l.toArray.size (Array.replicate l.toArray.size false) a { w with drawn := w.drawn + 1 }) :
    (Code.region id l.toArray true).wpIn (Fence.wide.inRound lv) m P Q a w := wp_region_any_of hm hd hL (h Q (fun _ _ h => h) hL)
end Go.Proofs.Ytmcnpfjichbijaa
