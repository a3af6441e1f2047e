/- Maps from ints that the call itself makes, read as functions. -/
import Derived.Test.YtmcnpfjichbijaaOver
import Derived.RangeFuncNested
set_option linter.unusedSimpArgs false
set_option linter.unusedVariables false
namespace Go.Proofs.Ytmcnpfjichbijaa
open Go Go.RowKit

/-- Which entry has the key k? -/
def keyIs (k : Int) (e : MapEntry) : Bool :=
  match e.key with
  | .int .i64 j => k == j
  | _ => false

/-- Block M is a map whose keys are ints; it reads as f. -/
def isMap (w : World) (M : Nat) (f : Int → Option Value) : Prop :=
  ∃ es clk, w.heap[M]? = some (.map es clk) ∧ (∀ e ∈ es.toList, ∃ j, e.key = .int .i64 j) ∧ ∀ k, (es.toList.find? (keyIs k)).map (·.val) = f k

theorem isMap.lt {w : World} {M : Nat} {f : Int → Option Value} (h : isMap w M f) : M < w.heap.size := by
  obtain ⟨es, clk, h, _⟩ := h
  exact (Array.getElem?_eq_some_iff.1 h).1

theorem isMap.of_block {w w' : World} {M : Nat} {f : Int → Option Value} (h : isMap w M f) (hb : w'.heap[M]? = w.heap[M]?) : isMap w' M f := by
  obtain ⟨es, clk, h, r⟩ := h
  exact ⟨es, clk, hb.trans h, r⟩

theorem isMap.over {w : World} {M : Nat} {f : Int → Option Value} (h : isMap w M f) (x : World) : isMap (over w x) M f := h.of_block (over_block w x M h.lt)

theorem isMap.below {w w' : World} {M n : Nat} {f : Int → Option Value} (h : isMap w M f) (hb : Below n w w') (hn : M < n) : isMap w' M f := h.of_block (hb.block M hn)

theorem isMap.alloc {w : World} {M : Nat} {f : Int → Option Value} (h : isMap w M f) (o : Obj) : isMap (w.alloc o) M f := h.of_block (Below.heap_alloc w o M h.lt)

theorem isMap.setCell {w : World} {M : Nat} {f : Int → Option Value} (h : isMap w M f) (a : Addr) (v : Value) (hne : M ≠ a.block) : isMap (w.setCell a v) M f := h.of_block (Below.heap_setCell w a v M hne)

theorem isMap_new (w : World) : isMap (w.alloc (.map #[] 0)) w.heap.size fun _ => none :=
  ⟨#[], 0, World.alloc_heap_new w _, by simp, by simp⟩

theorem isMap.congr {w : World} {M : Nat} {f g : Int → Option Value} (h : isMap w M f) (hg : ∀ k, f k = g k) : isMap w M g := by
  have : f = g := funext hg
  rwa [← this]

theorem findNow_int (k : Int) : ∀ (es : List MapEntry) (i : Nat), (∀ e ∈ es, ∃ j, e.key = .int .i64 j) →
    ∃ r, Instr.findNow (.int .i64) (.int .i64 k) es i = some r ∧ r.map (·.2) = (es.find? (keyIs k)).map (·.val) ∧
      (r.map (·.1) = (es.findIdx? (keyIs k)).map (· + i))
  | [], i, _ => ⟨none, rfl, rfl, rfl⟩
  | e :: es, i, h => by
    obtain ⟨j, hj⟩ := h e (by simp)
    obtain ⟨r, h1, h2, h3⟩ := findNow_int k es (i + 1) (fun e he => h e (by simp [he]))
    by_cases hk : k = j
    · subst hk
      exact ⟨some (i, e.val), by simp [Instr.findNow, hj, Instr.sameNow], by simp [keyIs, hj], by simp [keyIs, hj, List.findIdx?_cons]⟩
    · have hk' : (k == j) = false := by simp [hk]
      refine ⟨r, by simp [Instr.findNow, hj, Instr.sameNow, hk', h1], by simp [keyIs, hj, hk, h2], ?_⟩
      rw [h3, List.findIdx?_cons]
      simp [keyIs, hj, hk, Option.map_map, Function.comp_def, Nat.add_comm, Nat.add_left_comm]

theorem run_checkKey_int {P : Program} {K : TypeId} (hK : P.underlying K = some (.int .i64)) (b : Bool) (k : Int) (w : World) :
    (Instr.checkKey b 10000 K (.int .i64 k)).run P w = .ok () w := by
  unfold Instr.checkKey
  simp [Sem.run_bind, run_underlying hK, Result.andThen]

theorem run_findKey_int {P : Program} {K : TypeId} (hK : P.underlying K = some (.int .i64)) (k : Int) (es : Array MapEntry) (h : ∀ e ∈ es.toList, ∃ j, e.key = .int .i64 j) (w : World) :
    ∃ r, (Instr.findKey K (.int .i64 k) es.toList).run P w = .ok r w ∧ r.map (·.2) = (es.toList.find? (keyIs k)).map (·.val) ∧ r.map (·.1) = es.toList.findIdx? (keyIs k) := by
  obtain ⟨r, h1, h2, h3⟩ := findNow_int k es.toList 0 h
  refine ⟨r, ?_, h2, by simpa using h3⟩
  unfold Instr.findKey
  simp [Sem.run_bind, run_underlying hK, Result.andThen, h1]

theorem run_lookup_map {P : Program} {t K e : TypeId} (ht : P.underlying t = some (.map K e)) (hK : P.underlying K = some (.int .i64)) {w : World} {M : Nat} {f : Int → Option Value} (h : isMap w M f)
    {z : Value} (hz : (zeroValue e).run P w = .ok z w) (k : Int) (ok : Bool) :
    (Instr.lookup t (.map (some M)) (.int .i64 k) ok).run P w = .ok (if ok then .tuple #[(f k).getD z, .bool (f k).isSome] else (f k).getD z) w := by
  obtain ⟨es, clk, hb, hk, hf⟩ := h
  obtain ⟨r, h1, h2, h3⟩ := run_findKey_int hK k es hk w
  unfold Instr.lookup
  have hg : (getObj M).run P w = .ok (.map es clk) w := by simp [getObj, Sem.run, hb]
  have hc := run_checkKey_int (P := P) hK es.isEmpty k w
  rw [← hf k, ← h2]
  simp only [Sem.run_bind, run_underlying ht, Result.andThen, Sem.run_pure, hg, hc, h1]
  cases r with
  | none => cases ok <;> simp [hz, Result.andThen, Sem.run_bind]
  | some p => cases ok <;> simp [Sem.run_bind, Result.andThen]

/-- f, with v at k. -/
def upd (f : Int → Option Value) (k : Int) (v : Value) : Int → Option Value := fun j => if j = k then some v else f j

theorem find_modify (k j : Int) (v : Value) : ∀ (es : List MapEntry) (i : Nat), (∀ e ∈ es, ∃ q, e.key = .int .i64 q) → es.findIdx? (keyIs k) = some i →
    ((es.modify i fun e => { e with key := .int .i64 k, val := v }).find? (keyIs j)).map (·.val) = if j = k then some v else (es.find? (keyIs j)).map (·.val)
  | [], i, _, h => by simp at h
  | e :: es, i, hk, h => by
    obtain ⟨q, hq⟩ := hk e (by simp)
    by_cases hkq : k = q
    · subst hkq
      have : i = 0 := by simpa [List.findIdx?_cons, keyIs, hq] using h.symm
      subst this
      by_cases hjk : j = k
      · subst hjk; simp [List.find?_cons, keyIs]
      · have : (j == k) = false := by simp [hjk]
        simp [List.find?_cons, keyIs, hq, this, hjk]
    · have hne : (k == q) = false := by simp [hkq]
      rw [List.findIdx?_cons] at h
      simp only [keyIs, hq, hne] at h
      simp at h
      obtain ⟨i', h', rfl⟩ := h
      have ih := find_modify k j v es i' (fun e he => hk e (by simp [he])) (by simpa [keyIs] using h')
      by_cases hjq : j = q
      · subst hjq
        have : ¬ j = k := fun e => hkq e.symm
        simp [List.find?_cons, keyIs, hq, this]
      · have : (j == q) = false := by simp [hjq]
        simp only [List.modify_succ_cons, List.find?_cons, keyIs, hq, this]
        exact ih

theorem find_push (k j : Int) (v : Value) (es : List MapEntry) (b : Nat) (h : es.findIdx? (keyIs k) = none) :
    ((es ++ [({ key := .int .i64 k, val := v, born := b } : MapEntry)]).find? (keyIs j)).map (·.val) = if j = k then some v else (es.find? (keyIs j)).map (·.val) := by
  rw [List.find?_append]
  by_cases hjk : j = k
  · subst hjk
    have : es.find? (keyIs j) = none := by
      rw [List.findIdx?_eq_none_iff] at h
      rw [List.find?_eq_none]
      intro x hx; simp [h x hx]
    simp [this, keyIs]
  · have : (j == k) = false := by simp [hjk]
    simp [keyIs, this, hjk]

/-- 'm[k] = v': one block turns: it reads as f, with v at k. -/
theorem run_mapUpdate_map {P : Program} {t K e : TypeId} (ht : P.underlying t = some (.map K e)) (hK : P.underlying K = some (.int .i64)) {w : World} {M : Nat} {f : Int → Option Value} (h : isMap w M f)
    (k : Int) (v : Value) :
    ∃ o, (Instr.mapUpdate t (.map (some M)) (.int .i64 k) v).run P w = .ok () (w.putObj M o) ∧ isMap (w.putObj M o) M (upd f k v) ∧ o.isCells = false ∧ (∃ o', w.heap[M]? = some o' ∧ o'.isCells = false) := by
  have hlt := h.lt
  obtain ⟨es, clk, hb, hk, hf⟩ := h
  obtain ⟨r, h1, h2, h3⟩ := run_findKey_int hK k es hk w
  have hg : (getObj M).run P w = .ok (.map es clk) w := by simp [getObj, Sem.run, hb]
  have hs : ∀ o, (setObj M o).run P w = .ok () (w.putObj M o) := fun o => by simp [setObj, Sem.run, hb, World.putObj]
  have hc := run_checkKey_int (P := P) hK false k w
  cases r with
  | none =>
    have hn : es.toList.findIdx? (keyIs k) = none := by simpa using h3.symm
    refine ⟨.map (es.push { key := .int .i64 k, val := v, born := clk }) (clk + 1), ?_, ⟨_, _, World.putObj_heap_same hlt, ?_, ?_⟩, rfl, _, hb, rfl⟩
    · unfold Instr.mapUpdate
      simp [Sem.run_bind, run_underlying ht, Result.andThen, hg, hc, h1, hs]
    · intro e he
      simp at he
      rcases he with he | rfl
      · exact hk e (by simpa using he)
      · exact ⟨k, rfl⟩
    · intro j
      rw [Array.toList_push, find_push k j v es.toList clk hn, hf]
      rfl
  | some p =>
    obtain ⟨i, u⟩ := p
    have hn : es.toList.findIdx? (keyIs k) = some i := by simpa using h3.symm
    have hi := List.findIdx?_eq_some_iff_getElem.1 hn
    obtain ⟨hil, hik, _⟩ := hi
    have hkey : es[i]?.map (·.key) = some (.int .i64 k) := by
      obtain ⟨q, hq⟩ := hk es.toList[i] (List.getElem_mem hil)
      have : k = q := by
        unfold keyIs at hik
        rw [hq] at hik
        simpa using hik
      subst this
      have hil' : i < es.size := by simpa using hil
      rw [Array.getElem?_eq_getElem hil']
      simpa using hq
    refine ⟨.map (es.modify i fun e => { e with key := .int .i64 k, val := v }) clk, ?_, ⟨_, _, World.putObj_heap_same hlt, ?_, ?_⟩, rfl, _, hb, rfl⟩
    · unfold Instr.mapUpdate
      simp [Sem.run_bind, run_underlying ht, Result.andThen, hg, hc, h1, hs, hkey, Instr.keyThatStays, Instr.sameBits]
    · intro e he
      simp [Array.toList_modify] at he
      obtain ⟨n, hnn⟩ := List.mem_iff_getElem?.1 he
      rw [List.getElem?_modify] at hnn
      by_cases hin : i = n
      · subst hin
        cases hx : es.toList[i]? with
        | none => rw [hx] at hnn; simp at hnn
        | some y => rw [hx] at hnn; simp at hnn; exact ⟨k, by rw [← hnn]⟩
      · simp [hin] at hnn
        exact hk e (List.mem_of_getElem? (by simpa using hnn))
    · intro j
      rw [Array.toList_modify, find_modify k j v es.toList i hk hn, hf]
      rfl

theorem wpList_mapUpdate {P : Program} {w : World} {ops : Array Oper} {rest : List Oper} {o : Oper} {a : Act} {Q : Exit → Act → World → Prop} {m x y : Operand} {t K e : TypeId} {M : Nat} {f : Int → Option Value} {k : Int} {v : Value}
    (hg : o.guard = none) (hop : o.op = Op.mapUpdate t m x y) (ht : P.underlying t = some (.map K e)) (hK : P.underlying K = some (.int .i64))
    (hm : a.eval m = .map (some M)) (hx : a.eval x = .int .i64 k) (hy : a.eval y = v) (h : isMap w M f)
    (hk : ∀ o', isMap (w.putObj M o') M (upd f k v) → o'.isCells = false → wpList P ops Q rest (a.put o.dst undef) (w.putObj M o')) : wpList P ops Q (o :: rest) a w := by
  refine wpList_plain hg fun K' hK' => ?_
  obtain ⟨o', h1, h2, h3, _⟩ := run_mapUpdate_map (P := P) ht hK h k v
  unfold Oper.wp
  simp only [execOp, hop, hm, hx, hy, Sem.run_bind, h1, Result.andThen, Sem.run_pure, Oper.upon]
  exact hK' _ _ (hk o' h2 h3)

theorem putObj_cell {w : World} {M : Nat} {o o' : Obj} (hM : w.heap[M]? = some o) (ho : o.isCells = false) (ho' : o'.isCells = false) (a : Addr) : (w.putObj M o').cell? a = w.cell? a := by
  unfold World.cell?
  by_cases e : a.block = M
  · rw [e, World.putObj_heap_same (Array.getElem?_eq_some_iff.1 hM).1, hM]
    cases o <;> cases o' <;> simp_all [Obj.isCells]
  · rw [World.putObj_heap_other e]

theorem isMap.putObj {w : World} {M M' : Nat} {f : Int → Option Value} {o : Obj} (h : isMap w M f) (hne : M ≠ M') : isMap (w.putObj M' o) M f := h.of_block (World.putObj_heap_other hne)

theorem isMap.notCells {w : World} {M : Nat} {f : Int → Option Value} (h : isMap w M f) : ∃ o, w.heap[M]? = some o ∧ o.isCells = false := by
  obtain ⟨es, clk, hb, _⟩ := h
  exact ⟨_, hb, rfl⟩
end Go.Proofs.Ytmcnpfjichbijaa
