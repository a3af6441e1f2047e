/- A book is read: the loops. -/
import Derived.Test.YtmcnpfjichbijaaC6
set_option linter.unusedSimpArgs false
set_option linter.unusedVariables false
namespace Go.Proofs.Ytmcnpfjichbijaa
open Go Go.Proofs Go.RowKit Go.Shelf


theorem workCells_head (v0 v1 : Value) (m : Option Nat) (n : Nat) (h : n < 4) : (workCells v0 v1 m)[n]? = (#[v0, v1, .map m, .slice none 0 0] : Array Value)[n]? := by
  unfold workCells
  rw [Array.getElem?_append_left (by simpa using h)]

/-- The book, as far as it is read. -/
structure Rd (b : Bk) (Ai Ac : Option Addr) (ci cc W M : Nat) (w0 w : World) (l : List Crt) (A : Option Addr) (cn : Nat) : Prop where
  c0 : w.cell? ⟨W, 0, none⟩ = some (.slice Ai b.items.length ci)
  c1 : w.cell? ⟨W, 1, none⟩ = some (.slice Ac b.certs.length cc)
  c2 : w.cell? ⟨W, 2, none⟩ = some (.map (some M))
  c3 : w.cell? ⟨W, 3, none⟩ = some (.slice A (firsts l).length cn)
  bad : ∀ n : Nat, n ≤ 999 → w.cell? ⟨W, 4 + n, none⟩ = some (.bool false)
  fz : ∀ o, w.frozen? ⟨W, o, none⟩ = false
  mp : isMap w M fun n => (look l n).map crtV
  own : w.ownsRow (W + 1) 3 1 (.slice A (firsts l).length cn) (firsts l).length ((firsts l).map (Value.int .i64))
  kept : Keep (· < M) w0 w
  hMW : M < W
  h0 : M = w0.heap.size

theorem Rd.start (b : Bk) (Ai Ac : Option Addr) (ci cc : Nat) (w0 : World) :
    Rd b Ai Ac ci cc (w0.heap.size + 1) w0.heap.size w0 ((w0.alloc (.map #[] 0)).alloc (.cells (workCells (.slice Ai b.items.length ci) (.slice Ac b.certs.length cc) (some w0.heap.size)) 99)) [] none 0 := by
  have hs : (w0.alloc (.map #[] 0)).heap.size = w0.heap.size + 1 := by simp
  have hb := World.alloc_heap_new (w0.alloc (.map #[] 0)) (.cells (workCells (.slice Ai b.items.length ci) (.slice Ac b.certs.length cc) (some w0.heap.size)) 99)
  rw [hs] at hb
  have hc : ∀ o : Nat, ((w0.alloc (.map #[] 0)).alloc (.cells (workCells (.slice Ai b.items.length ci) (.slice Ac b.certs.length cc) (some w0.heap.size)) 99)).cell? ⟨w0.heap.size + 1, o, none⟩ = (workCells (.slice Ai b.items.length ci) (.slice Ac b.certs.length cc) (some w0.heap.size))[o]? := fun o => by
    unfold World.cell?; rw [hb]; rfl
  refine ⟨?_, ?_, ?_, ?_, ?_, ?_, ?_, ?_, ?_, by omega, rfl⟩
  · rw [hc, workCells_head _ _ _ 0 (by omega)]; rfl
  · rw [hc, workCells_head _ _ _ 1 (by omega)]; rfl
  · rw [hc, workCells_head _ _ _ 2 (by omega)]; rfl
  · rw [hc, workCells_head _ _ _ 3 (by omega)]; rfl
  · intro n hn; rw [hc]; exact workCells_bad _ _ _ n hn
  · intro o; unfold World.frozen?; rw [hb]; simp
  · exact ((isMap_new w0).alloc _).congr (by simp [look])
  · exact ⟨by simp [firsts], .inl ⟨by simp [firsts], by simp [firsts]⟩⟩
  · exact (Keep.alloc _ _ _).trans (Keep.alloc _ _ _)

theorem Rd.keep {b : Bk} {Ai Ac : Option Addr} {ci cc W M : Nat} {w0 w w' : World} {l : List Crt} {A : Option Addr} {cn : Nat} (h : Rd b Ai Ac ci cc W M w0 w l A cn) (k : Keep (fun _ => True) w w') : Rd b Ai Ac ci cc W M w0 w' l A cn := by
  refine ⟨k.cell h.c0 trivial, k.cell h.c1 trivial, k.cell h.c2 trivial, k.cell h.c3 trivial, fun n hn => k.cell (h.bad n hn) trivial, fun o => ?_, h.mp.keep k trivial, ?_, h.kept.trans (k.mono fun _ _ => trivial), h.hMW, h.h0⟩
  · have := h.fz o
    have hb := k.block W trivial (lt_of_cell h.c0)
    unfold World.frozen? at this ⊢
    rw [hb]; exact this
  · refine ⟨h.own.1, ?_⟩
    rcases h.own.2 with h1 | ⟨g, cap, cur, h1, h2, h3, h4⟩
    · exact .inl h1
    · exact .inr ⟨g, cap, cur, h1, h2, by rw [k.block g trivial (Array.getElem?_eq_some_iff.1 h3).1]; exact h3, h4⟩

/-- One certificate more that is there already. -/
theorem Rd.same {b : Bk} {Ai Ac : Option Addr} {ci cc W M : Nat} {w0 w : World} {l : List Crt} {A : Option Addr} {cn : Nat} {q : Crt} (h : Rd b Ai Ac ci cc W M w0 w l A cn) (hq : (look l q.num).isSome = true) : Rd b Ai Ac ci cc W M w0 w (l ++ [q]) A cn := by
  have hf : firsts (l ++ [q]) = firsts l := by
    rw [firsts_snoc]; unfold addN; rw [if_pos ((look_isSome _ _).1 hq)]
  refine ⟨h.c0, h.c1, h.c2, by rw [hf]; exact h.c3, h.bad, h.fz, h.mp.congr fun n => ?_, by rw [hf]; exact h.own, h.kept, h.hMW, h.h0⟩
  rw [look_snoc]
  by_cases hn : q.num = n
  · subst hn
    obtain ⟨o, ho⟩ := Option.isSome_iff_exists.1 hq
    simp [ho]
  · simp [hn]

theorem Rd.size {b : Bk} {Ai Ac : Option Addr} {ci cc W M : Nat} {w0 w : World} {l : List Crt} {A : Option Addr} {cn : Nat} (h : Rd b Ai Ac ci cc W M w0 w l A cn) : W < w.heap.size := lt_of_cell h.c0

/-- One new certificate. -/
theorem Rd.more {b : Bk} {Ai Ac : Option Addr} {ci cc W M : Nat} {w0 w w1 : World} {l : List Crt} {A : Option Addr} {cn : Nat} {q : Crt} {o : Obj} {g cap : Nat} (h : Rd b Ai Ac ci cc W M w0 w l A cn) (hq : look l q.num = none)
    (hm : isMap (w.putObj M o) M (upd (fun n => (look l n).map crtV) q.num (crtV q)))
    (ho : o.isCells = false) (ho' : ∃ o', w.heap[M]? = some o' ∧ o'.isCells = false)
    (hk : Keep (fun j => some j ≠ (Value.slice A (firsts l).length cn).ownBlock) (w.putObj M o) w1)
    (hown : w1.ownsRow (W + 1) 3 1 (.slice (some ⟨g, 0, none⟩) ((firsts l).length + 1) cap) ((firsts l).length + 1) ((firsts l).map (Value.int .i64) ++ [.int .i64 q.num])) :
    Rd b Ai Ac ci cc W M w0 (w1.setCell ⟨W, 3, none⟩ (.slice (some ⟨g, 0, none⟩) ((firsts l).length + 1) cap)) (l ++ [q]) (some ⟨g, 0, none⟩) cap := by
  have hn : ¬ q.num ∈ firsts l := fun hn => by
    have := (look_isSome l q.num).2 hn
    rw [hq] at this; cases this
  have hf : firsts (l ++ [q]) = firsts l ++ [q.num] := by rw [firsts_snoc]; unfold addN; rw [if_neg hn]
  have hfl : (firsts (l ++ [q])).length = (firsts l).length + 1 := by rw [hf]; simp
  obtain ⟨o1, ho1, ho2⟩ := ho'
  have hownS : ∀ j, j ≤ W → some j ≠ (Value.slice A (firsts l).length cn).ownBlock := fun j hj => by
    rcases h.own.2 with ⟨h1, _⟩ | ⟨g, cap, cur, h1, h2, _⟩
    · rw [h1]; simp [Value.ownBlock]
    · rw [h1]; simp [Value.ownBlock]; omega
  have hMW := h.hMW
  have cell : ∀ (k : Nat) v, w.cell? ⟨W, k, none⟩ = some v → w1.cell? ⟨W, k, none⟩ = some v := fun k v hv => by
    refine hk.cell ?_ (hownS W (Nat.le_refl _))
    rw [putObj_cell ho1 ho2 ho]; exact hv
  have hg1 : W + 1 ≤ g ∧ ∃ cur, w1.heap[g]? = some (.cells cur 3 (0, 0)) ∧ (firsts l).length + 1 ≤ cap ∧ cap ≤ maxLen ∧ cur.size = cap * 1 ∧ cur.toList.take (((firsts l).length + 1) * 1) = (firsts l).map (Value.int .i64) ++ [.int .i64 q.num] := by
    rcases hown.2 with ⟨h1, _⟩ | ⟨g', cap', cur, h1, h2, h3, h4⟩
    · cases h1
    · cases h1; exact ⟨h2, cur, h3, h4⟩
  obtain ⟨hgW, cur, hg2, hg3⟩ := hg1
  have set : ∀ (k : Nat) v, k ≠ 3 → w.cell? ⟨W, k, none⟩ = some v → (w1.setCell ⟨W, 3, none⟩ (.slice (some ⟨g, 0, none⟩) ((firsts l).length + 1) cap)).cell? ⟨W, k, none⟩ = some v := fun k v hk hv => by
    refine Eq.trans (World.cell?_setCell_other (w := w1) (a := ⟨W, 3, none⟩) (b := ⟨W, k, none⟩) _ (by simp <;> omega)) ?_
    exact cell k v hv
  refine ⟨set 0 _ (by omega) h.c0, set 1 _ (by omega) h.c1, set 2 _ (by omega) h.c2, ?_, fun n hn => set _ _ (by omega) (h.bad n hn), fun o => ?_, ?_, ?_, ?_, hMW, h.h0⟩
  · rw [hfl]; exact World.cell?_setCell_same' _ _ _ (by rw [cell 3 _ h.c3]; rfl)
  · rw [World.frozen?_setCell]
    have h1 := h.fz o
    have hb : w1.heap[W]? = w.heap[W]? := (hk.block W (hownS W (Nat.le_refl _)) (by simp; exact h.size)).trans (World.putObj_heap_other (by omega))
    unfold World.frozen? at h1 ⊢
    rw [hb]; exact h1
  · refine ((hm.keep hk (hownS M (by omega))).setCell _ _ (by simp; omega)).congr fun n => ?_
    rw [look_snoc]
    unfold upd
    by_cases hn : n = q.num
    · subst hn; simp [hq]
    · have : ¬ q.num = n := fun e => hn e.symm
      simp [hn, this]
  · rw [hfl, hf, List.map_append]
    refine ⟨by simp, .inr ⟨g, cap, cur, rfl, hgW, ?_, hg3⟩⟩
    rw [Below.heap_setCell _ _ _ _ (by simp; omega)]; exact hg2
  · refine h.kept.trans ((Keep.putObj w M o (by simp)).trans ((hk.mono fun j hj => hownS j (by have := hj; omega)).trans (Keep.setCell _ _ _ (by simp; omega))))
end Go.Proofs.Ytmcnpfjichbijaa
