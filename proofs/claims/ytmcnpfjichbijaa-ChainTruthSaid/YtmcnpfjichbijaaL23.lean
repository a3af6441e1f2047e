/- Laws' worlds; a struct whose items grow. -/
import Derived.Test.YtmcnpfjichbijaaL22
set_option linter.unusedSimpArgs false
set_option linter.unusedVariables false
namespace Go.Proofs.Ytmcnpfjichbijaa
open Go Go.Proofs Go.RowKit Go.Shelf


/-- A law's world: what lies below a world that was, and some cells. -/
structure St (V : World) (ps : List (Nat × Nat × Value)) (W : World) : Prop where
  bel : Below V.heap.size V W
  cell : ∀ p ∈ ps, W.cell? ⟨p.1, p.2.1, none⟩ = some p.2.2
theorem St.on {V W W' : World} {ps : List (Nat × Nat × Value)} (h : St V ps W) (hb : Below W.heap.size W W') : St V ps W' := ⟨h.bel.trans (hb.mono h.bel.size), fun p hp => cell_on hb (h.cell p hp)⟩
theorem St.add {V W : World} {ps : List (Nat × Nat × Value)} {b o : Nat} {v : Value} (h : St V ps W) (hc : W.cell? ⟨b, o, none⟩ = some v) : St V ((b, o, v) :: ps) W :=
  ⟨h.bel, fun p hp => by
    rcases List.mem_cons.1 hp with rfl | hp
    · exact hc
    · exact h.cell p hp⟩

theorem info83 : (Try.prog.info? 83).map (fun i => (i.zero, i.size, i.bytes)) = some (some (.agg #[.int .i64 0, .bool false, .int .i64 0, .int .i64 0]), 4, 32) := by kernel_rfl
theorem und22e : Try.prog.underlying 22 = some (.slice 83) := by kernel_rfl

/-- A struct whose first field is grown by items: a box at X of two cells, and its row. -/
structure ApI (V : World) (X : Nat) (u : Value) (v : Value) (k : Nat) (r : List Value) (W : World) : Prop where
  bel : Below X V W
  hX : X ≤ V.heap.size
  x0 : W.cell? ⟨X, 0, none⟩ = some v
  x1 : W.cell? ⟨X, 1, none⟩ = some u
  xf : ∀ j, W.frozen? ⟨X, j, none⟩ = false
  own : W.ownsRow (X + 1) 83 4 v k r

variable {V : World} {X : Nat} {u : Value} {v : Value} {k : Nat} {r : List Value} {W : World}

theorem ApI.lt (h : ApI V X u v k r W) : X < W.heap.size := lt_of_cell h.x0
theorem ApI.on (h : ApI V X u v k r W) {W' : World} (hb : Below W.heap.size W W') : ApI V X u v k r W' :=
  have kp : Keep (· < W.heap.size) W W' := Keep.of_below hb fun _ h _ => h
  have l := h.lt
  ⟨h.bel.trans (hb.mono (Nat.le_of_lt l)), h.hX, kp.cell h.x0 l, kp.cell h.x1 l, fun j => by rw [World.frozen?_of_block (w := W) (kp.block X l l)]; exact h.xf j, own_below h.own hb⟩
theorem ApI.box (h : ApI V X u v k r W) {W1 : World} (hg : W.grownBy W1 v.ownBlock) :
    W1.cell? ⟨X, 0, none⟩ = some v ∧ W1.cell? ⟨X, 1, none⟩ = some u ∧ (∀ j, W1.frozen? ⟨X, j, none⟩ = false) := by
  have l := h.lt
  have kp : Keep (fun j => some j ≠ v.ownBlock) W W1 := Keep.grown hg fun r hr h => h hr.symm
  have hne : some X ≠ v.ownBlock := fun e => by have := (ownBlock_ge h.own e.symm).1; omega
  exact ⟨kp.cell h.x0 hne, kp.cell h.x1 hne, fun j => by rw [World.frozen?_of_block (w := W) (kp.block _ hne l)]; exact h.xf j⟩
theorem ApI.more (h : ApI V X u v k r W) {W1 : World} {v' : Value} {r' : List Value} (hown : W1.ownsRow (X + 1) 83 4 v' (k + 1) r') (hg : W.grownBy W1 v.ownBlock) : ApI V X u v' (k + 1) r' (W1.setCell ⟨X, 0, none⟩ v') := by
  have l := h.lt
  have hX := h.hX
  have kp : Keep (fun j => some j ≠ v.ownBlock) W W1 := Keep.grown hg fun r hr h => h hr.symm
  have hne : ∀ j, j ≤ X → some j ≠ v.ownBlock := fun j hj e => by have := (ownBlock_ge h.own e.symm).1; omega
  refine ⟨?_, hX, ?_, ?_, fun j => ?_, ?_⟩
  · exact below_set (h.bel.grown hg (by omega) (fun k hk => by have := (ownBlock_ge h.own hk).1; omega)) _ _ (Nat.le_refl _)
  · exact World.cell?_setCell_same' _ _ _ (by rw [kp.cell h.x0 (hne _ (Nat.le_refl _))]; rfl)
  · rw [World.cell?_setCell_other _ _ _ _ (by simp)]
    exact kp.cell h.x1 (hne _ (Nat.le_refl _))
  · rw [World.frozen?_setCell, World.frozen?_of_block (w := W) (kp.block X (hne X (by omega)) (by omega))]; exact h.xf j
  · exact ownsRow_setCell_below hown (a := ⟨X, 0, none⟩) (by simp) _

theorem ApI.items {l : List Itm} (h : ApI V X u v l.length (l.flatMap itmCs) W) : ∃ A c, v = .slice A l.length c ∧ itemsAt (fun j => X < j ∧ j < W.heap.size) W A l := by
  rcases h.own.2 with ⟨h1, h2⟩ | ⟨g, cap, cur, h1, _⟩
  · exact ⟨none, 0, by rw [h1, h2], fun hl => by omega⟩
  · have hge := ownBlock_ge h.own (g := g) (by rw [h1]; rfl)
    refine ⟨some ⟨g, 0, none⟩, cap, h1, fun hl => ⟨g, 0, rfl, ⟨by omega, hge.2⟩, fun i x hx => ?_⟩⟩
    have ho := h.own
    rw [h1] at ho
    have hi := (List.getElem?_eq_some_iff.1 hx).1
    have hj : ∀ t, t < 4 → W.cell? ⟨g, 0 + i * 4 + t, none⟩ = (itmCs x)[t]? := fun t ht => by
      rw [Nat.zero_add, ho.cellAt _ (by omega), row_get (f := itmCs) (n := 4) (fun _ => rfl) _ _ _ _ hx ht]
    exact ⟨hj 0 (by omega), hj 1 (by omega), hj 2 (by omega), hj 3 (by omega)⟩

theorem items_below {w w' : World} {A : Option Addr} {l : List Itm} (h : itemsAt (· < w.heap.size) w A l) (hb : Below w.heap.size w w') : itemsAt (· < w'.heap.size) w' A l :=
  (h.keep (Keep.of_below hb fun _ h _ => h)).mono fun j hj => by have := hb.size; have : j < w.heap.size := hj; show j < w'.heap.size; omega
/-- What asking for suspects returns, said in one way. -/
def susRes (b : Bk) : List Int := if susErr b = 0 then suspects b else []
def SusTo (b : Bk) (w : World) (e : Ending) (w' : World) : Prop :=
  ∃ A c, e = .returned (.tuple #[.slice A (susRes b).length c, .int .i64 (susErr b)]) ∧ numsAt (fun j => w.heap.size ≤ j ∧ j < w'.heap.size) w' A (susRes b) ∧ ∃ x, w' = over w x
theorem c41u (Ai Ac : Option Addr) (ci cc : Nat) (b : Bk) (w : World) (hA : bookAt (· < w.heap.size) w Ai Ac b) (hl : b.items.length ≤ 1000) (hl2 : b.certs.length ≤ 1000) :
    Calls Try.prog 41 #[.agg #[.slice Ai b.items.length ci, .slice Ac b.certs.length cc]] w (SusTo b w) := by
  refine Calls.mono (f := 41) (c41 Ai Ac ci cc b w hA hl hl2) ?_
  rintro e w' (⟨h0, rfl, x, e3⟩ | ⟨h0, A3, d3, rfl, hn3, x3, e3⟩)
  · refine ⟨none, 0, ?_, ?_, x, e3⟩
    · unfold susRes; rw [if_neg h0]; rfl
    · unfold susRes; rw [if_neg h0]; exact fun h => by simp at h
  · refine ⟨A3, d3, ?_, ?_, x3, e3⟩
    · unfold susRes; rw [if_pos h0, h0]
    · unfold susRes; rw [if_pos h0]; exact hn3
/-- What holds, asked for without bad ones. -/
def heldRes (b : Bk) : List Int := if fault b = 0 then heldL b [] else []
def HldTo0 (b : Bk) (w : World) (e : Ending) (w' : World) : Prop :=
  ∃ A c, e = .returned (.tuple #[.slice A (heldRes b).length c, .int .i64 (fault b)]) ∧ numsAt (fun j => w.heap.size ≤ j ∧ j < w'.heap.size) w' A (heldRes b) ∧ ∃ x, w' = over w x
theorem errOf_nil' (b : Bk) : errOf b [] = fault b := by
  unfold errOf
  by_cases h : fault b = 0
  · rw [if_neg (by omega), h]; simp [badOk]
  · rw [if_pos h]
theorem c34u (Ai Ac : Option Addr) (ci cc : Nat) (b : Bk) (w : World) (hA : bookAt (· < w.heap.size) w Ai Ac b) (hl : b.items.length ≤ 1000) (hl2 : b.certs.length ≤ 1000) :
    Calls Try.prog 34 #[.agg #[.slice Ai b.items.length ci, .slice Ac b.certs.length cc], .slice none 0 0] w (HldTo0 b w) := by
  refine Calls.mono (f := 34) (c34 Ai Ac none ci cc 0 b [] w hA (fun h => by simp at h) hl hl2 (by simp)) ?_
  rw [errOf_nil']
  rintro e w' (⟨h0, rfl, x, e3⟩ | ⟨h0, A3, d3, rfl, hn3, x3, e3⟩)
  · refine ⟨none, 0, ?_, ?_, x, e3⟩
    · unfold heldRes; rw [if_neg h0]; rfl
    · unfold heldRes; rw [if_neg h0]; exact fun h => by simp at h
  · refine ⟨A3, d3, ?_, ?_, x3, e3⟩
    · unfold heldRes; rw [if_pos h0, h0]; rfl
    · unfold heldRes; rw [if_pos h0]; exact hn3
theorem susRes_len {b : Bk} (h : b.certs.length ≤ 24) : (susRes b).length ≤ 24 := by
  unfold susRes
  split
  · refine Nat.le_trans (List.length_filter_le _ _) ?_
    rw [numsOf_length]; exact Nat.le_trans (firsts_length _) h
  · simp
theorem heldRes_len {b : Bk} (h : b.certs.length ≤ 24) : (heldRes b).length ≤ 24 := by
  unfold heldRes
  split
  · exact Nat.le_trans (heldL_len b) h
  · simp
end Go.Proofs.Ytmcnpfjichbijaa

