/- A region that makes a new list of a book's: what lies where, whatever comes up first. -/
import Derived.Test.YtmcnpfjichbijaaL23
set_option linter.unusedSimpArgs false
set_option linter.unusedVariables false
namespace Go.Proofs.Ytmcnpfjichbijaa
open Go Go.Proofs Go.RowKit Go.Shelf


/-- A row of the region's own, an element that lies ready in a block of its own, a box that is made. -/
structure Sx {α : Type} (e : TypeId) (sz : Nat) (f : α → List Value) (B0 : World) (A : Option Addr) (c : Nat) (r : List α) (el : Option Nat) (q : α) (bx : Option Nat) (W : World) : Prop where
  bel : Below B0.heap.size B0 W
  own : W.ownsRow B0.heap.size e sz (.slice A r.length c) r.length (r.flatMap f)
  elc : ∀ g, el = some g → g < W.heap.size ∧ B0.heap.size ≤ g ∧ (Value.slice A r.length c).ownBlock ≠ some g ∧ ∀ j u, (f q)[j]? = some u → W.cell? ((⟨g, 0, none⟩ : Addr).add j) = some u
  bxc : ∀ g, bx = some g → g < W.heap.size ∧ B0.heap.size ≤ g ∧ (Value.slice A r.length c).ownBlock ≠ some g ∧ W.cell? ⟨g, 0, none⟩ = some (.slice none 0 0) ∧ W.cell? ⟨g, 1, none⟩ = some (.slice none 0 0) ∧ W.frozen? ⟨g, 0, none⟩ = false ∧ W.frozen? ⟨g, 1, none⟩ = false

section
variable {α : Type} {e : TypeId} {sz : Nat} {f : α → List Value} {B0 : World} {A : Option Addr} {c : Nat} {r : List α} {el : Option Nat} {q : α} {bx : Option Nat} {W : World}

theorem Sx.start (B0 : World) (e : TypeId) (sz : Nat) (f : α → List Value) (q : α) : Sx e sz f B0 none 0 [] none q none B0.drew :=
  ⟨Below.drew (Below.refl _ _), World.ownsRow_nil _ _ _ _, (fun g h => by cases h), (fun g h => by cases h)⟩

theorem add0 (g j : Nat) : (⟨g, 0, none⟩ : Addr).add j = ⟨g, j, none⟩ := by unfold Addr.add; split <;> simp_all

theorem Sx.on (h : Sx e sz f B0 A c r el q bx W) {W' : World} (hb : Below W.heap.size W W') : Sx e sz f B0 A c r el q bx W' := by
  refine ⟨h.bel.trans (hb.mono h.bel.size), own_below h.own hb, fun g hg => ?_, fun g hg => ?_⟩
  · obtain ⟨h1, h2, h3, h4⟩ := h.elc g hg
    exact ⟨by have := hb.size; omega, h2, h3, fun j u hu => by have := h4 j u hu; rw [add0] at this ⊢; exact cell_on hb this⟩
  · obtain ⟨h1, h2, h3, h4, h5, h6, h7⟩ := h.bxc g hg
    exact ⟨by have := hb.size; omega, h2, h3, cell_on hb h4, cell_on hb h5, by rw [World.frozen?_of_block (w := W) (hb.block _ h1)]; exact h6, by rw [World.frozen?_of_block (w := W) (hb.block _ h1)]; exact h7⟩

/-- The row's first block, of no elements. -/
theorem Sx.made (h : Sx e sz f B0 none 0 [] el q bx W) {W' : World} (hw : W' = W.alloc (.cells #[] e)) : Sx e sz f B0 (some ⟨W.heap.size, 0, none⟩) 0 [] el q bx W' := by
  subst hw
  have hb : Below W.heap.size W (W.alloc (.cells #[] e)) := (Below.refl _ _).alloc (Nat.le_refl _) _
  have h' := h.on hb
  refine ⟨h'.bel, ⟨by simp, .inr ⟨W.heap.size, 0, #[], rfl, h.bel.size, heap_alloc_new W _, Nat.le_refl _, Nat.zero_le _, by simp, by simp⟩⟩, fun g hg => ?_, fun g hg => ?_⟩
  · obtain ⟨h1, h2, h3, h4⟩ := h'.elc g hg
    obtain ⟨k1, _⟩ := h.elc g hg
    exact ⟨h1, h2, fun e => by simp [Value.ownBlock] at e; omega, h4⟩
  · obtain ⟨h1, h2, h3, h4⟩ := h'.bxc g hg
    obtain ⟨k1, _⟩ := h.bxc g hg
    exact ⟨h1, h2, fun e => by simp [Value.ownBlock] at e; omega, h4⟩

theorem Sx.elem (h : Sx e sz f B0 A c r none q bx W) {W' : World} {vs : Array Value} {t : TypeId} (hw : W' = W.alloc (.cells vs t)) (hv : vs.toList = f q) : Sx e sz f B0 A c r (some W.heap.size) q bx W' := by
  subst hw
  have h' := h.on ((Below.refl _ W).alloc (Nat.le_refl _) (.cells vs t))
  refine ⟨h'.bel, h'.own, fun g hg => ?_, h'.bxc⟩
  injection hg with hg
  subst hg
  refine ⟨by simp, h.bel.size, fun e => by have := (h.own.lt _ e).2; omega, fun j u hu => ?_⟩
  rw [add0, World.cell?_alloc_at _ _ _ _ rfl]
  rw [← hv] at hu
  simpa using hu

theorem Sx.boxd (h : Sx e sz f B0 A c r el q none W) {W' : World} (hw : W' = W.alloc (.cells #[.slice none 0 0, .slice none 0 0] 25)) : Sx e sz f B0 A c r el q (some W.heap.size) W' := by
  subst hw
  have h' := h.on ((Below.refl _ W).alloc (Nat.le_refl _) (.cells #[.slice none 0 0, .slice none 0 0] 25))
  refine ⟨h'.bel, h'.own, h'.elc, fun g hg => ?_⟩
  injection hg with hg
  subst hg
  exact ⟨by simp, h.bel.size, fun e => by have := (h.own.lt _ e).2; omega, by simp [go_sem], by simp [go_sem], by simp [go_sem], by simp [go_sem]⟩

theorem Sx.app (h : Sx e sz f B0 A c r el q bx W) {W' : World} {A' : Option Addr} {c' : Nat} {l : List α} (hown : W'.ownsRow B0.heap.size e sz (.slice A' (r ++ l).length c') (r ++ l).length ((r ++ l).flatMap f)) (hg : W.grownBy W' (Value.slice A r.length c).ownBlock)
    (hat : (Value.slice A' (r ++ l).length c').ownBlock = (Value.slice A r.length c).ownBlock ∨ (Value.slice A' (r ++ l).length c').ownBlock = some W.heap.size) : Sx e sz f B0 A' c' (r ++ l) el q bx W' := by
  have kp : Keep (fun j => some j ≠ (Value.slice A r.length c).ownBlock) W W' := Keep.grown hg fun r hr h => h hr.symm
  refine ⟨h.bel.grown hg h.bel.size (fun g hg => (h.own.lt _ hg).1), hown, fun g hgg => ?_, fun g hgg => ?_⟩
  · obtain ⟨h1, h2, h3, h4⟩ := h.elc g hgg
    refine ⟨by have := hg.size; omega, h2, fun e => ?_, fun j u hu => ?_⟩
    · rcases hat with a | a
      · exact h3 (a ▸ e)
      · rw [a] at e; injection e with e; omega
    · have := h4 j u hu
      rw [add0] at this ⊢
      exact kp.cell this (fun e => h3 e.symm)
  · obtain ⟨h1, h2, h3, h4, h5, h6, h7⟩ := h.bxc g hgg
    have hn : some g ≠ (Value.slice A r.length c).ownBlock := fun e => h3 e.symm
    refine ⟨by have := hg.size; omega, h2, fun e => ?_, kp.cell h4 hn, kp.cell h5 hn, ?_, ?_⟩
    · rcases hat with a | a
      · exact h3 (a ▸ e)
      · rw [a] at e; injection e with e; omega
    · rw [World.frozen?_of_block (w := W) (kp.block g hn h1)]; exact h6
    · rw [World.frozen?_of_block (w := W) (kp.block g hn h1)]; exact h7
end

/-- append onto the row, of a list that lies somewhere (nil, if it is empty, too). -/
theorem step_app {α : Type} {e : TypeId} {sz : Nat} {f : α → List Value} {B0 : World} {A : Option Addr} {c : Nat} {r : List α} {el : Option Nat} {q : α} {bx : Option Nat} {W : World}
    {ops : Array Oper} {o : Oper} {a : Act} {K : Act → World → Prop} {Q : Exit → Act → World → Prop} {E : Prop} (hgd : o.guard = none) (s x : Operand) (t : TypeId)
    (ho : o.op = .call { callee := .builtin .append, args := #[s, x], argTypes := #[t, t] }) (S : Sx e sz f B0 A c r el q bx W) (hs : a.eval s = .slice A r.length c)
    (X : Option Addr) (d : Nat) (l : List α) (hx : a.eval x = .slice X l.length d) (hX : X = none → d = 0 ∧ l = []) (hsrc : ∀ ad, X = some ad → ∀ j u, (l.flatMap f)[j]? = some u → W.cell? (ad.add j) = some u)
    {i0 : TypeInfo} {z : Value} {bytes : Nat} (ht : Try.prog.underlying t = some (.slice e)) (hi : Try.prog.info? e = some i0) (hz : i0.zero = some z) (hsize : i0.size = sz) (hby : i0.bytes = bytes) (hzs : z.cells.size = sz) (hsz : 0 < sz)
    (hf : ∀ x, (f x).length = sz) (h1 : ∀ x, ∀ u ∈ f x, u.oneCell' = true) (hbb : 0 < bytes) (hlen : (r.length + l.length) * bytes ≤ 140737488355328)
    (h : ∀ A' c' W', Sx e sz f B0 A' c' (r ++ l) el q bx W' → K (a.put o.dst (.slice A' (r ++ l).length c')) W') :
    if Region.wanted o (yielded ops a.tmps) = true then Oper.wp Try.prog o a W K Q else E := by
  have hw : Region.wanted o (yielded ops a.tmps) = true := by simp [Region.wanted, hgd]
  rw [if_pos hw]
  cases X with
  | none =>
    obtain ⟨rfl, rfl⟩ := hX rfl
    have hrun := run_append_owned_none (P := Try.prog) (w := W) B0.heap.size t o.type e i0 sz ht hi (.slice A r.length c) r.length (r.flatMap f) S.own
    have hx' : a.eval x = .slice none 0 0 := hx
    unfold Oper.wp
    simp only [execOp, ho, resolve, invoke, builtin, Sem.run_bind, Sem.run_pure, Result.andThen_ok, List.map_toArray, List.map_cons, List.map_nil, hs, hx', hrun]
    have := h A c W (by rw [List.append_nil]; exact S)
    rw [List.append_nil] at this
    exact this
  | some ad =>
    have hll : (l.flatMap f).length = l.length * sz := row_length hf l
    obtain ⟨v', w', hr, h2, h3, h4, h5⟩ := run_append_own_at (P := Try.prog) W B0.heap.size t o.type e i0 z sz bytes ht hi hz hsize hby hzs hsz (.slice A r.length c) r.length (r.flatMap f) S.own ad l.length d (l.flatMap f) hll (hsrc ad rfl)
      (fun u hu => by obtain ⟨y, _, hy⟩ := List.mem_flatMap.1 hu; exact h1 y u hy) (by have : (r.length + l.length) * 1 ≤ (r.length + l.length) * bytes := Nat.mul_le_mul_left _ hbb; simp only [maxLen]; omega) hlen S.bel.size
    obtain ⟨A', c', e'⟩ : ∃ A' c', v' = .slice A' (r.length + l.length) c' := by
      rcases h2.2 with ⟨k1, k2⟩ | ⟨g, cap, cur, k1, _⟩
      · exact ⟨none, 0, by rw [k1, k2]⟩
      · exact ⟨_, _, k1⟩
    subst e'
    rw [← List.length_append] at h2 h5 hr
    rw [← List.flatMap_append] at h2
    unfold Oper.wp execOp
    simp only [ho, resolve, invoke, builtin, Sem.run_bind, Sem.run_pure, Result.andThen_ok, List.map_toArray, List.map_cons, List.map_nil, hs, hx, hr]
    exact h A' c' w' (S.app h2 h3 h5)
theorem Sx.src1 {α : Type} {e : TypeId} {sz : Nat} {f : α → List Value} {B0 : World} {A : Option Addr} {c : Nat} {r : List α} {g : Nat} {q : α} {bx : Option Nat} {W : World} (S : Sx e sz f B0 A c r (some g) q bx W) :
    ∀ ad, some (⟨g, 0, none⟩ : Addr) = some ad → ∀ j u, ([q].flatMap f)[j]? = some u → W.cell? (ad.add j) = some u := fun ad e j u hj => by
  cases e
  exact (S.elc _ rfl).2.2.2 j u (by simpa using hj)

theorem wpAnyH_abs {P : Program} {md : Region.Mode} {ops : Array Oper} {Q : Exit → Act → World → Prop} {S : World → Prop} {fuel : Nat} {listed : Array Bool} {a : Act} {W : World} {I : World → Prop} (hI : I W) (h : ∀ W', I W' → wpAnyH P md ops Q S fuel listed a W') : wpAnyH P md ops Q S fuel listed a W := h W hI

/-- Certificates in the row, the box stored to. -/
theorem Sx.fin {B0 : World} {A : Option Addr} {c : Nat} {r : List Crt} {el : Option Nat} {q : Crt} {g : Nat} {W : World} (S : Sx 58 7 crtLs B0 A c r el q (some g) W) (v0 v1 : Value) :
    ((W.setCell ⟨g, 0, none⟩ v0).setCell ⟨g, 1, none⟩ v1).cell? ⟨g, 0, none⟩ = some v0 ∧ ((W.setCell ⟨g, 0, none⟩ v0).setCell ⟨g, 1, none⟩ v1).cell? ⟨g, 1, none⟩ = some v1 ∧
      certsAt (· < ((W.setCell ⟨g, 0, none⟩ v0).setCell ⟨g, 1, none⟩ v1).heap.size) ((W.setCell ⟨g, 0, none⟩ v0).setCell ⟨g, 1, none⟩ v1) A r ∧ Below B0.heap.size B0 ((W.setCell ⟨g, 0, none⟩ v0).setCell ⟨g, 1, none⟩ v1) := by
  obtain ⟨h1, h2, h3, z0, z1, f0, f1⟩ := S.bxc g rfl
  refine ⟨by rw [World.cell?_setCell_other _ _ _ _ (by simp)]; exact World.cell?_setCell_same' _ _ _ (by rw [z0]; rfl), World.cell?_setCell_same' _ _ _ (by rw [World.cell?_setCell_other _ _ _ _ (by simp), z1]; rfl), ?_, below_set (below_set S.bel _ _ h2) _ _ h2⟩
  have hc : certsAt (fun j => j ≠ g ∧ j < W.heap.size) W A r := by
    rcases S.own.2 with ⟨k1, k2⟩ | ⟨g', cap, cur, k1, _⟩
    · exact fun hl => by omega
    · cases k1
      have hlt := (S.own.lt g' rfl).2
      refine fun hl => ⟨g', 0, rfl, ⟨fun e => h3 (by rw [← e]; rfl), hlt⟩, fun i x hx => ?_⟩
      have hi := (List.getElem?_eq_some_iff.1 hx).1
      have hj : ∀ t, t < 7 → W.cell? ⟨g', 0 + i * 7 + t, none⟩ = (crtLs x)[t]? := fun t ht => by
        rw [Nat.zero_add, S.own.cellAt _ (by omega), row_get (f := crtLs) (n := 7) (fun _ => rfl) _ _ _ _ hx ht]
      exact ⟨hj 0 (by omega), hj 1 (by omega), hj 2 (by omega), hj 3 (by omega), hj 4 (by omega), hj 5 (by omega), hj 6 (by omega)⟩
  exact (hc.keep ((Keep.setCell _ _ _ (fun h => h.1 rfl)).trans (Keep.setCell _ _ _ (fun h => h.1 rfl)))).mono fun j hj => by simpa using hj.2
end Go.Proofs.Ytmcnpfjichbijaa

