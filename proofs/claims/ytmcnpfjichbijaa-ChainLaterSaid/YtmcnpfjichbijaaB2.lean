/- Lists in slices; maps of lists: what the best chain's walk keeps. -/
import Derived.Test.YtmcnpfjichbijaaB1
import Derived.Test.YtmcnpfjichbijaaT1
set_option linter.unusedSimpArgs false
set_option linter.unusedVariables false
namespace Go.Proofs.Ytmcnpfjichbijaa
open Go Go.Proofs Go.RowKit Go.Shelf


/-- A slice that is none or holds a list. -/
def listV (S : Nat → Prop) (w : World) (v : Value) (l : List Int) : Prop :=
  (l = [] ∧ v = .slice none 0 0) ∨ (l ≠ [] ∧ ∃ b o c, v = .slice (some ⟨b, o, none⟩) l.length c ∧ S b ∧ ∀ i n, l[i]? = some n → w.cell? ⟨b, o + i, none⟩ = some (.int .i64 n))

theorem listV.keep {S T : Nat → Prop} {w w' : World} {v : Value} {l : List Int} (h : listV S w v l) (k : Keep T w w') (hT : ∀ j, S j → T j) : listV S w' v l := by
  rcases h with h | ⟨h1, b, o, c, h2, h3, h4⟩
  · exact .inl h
  · exact .inr ⟨h1, b, o, c, h2, h3, fun i n hn => k.cell (h4 i n hn) (hT b h3)⟩
theorem listV.mono {S T : Nat → Prop} {w : World} {v : Value} {l : List Int} (h : listV S w v l) (hT : ∀ j, S j → T j) : listV T w v l := by
  rcases h with h | ⟨h1, b, o, c, h2, h3, h4⟩
  · exact .inl h
  · exact .inr ⟨h1, b, o, c, h2, hT b h3, h4⟩
/-- Its parts. -/
theorem listV.parts {S : Nat → Prop} {w : World} {v : Value} {l : List Int} (h : listV S w v l) : ∃ A c, v = .slice A l.length c ∧ numsAt S w A l ∧ (l = [] → A = none ∧ c = 0) ∧ (l ≠ [] → A.isSome = true) := by
  rcases h with ⟨rfl, rfl⟩ | ⟨h1, b, o, c, rfl, h3, h4⟩
  · exact ⟨none, 0, rfl, fun h => by simp at h, fun _ => ⟨rfl, rfl⟩, fun h => absurd rfl h⟩
  · exact ⟨some ⟨b, o, none⟩, c, rfl, fun _ => ⟨b, o, rfl, h3, h4⟩, fun h => absurd h h1, fun _ => rfl⟩

/-- A map of lists. -/
def endsAt (S : Nat → Prop) (w : World) (E : Nat) (f : Int → List Int) : Prop := ∃ g, isMap w E g ∧ ∀ n, listV S w ((g n).getD (.slice none 0 0)) (f n)

theorem underlying117 : Try.prog.underlying 117 = some (.map 3 26) := by kernel_rfl
theorem zero26 (w : World) : (zeroValue 26).run Try.prog w = .ok (.slice none 0 0) w := by kernel_rfl

theorem endsAt.get {S : Nat → Prop} {w : World} {E : Nat} {f : Int → List Int} (h : endsAt S w E f) (n : Int) :
    ∃ v, listV S w v (f n) ∧ ∀ w', Keep (fun j => j < w.heap.size) w w' → (Instr.lookup 117 (.map (some E)) (.int .i64 n) false).run Try.prog w' = .ok v w' := by
  obtain ⟨g, hg, h⟩ := h
  refine ⟨_, h n, fun w' k => ?_⟩
  have := run_lookup_map underlying117 underlying3 (hg.keep k hg.lt) (zero26 w') n false
  simpa using this
theorem endsAt.keep {S T : Nat → Prop} {w w' : World} {E : Nat} {f : Int → List Int} (h : endsAt S w E f) (k : Keep T w w') (hE : T E) (hS : ∀ j, S j → T j) : endsAt S w' E f := by
  obtain ⟨g, hg, h⟩ := h
  exact ⟨g, hg.keep k hE, fun n => (h n).keep k hS⟩
theorem endsAt.mono {S T : Nat → Prop} {w : World} {E : Nat} {f : Int → List Int} (h : endsAt S w E f) (hS : ∀ j, S j → T j) : endsAt T w E f := by
  obtain ⟨g, hg, h⟩ := h
  exact ⟨g, hg, fun n => (h n).mono hS⟩

/-- A box that holds a list. -/
def ListBox (S : Nat → Prop) (W : World) (B : Nat) (l : List Int) : Prop := ∃ v, W.cell? ⟨B, 0, none⟩ = some v ∧ listV S W v l ∧ W.frozen? ⟨B, 0, none⟩ = false

/-- The state of the best chain's loop. -/
structure BSt (b : Bk) (k : Wk) (H : Nat) (w1 : World) (i : Nat) (wr : World) : Prop where
  bel : Below w1.heap.size w1 wr
  b9 : wr.cell? ⟨w1.heap.size, 0, none⟩ = some (.map (some H))
  b11 : wr.cell? ⟨w1.heap.size + 1, 0, none⟩ = some (.func (.func 65) #[] #[.pointer (some ⟨w1.heap.size, 0, none⟩)])
  b12 : wr.cell? ⟨w1.heap.size + 1 + 1 + 1, 0, none⟩ = some (.map (some (w1.heap.size + 1 + 1)))
  ends : endsAt (fun j => w1.heap.size + 3 < j ∧ j < wr.heap.size) wr (w1.heap.size + 1 + 1) (endsU b i)

/-- The box of the best one, while a range over a function goes on. -/
def BestBox (Z : Nat) (l : List Int) (W : World) : Prop := ListBox (fun j => Z < j ∧ j < W.heap.size) W Z l

theorem listBox_own {β : Type} (Z n : Nat) (f : β → List Int) : OwnFrom n (fun s W => BestBox Z (f s) W) := by
  rintro s A C row ⟨v, hc, hv, hf⟩ hg hr
  refine ⟨v, cell_kept hc hg (fun r e => (hr r e).2), ?_, (frozen_kept hc hg (fun r e => (hr r e).2)).trans hf⟩
  rcases hv with h | ⟨h1, b, o, c, h2, h3, h4⟩
  · exact .inl h
  · exact .inr ⟨h1, b, o, c, h2, ⟨h3.1, Nat.lt_of_lt_of_le h3.2 hg.size⟩, fun i m hm => cell_kept (h4 i m hm) hg (fun r e => (hr r e).2)⟩

theorem BestBox.keep {Z : Nat} {l : List Int} {W W' : World} (h : BestBox Z l W) (k : Keep (fun j => j < W.heap.size) W W') : BestBox Z l W' := by
  obtain ⟨v, hc, hv, hf⟩ := h
  have l := lt_of_cell hc
  refine ⟨v, k.cell hc l, (hv.keep k fun j hj => hj.2).mono fun j hj => ⟨hj.1, by have := k.size; omega⟩, ?_⟩
  rw [World.frozen?_of_block (k.block Z l l)]; exact hf

/-- A new list is stored in the box. -/
theorem BestBox.put {Z : Nat} {l l' : List Int} {W : World} {v : Value} (h : BestBox Z l W) (hv : listV (fun j => Z < j ∧ j < W.heap.size) W v l') : BestBox Z l' (W.setCell ⟨Z, 0, none⟩ v) := by
  obtain ⟨v0, hc, _, hf⟩ := h
  refine ⟨v, World.cell?_setCell_same' _ _ _ (by rw [hc]; rfl), ?_, by rw [World.frozen?_setCell]; exact hf⟩
  rcases hv with h | ⟨h1, b, o, c, h2, h3, h4⟩
  · exact .inl h
  · refine .inr ⟨h1, b, o, c, h2, by simpa using h3, fun i m hm => ?_⟩
    rw [World.cell?_setCell_other _ _ _ _ (by intro e; have := congrArg Addr.block e; simp at this; omega)]
    exact h4 i m hm
end Go.Proofs.Ytmcnpfjichbijaa

