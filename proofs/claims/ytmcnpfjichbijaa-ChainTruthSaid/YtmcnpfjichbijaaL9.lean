/- The arguments of a law: a book, a list: opened. -/
import Derived.Test.YtmcnpfjichbijaaC6
import Derived.Deep.Slices
import Derived.Deep.Fields
import Derived.ChangeSame
import Derived.Lib.SmallJoins
import Derived.WalkKit
import Derived.ProofKit
import Derived.OpenShut
import Derived.ShutString
import Derived.ChangeOld
import Derived.Below
set_option linter.unusedSimpArgs false
set_option linter.unusedVariables false
namespace Go.Proofs.Ytmcnpfjichbijaa
open Go Go.Proofs Go.ChangeShapes Go.WideShapes Go.ChangeAt Go.RowKit Go.Deep Go.Joins

theorem cells83 : Try.prog.cellsOf 83 = 4 := by kernel_rfl
theorem cells58 : Try.prog.cellsOf 58 = 7 := by kernel_rfl
theorem cells49 : Try.prog.cellsOf 49 = 2 := by kernel_rfl
theorem cells25 : Try.prog.cellsOf 25 = 2 := by kernel_rfl
theorem cells3' : Try.prog.cellsOf 3 = 1 := by kernel_rfl
theorem cells4' : Try.prog.cellsOf 4 = 1 := by kernel_rfl

theorem cell_add {w : World} {a : Addr} {j : Nat} {v : Value} (h : w.cell? (a.add j) = some v) : w.cell? ⟨a.block, a.off + j, none⟩ = some v := by
  obtain ⟨b, o, s⟩ := a
  unfold Addr.add at h
  by_cases hj : j = 0
  · subst hj
    simp only [if_true] at h
    have := World.cell?_spot h
    simp at this
    subst this
    exact h
  · rw [if_neg hj] at h
    exact h

section
variable {H : Type} {enc : TypeId × Value → H} {w : World} {base : Nat} {spare : Nat → Bool} {held : Bool} {fuel : Nat}

set_option maxRecDepth 100000 in
theorem open_rng {cs : List Value} {x : DataW H × List MemPlace} (h : DataW.trod enc Try.prog w base spare held fuel 49 cs = some x) : ∃ lo hi, cs = [.int .i64 lo, .int .i64 hi] := by
  obtain ⟨xs, n, _, _, hl, hxl, hf⟩ := DataW.trod_struct Try.underlying49 h
  rw [cells49] at hl
  match cs, hl with
  | [c0, c1], _ =>
    have h0 : DataW.trod enc Try.prog w base spare held n 3 (([c0, c1].drop 0).take (Try.prog.cellsOf 3)) = xs[0]? := hf 0 _ rfl
    rw [cells3'] at h0
    have h1 : DataW.trod enc Try.prog w base spare held n 3 (([c0, c1].drop 1).take (Try.prog.cellsOf 3)) = xs[1]? := hf 1 _ rfl
    rw [cells3'] at h1
    simp only [List.drop, List.take] at h0 h1
    have hx0 : xs[0]? = some (xs[0]'(by simp at hxl; omega)) := by simp
    have hx1 : xs[1]? = some (xs[1]'(by simp at hxl; omega)) := by simp
    obtain ⟨a, e0, _⟩ := DataW.trod_int Try.underlying3 (h0.trans hx0)
    obtain ⟨b, e1, _⟩ := DataW.trod_int Try.underlying3 (h1.trans hx1)
    simp at e0 e1
    exact ⟨a, b, by rw [e0, e1]⟩

set_option maxRecDepth 100000 in
theorem open_itm {cs : List Value} {x : DataW H × List MemPlace} (h : DataW.trod enc Try.prog w base spare held fuel 83 cs = some x) : ∃ t : Itm, cs = [.int .i64 t.drift, .bool t.std, .int .i64 t.val.lo, .int .i64 t.val.hi] := by
  obtain ⟨xs, n, _, _, hl, hxl, hf⟩ := DataW.trod_struct Try.underlying83 h
  rw [cells83] at hl
  match cs, hl with
  | [c0, c1, c2, c3], _ =>
    have h0 : DataW.trod enc Try.prog w base spare held n 3 (([c0, c1, c2, c3].drop 0).take (Try.prog.cellsOf 3)) = xs[0]? := hf 0 _ rfl
    rw [cells3'] at h0
    have h1 : DataW.trod enc Try.prog w base spare held n 4 (([c0, c1, c2, c3].drop 1).take (Try.prog.cellsOf 4)) = xs[1]? := hf 1 _ rfl
    rw [cells4'] at h1
    have h2 : DataW.trod enc Try.prog w base spare held n 49 (([c0, c1, c2, c3].drop 2).take (Try.prog.cellsOf 49)) = xs[2]? := hf 2 _ rfl
    rw [cells49] at h2
    simp only [List.drop, List.take] at h0 h1 h2
    have hx0 : xs[0]? = some (xs[0]'(by simp at hxl; omega)) := by simp
    have hx1 : xs[1]? = some (xs[1]'(by simp at hxl; omega)) := by simp
    have hx2 : xs[2]? = some (xs[2]'(by simp at hxl; omega)) := by simp
    obtain ⟨a, e0, _⟩ := DataW.trod_int Try.underlying3 (h0.trans hx0)
    obtain ⟨b, e1, _⟩ := DataW.trod_bool Try.underlying4 (h1.trans hx1)
    obtain ⟨lo, hi, e2⟩ := open_rng (h2.trans hx2)
    simp at e0 e1 e2
    exact ⟨⟨a, b, ⟨lo, hi⟩⟩, by rw [e0, e1, e2.1, e2.2]⟩

set_option maxRecDepth 100000 in
theorem open_crt {cs : List Value} {x : DataW H × List MemPlace} (h : DataW.trod enc Try.prog w base spare held fuel 58 cs = some x) : ∃ c : Crt, cs = [.int .i64 c.num, .int .i64 c.item, .int .i64 c.by_, .int .i64 c.day, .int .i64 c.valid, .int .i64 c.diff.lo, .int .i64 c.diff.hi] := by
  obtain ⟨xs, n, _, _, hl, hxl, hf⟩ := DataW.trod_struct Try.underlying58 h
  rw [cells58] at hl
  match cs, hl with
  | [c0, c1, c2, c3, c4, c5, c6], _ =>
    have h0 : DataW.trod enc Try.prog w base spare held n 3 (([c0, c1, c2, c3, c4, c5, c6].drop 0).take (Try.prog.cellsOf 3)) = xs[0]? := hf 0 _ rfl
    rw [cells3'] at h0
    have h1 : DataW.trod enc Try.prog w base spare held n 3 (([c0, c1, c2, c3, c4, c5, c6].drop 1).take (Try.prog.cellsOf 3)) = xs[1]? := hf 1 _ rfl
    rw [cells3'] at h1
    have h2 : DataW.trod enc Try.prog w base spare held n 3 (([c0, c1, c2, c3, c4, c5, c6].drop 2).take (Try.prog.cellsOf 3)) = xs[2]? := hf 2 _ rfl
    rw [cells3'] at h2
    have h3 : DataW.trod enc Try.prog w base spare held n 3 (([c0, c1, c2, c3, c4, c5, c6].drop 3).take (Try.prog.cellsOf 3)) = xs[3]? := hf 3 _ rfl
    rw [cells3'] at h3
    have h4 : DataW.trod enc Try.prog w base spare held n 3 (([c0, c1, c2, c3, c4, c5, c6].drop 4).take (Try.prog.cellsOf 3)) = xs[4]? := hf 4 _ rfl
    rw [cells3'] at h4
    have h5 : DataW.trod enc Try.prog w base spare held n 49 (([c0, c1, c2, c3, c4, c5, c6].drop 5).take (Try.prog.cellsOf 49)) = xs[5]? := hf 5 _ rfl
    rw [cells49] at h5
    simp only [List.drop, List.take] at h0 h1 h2 h3 h4 h5
    have hx : ∀ i, i < 6 → ∃ y, xs[i]? = some y := fun i hi => ⟨xs[i]'(by simp at hxl; omega), by simp⟩
    obtain ⟨y0, g0⟩ := hx 0 (by omega)
    obtain ⟨y1, g1⟩ := hx 1 (by omega)
    obtain ⟨y2, g2⟩ := hx 2 (by omega)
    obtain ⟨y3, g3⟩ := hx 3 (by omega)
    obtain ⟨y4, g4⟩ := hx 4 (by omega)
    obtain ⟨y5, g5⟩ := hx 5 (by omega)
    obtain ⟨a0, e0, _⟩ := DataW.trod_int Try.underlying3 (h0.trans g0)
    obtain ⟨a1, e1, _⟩ := DataW.trod_int Try.underlying3 (h1.trans g1)
    obtain ⟨a2, e2, _⟩ := DataW.trod_int Try.underlying3 (h2.trans g2)
    obtain ⟨a3, e3, _⟩ := DataW.trod_int Try.underlying3 (h3.trans g3)
    obtain ⟨a4, e4, _⟩ := DataW.trod_int Try.underlying3 (h4.trans g4)
    obtain ⟨lo, hi, e5⟩ := open_rng (h5.trans g5)
    simp at e0 e1 e2 e3 e4 e5
    exact ⟨⟨a0, a1, a2, a3, a4, ⟨lo, hi⟩⟩, by rw [e0, e1, e2, e3, e4, e5.1, e5.2]⟩

/-- A choice for each place below n, as a list. -/
theorem list_of {α : Type} {p : Nat → α → Prop} : ∀ n : Nat, (∀ i, i < n → ∃ x, p i x) → ∃ l : List α, l.length = n ∧ ∀ i x, l[i]? = some x → p i x
  | 0, _ => ⟨[], rfl, fun i x h => by simp at h⟩
  | n + 1, h => by
    obtain ⟨l, hl, hp⟩ := list_of n fun i hi => h i (by omega)
    obtain ⟨x, hx⟩ := h n (by omega)
    refine ⟨l ++ [x], by simp [hl], fun i y hy => ?_⟩
    by_cases hi : i < n
    · rw [List.getElem?_append_left (by omega)] at hy; exact hp i y hy
    · have hlt := (List.getElem?_eq_some_iff.1 hy).1
      simp at hlt
      have : i = n := by omega
      subst this
      rw [List.getElem?_append_right (by omega)] at hy
      simp [hl] at hy
      subst hy; exact hx

theorem open_items {cs : List Value} {x : DataW H × List MemPlace} (h : DataW.trod enc Try.prog w base (fun _ => true) held fuel 22 cs = some x) :
    ∃ A c l, cs = [.slice A l.length c] ∧ l.length ≤ maxLen ∧ itemsAt (· < w.heap.size) w A l := by
  rcases open_slice Try.underlying22 h with ⟨h1, _⟩ | ⟨a, len, cap, m, n, D, Pl, hcs, hb, hl, hm, hmm, hx, hi⟩
  · exact ⟨none, 0, [], h1, by simp, fun h => by simp at h⟩
  · simp at hmm
    obtain ⟨l, hll, hp⟩ := list_of (p := fun i (t : Itm) => ∀ j v, [Value.int .i64 t.drift, .bool t.std, .int .i64 t.val.lo, .int .i64 t.val.hi][j]? = some v → w.cell? ⟨a.block, a.off + i * 4 + j, none⟩ = some v) len fun i hil => by
      obtain ⟨cs', hc, ht'⟩ := hi i (by omega)
      obtain ⟨t, rfl⟩ := open_itm ht'
      obtain ⟨_, hcl, hat⟩ := World.cells?_some hc
      refine ⟨t, fun j v hv => ?_⟩
      have hj := (List.getElem?_eq_some_iff.1 hv).1
      have := hat j (by rw [cells83]; exact hj)
      rw [hv, cells83] at this
      have h2 := cell_add this
      have h3 : ∀ k, (a.add k).block = a.block := fun k => by unfold Addr.add; split <;> rfl
      have h4 : (a.add (i * 4)).off = a.off + i * 4 := by unfold Addr.add; split <;> simp_all
      rw [h3, h4] at h2
      exact h2
    subst hll
    refine ⟨some a, cap, l, hcs, by omega, fun h0 => ⟨a.block, a.off, ?_, ?_, fun i t ht => ⟨hp i t ht 0 _ rfl, hp i t ht 1 _ rfl, hp i t ht 2 _ rfl, hp i t ht 3 _ rfl⟩⟩⟩
    · obtain ⟨cs', hc, ht'⟩ := hi 0 (by omega)
      obtain ⟨t, rfl⟩ := open_itm ht'
      obtain ⟨_, hcl, hat⟩ := World.cells?_some hc
      have := hat 0 (by rw [cells83]; omega)
      rw [Nat.zero_mul] at this
      have := World.cell?_spot (a := a) (by simpa [Addr.add] using this)
      obtain ⟨b, o, s⟩ := a
      simp at this
      subst this; rfl
    · have := hp 0 l[0] (by simp [h0]) 0 _ rfl
      exact lt_of_cell this

theorem open_certs {cs : List Value} {x : DataW H × List MemPlace} (h : DataW.trod enc Try.prog w base (fun _ => true) held fuel 23 cs = some x) :
    ∃ A c l, cs = [.slice A l.length c] ∧ l.length ≤ maxLen ∧ certsAt (· < w.heap.size) w A l := by
  rcases open_slice Try.underlying23 h with ⟨h1, _⟩ | ⟨a, len, cap, m, n, D, Pl, hcs, hb, hl, hm, hmm, hx, hi⟩
  · exact ⟨none, 0, [], h1, by simp, fun h => by simp at h⟩
  · simp at hmm
    obtain ⟨l, hll, hp⟩ := list_of (p := fun i (c : Crt) => ∀ j v, [Value.int .i64 c.num, .int .i64 c.item, .int .i64 c.by_, .int .i64 c.day, .int .i64 c.valid, .int .i64 c.diff.lo, .int .i64 c.diff.hi][j]? = some v → w.cell? ⟨a.block, a.off + i * 7 + j, none⟩ = some v) len fun i hil => by
      obtain ⟨cs', hc, ht'⟩ := hi i (by omega)
      obtain ⟨t, rfl⟩ := open_crt ht'
      obtain ⟨_, hcl, hat⟩ := World.cells?_some hc
      refine ⟨t, fun j v hv => ?_⟩
      have hj := (List.getElem?_eq_some_iff.1 hv).1
      have := hat j (by rw [cells58]; exact hj)
      rw [hv, cells58] at this
      have h2 := cell_add this
      have h3 : ∀ k, (a.add k).block = a.block := fun k => by unfold Addr.add; split <;> rfl
      have h4 : (a.add (i * 7)).off = a.off + i * 7 := by unfold Addr.add; split <;> simp_all
      rw [h3, h4] at h2
      exact h2
    subst hll
    refine ⟨some a, cap, l, hcs, by omega, fun h0 => ⟨a.block, a.off, ?_, ?_, fun i t ht => ⟨hp i t ht 0 _ rfl, hp i t ht 1 _ rfl, hp i t ht 2 _ rfl, hp i t ht 3 _ rfl, hp i t ht 4 _ rfl, hp i t ht 5 _ rfl, hp i t ht 6 _ rfl⟩⟩⟩
    · obtain ⟨cs', hc, ht'⟩ := hi 0 (by omega)
      obtain ⟨t, rfl⟩ := open_crt ht'
      obtain ⟨_, hcl, hat⟩ := World.cells?_some hc
      have := hat 0 (by rw [cells58]; omega)
      rw [Nat.zero_mul] at this
      have := World.cell?_spot (a := a) (by simpa [Addr.add] using this)
      obtain ⟨b, o, s⟩ := a
      simp at this
      subst this; rfl
    · have := hp 0 l[0] (by simp [h0]) 0 _ rfl
      exact lt_of_cell this

theorem open_nums {cs : List Value} {x : DataW H × List MemPlace} (h : DataW.trod enc Try.prog w base (fun _ => true) held fuel 26 cs = some x) :
    ∃ A c l, cs = [.slice A l.length c] ∧ l.length ≤ maxLen ∧ (A = none → c = 0) ∧ numsAt (· < w.heap.size) w A l := by
  rcases open_slice Try.underlying26 h with ⟨h1, _⟩ | ⟨a, len, cap, m, n, D, Pl, hcs, hb, hl, hm, hmm, hx, hi⟩
  · exact ⟨none, 0, [], h1, by simp, fun _ => rfl, fun h => by simp at h⟩
  · simp at hmm
    obtain ⟨l, hll, hp⟩ := list_of (p := fun i (t : Int) => w.cell? ⟨a.block, a.off + i, none⟩ = some (.int .i64 t)) len fun i hil => by
      obtain ⟨cs', hc, ht'⟩ := hi i (by omega)
      obtain ⟨t, rfl, _⟩ := DataW.trod_int Try.underlying3 ht'
      obtain ⟨_, hcl, hat⟩ := World.cells?_some hc
      refine ⟨t, ?_⟩
      have := hat 0 (by rw [cells3']; omega)
      rw [cells3', Nat.mul_one] at this
      have h3 : (a.add i).add 0 = a.add i := by simp [Addr.add]
      rw [h3] at this
      exact cell_add this
    subst hll
    refine ⟨some a, cap, l, hcs, by omega, (fun h => by cases h), fun h0 => ⟨a.block, a.off, ?_, lt_of_cell (hp 0 l[0] (by simp [h0])), hp⟩⟩
    obtain ⟨cs', hc, ht'⟩ := hi 0 (by omega)
    obtain ⟨t, rfl, _⟩ := DataW.trod_int Try.underlying3 ht'
    obtain ⟨_, hcl, hat⟩ := World.cells?_some hc
    have := hat 0 (by rw [cells3']; omega)
    rw [Nat.zero_mul] at this
    have := World.cell?_spot (a := a) (by simpa [Addr.add] using this)
    obtain ⟨b, o, s⟩ := a
    simp at this
    subst this; rfl

end
end Go.Proofs.Ytmcnpfjichbijaa
