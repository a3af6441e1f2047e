/- The document's examples: the house. -/
import Derived.Test.YtmcnpfjichbijaaL3
set_option linter.unusedSimpArgs false
set_option linter.unusedVariables false
namespace Go.Proofs.Ytmcnpfjichbijaa
open Go Go.Proofs Go.RowKit Go.Shelf


theorem load90 {g : Nat} {w : World} {c : Crt} (h : ∀ j v, (crtCs c)[j]? = some v → w.cell? ⟨g, j, none⟩ = some v) :
    (loadVar 90 ⟨g, 0, none⟩).run Try.prog w = .ok (.agg #[.int .i64 c.num, .int .i64 c.item, .int .i64 c.by_, .int .i64 c.day, .int .i64 c.valid, .int .i64 c.diff.lo, .int .i64 c.diff.hi]) w := by
  have h0 : w.cell? ⟨g, 0, none⟩ = some (.int .i64 c.num) := h 0 _ rfl
  have h1 : w.cell? ⟨g, 1, none⟩ = some (.int .i64 c.item) := h 1 _ rfl
  have h2 : w.cell? ⟨g, 2, none⟩ = some (.int .i64 c.by_) := h 2 _ rfl
  have h3 : w.cell? ⟨g, 3, none⟩ = some (.int .i64 c.day) := h 3 _ rfl
  have h4 : w.cell? ⟨g, 4, none⟩ = some (.int .i64 c.valid) := h 4 _ rfl
  have h5 : w.cell? ⟨g, 5, none⟩ = some (.int .i64 c.diff.lo) := h 5 _ rfl
  have h6 : w.cell? ⟨g, 6, none⟩ = some (.int .i64 c.diff.hi) := h 6 _ rfl
  simp [go_sem, h0, h1, h2, h3, h4, h5, h6]

theorem ret_cell {fn : Func} {p : Tmp} {t : TypeId} {g : Nat} {v : Value} {w : World} (h : fn.results = #[.cell p t]) (tmps : Array Value) (hp : tmps.getD p undef = .pointer (some ⟨g, 0, none⟩))
    (hl : (loadVar t ⟨g, 0, none⟩).run Try.prog w = .ok v w) : (results fn tmps).run Try.prog w = .ok v w := by
  have hp' : tmps[p]?.getD undef = .pointer (some ⟨g, 0, none⟩) := by simpa using hp
  simp [results, h, hp', asAddr, hl]

set_option maxRecDepth 100000 in
set_option maxHeartbeats 1000000 in
theorem c79 (n it by_ day valid lo hi : Int) (w : World) :
    Calls Try.prog 79 #[.int .i64 n, .int .i64 it, .int .i64 by_, .int .i64 day, .int .i64 valid, .int .i64 lo, .int .i64 hi] w fun e w' =>
      e = .returned (.agg #[.int .i64 n, .int .i64 it, .int .i64 by_, .int .i64 day, .int .i64 valid, .int .i64 lo, .int .i64 hi]) ∧ ∃ x, w' = over w x := by
  go_enter Try.func79, Try.ntmps79
  go_wp2_with fail
  refine bodyPost_ret (ret_cell rfl _ rfl (load90 (c := ⟨n, it, by_, day, valid, ⟨lo, hi⟩⟩) fun j v hv => ?_)) rfl ?_
  · have hj : j < 7 := (Array.getElem?_eq_some_iff.1 hv).1
    match j, hj, hv with
    | 0, _, hv => cases hv; simp [go_sem]; rfl
    | 1, _, hv => cases hv; simp [go_sem]; rfl
    | 2, _, hv => cases hv; simp [go_sem]; rfl
    | 3, _, hv => cases hv; simp [go_sem]; rfl
    | 4, _, hv => cases hv; simp [go_sem]; rfl
    | 5, _, hv => cases hv; simp [go_sem]; rfl
    | 6, _, hv => cases hv; simp [go_sem]; rfl
  · exact ⟨rfl, below_over (by repeat' (first | exact Below.refl _ _ | (refine below_ov ?_ ?_) | (refine Below.alloc ?_ ?_ _) | (refine below_drewN' ?_ _) | (refine Below.drew ?_) | (refine below_set ?_ _ _ ?_) | (simp; done) | (simp; omega) | omega))⟩

def houseB : Bk := ⟨[⟨0, true, ⟨1000, 1002⟩⟩, ⟨1, false, ⟨0, 0⟩⟩, ⟨2, false, ⟨0, 0⟩⟩], [⟨4, 1, 2, 40, 30, ⟨0, 9⟩⟩, ⟨1, 1, 0, 10, 100, ⟨5, 7⟩⟩, ⟨2, 2, 1, 20, 50, ⟨-3, -1⟩⟩, ⟨3, 2, 0, 30, 200, ⟨0, 20⟩⟩]⟩

/-- What the house's call returns. -/
def HouseTo (w : World) (e : Ending) (w' : World) : Prop :=
  ∃ Ai ci Ac cc, e = .returned (.agg #[.slice Ai houseB.items.length ci, .slice Ac houseB.certs.length cc]) ∧ bookAt (· < w'.heap.size) w' Ai Ac houseB ∧ ∃ x, w' = over w x

set_option maxRecDepth 100000 in
set_option maxHeartbeats 1000000 in
theorem c49 (w : World) : Calls Try.prog 49 #[] w (HouseTo w) := by
  go_enter Try.func49, Try.ntmps49
  go_wp2_with fail
  generalize hW : World.alloc (World.alloc w _) _ = W1
  have h0 : W1.cell? ⟨w.heap.size, 0, none⟩ = some (.slice none 0 0) := by rw [← hW]; simp [go_sem]
  have h1 : W1.cell? ⟨w.heap.size, 1, none⟩ = some (.slice none 0 0) := by rw [← hW]; simp [go_sem]
  have hf : ∀ j, W1.frozen? ⟨w.heap.size, j, none⟩ = false := fun j => by rw [← hW]; simp [go_sem]
  have hi : itemsAt (fun j => j < W1.heap.size) W1 (some ⟨w.heap.size + 1, 0, none⟩) houseB.items := fun _ => ⟨_, _, rfl, by rw [← hW]; simp, fun i x hx => by
    rw [← hW]
    match i, hx with
    | 0, hx => cases hx; simp [go_sem]
    | 1, hx => cases hx; simp [go_sem]
    | 2, hx => cases hx; simp [go_sem]⟩
  have hb : Below w.heap.size w W1 := by rw [← hW]; repeat' (first | exact Below.refl _ _ | (refine below_ov ?_ ?_) | (refine Below.alloc ?_ ?_ _) | (refine below_drewN' ?_ _) | (refine Below.drew ?_) | (refine below_set ?_ _ _ ?_) | (simp; done) | (simp; omega) | omega)
  have hs : w.heap.size + 2 ≤ W1.heap.size := by rw [← hW]; simp
  clear hW
  refine (c79 4 1 2 40 30 0 9 _).mono ?_
  rintro e w1 ⟨rfl, x1, e1⟩
  have k1 : Below W1.heap.size W1 w1 := by rw [e1]; exact over_below _ _
  clear e1
  go_wp2_with fail
  refine (c79 1 1 0 10 100 5 7 _).mono ?_
  rintro e w2 ⟨rfl, x2, e2⟩
  have k2 : Below W1.heap.size W1 w2 := by rw [e2]; exact k1.trans ((over_below _ _).mono k1.size)
  clear e2 k1 x1
  go_wp2_with fail
  refine (c79 2 2 1 20 50 (-3) (-1) _).mono ?_
  rintro e w3 ⟨rfl, x3, e3⟩
  have k3 : Below W1.heap.size W1 w3 := by rw [e3]; exact k2.trans ((over_below _ _).mono k2.size)
  clear e3 k2 x2
  go_wp2_with fail
  refine (c79 3 2 0 30 200 0 20 _).mono ?_
  rintro e w4 ⟨rfl, x4, e4⟩
  have k4 : Below W1.heap.size W1 w4 := by rw [e4]; exact k3.trans ((over_below _ _).mono k3.size)
  clear e4 k3 x3
  have kp : Keep (fun j => j < W1.heap.size) W1 w4 := Keep.of_below k4 fun _ h _ => h
  have h0' := kp.cell h0 (by show w.heap.size < _; omega)
  have h1' := kp.cell h1 (by show w.heap.size < _; omega)
  have hf' : ∀ j, w4.frozen? ⟨w.heap.size, j, none⟩ = false := fun j => by rw [World.frozen?_of_block (kp.block w.heap.size (by show w.heap.size < _; omega) (by show w.heap.size < _; omega))]; exact hf j
  have HI := Lib.hid (hi.keep kp)
  have hs4 := k4.size
  have HB := Lib.hid (hb.trans (k4.mono hb.size))
  have f0 := hf' 0
  have f1 := hf' 1
  have lw0 := lt_of_cell h0'
  clear hi kp h0 h1 hf hf' k4 hb
  go_wp2_with fail
  generalize hW5 : World.alloc (World.setCell (World.setCell w4 _ _) _ _) _ = W5
  have hs5 : w4.heap.size + 1 ≤ W5.heap.size := by rw [← hW5]; simp
  have k5 : Keep (fun j => j < w4.heap.size ∧ j ≠ w.heap.size) w4 W5 := by
    rw [← hW5]
    exact ((Keep.setCell _ _ _ (fun h => h.2 rfl)).trans (Keep.setCell _ _ _ (fun h => h.2 rfl))).trans (Keep.alloc _ _ _)
  have c0 : W5.cell? ⟨w.heap.size, 0, none⟩ = some (.slice (some ⟨w.heap.size + 1, 0, none⟩) 3 3) := by
    rw [← hW5, World.cell?_alloc_past _ _ _ (by simpa using lw0), World.cell?_setCell_other _ _ _ _ (by simp)]
    exact World.cell?_setCell_same' _ _ _ (by rw [h0']; rfl)
  have c1 : W5.cell? ⟨w.heap.size, 1, none⟩ = some (.slice (some ⟨w4.heap.size, 0, none⟩) 4 4) := by
    rw [← hW5, World.cell?_alloc_past _ _ _ (by simpa using lw0)]
    exact World.cell?_setCell_same' _ _ _ (by rw [World.cell?_setCell_other _ _ _ _ (by simp), h1']; rfl)
  have hc : certsAt (fun j => j < W5.heap.size) W5 (some ⟨w4.heap.size, 0, none⟩) houseB.certs := fun _ => ⟨_, _, rfl, by show w4.heap.size < _; omega, fun i x hx => by
    rw [← hW5]
    match i, hx with
    | 0, hx => cases hx; simp [go_sem]
    | 1, hx => cases hx; simp [go_sem]
    | 2, hx => cases hx; simp [go_sem]
    | 3, hx => cases hx; simp [go_sem]⟩
  have hb5 : Below w.heap.size w W5 := HB.out.trans (k5.below fun j hj => ⟨by omega, by omega⟩)
  have hit : itemsAt (fun j => j < W5.heap.size) W5 (some ⟨w.heap.size + 1, 0, none⟩) houseB.items := by
    intro hl
    obtain ⟨b, o, e, hS, hc⟩ := HI.out hl
    cases e
    refine ⟨_, _, rfl, by show w.heap.size + 1 < _; omega, fun i x hx => ?_⟩
    obtain ⟨q1, q2, q3, q4⟩ := hc i x hx
    have hin : w.heap.size + 1 < w4.heap.size ∧ w.heap.size + 1 ≠ w.heap.size := ⟨by omega, by omega⟩
    exact ⟨k5.cell q1 hin, k5.cell q2 hin, k5.cell q3 hin, k5.cell q4 hin⟩
  clear hW5
  refine bodyPost_ret (ret_cell (g := w.heap.size) (v := .agg #[.slice (some ⟨w.heap.size + 1, 0, none⟩) 3 3, .slice (some ⟨w4.heap.size, 0, none⟩) 4 4]) rfl _ rfl ?_) rfl ?_
  · simp [go_sem, c0, c1]
  · exact ⟨_, _, _, _, rfl, ⟨hit, hc⟩, below_over hb5⟩
end Go.Proofs.Ytmcnpfjichbijaa

