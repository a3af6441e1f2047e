/- The document's examples: a list copied; the house. -/
import Derived.Test.YtmcnpfjichbijaaL1
import Derived.Test.YtmcnpfjichbijaaB3
import Derived.Deep.Upon
import Derived.OwnWalk
import Derived.Test.YtmcnpfjichbijaaC20

set_option linter.unusedSimpArgs false
set_option linter.unusedVariables false
namespace Go.Proofs.Ytmcnpfjichbijaa
open Go Go.Proofs Go.RowKit Go.Shelf


theorem info3o : ∃ i, Try.prog.info? 3 = some i ∧ i.zero = some (.int .i64 0) ∧ i.size = 1 ∧ i.bytes = 8 := by
  have h : (Try.prog.info? 3).map (fun i => (i.zero, i.size, i.bytes)) = some (some (.int .i64 0), 1, 8) := by kernel_rfl
  exact info_parts h

/-- What a copy's call returns. -/
def CopyTo (l : List Int) (w : World) (e : Ending) (w' : World) : Prop :=
  ∃ A' c', e = .returned (.slice A' l.length c') ∧ numsAt (fun j => w.heap.size ≤ j ∧ j < w'.heap.size) w' A' l ∧ ∃ x, w' = over w x

set_option maxRecDepth 100000 in
set_option maxHeartbeats 1000000 in
theorem c21 {A : Option Addr} {cn : Nat} {l : List Int} {w : World} (h : numsAt (· < w.heap.size) w A l) (hl : l.length ≤ 2000) (hA : A = none → cn = 0) :
    Calls Try.prog 21 #[.slice A l.length cn] w (CopyTo l w) := by
  obtain ⟨i0, hi, hz0, hz1, hz2⟩ := info3o
  have h0 : (w.alloc (.cells #[] 3)).ownsRow w.heap.size 3 1 (.slice (some ⟨w.heap.size, 0, none⟩) 0 0) 0 [] := ⟨rfl, .inr ⟨w.heap.size, 0, #[], rfl, Nat.le_refl _, heap_alloc_new w _, Nat.le_refl _, Nat.zero_le _, rfl, rfl⟩⟩
  cases A with
  | none =>
    have hnil : l = [] := by
      rcases Nat.eq_zero_or_pos l.length with h | hp
      · exact List.length_eq_zero_iff.1 h
      · obtain ⟨_, _, e, _⟩ := h hp; cases e
    subst hnil
    cases hA rfl
    go_enter Try.func21, Try.ntmps21
    go_wp2_with (at_builtin; refine wpList_append_own_none rfl _ _ 26 rfl w.heap.size 3 i0 1 und26 hi _ 0 [] rfl h0 rfl ?_)
    go_ret
    exact ⟨_, _, rfl, fun h => by simp at h, below_over ((Below.refl _ w).alloc (Nat.le_refl _) _)⟩
  | some a =>
    have hns : ∀ j u, (l.map (Value.int .i64))[j]? = some u → (w.alloc (.cells #[] 3)).cell? (a.add j) = some u := by
      intro j u hj
      simp at hj
      obtain ⟨n, hn, rfl⟩ := hj
      have hlt := (List.getElem?_eq_some_iff.1 hn).1
      obtain ⟨b, o, e, hS, hns⟩ := h (by omega)
      cases e
      have ea : Addr.add ⟨b, o, none⟩ j = ⟨b, o + j, none⟩ := by unfold Addr.add; split <;> simp_all
      rw [ea, World.cell?_alloc_past _ _ _ hS]
      exact hns j n hn
    have HNS := Lib.hid hns
    clear hns h
    go_enter Try.func21, Try.ntmps21
    go_wp2_with (at_builtin; refine wpList_append_own _ rfl _ _ 26 rfl w.heap.size 3 i0 (.int .i64 0) 1 8 und26 hi hz0 hz1 hz2 rfl (by decide) _ 0 [] rfl h0 a l.length cn (l.map (Value.int .i64)) rfl ?len HNS.out ?one ?h63 ?hb ?base ?_)
    case len => simp
    case one => intro u hu; obtain ⟨n, _, rfl⟩ := List.mem_map.1 hu; rfl
    case h63 => simp only [maxLen]; omega
    case hb => omega
    case base => simp
    intro v' w1 hown hgr hnil
    obtain ⟨A', c', e⟩ : ∃ A' c', v' = .slice A' (0 + l.length) c' := by
      rcases hown.2 with ⟨h1, h2⟩ | ⟨g, cap, cur, h1, _⟩
      · exact ⟨none, 0, by rw [h1, h2]⟩
      · exact ⟨_, _, by rw [Nat.zero_add]; exact h1⟩
    subst e
    have hown' : w1.ownsRow w.heap.size 3 1 (.slice A' l.length c') l.length (l.map (Value.int .i64)) := by simpa using hown
    have HOWN := Lib.hid hown'
    have hb : Below w.heap.size w w1 := ((Below.refl _ w).alloc (Nat.le_refl _) _).grown hgr (by simp) (by rintro k hk; simp [Value.ownBlock] at hk; omega)
    have HB := Lib.hid hb
    clear hgr hown hnil hown' hb
    simp only [Nat.zero_add]
    go_wp2_with fail
    go_ret
    exact ⟨A', c', rfl, nums_of_own HOWN.out, below_over HB.out⟩
end Go.Proofs.Ytmcnpfjichbijaa


/- The document's examples: the house. -/
set_option linter.unusedSimpArgs false
set_option linter.unusedVariables false
namespace Go.Proofs.Ytmcnpfjichbijaa
open Go Go.Proofs Go.RowKit Go.Shelf


theorem load90 {g : Nat} {w : World} {c : Crt} (h : ∀ j v, (crtCs c)[j]? = some v → w.cell? ⟨g, j, none⟩ = some v) :
    (loadVar 90 ⟨g, 0, none⟩).run Try.prog w = .ok (.agg #[.int .i64 c.num, .int .i64 c.item, .int .i64 c.by_, .int .i64 c.day, .int .i64 c.valid, .int .i64 c.diff.lo, .int .i64 c.diff.hi]) w := by
  have h0 : w.cell? ⟨g, 0, none⟩ = some (.int .i64 c.num) := h 0 _ rfl
  have h1 : w.cell? ⟨g, 1, none⟩ = some (.int .i64 c.item) := h 1 _ rfl
  have h2 : w.cell? ⟨g, 2, none⟩ = some (.int .i64 c.by_) := h 2 _ rfl
  have h3 : w.cell? ⟨g, 3, none⟩ = some (.int .i64 c.day) := h 3 _ rfl
  have h4 : w.cell? ⟨g, 4, none⟩ = some (.int .i64 c.valid) := h 4 _ rfl
  have h5 : w.cell? ⟨g, 5, none⟩ = some (.int .i64 c.diff.lo) := h 5 _ rfl
  have h6 : w.cell? ⟨g, 6, none⟩ = some (.int .i64 c.diff.hi) := h 6 _ rfl
  simp [go_sem, h0, h1, h2, h3, h4, h5, h6]

theorem ret_cell {fn : Func} {p : Tmp} {t : TypeId} {g : Nat} {v : Value} {w : World} (h : fn.results = #[.cell p t]) (tmps : Array Value) (hp : tmps.getD p undef = .pointer (some ⟨g, 0, none⟩))
    (hl : (loadVar t ⟨g, 0, none⟩).run Try.prog w = .ok v w) : (results fn tmps).run Try.prog w = .ok v w := by
  have hp' : tmps[p]?.getD undef = .pointer (some ⟨g, 0, none⟩) := by simpa using hp
  simp [results, h, hp', asAddr, hl]

set_option maxRecDepth 100000 in
set_option maxHeartbeats 1000000 in
theorem c79 (n it by_ day valid lo hi : Int) (w : World) :
    Calls Try.prog 79 #[.int .i64 n, .int .i64 it, .int .i64 by_, .int .i64 day, .int .i64 valid, .int .i64 lo, .int .i64 hi] w fun e w' =>
      e = .returned (.agg #[.int .i64 n, .int .i64 it, .int .i64 by_, .int .i64 day, .int .i64 valid, .int .i64 lo, .int .i64 hi]) ∧ ∃ x, w' = over w x := by
  go_enter Try.func79, Try.ntmps79
  go_wp2_with fail
  refine bodyPost_ret (ret_cell rfl _ rfl (load90 (c := ⟨n, it, by_, day, valid, ⟨lo, hi⟩⟩) fun j v hv => ?_)) rfl ?_
  · have hj : j < 7 := (Array.getElem?_eq_some_iff.1 hv).1
    match j, hj, hv with
    | 0, _, hv => cases hv; simp [go_sem]; rfl
    | 1, _, hv => cases hv; simp [go_sem]; rfl
    | 2, _, hv => cases hv; simp [go_sem]; rfl
    | 3, _, hv => cases hv; simp [go_sem]; rfl
    | 4, _, hv => cases hv; simp [go_sem]; rfl
    | 5, _, hv => cases hv; simp [go_sem]; rfl
    | 6, _, hv => cases hv; simp [go_sem]; rfl
  · exact ⟨rfl, below_over (by repeat' (first | exact Below.refl _ _ | (refine below_ov ?_ ?_) | (refine Below.alloc ?_ ?_ _) | (refine below_drewN' ?_ _) | (refine Below.drew ?_) | (refine below_set ?_ _ _ ?_) | (simp; done) | (simp; omega) | omega))⟩

def houseB : Bk := ⟨[⟨0, true, ⟨1000, 1002⟩⟩, ⟨1, false, ⟨0, 0⟩⟩, ⟨2, false, ⟨0, 0⟩⟩], [⟨4, 1, 2, 40, 30, ⟨0, 9⟩⟩, ⟨1, 1, 0, 10, 100, ⟨5, 7⟩⟩, ⟨2, 2, 1, 20, 50, ⟨-3, -1⟩⟩, ⟨3, 2, 0, 30, 200, ⟨0, 20⟩⟩]⟩

/-- What the house's call returns. -/
def HouseTo (w : World) (e : Ending) (w' : World) : Prop :=
  ∃ Ai ci Ac cc, e = .returned (.agg #[.slice Ai houseB.items.length ci, .slice Ac houseB.certs.length cc]) ∧ bookAt (· < w'.heap.size) w' Ai Ac houseB ∧ ∃ x, w' = over w x

set_option maxRecDepth 100000 in
set_option maxHeartbeats 1000000 in
theorem c49 (w : World) : Calls Try.prog 49 #[] w (HouseTo w) := by
  go_enter Try.func49, Try.ntmps49
  go_wp2_with fail
  generalize hW : World.alloc (World.alloc w _) _ = W1
  have h0 : W1.cell? ⟨w.heap.size, 0, none⟩ = some (.slice none 0 0) := by rw [← hW]; simp [go_sem]
  have h1 : W1.cell? ⟨w.heap.size, 1, none⟩ = some (.slice none 0 0) := by rw [← hW]; simp [go_sem]
  have hf : ∀ j, W1.frozen? ⟨w.heap.size, j, none⟩ = false := fun j => by rw [← hW]; simp [go_sem]
  have hi : itemsAt (fun j => j < W1.heap.size) W1 (some ⟨w.heap.size + 1, 0, none⟩) houseB.items := fun _ => ⟨_, _, rfl, by rw [← hW]; simp, fun i x hx => by
    rw [← hW]
    match i, hx with
    | 0, hx => cases hx; simp [go_sem]
    | 1, hx => cases hx; simp [go_sem]
    | 2, hx => cases hx; simp [go_sem]⟩
  have hb : Below w.heap.size w W1 := by rw [← hW]; repeat' (first | exact Below.refl _ _ | (refine below_ov ?_ ?_) | (refine Below.alloc ?_ ?_ _) | (refine below_drewN' ?_ _) | (refine Below.drew ?_) | (refine below_set ?_ _ _ ?_) | (simp; done) | (simp; omega) | omega)
  have hs : w.heap.size + 2 ≤ W1.heap.size := by rw [← hW]; simp
  clear hW
  refine (c79 4 1 2 40 30 0 9 _).mono ?_
  rintro e w1 ⟨rfl, x1, e1⟩
  have k1 : Below W1.heap.size W1 w1 := by rw [e1]; exact over_below _ _
  clear e1
  go_wp2_with fail
  refine (c79 1 1 0 10 100 5 7 _).mono ?_
  rintro e w2 ⟨rfl, x2, e2⟩
  have k2 : Below W1.heap.size W1 w2 := by rw [e2]; exact k1.trans ((over_below _ _).mono k1.size)
  clear e2 k1 x1
  go_wp2_with fail
  refine (c79 2 2 1 20 50 (-3) (-1) _).mono ?_
  rintro e w3 ⟨rfl, x3, e3⟩
  have k3 : Below W1.heap.size W1 w3 := by rw [e3]; exact k2.trans ((over_below _ _).mono k2.size)
  clear e3 k2 x2
  go_wp2_with fail
  refine (c79 3 2 0 30 200 0 20 _).mono ?_
  rintro e w4 ⟨rfl, x4, e4⟩
  have k4 : Below W1.heap.size W1 w4 := by rw [e4]; exact k3.trans ((over_below _ _).mono k3.size)
  clear e4 k3 x3
  have kp : Keep (fun j => j < W1.heap.size) W1 w4 := Keep.of_below k4 fun _ h _ => h
  have h0' := kp.cell h0 (by show w.heap.size < _; omega)
  have h1' := kp.cell h1 (by show w.heap.size < _; omega)
  have hf' : ∀ j, w4.frozen? ⟨w.heap.size, j, none⟩ = false := fun j => by rw [World.frozen?_of_block (kp.block w.heap.size (by show w.heap.size < _; omega) (by show w.heap.size < _; omega))]; exact hf j
  have HI := Lib.hid (hi.keep kp)
  have hs4 := k4.size
  have HB := Lib.hid (hb.trans (k4.mono hb.size))
  have f0 := hf' 0
  have f1 := hf' 1
  have lw0 := lt_of_cell h0'
  clear hi kp h0 h1 hf hf' k4 hb
  go_wp2_with fail
  generalize hW5 : World.alloc (World.setCell (World.setCell w4 _ _) _ _) _ = W5
  have hs5 : w4.heap.size + 1 ≤ W5.heap.size := by rw [← hW5]; simp
  have k5 : Keep (fun j => j < w4.heap.size ∧ j ≠ w.heap.size) w4 W5 := by
    rw [← hW5]
    exact ((Keep.setCell _ _ _ (fun h => h.2 rfl)).trans (Keep.setCell _ _ _ (fun h => h.2 rfl))).trans (Keep.alloc _ _ _)
  have c0 : W5.cell? ⟨w.heap.size, 0, none⟩ = some (.slice (some ⟨w.heap.size + 1, 0, none⟩) 3 3) := by
    rw [← hW5, World.cell?_alloc_past _ _ _ (by simpa using lw0), World.cell?_setCell_other _ _ _ _ (by simp)]
    exact World.cell?_setCell_same' _ _ _ (by rw [h0']; rfl)
  have c1 : W5.cell? ⟨w.heap.size, 1, none⟩ = some (.slice (some ⟨w4.heap.size, 0, none⟩) 4 4) := by
    rw [← hW5, World.cell?_alloc_past _ _ _ (by simpa using lw0)]
    exact World.cell?_setCell_same' _ _ _ (by rw [World.cell?_setCell_other _ _ _ _ (by simp), h1']; rfl)
  have hc : certsAt (fun j => j < W5.heap.size) W5 (some ⟨w4.heap.size, 0, none⟩) houseB.certs := fun _ => ⟨_, _, rfl, by show w4.heap.size < _; omega, fun i x hx => by
    rw [← hW5]
    match i, hx with
    | 0, hx => cases hx; simp [go_sem]
    | 1, hx => cases hx; simp [go_sem]
    | 2, hx => cases hx; simp [go_sem]
    | 3, hx => cases hx; simp [go_sem]⟩
  have hb5 : Below w.heap.size w W5 := HB.out.trans (k5.below fun j hj => ⟨by omega, by omega⟩)
  have hit : itemsAt (fun j => j < W5.heap.size) W5 (some ⟨w.heap.size + 1, 0, none⟩) houseB.items := by
    intro hl
    obtain ⟨b, o, e, hS, hc⟩ := HI.out hl
    cases e
    refine ⟨_, _, rfl, by show w.heap.size + 1 < _; omega, fun i x hx => ?_⟩
    obtain ⟨q1, q2, q3, q4⟩ := hc i x hx
    have hin : w.heap.size + 1 < w4.heap.size ∧ w.heap.size + 1 ≠ w.heap.size := ⟨by omega, by omega⟩
    exact ⟨k5.cell q1 hin, k5.cell q2 hin, k5.cell q3 hin, k5.cell q4 hin⟩
  clear hW5
  refine bodyPost_ret (ret_cell (g := w.heap.size) (v := .agg #[.slice (some ⟨w.heap.size + 1, 0, none⟩) 3 3, .slice (some ⟨w4.heap.size, 0, none⟩) 4 4]) rfl _ rfl ?_) rfl ?_
  · simp [go_sem, c0, c1]
  · exact ⟨_, _, _, _, rfl, ⟨hit, hc⟩, below_over hb5⟩
end Go.Proofs.Ytmcnpfjichbijaa


/- The document's example, computed. -/
namespace Go.Proofs.Ytmcnpfjichbijaa
open Go

theorem house_nums : numsOf houseB = [1,2,3,4] := by
  have h : firsts houseB.certs = [4, 1, 2, 3] := by decide +kernel
  unfold numsOf
  rw [h]
  simp [List.mergeSort, List.MergeSort.Internal.splitInTwo]

def hoHolds (N : List Int) (f : Int → Bool) : Int → Bool :=
  N.foldl (fun h n j => if j = n then (stdOf houseB (getC houseB n).by_ || (ofN (getC houseB) N (getC houseB n).by_ (getC houseB n).day n).any h) && !f n else h j) fun _ => false
def hoSpan (N : List Int) (sp : Int → Rng) (item day below : Int) : Rng :=
  if stdOf houseB item then (itmOf houseB item).val else (ofN (getC houseB) N item day below).foldl (spanStep houseB (hoHolds N fun _ => false) sp item day) everyR
def hoSpans (N : List Int) : Int → Rng :=
  N.foldl (fun sp n j => if j = n ∧ hoHolds N (fun _ => false) n = true then plusR (hoSpan N sp (getC houseB n).by_ (getC houseB n).day n) (getC houseB n).diff else sp j) fun _ => ⟨0, 0⟩
def hoContra (N : List Int) : Bool := N.any fun n => hoHolds N (fun _ => false) n && decide ((hoSpan N (hoSpans N) (getC houseB n).item (getC houseB n).day 1000).hi < (hoSpan N (hoSpans N) (getC houseB n).item (getC houseB n).day 1000).lo)
def hoEnds (N : List Int) : Int → List Int :=
  N.foldl (fun E n j => if j = n ∧ hoHolds N (fun _ => false) n = true then (if stdOf houseB (getC houseB n).by_ then [n] else (ofN (getC houseB) N (getC houseB n).by_ (getC houseB n).day n).foldl (fun best o => if hoHolds N (fun _ => false) o then better (E o ++ [n]) best else best) []) else E j) fun _ => []
def hoBest (N : List Int) (item at_ : Int) : List Int :=
  if stdOf houseB item then [] else (ofN (getC houseB) N item at_ 1000).foldl (fun best c => if hoHolds N (fun _ => false) c then better (hoEnds N c) best else best) []

theorem ho_holds (f : Int → Bool) : holds houseB f = hoHolds [1,2,3,4] f := by rw [← house_nums]; rfl
theorem ho_held : held0 houseB = hoHolds [1,2,3,4] fun _ => false := ho_holds _
theorem ho_spans : spansOf houseB = hoSpans [1,2,3,4] := by rw [← house_nums]; rfl
theorem ho_spanBy (sp : Int → Rng) (item day below : Int) : spanBy houseB (held0 houseB) sp item day below = hoSpan [1,2,3,4] sp item day below := by rw [← house_nums]; rfl
theorem ho_contra : contra houseB = hoContra [1,2,3,4] := by rw [← house_nums]; rfl
theorem ho_best (i d : Int) : bestOf houseB i d = hoBest [1,2,3,4] i d := by rw [← house_nums]; rfl

theorem house_err : errOf houseB [1] = 0 := by decide +kernel
theorem house_err2 : errOf houseB [1, 3] = 0 := by decide +kernel
theorem house_wrong : (numsOf houseB).filter (holds houseB fun n => decide (n ∈ [1])) = [3, 4] := by
  rw [house_nums, ho_holds]
  decide +kernel
theorem house_hung : (numsOf houseB).filter (hungB houseB [1, 3]) = [2, 4] := by
  unfold hungB
  rw [house_nums, ho_holds, ho_holds]
  decide +kernel
theorem house_ask : askErr houseB 2 25 = 0 := by
  unfold askErr reach
  rw [ho_holds, house_nums]
  decide +kernel
theorem house_ask2 : askErr houseB 2 30 = 0 := by
  unfold askErr reach
  rw [ho_holds, house_nums]
  decide +kernel
theorem house_spanErr : spanErr houseB 2 30 = 0 := by
  unfold spanErr
  rw [house_ask2, ho_contra]
  decide +kernel
theorem house_span : spanRes houseB 2 30 = ⟨1000, 1022⟩ := by
  unfold spanRes spanAt
  rw [house_spanErr, ho_spanBy, ho_spans]
  decide +kernel
theorem house_best : bestRes houseB 2 25 = [1, 2] := by
  unfold bestRes
  rw [house_ask, ho_best]
  decide +kernel

end Go.Proofs.Ytmcnpfjichbijaa

/- The document's example: it wakes. -/
set_option linter.unusedSimpArgs false
set_option linter.unusedVariables false
namespace Go.Proofs.Ytmcnpfjichbijaa
open Go Go.Proofs Go.RowKit Go.Shelf


theorem numsAt.below {w w' : World} {A : Option Addr} {l : List Int} (h : numsAt (· < w.heap.size) w A l) (hb : Below w.heap.size w w') : numsAt (· < w'.heap.size) w' A l :=
  (h.keep (Keep.of_below hb fun _ h _ => h)).mono fun j hj => by have := hb.size; have : j < w.heap.size := hj; show j < w'.heap.size; omega

theorem nums_new1 (w : World) (a : Int) (t : TypeId) : numsAt (· < (w.alloc (.cells #[.int .i64 a] t)).heap.size) (w.alloc (.cells #[.int .i64 a] t)) (some ⟨w.heap.size, 0, none⟩) [a] := fun _ => ⟨_, _, rfl, by simp, fun i n hn => by
  match i, hn with
  | 0, hn => cases hn; simp [go_sem]⟩
theorem nums_new2 (w : World) (a b : Int) (t : TypeId) : numsAt (· < (w.alloc (.cells #[.int .i64 a, .int .i64 b] t)).heap.size) (w.alloc (.cells #[.int .i64 a, .int .i64 b] t)) (some ⟨w.heap.size, 0, none⟩) [a, b] := fun _ => ⟨_, _, rfl, by simp, fun i n hn => by
  match i, hn with
  | 0, hn => cases hn; simp [go_sem]
  | 1, hn => cases hn; simp [go_sem]⟩

theorem same26 {A : Option Addr} {c : Nat} {a b : Int} {w : World} (h : numsAt (· < w.heap.size) w A [a, b]) (t : TypeId) :
    Calls Try.prog 26 #[.slice A 2 c, .slice (some ⟨w.heap.size, 0, none⟩) 2 2] (w.alloc (.cells #[.int .i64 a, .int .i64 b] t)) fun e w' => e = .returned (.bool true) ∧ Below w.heap.size w w' := by
  have b1 : Below w.heap.size w (w.alloc (.cells #[.int .i64 a, .int .i64 b] t)) := (Below.refl _ w).alloc (Nat.le_refl _) _
  refine (c26 (h.below b1) (nums_new2 w a b t) (by simp) (by simp)).mono ?_
  rintro e w' ⟨rfl, n, rfl⟩
  exact ⟨by simp, below_drewN' b1 n⟩

/-- A call's end: a list and no error. -/
def Got (l : List Int) (w : World) (e : Ending) (w' : World) : Prop :=
  ∃ A c, e = .returned (.tuple #[.slice A l.length c, .int .i64 0]) ∧ numsAt (· < w'.heap.size) w' A l ∧ Below w.heap.size w w'

theorem ListTo.got {l : List Int} {w w' : World} {e : Ending} (h : ListTo 0 l w e w') : Got l w e w' := by
  rcases h with ⟨h, _⟩ | ⟨_, A, c, h1, h2, x, h3⟩
  · exact absurd rfl h
  · exact ⟨A, c, h1, h2.mono fun j hj => hj.2, h3 ▸ over_below _ _⟩

theorem house34 {Ai Ac : Option Addr} {ci cc : Nat} {w : World} (hA : bookAt (· < w.heap.size) w Ai Ac houseB) (t : TypeId) :
    Calls Try.prog 34 #[.agg #[.slice Ai houseB.items.length ci, .slice Ac houseB.certs.length cc], .slice (some ⟨w.heap.size, 0, none⟩) 1 1] (w.alloc (.cells #[.int .i64 1] t)) (Got [3, 4] (w.alloc (.cells #[.int .i64 1] t))) := by
  refine (c34 Ai Ac _ ci cc 1 houseB [1] _ (hA.alloc _) (nums_new1 w 1 t) (by decide) (by decide) (by decide)).mono fun e w' h => ?_
  rw [house_err, house_wrong] at h
  exact h.got
theorem house19 {Ai Ac : Option Addr} {ci cc : Nat} {w : World} (hA : bookAt (· < w.heap.size) w Ai Ac houseB) (t : TypeId) :
    Calls Try.prog 19 #[.agg #[.slice Ai houseB.items.length ci, .slice Ac houseB.certs.length cc], .slice (some ⟨w.heap.size, 0, none⟩) 2 2] (w.alloc (.cells #[.int .i64 1, .int .i64 3] t)) (Got [2, 4] (w.alloc (.cells #[.int .i64 1, .int .i64 3] t))) := by
  refine (c19 Ai Ac _ ci cc 2 houseB [1, 3] _ (hA.alloc _) (nums_new2 w 1 3 t) (by decide) (by decide) (by decide)).mono fun e w' h => ?_
  rw [house_err2, house_hung] at h
  exact h.got
theorem house27 {Ai Ac : Option Addr} {ci cc : Nat} {w : World} (hA : bookAt (· < w.heap.size) w Ai Ac houseB) :
    Calls Try.prog 27 #[.agg #[.slice Ai houseB.items.length ci, .slice Ac houseB.certs.length cc], .int .i64 2, .int .i64 30] w fun e w' => e = .returned (.tuple #[.agg #[.int .i64 1000, .int .i64 1022], .int .i64 0]) ∧ Below w.heap.size w w' := by
  refine (c27 Ai Ac ci cc houseB 2 30 w hA (by decide) (by decide)).mono fun e w' h => ?_
  rw [house_span, house_spanErr] at h
  obtain ⟨h1, x, h2⟩ := h
  exact ⟨h1, h2 ▸ over_below _ _⟩
theorem house38 {Ai Ac : Option Addr} {ci cc : Nat} {w : World} (hA : bookAt (· < w.heap.size) w Ai Ac houseB) :
    Calls Try.prog 38 #[.agg #[.slice Ai houseB.items.length ci, .slice Ac houseB.certs.length cc], .int .i64 2, .int .i64 25] w (Got [1, 2] w) := by
  refine (c38 Ai Ac ci cc houseB 2 25 w hA (by decide) (by decide)).mono fun e w' h => ?_
  obtain ⟨A, c, h1, h2, x, h3⟩ := h
  rw [house_best] at h1 h2
  rw [house_ask] at h1
  exact ⟨A, c, h1, h2.mono fun j hj => hj.2, h3 ▸ over_below _ _⟩

set_option maxRecDepth 100000 in
set_option maxHeartbeats 1000000 in
theorem c18 (w : World) : Calls Try.prog 18 #[] w fun e w' => e = .returned (.bool true) ∧ ∃ x, w' = over w x := by
  go_enter Try.func18, Try.ntmps18
  go_wp2_with fail
  refine (c49 _).mono ?_
  rintro e w1 ⟨Ai, ci, Ac, cc, rfl, hA1, x1, e1⟩
  have b1 : Below w.heap.size w w1 := by rw [e1]; exact over_below _ _
  clear e1 x1
  have B1 := Lib.hid b1
  have HA1 := Lib.hid hA1
  clear hA1 b1
  go_wp2_with fail
  refine (house34 HA1.out _).mono ?_
  rintro e w2 ⟨A3, c3, rfl, hn3, b2⟩
  have B2 := Lib.hid (B1.out.trans ((((Below.refl _ w1).alloc (Nat.le_refl _) _).trans (b2.mono (by simp))).mono B1.out.size))
  have H3 := Lib.hid hn3
  clear B1 b2 hn3 HA1
  go_wp2_with fail
  refine (c49 _).mono ?_
  rintro e w3 ⟨Ai, ci, Ac, cc, rfl, hA1, x1, e1⟩
  have b1 : Below w2.heap.size w2 w3 := by rw [e1]; exact over_below _ _
  have B3 := Lib.hid (B2.out.trans (b1.mono B2.out.size))
  have H3 := Lib.hid (H3.out.below b1)
  have HA1 := Lib.hid hA1
  clear hA1 b1 e1 x1 B2
  go_wp2_with fail
  refine (house19 HA1.out _).mono ?_
  rintro e w4 ⟨A4, c4, rfl, hn4, b2⟩
  have b3 := ((Below.refl w3.heap.size w3).alloc (Nat.le_refl _) _).trans (b2.mono (by simp))
  have B4 := Lib.hid (B3.out.trans (b3.mono B3.out.size))
  have H3 := Lib.hid (H3.out.below b3)
  have H4 := Lib.hid hn4
  clear B3 b2 b3 hn4 HA1
  go_wp2_with fail
  refine (c49 _).mono ?_
  rintro e w5 ⟨Ai, ci, Ac, cc, rfl, hA1, x1, e1⟩
  have b1 : Below w4.heap.size w4 w5 := by rw [e1]; exact over_below _ _
  have B5 := Lib.hid (B4.out.trans (b1.mono B4.out.size))
  have H3 := Lib.hid (H3.out.below b1)
  have H4 := Lib.hid (H4.out.below b1)
  have HA1 := Lib.hid hA1
  clear hA1 b1 e1 x1 B4
  go_wp2_with fail
  refine (house27 HA1.out).mono ?_
  rintro e w6 ⟨rfl, b1⟩
  have B6 := Lib.hid (B5.out.trans (b1.mono B5.out.size))
  have H3 := Lib.hid (H3.out.below b1)
  have H4 := Lib.hid (H4.out.below b1)
  clear b1 B5 HA1
  go_wp2_with fail
  generalize hV : World.alloc w6 _ = V
  have c50 : V.cell? ⟨w6.heap.size, 0, none⟩ = some (.int .i64 1000) := by rw [← hV]; simp [go_sem]
  have c51 : V.cell? ⟨w6.heap.size, 1, none⟩ = some (.int .i64 1022) := by rw [← hV]; simp [go_sem]
  have bV : Below w6.heap.size w6 V := by rw [← hV]; exact (Below.refl _ _).alloc (Nat.le_refl _) _
  have BV := Lib.hid (B6.out.trans (bV.mono B6.out.size))
  have H3 := Lib.hid (H3.out.below bV)
  have H4 := Lib.hid (H4.out.below bV)
  clear hV bV B6
  refine (c49 _).mono ?_
  rintro e w7 ⟨Ai, ci, Ac, cc, rfl, hA1, x1, e1⟩
  have b1 : Below V.heap.size V w7 := by rw [e1]; exact over_below _ _
  have B7 := Lib.hid (BV.out.trans (b1.mono BV.out.size))
  have H3 := Lib.hid (H3.out.below b1)
  have H4 := Lib.hid (H4.out.below b1)
  have HA1 := Lib.hid hA1
  have kp : Keep (· < V.heap.size) V w7 := Keep.of_below b1 fun _ h _ => h
  have d0 := kp.cell c50 (lt_of_cell c50)
  have d1 := kp.cell c51 (lt_of_cell c51)
  clear hA1 b1 e1 x1 BV c50 c51 kp
  go_wp2_with fail
  refine (house38 HA1.out).mono ?_
  rintro e w8 ⟨A8, c8, rfl, hn8, b1⟩
  have B8 := Lib.hid (B7.out.trans (b1.mono B7.out.size))
  have H3 := Lib.hid (H3.out.below b1)
  have H4 := Lib.hid (H4.out.below b1)
  have H8 := Lib.hid hn8
  have kp : Keep (· < w7.heap.size) w7 w8 := Keep.of_below b1 fun _ h _ => h
  have f0 := kp.cell d0 (lt_of_cell d0)
  have f1 := kp.cell d1 (lt_of_cell d1)
  have lf := lt_of_cell f0
  clear b1 hn8 B7 d0 d1 kp HA1
  go_wp2_with fail
  refine (same26 H3.out _).mono ?_
  rintro e w9 ⟨rfl, b1⟩
  have B9 := Lib.hid (B8.out.trans (b1.mono B8.out.size))
  have H4 := Lib.hid (H4.out.below b1)
  have H8 := Lib.hid (H8.out.below b1)
  have kp : Keep (· < w8.heap.size) w8 w9 := Keep.of_below b1 fun _ h _ => h
  have d0 := kp.cell f0 lf
  have d1 := kp.cell f1 lf
  have ld := lt_of_cell d0
  clear b1 B8 f0 f1 lf kp
  go_wp2_with fail
  refine (same26 H4.out _).mono ?_
  rintro e w10 ⟨rfl, b1⟩
  have B10 := Lib.hid (B9.out.trans (b1.mono B9.out.size))
  have H8 := Lib.hid (H8.out.below b1)
  have kp : Keep (· < w9.heap.size) w9 w10 := Keep.of_below b1 fun _ h _ => h
  have f0 := kp.cell d0 ld
  have f1 := kp.cell d1 ld
  have lf := lt_of_cell f0
  clear b1 B9 d0 d1 ld kp
  go_wp2_with fail
  refine (same26 H8.out _).mono ?_
  rintro e w11 ⟨rfl, b1⟩
  have B11 := Lib.hid (B10.out.trans (b1.mono B10.out.size))
  clear b1 B10 f0 f1 lf
  go_wp2_with fail
  go_ret
  exact ⟨rfl, below_over B11.out⟩
end Go.Proofs.Ytmcnpfjichbijaa

