/- The document's book, copied into the reference's. -/
import Derived.Test.YtmcnpfjichbijaaL3
import Derived.Maps.AppendAt
import Derived.Laws.OwnMore
import Derived.OwnWalk
import Derived.Test.YtmcnpfjichbijaaT1
import Derived.Test.YtmcnpfjichbijaaR1

set_option linter.unusedSimpArgs false
set_option linter.unusedVariables false
namespace Go.Proofs.Ytmcnpfjichbijaa
open Go Go.Proofs Go.RowKit Go.Shelf


theorem info103 : (Try.prog.info? 103).map (fun i => (i.zero, i.size, i.bytes)) = some (some (.agg #[.int .i64 0, .bool false, .int .i64 0, .int .i64 0]), 4, 32) := by kernel_rfl
theorem info90 : (Try.prog.info? 90).map (fun i => (i.zero, i.size, i.bytes)) = some (some (.agg #[.int .i64 0, .int .i64 0, .int .i64 0, .int .i64 0, .int .i64 0, .int .i64 0, .int .i64 0]), 7, 56) := by kernel_rfl
theorem und32e : Try.prog.underlying 32 = some (.slice 103) := by kernel_rfl
theorem und33e : Try.prog.underlying 33 = some (.slice 90) := by kernel_rfl

def itmCs (x : Itm) : List Value := [.int .i64 x.drift, .bool x.std, .int .i64 x.val.lo, .int .i64 x.val.hi]
def crtLs (c : Crt) : List Value := [.int .i64 c.num, .int .i64 c.item, .int .i64 c.by_, .int .i64 c.day, .int .i64 c.valid, .int .i64 c.diff.lo, .int .i64 c.diff.hi]

theorem row_get {α : Type} {f : α → List Value} {n : Nat} (hf : ∀ x, (f x).length = n) : ∀ (l : List α) (i t : Nat) (x : α), l[i]? = some x → t < n → (l.flatMap f)[i * n + t]? = (f x)[t]?
  | [], i, t, x, h, _ => by simp at h
  | y :: l, 0, t, x, h, ht => by
    simp at h
    subst h
    rw [List.flatMap_cons, Nat.zero_mul, Nat.zero_add, List.getElem?_append_left (by rw [hf]; exact ht)]
  | y :: l, i + 1, t, x, h, ht => by
    have := row_get hf l i t x (by simpa using h) ht
    rw [List.flatMap_cons, List.getElem?_append_right (by rw [hf, Nat.add_mul]; omega), hf, ← this]
    congr 1
    rw [Nat.add_mul]; omega
theorem row_length {α : Type} {f : α → List Value} {n : Nat} (hf : ∀ x, (f x).length = n) : ∀ l : List α, (l.flatMap f).length = l.length * n
  | [] => by simp
  | y :: l => by rw [List.flatMap_cons, List.length_append, hf, row_length hf l, List.length_cons, Nat.add_mul]; omega
theorem row_snoc {α : Type} {f : α → List Value} {l : List α} {i : Nat} {x : α} (h : l[i]? = some x) : (l.take (i + 1)).flatMap f = (l.take i).flatMap f ++ f x := by
  rw [List.take_add_one, h, List.flatMap_append]; simp

/-- The copying call's world: the argument's box, the result's, the new book's with its two rows. -/
structure BkS (Ai Ac : Option Addr) (n ci m cc : Nat) (w : World) (v1 v2 : Value) (k1 k2 : Nat) (r1 r2 : List Value) (W : World) : Prop where
  bel : Below w.heap.size w W
  a0 : W.cell? ⟨w.heap.size, 0, none⟩ = some (.slice Ai n ci)
  a1 : W.cell? ⟨w.heap.size, 1, none⟩ = some (.slice Ac m cc)
  z0 : W.cell? ⟨w.heap.size + 1, 0, none⟩ = some (.slice none 0 0)
  z1 : W.cell? ⟨w.heap.size + 1, 1, none⟩ = some (.slice none 0 0)
  rf : ∀ j, W.frozen? ⟨w.heap.size + 1, j, none⟩ = false
  q0 : W.cell? ⟨w.heap.size + 1 + 1, 0, none⟩ = some v1
  q1 : W.cell? ⟨w.heap.size + 1 + 1, 1, none⟩ = some v2
  vf : ∀ j, W.frozen? ⟨w.heap.size + 1 + 1, j, none⟩ = false
  own1 : W.ownsRow (w.heap.size + 3) 103 4 v1 k1 r1
  own2 : W.ownsRow (w.heap.size + 3) 90 7 v2 k2 r2
  apart : ∀ g, v1.ownBlock = some g → v2.ownBlock ≠ some g

variable {Ai Ac : Option Addr} {n ci m cc : Nat} {w : World} {v1 v2 : Value} {k1 k2 : Nat} {r1 r2 : List Value} {W : World}

theorem BkS.lt (h : BkS Ai Ac n ci m cc w v1 v2 k1 k2 r1 r2 W) : w.heap.size + 3 ≤ W.heap.size := by have := lt_of_cell h.q0; omega

theorem BkS.alloc (h : BkS Ai Ac n ci m cc w v1 v2 k1 k2 r1 r2 W) (o : Obj) : BkS Ai Ac n ci m cc w v1 v2 k1 k2 r1 r2 (W.alloc o) := by
  have l := h.lt
  have hc : ∀ {b j v}, W.cell? ⟨b, j, none⟩ = some v → (W.alloc o).cell? ⟨b, j, none⟩ = some v := fun hv => by rw [World.cell?_alloc_past _ _ _ (lt_of_cell hv)]; exact hv
  have hf : ∀ {b j}, b < W.heap.size → W.frozen? ⟨b, j, none⟩ = false → (W.alloc o).frozen? ⟨b, j, none⟩ = false := fun {b j} hb hv => by rw [World.frozen?_of_block (w := W) (Below.heap_alloc W o b hb)]; exact hv
  exact ⟨h.bel.alloc h.bel.size _, hc h.a0, hc h.a1, hc h.z0, hc h.z1, fun j => hf (by omega) (h.rf j), hc h.q0, hc h.q1, fun j => hf (by omega) (h.vf j), h.own1.alloc _, h.own2.alloc _, h.apart⟩

theorem ownBlock_ge {B : Nat} {e : TypeId} {s k : Nat} {v : Value} {r : List Value} {W : World} (h : W.ownsRow B e s v k r) {g : Nat} (hg : v.ownBlock = some g) : B ≤ g ∧ g < W.heap.size := h.lt g hg

theorem BkS.more1 (h : BkS Ai Ac n ci m cc w v1 v2 k1 k2 r1 r2 W) {W1 : World} {v' : Value} {r : List Value} (hown : W1.ownsRow (w.heap.size + 3) 103 4 v' (k1 + 1) r) (hg : W.grownBy W1 v1.ownBlock)
    (hat : v'.ownBlock = v1.ownBlock ∨ v'.ownBlock = some W.heap.size) : BkS Ai Ac n ci m cc w v' v2 (k1 + 1) k2 r r2 (W1.setCell ⟨w.heap.size + 1 + 1, 0, none⟩ v') := by
  have l := h.lt
  have k : Keep (fun j => some j ≠ v1.ownBlock) W W1 := Keep.grown hg fun r hr h => h hr.symm
  have hne : ∀ j, j < w.heap.size + 3 → some j ≠ v1.ownBlock := fun j hj e => by have := (ownBlock_ge h.own1 e.symm).1; omega
  have hc : ∀ {b j v}, b < w.heap.size + 3 → b ≠ w.heap.size + 1 + 1 ∨ j ≠ 0 → W.cell? ⟨b, j, none⟩ = some v → (W1.setCell ⟨w.heap.size + 1 + 1, 0, none⟩ v').cell? ⟨b, j, none⟩ = some v := fun {b j v} hb hj hv => by
    rw [World.cell?_setCell_other _ _ _ _ (by intro e; injection e with e1 e2; omega)]
    exact k.cell hv (hne b hb)
  have hf : ∀ {b j}, b < w.heap.size + 3 → W.frozen? ⟨b, j, none⟩ = false → (W1.setCell ⟨w.heap.size + 1 + 1, 0, none⟩ v').frozen? ⟨b, j, none⟩ = false := fun {b j} hb hv => by
    rw [World.frozen?_setCell, World.frozen?_of_block (w := W) (k.block b (hne b hb) (by omega))]; exact hv
  refine ⟨?_, hc (by omega) (by omega) h.a0, hc (by omega) (by omega) h.a1, hc (by omega) (by omega) h.z0, hc (by omega) (by omega) h.z1, fun j => hf (by omega) (h.rf j), ?_, hc (by omega) (by omega) h.q1, fun j => hf (by omega) (h.vf j), ?_, ?_, ?_⟩
  · exact below_set (h.bel.grown hg h.bel.size (fun k hk => by have := (ownBlock_ge h.own1 hk).1; omega)) _ _ (by simp; omega)
  · exact World.cell?_setCell_same' _ _ _ (by rw [k.cell h.q0 (hne _ (by omega))]; rfl)
  · exact ownsRow_setCell_below hown (a := ⟨w.heap.size + 1 + 1, _, none⟩) (by simp) _
  · refine ownsRow_setCell_below (h.own2.kept hg ?_) (a := ⟨w.heap.size + 1 + 1, _, none⟩) (by simp) _
    rcases hb : v2.ownBlock with _ | g
    · exact .inl rfl
    · exact .inr fun e => h.apart g e.symm hb
  · intro g hg1 hg2
    rcases hat with e | e
    · exact h.apart g (e ▸ hg1) hg2
    · have := (ownBlock_ge h.own2 hg2).2
      rw [e] at hg1; injection hg1 with e1; omega

theorem BkS.more2 (h : BkS Ai Ac n ci m cc w v1 v2 k1 k2 r1 r2 W) {W1 : World} {v' : Value} {r : List Value} (hown : W1.ownsRow (w.heap.size + 3) 90 7 v' (k2 + 1) r) (hg : W.grownBy W1 v2.ownBlock)
    (hat : v'.ownBlock = v2.ownBlock ∨ v'.ownBlock = some W.heap.size) : BkS Ai Ac n ci m cc w v1 v' k1 (k2 + 1) r1 r (W1.setCell ⟨w.heap.size + 1 + 1, 1, none⟩ v') := by
  have l := h.lt
  have k : Keep (fun j => some j ≠ v2.ownBlock) W W1 := Keep.grown hg fun r hr h => h hr.symm
  have hne : ∀ j, j < w.heap.size + 3 → some j ≠ v2.ownBlock := fun j hj e => by have := (ownBlock_ge h.own2 e.symm).1; omega
  have hc : ∀ {b j v}, b < w.heap.size + 3 → b ≠ w.heap.size + 1 + 1 ∨ j ≠ 1 → W.cell? ⟨b, j, none⟩ = some v → (W1.setCell ⟨w.heap.size + 1 + 1, 1, none⟩ v').cell? ⟨b, j, none⟩ = some v := fun {b j v} hb hj hv => by
    rw [World.cell?_setCell_other _ _ _ _ (by intro e; injection e with e1 e2; omega)]
    exact k.cell hv (hne b hb)
  have hf : ∀ {b j}, b < w.heap.size + 3 → W.frozen? ⟨b, j, none⟩ = false → (W1.setCell ⟨w.heap.size + 1 + 1, 1, none⟩ v').frozen? ⟨b, j, none⟩ = false := fun {b j} hb hv => by
    rw [World.frozen?_setCell, World.frozen?_of_block (w := W) (k.block b (hne b hb) (by omega))]; exact hv
  refine ⟨?_, hc (by omega) (by omega) h.a0, hc (by omega) (by omega) h.a1, hc (by omega) (by omega) h.z0, hc (by omega) (by omega) h.z1, fun j => hf (by omega) (h.rf j), hc (by omega) (by omega) h.q0, ?_, fun j => hf (by omega) (h.vf j), ?_, ?_, ?_⟩
  · exact below_set (h.bel.grown hg h.bel.size (fun k hk => by have := (ownBlock_ge h.own2 hk).1; omega)) _ _ (by simp; omega)
  · exact World.cell?_setCell_same' _ _ _ (by rw [k.cell h.q1 (hne _ (by omega))]; rfl)
  · refine ownsRow_setCell_below (h.own1.kept hg ?_) (a := ⟨w.heap.size + 1 + 1, _, none⟩) (by simp) _
    rcases hb : v1.ownBlock with _ | g
    · exact .inl rfl
    · exact .inr fun e => h.apart g hb e.symm
  · exact ownsRow_setCell_below hown (a := ⟨w.heap.size + 1 + 1, _, none⟩) (by simp) _
  · intro g hg1 hg2
    rcases hat with e | e
    · exact h.apart g hg1 (e ▸ hg2)
    · have := (ownBlock_ge h.own1 hg1).2
      rw [e] at hg2; injection hg2 with e1; omega

theorem BkS.items {b : Bk} (h : BkS Ai Ac n ci m cc w v1 v2 b.items.length k2 (b.items.flatMap itmCs) r2 W) : ∃ A c, v1 = .slice A b.items.length c ∧ itemsAt (fun j => w.heap.size + 3 ≤ j ∧ j < W.heap.size) W A b.items := by
  rcases h.own1.2 with ⟨h1, h2⟩ | ⟨g, cap, cur, h1, _⟩
  · exact ⟨none, 0, by rw [h1, h2], fun hl => by omega⟩
  · refine ⟨some ⟨g, 0, none⟩, cap, h1, fun hl => ⟨g, 0, rfl, (ownBlock_ge h.own1 (by rw [h1]; rfl)), fun i x hx => ?_⟩⟩
    have ho := h.own1
    rw [h1] at ho
    have hi := (List.getElem?_eq_some_iff.1 hx).1
    have hj : ∀ t, t < 4 → W.cell? ⟨g, 0 + i * 4 + t, none⟩ = (itmCs x)[t]? := fun t ht => by
      rw [Nat.zero_add, ho.cellAt _ (by omega), row_get (f := itmCs) (n := 4) (fun _ => rfl) _ _ _ _ hx ht]
    exact ⟨hj 0 (by omega), hj 1 (by omega), hj 2 (by omega), hj 3 (by omega)⟩
theorem BkS.certs {b : Bk} (h : BkS Ai Ac n ci m cc w v1 v2 k1 b.certs.length r1 (b.certs.flatMap crtLs) W) : ∃ A c, v2 = .slice A b.certs.length c ∧ certsAt (fun j => w.heap.size + 3 ≤ j ∧ j < W.heap.size) W A b.certs := by
  rcases h.own2.2 with ⟨h1, h2⟩ | ⟨g, cap, cur, h1, _⟩
  · exact ⟨none, 0, by rw [h1, h2], fun hl => by omega⟩
  · refine ⟨some ⟨g, 0, none⟩, cap, h1, fun hl => ⟨g, 0, rfl, (ownBlock_ge h.own2 (by rw [h1]; rfl)), fun i x hx => ?_⟩⟩
    have ho := h.own2
    rw [h1] at ho
    have hi := (List.getElem?_eq_some_iff.1 hx).1
    have hj : ∀ t, t < 7 → W.cell? ⟨g, 0 + i * 7 + t, none⟩ = (crtLs x)[t]? := fun t ht => by
      rw [Nat.zero_add, ho.cellAt _ (by omega), row_get (f := crtLs) (n := 7) (fun _ => rfl) _ _ _ _ hx ht]
    exact ⟨hj 0 (by omega), hj 1 (by omega), hj 2 (by omega), hj 3 (by omega), hj 4 (by omega), hj 5 (by omega), hj 6 (by omega)⟩

/-- What the copying call returns. -/
def BookTo (b : Bk) (w : World) (e : Ending) (w' : World) : Prop :=
  ∃ Ai ci Ac cc, e = .returned (.agg #[.slice Ai b.items.length ci, .slice Ac b.certs.length cc]) ∧ bookAt (· < w'.heap.size) w' Ai Ac b ∧ ∃ x, w' = over w x

theorem news4 (x : Itm) (W : World) (t : TypeId) (g : Nat) (hg : g = W.heap.size) : ∀ j u, (itmCs x)[j]? = some u → (W.alloc (.cells #[.int .i64 x.drift, .bool x.std, .int .i64 x.val.lo, .int .i64 x.val.hi] t)).cell? ((⟨g, 0, none⟩ : Addr).add j) = some u := by
  subst hg
  intro j u hj
  have hlt := (List.getElem?_eq_some_iff.1 hj).1
  have ea : (⟨W.heap.size, 0, none⟩ : Addr).add j = ⟨W.heap.size, j, none⟩ := by unfold Addr.add; split <;> simp_all
  rw [ea, World.cell?_alloc_at _ _ _ _ rfl]
  show (itmCs x).toArray[j]? = some u
  rw [List.getElem?_toArray]; exact hj
theorem news7 (x : Crt) (W : World) (t : TypeId) (g : Nat) (hg : g = W.heap.size) : ∀ j u, (crtLs x)[j]? = some u → (W.alloc (.cells #[.int .i64 x.num, .int .i64 x.item, .int .i64 x.by_, .int .i64 x.day, .int .i64 x.valid, .int .i64 x.diff.lo, .int .i64 x.diff.hi] t)).cell? ((⟨g, 0, none⟩ : Addr).add j) = some u := by
  subst hg
  intro j u hj
  have hlt := (List.getElem?_eq_some_iff.1 hj).1
  have ea : (⟨W.heap.size, 0, none⟩ : Addr).add j = ⟨W.heap.size, j, none⟩ := by unfold Addr.add; split <;> simp_all
  rw [ea, World.cell?_alloc_at _ _ _ _ rfl]
  show (crtLs x).toArray[j]? = some u
  rw [List.getElem?_toArray]; exact hj

theorem BkS.box (h : BkS Ai Ac n ci m cc w v1 v2 k1 k2 r1 r2 W) {W1 : World} {row : Option Nat} (hg : W.grownBy W1 row) (hr : row = v1.ownBlock ∨ row = v2.ownBlock) :
    W1.cell? ⟨w.heap.size + 1 + 1, 0, none⟩ = some v1 ∧ W1.cell? ⟨w.heap.size + 1 + 1, 1, none⟩ = some v2 ∧ (∀ j, W1.frozen? ⟨w.heap.size + 1 + 1, j, none⟩ = false) := by
  have l := h.lt
  have k : Keep (fun j => some j ≠ row) W W1 := Keep.grown hg fun r hr h => h hr.symm
  have hne : some (w.heap.size + 1 + 1) ≠ row := fun e => by
    rcases hr with e' | e' <;> rw [e'] at e
    · have := (ownBlock_ge h.own1 e.symm).1; omega
    · have := (ownBlock_ge h.own2 e.symm).1; omega
  exact ⟨k.cell h.q0 hne, k.cell h.q1 hne, fun j => by rw [World.frozen?_of_block (w := W) (k.block _ hne (show w.heap.size + 1 + 1 < _ by omega))]; exact h.vf j⟩

set_option maxRecDepth 100000 in
set_option maxHeartbeats 4000000 in
theorem c20 (Ai Ac : Option Addr) (ci cc : Nat) (b : Bk) (w : World) (hA : bookAt (· < w.heap.size) w Ai Ac b) (hl : b.items.length ≤ 1000) (hl2 : b.certs.length ≤ 1000) :
    Calls Try.prog 20 #[.agg #[.slice Ai b.items.length ci, .slice Ac b.certs.length cc]] w (BookTo b w) := by
  obtain ⟨hI, hC⟩ := hA
  have HI := Lib.hid hI
  have HCC := Lib.hid hC
  clear hI hC
  go_enter Try.func20, Try.ntmps20
  go_wp2_with fail
  go_loopw [4] (fun t wr => ∃ (i : Nat) (v : Value), i ≤ b.items.length ∧ t = .int .i64 i ∧ BkS Ai Ac b.items.length ci b.certs.length cc w v (.slice none 0 0) i 0 ((b.items.take i).flatMap itmCs) [] wr) (fun t _ => b.items.length - (intOf t).toNat)
  case atStart =>
    refine ⟨0, .slice none 0 0, Nat.zero_le _, rfl, ⟨by repeat' (first | exact Below.refl _ _ | (refine below_ov ?_ ?_) | (refine Below.alloc ?_ ?_ _) | (refine below_drewN' ?_ _) | (refine Below.drew ?_) | (refine below_set ?_ _ _ ?_) | (simp; done) | (simp; omega) | omega), by simp [go_sem], by simp [go_sem], by simp [go_sem], by simp [go_sem], fun j => by simp [go_sem], by simp [go_sem], by simp [go_sem], fun j => by simp [go_sem], World.ownsRow_nil _ _ _ _, World.ownsRow_nil _ _ _ _, fun g hg => by cases hg⟩⟩
  case round =>
    obtain ⟨i, v, hi, rfl, hS⟩ := hrel
    have HS := Lib.hid hS
    have ha0 := hS.a0
    have ha1 := hS.a1
    have hq0 := hS.q0
    have lq := lt_of_cell hq0
    have vf := hS.vf 0
    clear hS
    by_cases hlt : i < b.items.length
    · obtain ⟨x, hx⟩ : ∃ x, b.items[i]? = some x := ⟨b.items[i], by simp [hlt]⟩
      obtain ⟨An, Ao, eA, hSA, hns⟩ := HI.out (by omega)
      have hcell := hns i x hx
      have kp : Keep (· < w.heap.size) w wr := Keep.of_below HS.out.bel fun _ h _ => h
      have g0 := kp.cell hcell.1 hSA
      have g1 := kp.cell hcell.2.1 hSA
      have g2 := kp.cell hcell.2.2.1 hSA
      have g3 := kp.cell hcell.2.2.2 hSA
      have lg := lt_of_cell g0
      have hix := fun c => @idx22 Ai An Ao b.items.length c eA i hlt
      have HX := Lib.hid hx
      have hlen : ((b.items.take i).flatMap itmCs).length = i * 4 := by rw [row_length (n := 4) fun _ => rfl]; simp; omega
      clear hx eA hns hcell kp
      obtain ⟨i0, hi0, hz0, hz1, hz2⟩ := info_parts info103
      have HI0 := Lib.hid (And.intro hi0 (And.intro hz0 (And.intro hz1 hz2)))
      clear hi0 hz0 hz1 hz2
      go_wp2_with (at_builtin; refine wpList_append_own_at _ rfl _ _ 32 rfl (w.heap.size + 3) 103 i0 (.agg #[.int .i64 0, .bool false, .int .i64 0, .int .i64 0]) 4 32 und32e HI0.out.1 HI0.out.2.1 HI0.out.2.2.1 HI0.out.2.2.2 rfl (by decide) v i _ rfl ((HS.out.alloc _).alloc _).own1 ⟨wr.heap.size + 1, 0, none⟩ 1 1 (itmCs x) rfl rfl ?news ?one ?h63 ?hb ?base ?_)
      case news => exact news4 _ _ _ _ (by simp)
      case one => intro u hu; simp [itmCs] at hu; rcases hu with rfl | rfl | rfl | rfl <;> rfl
      case h63 => simp only [maxLen]; omega
      case hb => omega
      case base => simp; omega
      intro v' w1 hown hgr _ hat
      obtain ⟨A', c', e⟩ : ∃ A' c', v' = .slice A' (i + 1) c' := by
        rcases hown.2 with ⟨h1, h2⟩ | ⟨g, cap, cur, h1, _⟩
        · omega
        · exact ⟨_, _, h1⟩
      subst e
      obtain ⟨p0, p1, pf⟩ := ((HS.out.alloc _).alloc _).box hgr (.inl rfl)
      have pf0 := pf 0
      have lp := lt_of_cell p0
      have HM := Lib.hid (((HS.out.alloc _).alloc _).more1 hown hgr (hat.imp id fun e => by rw [e]; simp))
      rw [← row_snoc HX.out] at HM
      clear hown hgr hat pf
      go_wp2_with fail
      go_roundw
      case rel => exact ⟨i + 1, _, by omega, by go_num, HM.out⟩
      case measure => simp [intOf]; omega
    · have hie : i = b.items.length := by omega
      subst hie
      rw [List.take_length] at HS
      go_wp2_with fail
      go_loopw [6] (fun t wr => ∃ (i : Nat) (v2 : Value), i ≤ b.certs.length ∧ t = .int .i64 i ∧ BkS Ai Ac b.items.length ci b.certs.length cc w v v2 b.items.length i (b.items.flatMap itmCs) ((b.certs.take i).flatMap crtLs) wr) (fun t _ => b.certs.length - (intOf t).toNat)
      case atStart => exact ⟨0, .slice none 0 0, Nat.zero_le _, rfl, HS.out⟩
      case round =>
        obtain ⟨i, v2, hi, rfl, hS⟩ := hrel
        have HS := Lib.hid hS
        have ha1 := hS.a1
        have hq0 := hS.q1
        have lq := lt_of_cell hq0
        have vf := hS.vf 1
        by_cases hlt : i < b.certs.length
        · clear hS
          obtain ⟨x, hx⟩ : ∃ x, b.certs[i]? = some x := ⟨b.certs[i], by simp [hlt]⟩
          obtain ⟨An, Ao, eA, hSA, hns⟩ := HCC.out (by omega)
          have hcell := hns i x hx
          have kp : Keep (· < w.heap.size) w _ := Keep.of_below HS.out.bel fun _ h _ => h
          have g0 := kp.cell hcell.1 hSA
          have g1 := kp.cell hcell.2.1 hSA
          have g2 := kp.cell hcell.2.2.1 hSA
          have g3 := kp.cell hcell.2.2.2.1 hSA
          have g4 := kp.cell hcell.2.2.2.2.1 hSA
          have g5 := kp.cell hcell.2.2.2.2.2.1 hSA
          have g6 := kp.cell hcell.2.2.2.2.2.2 hSA
          have lg := lt_of_cell g0
          have hix := fun c => @idx23 Ac An Ao b.certs.length c eA i hlt
          have HX := Lib.hid hx
          have hlen : ((b.certs.take i).flatMap crtLs).length = i * 7 := by rw [row_length (n := 7) fun _ => rfl]; simp; omega
          clear hx eA hns hcell kp
          obtain ⟨i0, hi0, hz0, hz1, hz2⟩ := info_parts info90
          have HI0 := Lib.hid (And.intro hi0 (And.intro hz0 (And.intro hz1 hz2)))
          clear hi0 hz0 hz1 hz2
          go_wp2_with (at_builtin; refine wpList_append_own_at _ rfl _ _ 33 rfl (w.heap.size + 3) 90 i0 (.agg #[.int .i64 0, .int .i64 0, .int .i64 0, .int .i64 0, .int .i64 0, .int .i64 0, .int .i64 0]) 7 56 und33e HI0.out.1 HI0.out.2.1 HI0.out.2.2.1 HI0.out.2.2.2 rfl (by decide) v2 i _ rfl ((HS.out.alloc _).alloc _).own2 ⟨wr.heap.size + 1, 0, none⟩ 1 1 (crtLs x) rfl rfl ?news ?one ?h63 ?hb ?base ?_)
          case news => exact news7 _ _ _ _ (by simp)
          case one => intro u hu; simp [crtLs] at hu; rcases hu with rfl | rfl | rfl | rfl | rfl | rfl | rfl <;> rfl
          case h63 => simp only [maxLen]; omega
          case hb => omega
          case base => simp; omega
          intro v' w1 hown hgr _ hat
          obtain ⟨A', c', e⟩ : ∃ A' c', v' = .slice A' (i + 1) c' := by
            rcases hown.2 with ⟨h1, h2⟩ | ⟨g, cap, cur, h1, _⟩
            · omega
            · exact ⟨_, _, h1⟩
          subst e
          obtain ⟨p0, p1, pf⟩ := ((HS.out.alloc _).alloc _).box hgr (.inr rfl)
          have pf0 := pf 1
          have lp := lt_of_cell p1
          have HM := Lib.hid (((HS.out.alloc _).alloc _).more2 hown hgr (hat.imp id fun e => by rw [e]; simp))
          rw [← row_snoc HX.out] at HM
          clear hown hgr hat pf p0
          go_wp2_with fail
          go_roundw
          case rel => exact ⟨i + 1, _, by omega, by go_num, HM.out⟩
          case measure => simp [intOf]; omega
        · have hie : i = b.certs.length := by omega
          subst hie
          rw [List.take_length] at HS hS
          obtain ⟨Ax, cx, rfl, hitm⟩ := HS.out.items
          obtain ⟨Ay, cy, rfl, hcrt⟩ := HS.out.certs
          have HIT := Lib.hid hitm
          have HCR := Lib.hid hcrt
          have p0 := hS.q0
          have z0 := hS.z0
          have z1 := hS.z1
          have rf0 := hS.rf 0
          have rf1 := hS.rf 1
          have lz := lt_of_cell z0
          clear hS hitm hcrt
          go_wp2_with fail
          refine bodyPost_ret (ret_cell (g := w.heap.size + 1) (v := .agg #[.slice Ax b.items.length cx, .slice Ay b.certs.length cy]) rfl _ rfl ?_) rfl ?_
          · have e0 : ((wr.setCell ⟨w.heap.size + 1, 0, none⟩ (.slice Ax b.items.length cx)).setCell ⟨w.heap.size + 1, 1, none⟩ (.slice Ay b.certs.length cy)).cell? ⟨w.heap.size + 1, 0, none⟩ = some (.slice Ax b.items.length cx) := by
              rw [World.cell?_setCell_other _ _ _ _ (by simp)]
              exact World.cell?_setCell_same' _ _ _ (by rw [z0]; rfl)
            have e1 : ((wr.setCell ⟨w.heap.size + 1, 0, none⟩ (.slice Ax b.items.length cx)).setCell ⟨w.heap.size + 1, 1, none⟩ (.slice Ay b.certs.length cy)).cell? ⟨w.heap.size + 1, 1, none⟩ = some (.slice Ay b.certs.length cy) :=
              World.cell?_setCell_same' _ _ _ (by rw [World.cell?_setCell_other _ _ _ _ (by simp), z1]; rfl)
            simp [go_sem, e0, e1]
          · have k2 : Keep (fun j => w.heap.size + 3 ≤ j ∧ j < wr.heap.size) wr ((wr.setCell ⟨w.heap.size + 1, 0, none⟩ (.slice Ax b.items.length cx)).setCell ⟨w.heap.size + 1, 1, none⟩ (.slice Ay b.certs.length cy)) :=
              (Keep.setCell _ _ _ (fun h => by have := h.1; simp at this)).trans (Keep.setCell _ _ _ (fun h => by have := h.1; simp at this))
            have hb : Below w.heap.size w ((wr.setCell ⟨w.heap.size + 1, 0, none⟩ (.slice Ax b.items.length cx)).setCell ⟨w.heap.size + 1, 1, none⟩ (.slice Ay b.certs.length cy)) :=
              below_set (below_set HS.out.bel _ _ (by simp)) _ _ (by simp)
            exact ⟨Ax, cx, Ay, cy, rfl, ⟨(HIT.out.keep k2).mono fun j hj => by simpa using hj.2, (HCR.out.keep k2).mono fun j hj => by simpa using hj.2⟩, below_over hb⟩
end Go.Proofs.Ytmcnpfjichbijaa


/- The reference's held ones. -/
set_option linter.unusedSimpArgs false
set_option linter.unusedVariables false
namespace Go.Proofs.Ytmcnpfjichbijaa
open Go Go.Proofs Go.RowKit Go.Shelf


theorem refTo_length (b : Bk) (bad : List Int) : ∀ k, (refTo b bad k).length ≤ k
  | 0 => by simp [refTo]
  | k + 1 => by
    have := refTo_length b bad k
    unfold refTo
    split
    · simp; omega
    · omega

def hasTo (b : Bk) (bad : List Int) (k j : Nat) : Bool := (b.certs.take j).any fun c => c.num == ((k + 1 : Nat) : Int) && refHolds b c bad (refTo b bad k)
theorem hasTo_succ (b : Bk) (bad : List Int) (k j : Nat) (h : j < b.certs.length) : hasTo b bad k (j + 1) = (hasTo b bad k j || (b.certs[j].num == ((k + 1 : Nat) : Int) && refHolds b b.certs[j] bad (refTo b bad k))) := by
  unfold hasTo
  rw [List.take_add_one, List.getElem?_eq_getElem h, List.any_append]
  simp
theorem refTo_hit {b : Bk} {bad : List Int} {k : Nat} (h : hasTo b bad k b.certs.length = true) : refTo b bad (k + 1) = refTo b bad k ++ [((k + 1 : Nat) : Int)] := by
  unfold hasTo at h
  rw [List.take_length] at h
  rw [show refTo b bad (k + 1) = if refIs b bad (refTo b bad k) (k + 1) then refTo b bad k ++ [(k + 1 : Int)] else refTo b bad k from rfl, if_pos (show refIs b bad (refTo b bad k) (k + 1) = true from h)]; rfl
theorem refTo_miss {b : Bk} {bad : List Int} {k : Nat} (h : hasTo b bad k b.certs.length = false) : refTo b bad (k + 1) = refTo b bad k := by
  unfold hasTo at h
  rw [List.take_length] at h
  rw [show refTo b bad (k + 1) = if refIs b bad (refTo b bad k) (k + 1) then refTo b bad k ++ [(k + 1 : Int)] else refTo b bad k from rfl, if_neg]
  intro h2
  have : refIs b bad (refTo b bad k) (k + 1) = false := h
  rw [this] at h2; cases h2

/-- What the call returns. -/
def HldTo (L : List Int) (w : World) (e : Ending) (w' : World) : Prop :=
  ∃ A c, e = .returned (.slice A L.length c) ∧ numsAt (fun j => w.heap.size ≤ j ∧ j < w'.heap.size) w' A L ∧ ∃ x, w' = over w x

theorem c57o (Ai Ac Ab Ah : Option Addr) (ci cc cb ch : Nat) (b : Bk) (q : Crt) (bad held : List Int) (w : World) (hI : itemsAt (· < w.heap.size) w Ai b.items) (hC : certsAt (· < w.heap.size) w Ac b.certs)
    (hB : numsAt (· < w.heap.size) w Ab bad) (hH : numsAt (· < w.heap.size) w Ah held) (hl1 : bad.length ≤ 2000) (hl2 : held.length ≤ 2000) (hl3 : b.certs.length ≤ 1000) (hl4 : b.items.length ≤ 1000)
    (hb0 : 0 ≤ q.by_) (hb1 : q.by_ < b.items.length) (hv : ∀ c ∈ b.certs, 0 ≤ c.day ∧ c.day ≤ 1000 ∧ 0 ≤ c.valid ∧ c.valid ≤ 1000) (z : World) :
    Calls Try.prog 57 #[.agg #[.slice Ai b.items.length ci, .slice Ac b.certs.length cc], .agg #[.int .i64 q.num, .int .i64 q.item, .int .i64 q.by_, .int .i64 q.day, .int .i64 q.valid, .int .i64 q.diff.lo, .int .i64 q.diff.hi], .slice Ab bad.length cb, .slice Ah held.length ch] (over w z)
      fun e w' => e = .returned (.bool (refHolds b q bad held)) ∧ ∃ x, w' = over (over w z) x := by
  have hm : ∀ j, j < w.heap.size → j < (over w z).heap.size := fun j hj => by rw [over_size]; omega
  exact c57 Ai Ac Ab Ah ci cc cb ch b q.num q.item q.by_ q.day q.valid q.diff.lo q.diff.hi bad held (over w z) ((hI.keep (Keep.over _ _ _)).mono hm) ((hC.keep (Keep.over _ _ _)).mono hm) ((hB.keep (Keep.over _ _ _)).mono hm) ((hH.keep (Keep.over _ _ _)).mono hm) hl1 hl2 hl3 hl4 hb0 hb1 hv

set_option maxRecDepth 100000 in
set_option maxHeartbeats 4000000 in
theorem c24 (Ai Ac Ab : Option Addr) (ci cc cb : Nat) (b : Bk) (bad : List Int) (w : World) (hI : itemsAt (· < w.heap.size) w Ai b.items) (hC : certsAt (· < w.heap.size) w Ac b.certs)
    (hB : numsAt (· < w.heap.size) w Ab bad) (hl1 : bad.length ≤ 2000) (hl3 : b.certs.length ≤ 1000) (hl4 : b.items.length ≤ 1000)
    (hb : ∀ c ∈ b.certs, 0 ≤ c.by_ ∧ c.by_ < b.items.length) (hv : ∀ c ∈ b.certs, 0 ≤ c.day ∧ c.day ≤ 1000 ∧ 0 ≤ c.valid ∧ c.valid ≤ 1000) :
    Calls Try.prog 24 #[.agg #[.slice Ai b.items.length ci, .slice Ac b.certs.length cc], .slice Ab bad.length cb] w (HldTo (refTo b bad 999) w) := by
  have HI := Lib.hid hI
  have HCT := Lib.hid hC
  have HB := Lib.hid hB
  have HV := Lib.hid hv
  have HBY := Lib.hid hb
  clear hI hC hB hv hb
  go_enter Try.func24, Try.ntmps24
  go_wp2_with fail
  go_loopw [5, 6] (fun s t wr => ∃ (k : Nat) (A : Option Addr) (c : Nat), k ≤ 999 ∧ t = .int .i64 ((k : Int) + 1) ∧ s = .slice A (refTo b bad k).length c ∧ wr.ownsRow (w.heap.size + 1) 3 1 (.slice A (refTo b bad k).length c) (refTo b bad k).length ((refTo b bad k).map (Value.int .i64)) ∧ Below w.heap.size w wr ∧ wr.cell? ⟨w.heap.size, 0, none⟩ = some (.slice Ai b.items.length ci) ∧ wr.cell? ⟨w.heap.size, 1, none⟩ = some (.slice Ac b.certs.length cc)) (fun _ t _ => 1000 - (intOf t).toNat)
  case atStart => exact ⟨0, none, 0, by omega, by go_num, rfl, World.ownsRow_nil _ _ _ _, by repeat' (first | exact Below.refl _ _ | (refine below_ov ?_ ?_) | (refine Below.alloc ?_ ?_ _) | (refine below_drewN' ?_ _) | (refine Below.drew ?_) | (refine below_set ?_ _ _ ?_) | (simp; done) | (simp; omega) | omega), by simp [go_sem], by simp [go_sem]⟩
  case round =>
    obtain ⟨k, A, c, hk, rfl, rfl, hown, hbel, a0, a1⟩ := hrel
    have HO := Lib.hid hown
    have HBE := Lib.hid hbel
    have la := lt_of_cell a0
    have hrl := refTo_length b bad k
    clear hown hbel
    by_cases hlt : k < 999
    · have hle : decide ((k : Int) + 1 ≤ 999) = true := by simp; omega
      have hle' : (k : Int) + 1 ≤ 999 := by omega
      have kw : Keep (· < w.heap.size) w wr := Keep.of_below HBE.out fun _ h _ => h
      have hm : ∀ j, j < w.heap.size → j < wr.heap.size := fun j hj => by omega
      have hc57 := fun (q : Crt) (h0 : 0 ≤ q.by_) (h1 : q.by_ < b.items.length) => c57o Ai Ac Ab A ci cc cb c b q bad (refTo b bad k) wr ((HI.out.keep kw).mono hm) ((HCT.out.keep kw).mono hm) ((HB.out.keep kw).mono hm) ((nums_of_own HO.out).mono fun j hj => hj.2) hl1 (by omega) hl3 hl4 h0 h1 HV.out
      have HC57 := Lib.hid hc57
      have HC1 := Lib.hid ((HCT.out.keep kw).mono hm)
      clear hc57 kw hm hle
      go_wp2_with fail
      go_loopw [7, 8] (fun u t wr2 => ∃ (j : Nat) (y : World), j ≤ b.certs.length ∧ t = .int .i64 j ∧ u = .bool (hasTo b bad k j) ∧ wr2 = over wr y) (fun _ t _ => b.certs.length - (intOf t).toNat)
      case atStart =>
        obtain ⟨y, hy⟩ := over_refl wr
        exact ⟨0, y, Nat.zero_le _, rfl, by simp [hasTo], hy⟩
      case round =>
        obtain ⟨j, y, hj, rfl, rfl, rfl⟩ := hrel
        by_cases hjl : j < b.certs.length
        · have hsucc := hasTo_succ b bad k j hjl
          obtain ⟨q, hq⟩ : ∃ q, q = b.certs[j] := ⟨_, rfl⟩
          rw [← hq] at hsucc
          have hmem : q ∈ b.certs := by rw [hq]; exact List.getElem_mem hjl
          obtain ⟨b0, b1⟩ := HBY.out q hmem
          obtain ⟨Bc, Co, eC, hSC, hcs⟩ := HC1.out (by omega)
          obtain ⟨q0, q1, q2, q3, q4, q5, q6⟩ := hcs j q (by simp [hjl, hq])
          have hix := fun c => @idx23 Ac Bc Co b.certs.length c eC j hjl
          have lc := lt_of_cell q0
          have hc57 := fun z => HC57.out q b0 b1 z
          generalize refHolds b q bad (refTo b bad k) = rh at hc57 hsucc
          have HC57q := Lib.hid hc57
          have HS := Lib.hid hsucc
          clear hsucc hq hmem hcs eC hc57
          generalize hu : hasTo b bad k j = u at HS
          have HU := Lib.hid hu
          clear hu
          cases u
          · cases hnum : (q.num == ((k + 1 : Nat) : Int))
            · have hne : (q.num == (k : Int) + 1) = false := by rw [← hnum]; rfl
              have HN := Lib.hid hnum
              clear hnum
              go_wp2_with fail
              refine wp_region_over2 (by kernel_rfl) (by kernel_rfl) ?_
              repeat (go_big_quiet_step (exact calls_over_of (HC57q.out _)))
              refine wpQuiet_nil ?_
              rintro w' ⟨z, rfl⟩
              go_wp2_with fail
              go_roundw
              case rel => exact ⟨j + 1, z, by omega, by go_num, by rw [HS.out, HN.out]; rfl, rfl⟩
              case measure => simp [intOf]; omega
            · have heq : (q.num == (k : Int) + 1) = true := by rw [← hnum]; rfl
              have HN := Lib.hid hnum
              clear hnum
              go_wp2_with fail
              refine wp_region_over2 (by kernel_rfl) (by kernel_rfl) ?_
              repeat (go_big_quiet_step (exact calls_over_of (HC57q.out _)))
              refine wpQuiet_nil ?_
              rintro w' ⟨z, rfl⟩
              go_wp2_with fail
              go_roundw
              case rel => exact ⟨j + 1, z, by omega, by go_num, by rw [HS.out, HN.out]; simp, rfl⟩
              case measure => simp [intOf]; omega
          · go_wp2_with fail
            refine wp_region_over2 (by kernel_rfl) (by kernel_rfl) ?_
            repeat (go_big_quiet_step (fail))
            refine wpQuiet_nil ?_
            rintro w' ⟨z, rfl⟩
            go_wp2_with fail
            go_roundw
            case rel => exact ⟨j + 1, z, by omega, by go_num, by rw [HS.out]; simp, rfl⟩
            case measure => simp [intOf]; omega
        · have hje : j = b.certs.length := by omega
          subst hje
          have hb2 : Below w.heap.size w (over wr y) := HBE.out.trans ((over_below wr y).mono HBE.out.size)
          have hown2 : (over wr y).ownsRow (w.heap.size + 1) 3 1 (.slice A (refTo b bad k).length c) (refTo b bad k).length ((refTo b bad k).map (Value.int .i64)) := HO.out.kept (over_grown wr y) (by
            rcases hh : (Value.slice A (refTo b bad k).length c).ownBlock with _ | g
            · exact .inl rfl
            · exact .inr (by simp))
          have d0 : (over wr y).cell? ⟨w.heap.size, 0, none⟩ = some (.slice Ai b.items.length ci) := (Keep.over (fun _ => True) wr y).cell a0 trivial
          have d1 : (over wr y).cell? ⟨w.heap.size, 1, none⟩ = some (.slice Ac b.certs.length cc) := (Keep.over (fun _ => True) wr y).cell a1 trivial
          have HB2 := Lib.hid hb2
          have HO2 := Lib.hid hown2
          clear hb2 hown2 a0 a1 HO HBE HC57 HC1
          generalize over wr y = V at *
          have lV := lt_of_cell d0
          cases hu : hasTo b bad k b.certs.length
          · have HM := Lib.hid (refTo_miss hu)
            clear hu
            go_wp2_with fail
            go_roundw
            case rel => exact ⟨k + 1, A, c, by omega, by go_num, by rw [HM.out], by rw [HM.out]; exact HO2.out, HB2.out, d0, d1⟩
            case measure => simp [intOf]; omega
          · have HM := Lib.hid (refTo_hit hu)
            clear hu
            obtain ⟨i0, hi0, hz0, hz1, hz2⟩ := info3o
            have HI0 := Lib.hid (And.intro hi0 (And.intro hz0 (And.intro hz1 hz2)))
            clear hi0 hz0 hz1 hz2
            go_wp2_with (at_builtin; refine wpList_append_own _ rfl _ _ 26 rfl (w.heap.size + 1) 3 i0 (.int .i64 0) 1 8 und26 HI0.out.1 HI0.out.2.1 HI0.out.2.2.1 HI0.out.2.2.2 rfl (by decide) (.slice A (refTo b bad k).length c) (refTo b bad k).length _ rfl (HO2.out.alloc _) ⟨V.heap.size, 0, none⟩ 1 1 [.int .i64 ((k : Int) + 1)] rfl rfl (cell_one_new _ _ _) ?one ?h63 ?hb ?base ?_)
            case one => intro u hu; simp at hu; rw [hu]; rfl
            case h63 => simp only [maxLen]; omega
            case hb => omega
            case base => simp; omega
            intro v' w1 hown hgr _
            obtain ⟨A', c', e⟩ : ∃ A' c', v' = .slice A' ((refTo b bad k).length + 1) c' := by
              rcases hown.2 with ⟨h1, h2⟩ | ⟨g, cap, cur, h1, _⟩
              · omega
              · exact ⟨_, _, h1⟩
            subst e
            have hne : some w.heap.size ≠ (Value.slice A (refTo b bad k).length c).ownBlock := fun e => by have := (HO2.out.lt _ e.symm).1; omega
            have kp : Keep (fun j => j = w.heap.size) V w1 := (Keep.alloc _ _ _).trans (Keep.grown hgr fun r hr h => by rw [h] at hr; exact hne hr.symm)
            have e0 := kp.cell d0 rfl
            have e1 := kp.cell d1 rfl
            have hb1 : Below w.heap.size w w1 := (HB2.out.alloc HB2.out.size _).grown hgr (by simp; omega) (fun k hk => by have := (HO2.out.lt _ hk).1; omega)
            have HB1 := Lib.hid hb1
            have HO1 := Lib.hid hown
            clear hown hgr hb1 kp hne d0 d1
            go_wp2_with fail
            go_roundw
            case rel => exact ⟨k + 1, A', c', by omega, by go_num, by rw [HM.out]; simp, by rw [HM.out]; simpa using HO1.out, HB1.out, e0, e1⟩
            case measure => simp [intOf]; omega
    · have hle' : ¬ (k : Int) + 1 ≤ 999 := by omega
      go_wp2_with fail
      go_ret
      have hk9 : k = 999 := by omega
      subst hk9
      exact ⟨A, c, rfl, (nums_of_own HO.out).mono fun j hj => ⟨by omega, hj.2⟩, below_over HBE.out⟩
end Go.Proofs.Ytmcnpfjichbijaa

