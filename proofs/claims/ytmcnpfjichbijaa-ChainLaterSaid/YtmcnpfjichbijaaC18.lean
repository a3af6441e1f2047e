/- An item's span, walked. -/
import Derived.Test.YtmcnpfjichbijaaC17
import Derived.Test.YtmcnpfjichbijaaT1
import Derived.Test.YtmcnpfjichbijaaTail2
import Derived.Test.YtmcnpfjichbijaaR1
set_option linter.unusedSimpArgs false
set_option linter.unusedVariables false
namespace Go.Proofs.Ytmcnpfjichbijaa
open Go Go.Proofs Go.RowKit Go.Shelf

attribute [local go_sem] Oper.semAt_some

/-- A range's value. -/
def rngV (r : Rng) : Value := .agg #[.int .i64 r.lo, .int .i64 r.hi]

theorem underlying133 : Try.prog.underlying 133 = some (.map 3 45) := by kernel_rfl
theorem zero45 (w : World) : (zeroValue 45).run Try.prog w = .ok (rngV ⟨0, 0⟩) w := by kernel_rfl

/-- A map of ranges. -/
def rngsAt (w : World) (P : Nat) (sp : Int → Rng) : Prop := ∃ g, isMap w P g ∧ ∀ n, (g n).getD (rngV ⟨0, 0⟩) = rngV (sp n)

theorem rngsAt.get {w : World} {P : Nat} {sp : Int → Rng} (hm : rngsAt w P sp) (n : Int) :
    (Instr.lookup 133 (.map (some P)) (.int .i64 n) false).run Try.prog w = .ok (rngV (sp n)) w := by
  obtain ⟨g, hg, h⟩ := hm
  have := run_lookup_map underlying133 underlying3 hg (zero45 w) n false
  simp only [Bool.false_eq_true, if_false] at this
  rw [this, h]
theorem rngsAt.keep {w w' : World} {P : Nat} {sp : Int → Rng} {S : Nat → Prop} (h : rngsAt w P sp) (k : Keep S w w') (hS : S P) : rngsAt w' P sp := by
  obtain ⟨g, hg, h⟩ := h
  exact ⟨g, hg.keep k hS, h⟩

/-- A book whose spans are worked, where it lies. -/
structure SpAt (b : Bk) (h : Int → Bool) (sp : Int → Rng) (k : Wk) (G H P : Nat) (T : Nat → Prop) (w : World) : Prop where
  v : Vb b
  kb : k.b = b
  kn : k.nums = numsOf b
  kc : k.cf = getC b
  ok : k.Ok
  at_ : k.At T w
  tG : T G
  tH : T H
  tP : T P
  g0 : w.cell? ⟨G, 0, none⟩ = some (.pointer (some ⟨k.W, 0, none⟩))
  g1 : w.cell? ⟨G, 1, none⟩ = some (.map (some H))
  g2 : w.cell? ⟨G, 2, none⟩ = some (.map (some P))
  hm : boolsAt w H k.nums h
  rm : rngsAt w P sp

theorem SpAt.keep {b : Bk} {h : Int → Bool} {sp : Int → Rng} {k : Wk} {G H P : Nat} {T : Nat → Prop} {w w' : World} (A : SpAt b h sp k G H P T w) (kp : Keep T w w') : SpAt b h sp k G H P T w' :=
  ⟨A.v, A.kb, A.kn, A.kc, A.ok, A.at_.keep kp, A.tG, A.tH, A.tP, kp.cell A.g0 A.tG, kp.cell A.g1 A.tG, kp.cell A.g2 A.tG, A.hm.keepTo kp A.tH, A.rm.keep kp A.tP⟩
theorem SpAt.mono {b : Bk} {h : Int → Bool} {sp : Int → Rng} {k : Wk} {G H P : Nat} {T T' : Nat → Prop} {w : World} (A : SpAt b h sp k G H P T w) (hT : ∀ j, T j → T' j) : SpAt b h sp k G H P T' w :=
  ⟨A.v, A.kb, A.kn, A.kc, A.ok, A.at_.mono hT, hT _ A.tG, hT _ A.tH, hT _ A.tP, A.g0, A.g1, A.g2, A.hm, A.rm⟩
theorem SpAt.on {b : Bk} {h : Int → Bool} {sp : Int → Rng} {k : Wk} {G H P : Nat} {w w' : World} (A : SpAt b h sp k G H P (· < w.heap.size) w) (hb : Below w.heap.size w w') : SpAt b h sp k G H P (· < w'.heap.size) w' :=
  (A.keep (Keep.of_below hb fun _ h _ => h)).mono fun j hj => by have := hb.size; omega

theorem cell_new' (V : World) (c : Array Value) (t : TypeId) (n o : Nat) (hn : n = V.heap.size) : (V.alloc (.cells c t)).cell? ⟨n, o, none⟩ = c[o]? := by
  subst hn; unfold World.cell?; rw [World.alloc_heap_new]; rfl

/-- A box of a range. -/
def RngAt (W : World) (B : Nat) (r : Rng) : Prop := W.cell? ⟨B, 0, none⟩ = some (.int .i64 r.lo) ∧ W.cell? ⟨B, 1, none⟩ = some (.int .i64 r.hi) ∧ W.frozen? ⟨B, 0, none⟩ = false ∧ W.frozen? ⟨B, 1, none⟩ = false

set_option maxRecDepth 100000 in
set_option maxHeartbeats 1000000 in
theorem c61s (b : Bk) (h : Int → Bool) (sp : Int → Rng) (k : Wk) (G H P : Nat) (item day below : Int) (w : World) (A : SpAt b h sp k G H P (· < w.heap.size) w) (h0 : 0 ≤ item) (h1 : item < b.items.length) (hs : stdOf b item = true) :
    Calls Try.prog 61 #[.pointer (some ⟨G, 0, none⟩), .int .i64 item, .int .i64 day, .int .i64 below] w fun e w' => e = .returned (rngV (spanBy b h sp item day below)) ∧ ∃ x, w' = over w x := by
  rw [span_std hs]
  have g0 := A.g0
  have c0 := A.at_.c0
  rw [A.kb] at c0
  obtain ⟨m, hm⟩ := Int.eq_ofNat_of_zero_le h0
  subst hm
  have hml : m < b.items.length := by omega
  have hits := A.at_.items
  rw [A.kb] at hits
  obtain ⟨Bi, Bo, eI, hSI, hits⟩ := hits (by omega)
  obtain ⟨i0, i1, i2, i3⟩ := hits m b.items[m] (by simp [hml])
  have hix := fun c => @idx32 k.Ai Bi Bo b.items.length c eI m hml
  have hit : itmOf b (m : Int) = b.items[m] := by unfold itmOf; simp [hml]
  have hst : b.items[m].std = true := by have := stdOf_itm (b := b) (m : Int); rw [hs, hit] at this; exact this.symm
  rw [hst] at i1
  have HIT := Lib.hid hit
  generalize b.items[m] = x at i0 i2 i3 HIT
  rw [HIT.out]
  have lG := lt_of_cell g0
  have lW := lt_of_cell c0
  have lI := lt_of_cell i0
  clear hits eI hit hst hs
  have _lt : G < w.heap.size := by omega
  have _lt : G < w.heap.size + 1 := by omega
  have _lt : G < w.heap.size + 1 + 1 := by omega
  have _lt : G < w.heap.size + 1 + 1 + 1 := by omega
  have _lt : k.W < w.heap.size := by omega
  have _lt : k.W < w.heap.size + 1 := by omega
  have _lt : k.W < w.heap.size + 1 + 1 := by omega
  have _lt : k.W < w.heap.size + 1 + 1 + 1 := by omega
  have _lt : Bi < w.heap.size := by omega
  have _lt : Bi < w.heap.size + 1 := by omega
  have _lt : Bi < w.heap.size + 1 + 1 := by omega
  have _lt : Bi < w.heap.size + 1 + 1 + 1 := by omega
  go_enter Try.func61, Try.ntmps61
  go_wp2_with fail
  go_quiet (fail)
  go_wp2_with fail
  go_region
  go_wp2_with fail
  refine bodyPost_ret (ret45 (g := w.heap.size + 1 + 1 + 1) (lo := x.val.lo) (hi := x.val.hi) rfl _ rfl ?_ ?_) rfl ⟨rfl, below_over ?_⟩
  · simp [go_sem]
  · simp [go_sem]
  · repeat' (first | exact Below.refl _ _ | (refine below_ov ?_ ?_) | (refine Below.alloc ?_ ?_ _) | (refine below_drewN' ?_ _) | (refine Below.drew ?_) | (refine below_set ?_ _ _ ?_) | (simp; done) | (simp; omega) | omega)
end Go.Proofs.Ytmcnpfjichbijaa

