/- Ranges. -/
import Derived.Test.YtmcnpfjichbijaaC13
import Derived.BigQuiet
import Derived.Deep.RegionHeld3
import Derived.Deep.DrawnRows
import Derived.Test.YtmcnpfjichbijaaT1
import Derived.Test.YtmcnpfjichbijaaOver
import Derived.Test.YtmcnpfjichbijaaR1

set_option linter.unusedSimpArgs false
set_option linter.unusedVariables false
namespace Go.Proofs.Ytmcnpfjichbijaa
open Go Go.Proofs Go.RowKit Go.Shelf


theorem below_set {n : Nat} {w W : World} (h : Below n w W) (p : Addr) (v : Value) (hp : n ≤ p.block) : Below n w (W.setCell p v) :=
  h.trans ⟨rfl, rfl, rfl, by simp, fun k hk => Below.heap_setCell _ _ _ _ (by omega)⟩

theorem ret45 {fn : Func} {p : Tmp} {g : Nat} {lo hi : Int} {w : World} (h : fn.results = #[.cell p 45]) (tmps : Array Value) (hp : tmps.getD p undef = .pointer (some ⟨g, 0, none⟩)) (h0 : w.cell? ⟨g, 0, none⟩ = some (.int .i64 lo)) (h1 : w.cell? ⟨g, 1, none⟩ = some (.int .i64 hi)) :
    (results fn tmps).run Try.prog w = .ok (.agg #[.int .i64 lo, .int .i64 hi]) w := by
  have hp' : tmps[p]?.getD undef = .pointer (some ⟨g, 0, none⟩) := by simpa using hp
  have hl : (loadVar 45 ⟨g, 0, none⟩).run Try.prog w = .ok (.agg #[.int .i64 lo, .int .i64 hi]) w := by
    simp [go_sem, h0, h1]
  simp [results, h, hp', asAddr, hl]

set_option maxRecDepth 100000 in
set_option maxHeartbeats 1000000 in
theorem c100 (lo hi : Int) (w : World) : Calls Try.prog 100 #[.agg #[.int .i64 lo, .int .i64 hi]] w fun e w' => e = .returned (.int .i64 lo) ∧ ∃ x, w' = over w x := by
  go_enter Try.func100, Try.ntmps100
  go_wp2_with fail
  go_ret
  exact ⟨rfl, below_over (by repeat' (first | exact Below.refl _ _ | (refine below_ov ?_ ?_) | (refine Below.alloc ?_ ?_ _) | (refine below_drewN' ?_ _) | (refine Below.drew ?_) | (refine below_set ?_ _ _ ?_) | (simp; done) | (simp; omega) | omega))⟩
set_option maxRecDepth 100000 in
set_option maxHeartbeats 1000000 in
theorem c101 (lo hi : Int) (w : World) : Calls Try.prog 101 #[.agg #[.int .i64 lo, .int .i64 hi]] w fun e w' => e = .returned (.int .i64 hi) ∧ ∃ x, w' = over w x := by
  go_enter Try.func101, Try.ntmps101
  go_wp2_with fail
  go_ret
  exact ⟨rfl, below_over (by repeat' (first | exact Below.refl _ _ | (refine below_ov ?_ ?_) | (refine Below.alloc ?_ ?_ _) | (refine below_drewN' ?_ _) | (refine Below.drew ?_) | (refine below_set ?_ _ _ ?_) | (simp; done) | (simp; omega) | omega))⟩
set_option maxRecDepth 100000 in
set_option maxHeartbeats 1000000 in
theorem c102 (x y : Int) (b c : Nat) (w : World) (h0 : w.cell? ⟨b, 0, none⟩ = some (.int .i64 x)) (h1 : w.cell? ⟨b, 1, none⟩ = some (.int .i64 y)) :
    Calls Try.prog 102 #[.slice (some ⟨b, 0, none⟩) 2 c] w fun e w' => e = .returned (.int .i64 (max x y)) ∧ w' = w := by
  have hc := Try.slices_Max_int b 0 2 c [x, y] w (by omega) (by simp) (by omega) (fun j hj => by
    match j, hj with
    | 0, _ => simpa using h0
    | 1, _ => simpa using h1)
  have hv : Lib.maxOf (([x, y] : List Int).take 2) = max x y := by simp [Lib.maxOf]
  rw [hv] at hc
  go_enter Try.func102, Try.ntmps102
  go_wp2_with (go_at_call 112; refine hc.mono ?_; rintro e w' ⟨rfl, rfl⟩)
  go_ret
  exact ⟨rfl, rfl⟩
set_option maxRecDepth 100000 in
set_option maxHeartbeats 1000000 in
theorem c103 (x y : Int) (b c : Nat) (w : World) (h0 : w.cell? ⟨b, 0, none⟩ = some (.int .i64 x)) (h1 : w.cell? ⟨b, 1, none⟩ = some (.int .i64 y)) :
    Calls Try.prog 103 #[.slice (some ⟨b, 0, none⟩) 2 c] w fun e w' => e = .returned (.int .i64 (min x y)) ∧ w' = w := by
  have hc := Try.slices_Min_int b 0 2 c [x, y] w (by omega) (by simp) (by omega) (fun j hj => by
    match j, hj with
    | 0, _ => simpa using h0
    | 1, _ => simpa using h1)
  have hv : Lib.minOf (([x, y] : List Int).take 2) = min x y := by simp [Lib.minOf]
  rw [hv] at hc
  go_enter Try.func103, Try.ntmps103
  go_wp2_with (go_at_call 113; refine hc.mono ?_; rintro e w' ⟨rfl, rfl⟩)
  go_ret
  exact ⟨rfl, rfl⟩
set_option maxRecDepth 100000 in
set_option maxHeartbeats 1000000 in
theorem c87 (w : World) : Calls Try.prog 87 #[] w fun e w' => e = .returned (.agg #[.int .i64 (-1099511627776), .int .i64 1099511627776]) ∧ ∃ x, w' = over w x := by
  go_enter Try.func87, Try.ntmps87
  go_wp2_with fail
  refine bodyPost_ret (ret45 (g := w.heap.size) (lo := -1099511627776) (hi := 1099511627776) rfl _ rfl ?_ ?_) rfl ⟨rfl, below_over (by repeat' (first | exact Below.refl _ _ | (refine below_ov ?_ ?_) | (refine Below.alloc ?_ ?_ _) | (refine below_drewN' ?_ _) | (refine Below.drew ?_) | (refine below_set ?_ _ _ ?_) | (simp; done) | (simp; omega) | omega))⟩
  · simp [go_sem]
  · simp [go_sem]

set_option maxRecDepth 100000 in
set_option maxHeartbeats 1000000 in
theorem c86 (a b c d : Int) (w : World) (h1 : -4611686018427387904 ≤ a + c) (h2 : a + c ≤ 4611686018427387904) (h3 : -4611686018427387904 ≤ b + d) (h4 : b + d ≤ 4611686018427387904) :
    Calls Try.prog 86 #[.agg #[.int .i64 a, .int .i64 b], .agg #[.int .i64 c, .int .i64 d]] w fun e w' => e = .returned (.agg #[.int .i64 (a + c), .int .i64 (b + d)]) ∧ ∃ x, w' = over w x := by
  go_enter Try.func86, Try.ntmps86
  go_wp2_with fail
  refine wp_region_over_tail 19 (by kernel_rfl) (by kernel_rfl) ?_
  dsimp only [List.take, List.drop]
  repeat (go_big_quiet_step (first | exact calls_over_of (c100 _ _ _) | exact calls_over_of (c101 _ _ _)))
  refine wpQuiet_nil ?_
  rintro w' ⟨x, rfl⟩
  have hs : ∀ m, w.heap.size + 1 + 1 < w.heap.size + 1 + 1 + 1 + 1 + 1 + m := fun m => by omega
  go_wp2_with fail
  refine bodyPost_ret (ret45 (g := w.heap.size + 1 + 1) (lo := a + c) (hi := b + d) rfl _ rfl ?_ ?_) rfl ⟨rfl, below_over ?_⟩
  · simp [go_sem]
  · simp [go_sem]
  · repeat' (refine below_set ?_ _ _ (by simp; omega))
    repeat' (first | exact Below.refl _ _ | (refine below_ov ?_ ?_) | (refine Below.alloc ?_ ?_ _) | (refine below_drewN' ?_ _) | (refine Below.drew ?_) | (refine below_set ?_ _ _ ?_) | (simp; done) | (simp; omega) | omega)

set_option maxRecDepth 100000 in
set_option maxHeartbeats 1000000 in
theorem c89 (a b n : Int) (w : World) (h1 : -2305843009213693952 ≤ a) (h2 : a ≤ 2305843009213693952) (h3 : -2305843009213693952 ≤ b) (h4 : b ≤ 2305843009213693952) (h5 : -2305843009213693952 ≤ n) (h6 : n ≤ 2305843009213693952) :
    Calls Try.prog 89 #[.agg #[.int .i64 a, .int .i64 b], .int .i64 n] w fun e w' => e = .returned (.agg #[.int .i64 (a - n), .int .i64 (b + n)]) ∧ ∃ x, w' = over w x := by
  have hc := fun W => c86 a b (-n) n W (by omega) (by omega) (by omega) (by omega)
  have HC := Lib.hid hc
  clear hc
  have hs : ∀ m, w.heap.size + 1 < w.heap.size + 1 + 1 + m := fun m => by omega
  go_enter Try.func89, Try.ntmps89
  go_wp2_with (go_at_call 86; refine (HC.out _).mono ?_; rintro e w' ⟨rfl, x, rfl⟩)
  refine bodyPost_ret (ret45 (g := w.heap.size + 1) (lo := a + -n) (hi := b + n) rfl _ rfl ?_ ?_) rfl ⟨by rw [Int.sub_eq_add_neg], below_over ?_⟩
  · simp [go_sem]
  · simp [go_sem]
  · repeat' (refine below_set ?_ _ _ (by simp <;> omega))
    repeat' (first | exact Below.refl _ _ | (refine below_ov ?_ ?_) | (refine Below.alloc ?_ ?_ _) | (refine below_drewN' ?_ _) | (refine Below.drew ?_) | (refine below_set ?_ _ _ ?_) | (simp; done) | (simp; omega) | omega)
end Go.Proofs.Ytmcnpfjichbijaa


/- Spans: holding, cut. -/
set_option linter.unusedSimpArgs false
set_option linter.unusedVariables false
namespace Go.Proofs.Ytmcnpfjichbijaa
open Go Go.Proofs Go.RowKit Go.Shelf


theorem boolsAt.keepTo {w w' : World} {H : Nat} {nums : List Int} {h : Int → Bool} {S : Nat → Prop} (hm : boolsAt w H nums h) (k : Keep S w w') (hS : S H) : boolsAt w' H nums h := isMap.keep hm k hS

set_option maxRecDepth 100000 in
set_option maxHeartbeats 1000000 in
theorem c85 (S H : Nat) (nums : List Int) (h : Int → Bool) (c : Crt) (w : World) (hS : w.cell? ⟨S, 1, none⟩ = some (.map (some H))) (hm : boolsAt w H nums h) :
    Calls Try.prog 85 #[.pointer (some ⟨S, 0, none⟩), crtV c] w fun e w' => e = .returned (.bool (decide (c.num ∈ nums) && h c.num)) ∧ ∃ x, w' = over w x := by
  have hl := fun o m => (hm.keepTo ((Keep.alloc (fun _ => True) w o).trans (Keep.of_below (below_drewN' (Below.refl (w.alloc o).heap.size (w.alloc o)) m) fun _ _ h => h)) trivial).get c.num
  have ls := lt_of_cell hS
  generalize (decide (c.num ∈ nums) && h c.num) = r at hl ⊢
  have HM := Lib.hid hm
  clear hm
  simp only [crtV]
  go_enter Try.func85, Try.ntmps85
  go_wp2_with fail
  go_quiet (fail)
  go_wp2_with fail
  go_ret
  exact ⟨rfl, below_over (by repeat' (first | exact Below.refl _ _ | (refine below_ov ?_ ?_) | (refine Below.alloc ?_ ?_ _) | (refine below_drewN' ?_ _) | (refine Below.drew ?_) | (refine below_set ?_ _ _ ?_) | (simp; done) | (simp; omega) | omega))⟩
end Go.Proofs.Ytmcnpfjichbijaa


/- cut. -/
set_option linter.unusedSimpArgs false
set_option linter.unusedVariables false
namespace Go.Proofs.Ytmcnpfjichbijaa
open Go Go.Proofs Go.RowKit Go.Shelf

attribute [local go_sem ↓] Go.wp_at_zero Go.wp_at_succ

set_option maxRecDepth 100000 in
set_option maxHeartbeats 1000000 in
theorem c88 (a b c d : Int) (w : World) :
    Calls Try.prog 88 #[.agg #[.int .i64 a, .int .i64 b], .agg #[.int .i64 c, .int .i64 d]] w fun e w' => e = .returned (.agg #[.int .i64 (max a c), .int .i64 (min b d)]) ∧ ∃ x, w' = over w x := by
  go_enter Try.func88, Try.ntmps88
  go_wp2_with fail
  go_region_held3 (fun w' => w'.cell? ⟨w.heap.size, 0, none⟩ = some (.int .i64 a) ∧ w'.cell? ⟨w.heap.size, 1, none⟩ = some (.int .i64 b) ∧ w'.cell? ⟨w.heap.size + 1, 0, none⟩ = some (.int .i64 c) ∧ w'.cell? ⟨w.heap.size + 1, 1, none⟩ = some (.int .i64 d)) (refine ⟨?_, ?_, ?_, ?_⟩ <;> (simp [go_sem]; done))
    (first | (go_at_call 102; refine (c102 a c _ _ _ ?_ ?_).mono ?_; (simp [go_sem]); (simp [go_sem]); rintro e w' ⟨rfl, rfl⟩) | (go_at_call 103; refine (c103 b d _ _ _ ?_ ?_).mono ?_; (simp [go_sem]); (simp [go_sem]); rintro e w' ⟨rfl, rfl⟩))
  all_goals
    go_wp2_with fail
    refine bodyPost_ret (ret45 (g := w.heap.size + 1 + 1) (lo := max a c) (hi := min b d) rfl _ rfl ?_ ?_) rfl ⟨rfl, below_over ?_⟩
    · simp [go_sem]
    · simp [go_sem]
    · repeat' (first | exact Below.refl _ _ | (refine below_ov ?_ ?_) | (refine Below.alloc ?_ ?_ _) | (refine below_drewN' ?_ _) | (refine Below.drew ?_) | (refine below_set ?_ _ _ ?_) | (simp; done) | (simp; omega) | omega)
end Go.Proofs.Ytmcnpfjichbijaa


/- An item's span, walked. -/
set_option linter.unusedSimpArgs false
set_option linter.unusedVariables false
namespace Go.Proofs.Ytmcnpfjichbijaa
open Go Go.Proofs Go.RowKit Go.Shelf

attribute [local go_sem] Oper.semAt_some

/-- A range's value. -/
def rngV (r : Rng) : Value := .agg #[.int .i64 r.lo, .int .i64 r.hi]

theorem underlying133 : Try.prog.underlying 133 = some (.map 3 45) := by kernel_rfl
theorem zero45 (w : World) : (zeroValue 45).run Try.prog w = .ok (rngV ⟨0, 0⟩) w := by kernel_rfl

/-- A map of ranges. -/
def rngsAt (w : World) (P : Nat) (sp : Int → Rng) : Prop := ∃ g, isMap w P g ∧ ∀ n, (g n).getD (rngV ⟨0, 0⟩) = rngV (sp n)

theorem rngsAt.get {w : World} {P : Nat} {sp : Int → Rng} (hm : rngsAt w P sp) (n : Int) :
    (Instr.lookup 133 (.map (some P)) (.int .i64 n) false).run Try.prog w = .ok (rngV (sp n)) w := by
  obtain ⟨g, hg, h⟩ := hm
  have := run_lookup_map underlying133 underlying3 hg (zero45 w) n false
  simp only [Bool.false_eq_true, if_false] at this
  rw [this, h]
theorem rngsAt.keep {w w' : World} {P : Nat} {sp : Int → Rng} {S : Nat → Prop} (h : rngsAt w P sp) (k : Keep S w w') (hS : S P) : rngsAt w' P sp := by
  obtain ⟨g, hg, h⟩ := h
  exact ⟨g, hg.keep k hS, h⟩

/-- A book whose spans are worked, where it lies. -/
structure SpAt (b : Bk) (h : Int → Bool) (sp : Int → Rng) (k : Wk) (G H P : Nat) (T : Nat → Prop) (w : World) : Prop where
  v : Vb b
  kb : k.b = b
  kn : k.nums = numsOf b
  kc : k.cf = getC b
  ok : k.Ok
  at_ : k.At T w
  tG : T G
  tH : T H
  tP : T P
  g0 : w.cell? ⟨G, 0, none⟩ = some (.pointer (some ⟨k.W, 0, none⟩))
  g1 : w.cell? ⟨G, 1, none⟩ = some (.map (some H))
  g2 : w.cell? ⟨G, 2, none⟩ = some (.map (some P))
  hm : boolsAt w H k.nums h
  rm : rngsAt w P sp

theorem SpAt.keep {b : Bk} {h : Int → Bool} {sp : Int → Rng} {k : Wk} {G H P : Nat} {T : Nat → Prop} {w w' : World} (A : SpAt b h sp k G H P T w) (kp : Keep T w w') : SpAt b h sp k G H P T w' :=
  ⟨A.v, A.kb, A.kn, A.kc, A.ok, A.at_.keep kp, A.tG, A.tH, A.tP, kp.cell A.g0 A.tG, kp.cell A.g1 A.tG, kp.cell A.g2 A.tG, A.hm.keepTo kp A.tH, A.rm.keep kp A.tP⟩
theorem SpAt.mono {b : Bk} {h : Int → Bool} {sp : Int → Rng} {k : Wk} {G H P : Nat} {T T' : Nat → Prop} {w : World} (A : SpAt b h sp k G H P T w) (hT : ∀ j, T j → T' j) : SpAt b h sp k G H P T' w :=
  ⟨A.v, A.kb, A.kn, A.kc, A.ok, A.at_.mono hT, hT _ A.tG, hT _ A.tH, hT _ A.tP, A.g0, A.g1, A.g2, A.hm, A.rm⟩
theorem SpAt.on {b : Bk} {h : Int → Bool} {sp : Int → Rng} {k : Wk} {G H P : Nat} {w w' : World} (A : SpAt b h sp k G H P (· < w.heap.size) w) (hb : Below w.heap.size w w') : SpAt b h sp k G H P (· < w'.heap.size) w' :=
  (A.keep (Keep.of_below hb fun _ h _ => h)).mono fun j hj => by have := hb.size; omega

theorem cell_new' (V : World) (c : Array Value) (t : TypeId) (n o : Nat) (hn : n = V.heap.size) : (V.alloc (.cells c t)).cell? ⟨n, o, none⟩ = c[o]? := by
  subst hn; unfold World.cell?; rw [World.alloc_heap_new]; rfl

/-- A box of a range. -/
def RngAt (W : World) (B : Nat) (r : Rng) : Prop := W.cell? ⟨B, 0, none⟩ = some (.int .i64 r.lo) ∧ W.cell? ⟨B, 1, none⟩ = some (.int .i64 r.hi) ∧ W.frozen? ⟨B, 0, none⟩ = false ∧ W.frozen? ⟨B, 1, none⟩ = false

set_option maxRecDepth 100000 in
set_option maxHeartbeats 1000000 in
theorem c61s (b : Bk) (h : Int → Bool) (sp : Int → Rng) (k : Wk) (G H P : Nat) (item day below : Int) (w : World) (A : SpAt b h sp k G H P (· < w.heap.size) w) (h0 : 0 ≤ item) (h1 : item < b.items.length) (hs : stdOf b item = true) :
    Calls Try.prog 61 #[.pointer (some ⟨G, 0, none⟩), .int .i64 item, .int .i64 day, .int .i64 below] w fun e w' => e = .returned (rngV (spanBy b h sp item day below)) ∧ ∃ x, w' = over w x := by
  rw [span_std hs]
  have g0 := A.g0
  have c0 := A.at_.c0
  rw [A.kb] at c0
  obtain ⟨m, hm⟩ := Int.eq_ofNat_of_zero_le h0
  subst hm
  have hml : m < b.items.length := by omega
  have hits := A.at_.items
  rw [A.kb] at hits
  obtain ⟨Bi, Bo, eI, hSI, hits⟩ := hits (by omega)
  obtain ⟨i0, i1, i2, i3⟩ := hits m b.items[m] (by simp [hml])
  have hix := fun c => @idx32 k.Ai Bi Bo b.items.length c eI m hml
  have hit : itmOf b (m : Int) = b.items[m] := by unfold itmOf; simp [hml]
  have hst : b.items[m].std = true := by have := stdOf_itm (b := b) (m : Int); rw [hs, hit] at this; exact this.symm
  rw [hst] at i1
  have HIT := Lib.hid hit
  generalize b.items[m] = x at i0 i2 i3 HIT
  rw [HIT.out]
  have lG := lt_of_cell g0
  have lW := lt_of_cell c0
  have lI := lt_of_cell i0
  clear hits eI hit hst hs
  have _lt : G < w.heap.size := by omega
  have _lt : G < w.heap.size + 1 := by omega
  have _lt : G < w.heap.size + 1 + 1 := by omega
  have _lt : G < w.heap.size + 1 + 1 + 1 := by omega
  have _lt : k.W < w.heap.size := by omega
  have _lt : k.W < w.heap.size + 1 := by omega
  have _lt : k.W < w.heap.size + 1 + 1 := by omega
  have _lt : k.W < w.heap.size + 1 + 1 + 1 := by omega
  have _lt : Bi < w.heap.size := by omega
  have _lt : Bi < w.heap.size + 1 := by omega
  have _lt : Bi < w.heap.size + 1 + 1 := by omega
  have _lt : Bi < w.heap.size + 1 + 1 + 1 := by omega
  go_enter Try.func61, Try.ntmps61
  go_wp2_with fail
  go_quiet (fail)
  go_wp2_with fail
  go_region
  go_wp2_with fail
  refine bodyPost_ret (ret45 (g := w.heap.size + 1 + 1 + 1) (lo := x.val.lo) (hi := x.val.hi) rfl _ rfl ?_ ?_) rfl ⟨rfl, below_over ?_⟩
  · simp [go_sem]
  · simp [go_sem]
  · repeat' (first | exact Below.refl _ _ | (refine below_ov ?_ ?_) | (refine Below.alloc ?_ ?_ _) | (refine below_drewN' ?_ _) | (refine Below.drew ?_) | (refine below_set ?_ _ _ ?_) | (simp; done) | (simp; omega) | omega)
end Go.Proofs.Ytmcnpfjichbijaa


/- An item's span, walked: by its certificates. -/
set_option linter.unusedSimpArgs false
set_option linter.unusedVariables false
namespace Go.Proofs.Ytmcnpfjichbijaa
open Go Go.Proofs Go.RowKit Go.Shelf

attribute [local go_sem] Oper.semAt_some

theorem rngAt_own {β : Type} (B n : Nat) (f : β → Rng) : OwnFrom n (fun s W => RngAt W B (f s)) :=
  fun s A C row hs hg hr => ⟨cell_kept hs.1 hg (fun r e => (hr r e).2), cell_kept hs.2.1 hg (fun r e => (hr r e).2), (frozen_kept hs.1 hg (fun r e => (hr r e).2)).trans hs.2.2.1, (frozen_kept hs.2.1 hg (fun r e => (hr r e).2)).trans hs.2.2.2⟩

theorem RngAt.over {W z : World} {B : Nat} {r : Rng} (h : RngAt W B r) : RngAt (over W z) B r := by
  have l := lt_of_cell h.1
  exact ⟨by rw [over_cell _ _ _ _ l]; exact h.1, by rw [over_cell _ _ _ _ l]; exact h.2.1, by rw [over_frozen _ _ _ _ l]; exact h.2.2.1, by rw [over_frozen _ _ _ _ l]; exact h.2.2.2⟩
theorem RngAt.set {W : World} {B : Nat} {r : Rng} (h : RngAt W B r) (lo hi : Int) : RngAt ((W.setCell ⟨B, 0, none⟩ (.int .i64 lo)).setCell ⟨B, 1, none⟩ (.int .i64 hi)) B ⟨lo, hi⟩ := by
  refine ⟨?_, ?_, ?_, ?_⟩
  · rw [World.cell?_setCell_other _ _ _ _ (by simp)]
    exact World.cell?_setCell_same' _ _ _ (by rw [h.1]; rfl)
  · refine World.cell?_setCell_same' _ _ _ ?_
    rw [World.cell?_setCell_other _ _ _ _ (by simp), h.2.1]; rfl
  · rw [World.frozen?_setCell, World.frozen?_setCell]; exact h.2.2.1
  · rw [World.frozen?_setCell, World.frozen?_setCell]; exact h.2.2.2
theorem RngAt.keep {W W' : World} {B : Nat} {r : Rng} {S : Nat → Prop} (h : RngAt W B r) (k : Keep S W W') (hS : S B) : RngAt W' B r := by
  have l := lt_of_cell h.1
  exact ⟨k.cell h.1 hS, k.cell h.2.1 hS, by rw [World.frozen?_of_block (k.block B hS l)]; exact h.2.2.1, by rw [World.frozen?_of_block (k.block B hS l)]; exact h.2.2.2⟩
theorem keepsFrom_over (B : Nat) (W z : World) : KeepsFrom B W (over W z) := KeepsFrom.of_grownBy (over_grown W z) fun _ e => by cases e

set_option maxRecDepth 100000 in
set_option maxHeartbeats 1000000 in
theorem c61n (b : Bk) (h : Int → Bool) (sp : Int → Rng) (k : Wk) (G H P : Nat) (item day below : Int) (w : World) (A : SpAt b h sp k G H P (· < w.heap.size) w) (h0 : 0 ≤ item) (h1 : item < b.items.length) (hs : stdOf b item = false)
    (hd0 : 0 ≤ day) (hd1 : day ≤ 1000) (hsp : ∀ n, In (sp n) 2199023255552) :
    Calls Try.prog 61 #[.pointer (some ⟨G, 0, none⟩), .int .i64 item, .int .i64 day, .int .i64 below] w fun e w' => e = .returned (rngV (spanBy b h sp item day below)) ∧ ∃ x, w' = over w x := by
  have HA := Lib.hid A
  have g0 := A.g0
  have c0 := A.at_.c0
  rw [A.kb] at c0
  obtain ⟨m, hm⟩ := Int.eq_ofNat_of_zero_le h0
  have hml : m < b.items.length := by omega
  have hits := A.at_.items
  rw [A.kb] at hits
  obtain ⟨Bi, Bo, eI, hSI, hits⟩ := hits (by omega)
  obtain ⟨i0, i1, i2, i3⟩ := hits m b.items[m] (by simp [hml])
  have hix := fun c => @idx32 k.Ai Bi Bo b.items.length c eI m hml
  rw [show ((m : Nat) : Int) = item from hm.symm] at hix
  have hit : itmOf b item = b.items[m] := by unfold itmOf; rw [hm]; simp [hml]
  have hst : b.items[m].std = false := by have := stdOf_itm (b := b) item; rw [hs, hit] at this; exact this.symm
  rw [hst] at i1
  have HIT := Lib.hid hit
  generalize b.items[m] = it at i0 i2 i3 HIT
  have lG := lt_of_cell g0
  have lW := lt_of_cell c0
  have lI := lt_of_cell i0
  have HS := Lib.hid hs
  have HSP := Lib.hid hsp
  clear hits eI hit hst hs A hm hsp
  have _lt : G < w.heap.size := by omega
  have _lt : G < w.heap.size + 1 := by omega
  have _lt : G < w.heap.size + 1 + 1 := by omega
  have _lt : G < w.heap.size + 1 + 1 + 1 := by omega
  have _lt : k.W < w.heap.size := by omega
  have _lt : k.W < w.heap.size + 1 := by omega
  have _lt : k.W < w.heap.size + 1 + 1 := by omega
  have _lt : k.W < w.heap.size + 1 + 1 + 1 := by omega
  have _lt : Bi < w.heap.size := by omega
  have _lt : Bi < w.heap.size + 1 := by omega
  have _lt : Bi < w.heap.size + 1 + 1 := by omega
  have _lt : Bi < w.heap.size + 1 + 1 + 1 := by omega
  have hmf : ∀ (fn : Fn) (first cap : Array Value) (w : World), (Instr.makeFunc fn first cap).run Try.prog w = .ok (.func fn first cap) w := fun _ _ _ _ => rfl
  refine (callsIn_wide (n := 10)).1 ?_
  refine callsIn_of_wp_marks Try.func61 rfl trivial ?_ rfl
  refine wpIn_wide.2 ?_
  simp only [Try.ntmps61, List.size_toArray, List.length_cons, List.length_nil, Nat.reduceAdd, Nat.reduceSub, Array.replicate_succ, Array.replicate_zero, List.push_toArray, List.append_toArray, List.nil_append, List.cons_append]
  go_wp2_with fail
  go_quiet (fail)
  go_wp2_with fail
  refine (c87 _).mono ?_
  rintro e w1 ⟨rfl, x1, rfl⟩
  go_wp2_with fail
  generalize hU : World.alloc (World.drewN _ nq) _ = U
  have u0 : U.cell? ⟨w.heap.size, 0, none⟩ = some (.pointer (some ⟨G, 0, none⟩)) := by rw [← hU]; simp [go_sem]
  have u1 : U.cell? ⟨w.heap.size + 1, 0, none⟩ = some (.int .i64 item) := by rw [← hU]; simp [go_sem]
  have u2 : U.cell? ⟨w.heap.size + 1 + 1, 0, none⟩ = some (.int .i64 day) := by rw [← hU]; simp [go_sem]
  have u3 : RngAt U (w.heap.size + 1 + 1 + 1) ⟨0, 0⟩ := by rw [← hU]; exact ⟨by simp [go_sem], by simp [go_sem], by simp [go_sem], by simp [go_sem]⟩
  have u4 : U.cell? ⟨w.heap.size + 1 + 1 + 1 + 1, 0, none⟩ = some (.func (.func 85) #[.pointer (some ⟨G, 0, none⟩)] #[]) := by rw [← hU]; simp [go_sem]
  have ub : Below w.heap.size w U := by rw [← hU]; repeat' (first | exact Below.refl _ _ | (refine below_ov ?_ ?_) | (refine Below.alloc ?_ ?_ _) | (refine below_drewN' ?_ _) | (refine Below.drew ?_) | (refine below_set ?_ _ _ ?_) | (simp; done) | (simp; omega) | omega)
  have us : U.heap.size = w.heap.size + 1 + 1 + 1 + 1 + 1 := by rw [← hU]; simp
  clear hU
  generalize hW1 : World.alloc (over _ _) _ = W1
  generalize hZ : w.heap.size + 1 + 1 + 1 + 1 + 1 + x1.heap.size = Z
  have z1 : W1.heap.size = Z + 1 := by rw [← hW1, ← hZ, ← us]; simp
  have kU : Keep (· < U.heap.size) U W1 := by rw [← hW1]; exact (Keep.over _ _ _).trans (Keep.alloc _ _ _)
  have fU : ∀ B o, B < U.heap.size → W1.frozen? ⟨B, o, none⟩ = U.frozen? ⟨B, o, none⟩ := fun B o h => World.frozen?_of_block (kU.block B h h)
  have hb1 : Below w.heap.size w W1 := ub.trans (kU.below fun j hj => ⟨by omega, by omega⟩)
  have e0 := kU.cell u0 (by omega)
  have e1 := kU.cell u1 (by omega)
  have e2 := kU.cell u2 (by omega)
  have e3 : RngAt W1 (w.heap.size + 1 + 1 + 1) ⟨0, 0⟩ := ⟨kU.cell u3.1 (by omega), kU.cell u3.2.1 (by omega), by rw [fU _ _ (by omega)]; exact u3.2.2.1, by rw [fU _ _ (by omega)]; exact u3.2.2.2⟩
  have e4 := kU.cell u4 (by omega)
  have e5 : RngAt W1 Z everyR := by rw [← hW1, ← hZ, ← us]; exact ⟨by simp [go_sem, everyR], by simp [go_sem, everyR], by simp [go_sem], by simp [go_sem]⟩
  clear fU kU u0 u1 u2 u3 u4 ub us
  have hZ1 : w.heap.size + 5 ≤ Z := by omega
  have A1 := HA.out.on hb1
  have HA1 := Lib.hid A1
  have f0 := A1.g0
  have lG1 := lt_of_cell f0
  have HB1 := Lib.hid hb1
  have HE3 := Lib.hid e3
  have HE4 := Lib.hid e4
  have HE5 := Lib.hid e5
  have z1' : Z < W1.heap.size := by omega
  have z1'' : W1.heap.size ≤ Z + 1 := by omega
  have HI0 := Lib.hid i0
  have HIX := Lib.hid hix
  clear hW1 hZ A1 hb1 e3 e4 e5 z1 g0 c0 i0 i1 i2 i3 hix lW lI
  refine wp_region_drew_tail 7 (by kernel_rfl) (by kernel_rfl) ?_
  dsimp only [List.take, List.drop]
  repeat (go_big_quiet_step (fail))
  refine wpQuiet_nil ?_
  rintro w' ⟨nq2, rfl⟩
  go_wp2_with fail
  refine (c66 _ _ _ _ _).mono ?_
  rintro e w2 ⟨rfl, rfl⟩
  go_wp2_with fail
  generalize hW0 : World.alloc _ _ = W0
  have kw : Keep (fun _ => True) W1 W0 := by
    rw [← hW0]
    exact ((((Keep.of_below (below_drewN' (Below.refl W1.heap.size W1) nq2) fun _ _ h => h).trans (Keep.alloc _ _ _)).trans (Keep.alloc _ _ _)).trans (Keep.alloc _ _ _)).trans (Keep.alloc _ _ _)
  have hs0 : W1.heap.size + 4 ≤ W0.heap.size := by rw [← hW0]; simp
  have hs1 : W0.heap.size ≤ W1.heap.size + 4 := by rw [← hW0]; simp
  have d2 : W0.cell? ⟨W1.heap.size, 0, none⟩ = some (.pointer (some ⟨k.W, 0, none⟩)) := by rw [← hW0]; simp [go_sem]; exact cell_new' _ _ _ _ _ rfl
  have d3 : W0.cell? ⟨W1.heap.size + 1, 0, none⟩ = some (.int .i64 item) := by rw [← hW0]; simp [go_sem]
  have d4 : W0.cell? ⟨W1.heap.size + 2, 0, none⟩ = some (.int .i64 day) := by rw [← hW0]; simp [go_sem]
  have d5 : W0.cell? ⟨W1.heap.size + 3, 0, none⟩ = some (.int .i64 below) := by rw [← hW0]; simp [go_sem]
  clear hW0
  have hb2 : ∀ j, j < W1.heap.size → j ≠ Z → but W0.heap.size Z j := fun j h h' => ⟨by omega, h'⟩
  have A2 : SpAt b h sp k G H P (but W0.heap.size Z) W0 := ((HA.out.mono fun j hj => hb2 j (by omega) (by omega)).keep (Keep.of_below HB1.out fun j hj hl => hl)).keep (kw.mono fun _ _ => trivial)
  have HA2 := Lib.hid A2
  have I0 : RngAt W0 Z everyR := ⟨kw.cell HE5.out.1 trivial, kw.cell HE5.out.2.1 trivial, by rw [World.frozen?_of_block (kw.block Z trivial z1')]; exact HE5.out.2.2.1, by rw [World.frozen?_of_block (kw.block Z trivial z1')]; exact HE5.out.2.2.2⟩
  refine ofLoop (p := 47) (s := 11) k HA.out.ok Z (Bw := W1.heap.size) (Bb := W1.heap.size + 3) (Bi := W1.heap.size + 1) (Bd := W1.heap.size + 2) (item := item) (day := day) (below := below)
    ⟨A2.at_, ⟨by omega, by omega⟩, ⟨by omega, by omega⟩, ⟨by omega, by omega⟩, ⟨by omega, by omega⟩, d2, d5, d3, d4⟩ rfl
    (fun pre W => RngAt W Z ((ids pre).foldl (spanStep b h sp item day) everyR))
    (rngAt_own _ _ _) I0 ?assign ?body ?done
  case assign =>
    intro l c W K hK
    simp only [crtV, crtCs] at hK ⊢
    gi_wp2
    exact hK
  case body =>
    rintro l pre x Bx W hatW hI hBx hBc hkp
    have hmem := (List.mem_filter.1 x.2).1
    have hx := HA.out.ok.num x.1 hmem
    have A3 := HA2.out.keep hkp
    have p4 := hkp.cell (kw.cell HE4.out trivial) (hb2 _ (by omega) (by omega))
    have p0 := hkp.cell (kw.cell e0 trivial) (hb2 _ (by omega) (by omega))
    have p1 := hkp.cell (kw.cell e1 trivial) (hb2 _ (by omega) (by omega))
    have p2 := hkp.cell (kw.cell e2 trivial) (hb2 _ (by omega) (by omega))
    have HX := Lib.hid hx
    have HA3 := Lib.hid A3
    have HI := Lib.hid hI
    have hcs : ∀ j v, (crtCs (k.cf x.1))[j]? = some v → W.cell? ⟨Bx, j, none⟩ = some v := fun j v hv => by unfold World.cell?; rw [hBc]; exact hv
    have q0 : W.cell? ⟨Bx, 0, none⟩ = some (.int .i64 (k.cf x.1).num) := hcs 0 _ rfl
    have q1 : W.cell? ⟨Bx, 1, none⟩ = some (.int .i64 (k.cf x.1).item) := hcs 1 _ rfl
    have q2 : W.cell? ⟨Bx, 2, none⟩ = some (.int .i64 (k.cf x.1).by_) := hcs 2 _ rfl
    have q3 : W.cell? ⟨Bx, 3, none⟩ = some (.int .i64 (k.cf x.1).day) := hcs 3 _ rfl
    have q4 : W.cell? ⟨Bx, 4, none⟩ = some (.int .i64 (k.cf x.1).valid) := hcs 4 _ rfl
    have q5 : W.cell? ⟨Bx, 5, none⟩ = some (.int .i64 (k.cf x.1).diff.lo) := hcs 5 _ rfl
    have q6 : W.cell? ⟨Bx, 6, none⟩ = some (.int .i64 (k.cf x.1).diff.hi) := hcs 6 _ rfl
    rw [hx] at q0
    have lBx := lt_of_cell q0
    have c85' := c85 G H k.nums h ⟨x.1, (k.cf x.1).item, (k.cf x.1).by_, (k.cf x.1).day, (k.cf x.1).valid, ⟨(k.cf x.1).diff.lo, (k.cf x.1).diff.hi⟩⟩ W A3.g1 A3.hm
    dsimp only at c85'
    rw [decide_eq_true hmem, Bool.true_and] at c85'
    simp only [crtV] at c85'
    have HC85 := Lib.hid c85'
    clear hcs hx hmem hI A3 c85' hBc
    simp only [crtV, List.setIfInBounds_toArray, List.set_cons_succ, List.set_cons_zero]
    gi_wp2_with fail
    refine (CallsIn.inRound l (callsIn_wide.2 HC85.out)).mono ?_
    rintro e w3 ⟨rfl, z, rfl⟩
    have hstep : ∀ r', r' = spanStep b h sp item day ((ids pre).foldl (spanStep b h sp item day) everyR) x.1 → r' = (ids (pre ++ [x])).foldl (spanStep b h sp item day) everyR := fun r' e => by
      rw [ids_snoc, List.foldl_append]; exact e
    have HST := Lib.hid hstep
    generalize (ids pre).foldl (spanStep b h sp item day) everyR = r at HI HST
    clear hstep
    cases hh : h x.1
    · have HH := Lib.hid hh
      gi_wp2_with fail
      have he := HST.out r (by unfold spanStep; rw [if_neg (by rw [HH.out]; simp)])
      rw [← he]
      exact ⟨keepsFrom_over _ _ _, Keep.over _ _ _, HI.out.over⟩
    · have HH := Lib.hid hh
      have hmem2 := List.mem_filter.1 x.2
      have hm1 : x.1 ∈ numsOf b := by rw [← HA.out.kn]; exact hmem2.1
      have hcf := congrFun HA.out.kc x.1
      have hon : onB (getC b x.1) day = true := by have := hmem2.2; rw [hcf] at this; simp only [Bool.and_eq_true] at this; exact this.2
      have hit2 : (getC b x.1).item = item := by have := hmem2.2; rw [hcf] at this; simp only [Bool.and_eq_true, beq_iff_eq] at this; exact this.1.2
      have hfar := far_bd HA.out.v hm1 hon
      rw [hit2, HIT.out, ← hcf] at hfar
      have hday := HA.out.v.ok hm1
      have hdy0 := hday.d1
      have hdy1 := onB_day hon
      rw [← hcf] at hdy0 hdy1
      obtain ⟨s1, s2, s3, s4⟩ := HSP.out x.1
      have hlk : ∀ y, (Instr.lookup 133 (.map (some P)) (.int .i64 x.1) false).run Try.prog (over W y) = .ok (.agg #[.int .i64 (sp x.1).lo, .int .i64 (sp x.1).hi]) (over W y) := fun y => (HA3.out.rm.keep (Keep.over (fun _ => True) W y) trivial).get x.1
      have g0 := HA3.out.g0
      have g2 := HA3.out.g2
      have c0 := HA3.out.at_.c0
      rw [HA.out.kb] at c0
      have i0 : W.cell? ⟨Bi, Bo + m * 4, none⟩ = some (.int .i64 it.drift) := hkp.cell (kw.cell ((Keep.of_below (S := fun j => j < w.heap.size) HB1.out fun _ h _ => h).cell HI0.out hSI) trivial) (hb2 _ (by have := HB1.out.size; omega) (by omega))
      have r0 := HI.out.1
      have r1 := HI.out.2.1
      have fz0 := HI.out.2.2.1
      have fz1 := HI.out.2.2.2
      have lr := lt_of_cell r0
      have l0 := lt_of_cell g0
      have l1 := lt_of_cell c0
      have l2 := lt_of_cell i0
      have l3 := lt_of_cell p0
      have l4 := lt_of_cell p1
      have l5 := lt_of_cell p2
      have hix := HIX.out
      have hz : r = r := rfl
      clear hmem2 hm1 hcf hon hit2 hday hz
      gi_wp2_with fail
      refine gi_region_quiet_tail (C := fun w' => ∃ x, w' = over W x) 27 (by kernel_rfl) (by kernel_rfl) (by kernel_rfl) ?hL ⟨{ z with drawn := z.drawn + 1 }, rfl⟩ ?hq
      case hL => rintro ⟨a, w, hl⟩; obtain ⟨hl, _⟩ := (show (Exit.outgrown = Exit.normal) ∧ _ from hl); cases hl
      case hq =>
        dsimp only [List.take, List.drop]
        repeat (go_big_quiet_step (first | exact calls_over_of (c89 _ _ _ _ (by omega) (by omega) (by omega) (by omega) (by omega) (by omega)) | exact calls_over_of (c88 _ _ _ _ _)))
        refine wpQuiet_nil ?_
        rintro w' ⟨y, rfl⟩
        go_wp2_with fail
        have he := HST.out ⟨max r.lo ((sp x.1).lo - it.drift * (day - (k.cf x.1).day)), min r.hi ((sp x.1).hi + it.drift * (day - (k.cf x.1).day))⟩ (by unfold spanStep; rw [if_pos HH.out, HIT.out, congrFun HA.out.kc x.1]; rfl)
        rw [← he]
        exact ⟨(keepsFrom_over _ _ _).trans (((KeepsOthers.setCell _ _ _).from _).trans ((KeepsOthers.setCell _ _ _).from _)), (Keep.over _ _ _).trans ((Keep.setCell _ _ _ (fun h => h.2 rfl)).trans (Keep.setCell _ _ _ (fun h => h.2 rfl))), HI.out.over.set _ _⟩
  case done =>
    rintro D xs W hD hids hI hkp hDk
    have r3 := (HE3.out.keep kw trivial).keep hkp (hb2 _ (by omega) (by omega))
    have hval : (ids xs).foldl (spanStep b h sp item day) everyR = spanBy b h sp item day below := by
      unfold spanBy
      rw [if_neg (by rw [HS.out]; simp), hids, HA.out.kc, HA.out.kn]
    rw [hval] at hI
    have q0 := hI.1
    have q1 := hI.2.1
    have t0 := r3.1
    have t1 := r3.2.1
    have f0 := r3.2.2.1
    have f1 := r3.2.2.2
    have hWs := hkp.size
    have hsw := HB1.out.size
    have hmk : Marks w.heap.size ((W.setCell ⟨w.heap.size + 1 + 1 + 1, 0, none⟩ (.int .i64 (spanBy b h sp item day below).lo)).setCell ⟨w.heap.size + 1 + 1 + 1, 1, none⟩ (.int .i64 (spanBy b h sp item day below).hi)) [{ target := .collected D, args := #[] }] := by
      refine Marks.of_blocks (w := W) (fun D' o' hB' ho' hc' _ => ?_) ⟨⟨D, rfl, by omega, hDk, by simp⟩, trivial⟩
      have hne : D' ≠ w.heap.size + 1 + 1 + 1 := fun e => by
        subst e
        obtain ⟨c, t, f, hh⟩ := cells_at r3.1
        rw [hh] at ho'; cases ho'; cases hc'
      rw [Below.heap_setCell _ _ _ _ (by simpa using hne), Below.heap_setCell _ _ _ _ (by simpa using hne), ho']
    have HMK := Lib.hid hmk
    have HR3 := Lib.hid r3
    have hbw : Below w.heap.size w W := (HB1.out.trans (kw.below fun j hj => ⟨trivial, by omega⟩)).trans (hkp.below fun j hj => ⟨hb2 _ (by omega) (by omega), by omega⟩)
    have HBW := Lib.hid hbw
    have lq := lt_of_cell q0
    have lt := lt_of_cell t0
    clear hids hval hmk r3 hbw hI
    generalize hr : spanBy b h sp item day below = r at *
    have HR := Lib.hid hr
    clear hr
    go_wp2_with fail
    refine leaves_marks HMK.out fun w' hg => ⟨_, ret45 (g := w.heap.size + 1 + 1 + 1) (lo := r.lo) (hi := r.hi) rfl _ rfl ?_ ?_, by rw [HR.out]; rfl, ?_⟩
    · exact hg.cell (HR3.out.set r.lo r.hi).1
    · exact hg.cell (HR3.out.set r.lo r.hi).2.1
    · refine below_over (Below.trans ?_ hg.below)
      exact below_set (below_set HBW.out _ _ (by simp; omega)) _ _ (by simp; omega)
end Go.Proofs.Ytmcnpfjichbijaa

