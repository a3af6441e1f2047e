/- All spans: made. -/
import Derived.Test.YtmcnpfjichbijaaC20
import Derived.Test.YtmcnpfjichbijaaC14
import Derived.Deep.RegionHeld3
import Derived.Deep.DrawnRows
set_option linter.unusedSimpArgs false
set_option linter.unusedVariables false
namespace Go.Proofs.Ytmcnpfjichbijaa
open Go Go.Proofs Go.RowKit Go.Shelf


theorem c84 (b : Bk) (h : Int → Bool) (k : Wk) (G H P B1 B2 B3 : Nat) (hH : H ≠ P) (hM : k.M ≠ P) : ∀ (j i : Nat) (_ : i + j = k.nums.length) (A : Option Addr) (c : Nat) (w : World)
    (_ : SpAt b h (spU b h i) k G H P (· < w.heap.size) w) (_ : w.cell? ⟨B1, 0, none⟩ = some (.pointer (some ⟨k.W, 0, none⟩))) (_ : w.cell? ⟨B2, 0, none⟩ = some (.pointer (some ⟨G, 0, none⟩)))
    (_ : w.cell? ⟨B3, 0, none⟩ = some (.func (.func 84) #[] #[.pointer (some ⟨B1, 0, none⟩), .pointer (some ⟨B2, 0, none⟩), .pointer (some ⟨B3, 0, none⟩)]))
    (_ : numsAt (fun x => x < w.heap.size ∧ x ≠ P) w A (k.nums.drop i)) (_ : j ≤ c),
    Calls Try.prog 84 #[.slice A j c, .pointer (some ⟨B1, 0, none⟩), .pointer (some ⟨B2, 0, none⟩), .pointer (some ⟨B3, 0, none⟩)] w fun e w'' =>
      e = .returned (.tuple #[]) ∧ SpAt b h (spU b h k.nums.length) k G H P (· < w''.heap.size) w'' ∧ Keep (fun x => x < w.heap.size ∧ x ≠ P) w w''
  | 0, i, hij, A, c, w, S, x1, x2, x3, hn, hc => (c84_0 A c B1 B2 B3 w).mono fun e w' ⟨he, hw⟩ => by
    subst hw
    have : i = k.nums.length := by omega
    subst this
    exact ⟨he, S, Keep.refl _ _⟩
  | j + 1, i, hij, A, c, w, S, x1, x2, x3, hn, hc => c84_s b h k G H P B1 B2 B3 hH hM j i hij A c w S x1 x2 x3 hn hc
      fun A' c' w' S' y1 y2 y3 hn' hc' => c84 b h k G H P B1 B2 B3 hH hM j (i + 1) (by omega) A' c' w' S' y1 y2 y3 hn' hc'

attribute [local go_sem ↓] Go.wp_at_zero Go.wp_at_succ

/-- The spans of a book, worked. -/
def SpansTo (b : Bk) (k : Wk) (w : World) (e : Ending) (w' : World) : Prop :=
  ∃ G H P, e = .returned (.pointer (some ⟨G, 0, none⟩)) ∧ SpAt b (held0 b) (spansOf b) k G H P (· < w'.heap.size) w' ∧ Below w.heap.size w w'

theorem bcell {W w1 : World} (hb : Below W.heap.size W w1) : (∀ b o, b < W.heap.size → w1.cell? ⟨b, o, none⟩ = W.cell? ⟨b, o, none⟩) ∧ (∀ b o, b < W.heap.size → w1.frozen? ⟨b, o, none⟩ = W.frozen? ⟨b, o, none⟩) :=
  ⟨fun b o h => hb.cell (p := ⟨b, o, none⟩) h, fun b o h => hb.frozen (p := ⟨b, o, none⟩) h⟩

/-- What a call of held leaves. -/
def HeldTo (k : Wk) (w : World) (e : Ending) (w' : World) : Prop := ∃ H, e = .returned (.map (some H)) ∧ isMap w' H (fun n => if n ∈ k.nums then some (.bool (heldUpto k k.nums n)) else none) ∧ Below w.heap.size w w' ∧ w.heap.size ≤ H

theorem cell_ne_map {w : World} {a o P : Nat} {v : Value} {f : Int → Option Value} (hc : w.cell? ⟨a, o, none⟩ = some v) (hm : isMap w P f) : a ≠ P := fun e => by
  subst e
  obtain ⟨c, t, fz, hb⟩ := cells_at hc
  obtain ⟨ob, h1, h2⟩ := hm.notCells
  rw [hb] at h1; cases h1; cases h2
theorem numsAt.ne {w : World} {n P : Nat} {A : Option Addr} {l : List Int} {f : Int → Option Value} (h : numsAt (· < n) w A l) (hm : isMap w P f) : numsAt (fun x => x < n ∧ x ≠ P) w A l := fun hl => by
  obtain ⟨b, o, e, hS, hc⟩ := h hl
  exact ⟨b, o, e, ⟨hS, cell_ne_map (hc 0 l[0] (by simp [hl])) hm⟩, hc⟩

theorem isMap_new' (w : World) (M : Nat) (h : M = w.heap.size) : isMap (w.alloc (.map #[] 0)) M fun _ => none := by subst h; exact isMap_new w
theorem isMap_drew {w : World} {M : Nat} {f : Int → Option Value} (h : isMap w M f) : isMap w.drew M f := h.of_block rfl

/-- What lies there before the spans are worked. -/
structure SpPre (b : Bk) (k : Wk) (w w' : World) (T3 G H P : Nat) : Prop where
  bel : Below w.heap.size w w'
  t1 : w'.cell? ⟨w.heap.size, 0, none⟩ = some (.pointer (some ⟨k.W, 0, none⟩))
  t3 : w'.cell? ⟨T3, 0, none⟩ = some (.pointer (some ⟨G, 0, none⟩))
  g0 : w'.cell? ⟨G, 0, none⟩ = some (.pointer (some ⟨k.W, 0, none⟩))
  g1 : w'.cell? ⟨G, 1, none⟩ = some (.map (some H))
  g2 : w'.cell? ⟨G, 2, none⟩ = some (.map (some P))
  hm : isMap w' H (fun n => if n ∈ k.nums then some (.bool (heldUpto k k.nums n)) else none)
  pm : isMap w' P (fun _ => none)
  hH : w.heap.size ≤ H
  hP : w.heap.size ≤ P
  hHP : H ≠ P

set_option maxRecDepth 100000 in
set_option maxHeartbeats 1000000 in
theorem c59 (b : Bk) (k : Wk) (w0 w : World) (v : Vb b) (hm : Made b (fun _ => false) w0 w k) : Calls Try.prog 59 #[.pointer (some ⟨k.W, 0, none⟩)] w (SpansTo b k w) := by
  have HM := Lib.hid hm
  have hmm := @run_makeMap Try.prog
  have hmf : ∀ (fn : Fn) (first cap : Array Value) (w : World), (Instr.makeFunc fn first cap).run Try.prog w = .ok (.func fn first cap) w := fun _ _ _ _ => rfl
  have lW := hm.lt
  clear hm
  go_enter Try.func59, Try.ntmps59
  go_wp2_with fail
  refine Code.wp_mono (Q := fun e a' w' => e = .normal ∧ ∃ T3 G H P u5 u6 u9, SpPre b k w w' T3 G H P ∧
    a' = { tmps := #[.pointer (some ⟨k.W, 0, none⟩), .pointer (some ⟨w.heap.size, 0, none⟩), .pointer none, .pointer (some ⟨T3, 0, none⟩), undef, u5, u6, .map (some H), .map (some P), u9, .pointer (some ⟨G, 0, none⟩), undef, undef, undef, undef, undef, undef, undef, undef], defers := [] }) ?after ?region
  case region =>
    go_region_held3 (fun w' => w'.cell? ⟨w.heap.size, 0, none⟩ = some (.pointer (some ⟨k.W, 0, none⟩)))
      (first | (simp [go_sem]; done) | (simp [go_sem, *]; done) | (repeat' (first | assumption | (refine (Keep.alloc (fun _ => True) _ _).cell ?_ trivial) | (rw [World.cell?_setCell_other _ _ _ _ (by simp; omega)]) | (simp [go_sem, *]; done))))
      (first | (go_at_call 51; refine Calls.mono (c51 k HM.out.ok _ (HM.out.on (by repeat' (first | exact Below.refl _ _ | (refine below_ov ?_ ?_) | (refine Below.alloc ?_ ?_ _) | (refine below_drewN' ?_ _) | (refine Below.drew ?_) | (refine below_set ?_ _ _ ?_) | (simp; done) | (simp; omega) | omega))).at_) ?_; rintro e w' ⟨H, rfl, hH, hb, hs⟩; obtain ⟨hc, hf⟩ := bcell hb; have hz := hb.size; simp at hc hf hz; (try have _z00 : w.heap.size < w'.heap.size := by omega); (try have _z01 : w.heap.size < w'.heap.size + 1 := by omega); (try have _z02 : w.heap.size < w'.heap.size + 1 + 1 := by omega); (try have _z03 : w.heap.size < w'.heap.size + 1 + 1 + 1 := by omega); (try have _z10 : w.heap.size + 1 < w'.heap.size := by omega); (try have _z11 : w.heap.size + 1 < w'.heap.size + 1 := by omega); (try have _z12 : w.heap.size + 1 < w'.heap.size + 1 + 1 := by omega); (try have _z13 : w.heap.size + 1 < w'.heap.size + 1 + 1 + 1 := by omega); (try have _z20 : w.heap.size + 1 + 1 < w'.heap.size := by omega); (try have _z21 : w.heap.size + 1 + 1 < w'.heap.size + 1 := by omega); (try have _z22 : w.heap.size + 1 + 1 < w'.heap.size + 1 + 1 := by omega); (try have _z23 : w.heap.size + 1 + 1 < w'.heap.size + 1 + 1 + 1 := by omega)))

    all_goals
      refine ⟨rfl, _, _, _, _, _, _, _, ?_, rfl⟩
    all_goals have hl := hH.lt
    all_goals simp at hs
    all_goals refine ⟨by (repeat' with_reducible first
          | exact Below.refl _ _
          | (refine Below.alloc ?_ (by first | (simp; done) | (simp; omega) | omega) _)
          | (refine Below.drew ?_)
          | (refine below_set ?_ _ _ (by first | (simp; done) | (simp; omega) | omega))
          | (refine Below.trans ?_ (hb.mono (by first | (simp; done) | (simp; omega) | omega)))), by (simp [go_sem, *]; done), by (simp [go_sem, *]; done), by (simp [go_sem, *]; done), by (simp [go_sem, *]; done), by (simp [go_sem, *]; done), by (repeat' with_reducible first
          | exact hH
          | (refine isMap.alloc ?_ _)
          | (refine isMap_drew ?_)
          | (refine isMap.setCell ?_ _ _ (by first | (simp; done) | (simp; omega) | omega))), by (repeat' with_reducible first
          | (refine isMap_new' _ _ (by first | (simp; done) | (simp; omega) | omega))
          | (refine isMap.alloc ?_ _)
          | (refine isMap_drew ?_)
          | (refine isMap.setCell ?_ _ _ (by first | (simp; done) | (simp; omega) | omega))
          | (refine isMap.below ?_ hb (by first | (simp; done) | (simp; omega) | omega))), by omega, by omega, by omega⟩
  case after =>
    rintro e a' w1 ⟨rfl, T3, G, H, P, u5, u6, u9, hpre, rfl⟩
    have hm1 := HM.out.on hpre.bel
    have HM1 := Lib.hid hm1
    have HP := Lib.hid hpre
    have t1 := hpre.t1
    have t3 := hpre.t3
    have c3 := hm1.at_.c3
    have l1 := lt_of_cell t1
    have l3 := lt_of_cell t3
    have lc := lt_of_cell c3
    have lG := lt_of_cell hpre.g0
    have lH := hpre.hm.lt
    have lP := hpre.pm.lt
    clear hm1 hpre
    go_wp2_with fail
    generalize hW2 : World.alloc w1 _ = W2
    have k2 : Keep (· < w1.heap.size) w1 W2 := by rw [← hW2]; exact Keep.alloc _ _ _
    have s2 : W2.heap.size = w1.heap.size + 1 := by rw [← hW2]; simp
    have x3 : W2.cell? ⟨w1.heap.size, 0, none⟩ = some (.func (.func 84) #[] #[.pointer (some ⟨w.heap.size, 0, none⟩), .pointer (some ⟨T3, 0, none⟩), .pointer (some ⟨w1.heap.size, 0, none⟩)]) := by rw [← hW2]; simp [go_sem]
    clear hW2
    have x1 := k2.cell t1 l1
    have x2 := k2.cell t3 l3
    have c3' := k2.cell c3 lc
    have S0 : SpAt b (held0 b) (spU b (held0 b) 0) k G H P (· < W2.heap.size) W2 := by
      have hb2 : Below w1.heap.size w1 W2 := k2.below fun j hj => ⟨hj, hj⟩
      have hm2 := HM1.out.on hb2
      refine ⟨v, hm2.kb, hm2.kn, hm2.kc, hm2.ok, hm2.at_, by omega, by omega, by omega, k2.cell HP.out.g0 lG, k2.cell HP.out.g1 lG, k2.cell HP.out.g2 lG, ?_, ⟨_, HP.out.pm.keep k2 lP, fun n => rfl⟩⟩
      have := HP.out.hm.keep k2 lH
      rw [HM1.out.held] at this
      exact this
    have HS0 := Lib.hid S0
    have hpm2 := HP.out.pm.keep k2 lP
    have hns : numsAt (fun x => x < W2.heap.size ∧ x ≠ P) W2 k.An k.nums := numsAt.ne S0.at_.ns hpm2
    have HNS := Lib.hid hns
    have hT3 : T3 ≠ P := cell_ne_map x2 hpm2
    have hMP : k.M ≠ P := by have h1 : k.M < w.heap.size := HM.out.at_.sM; have := HP.out.hP; omega
    have lc' := lt_of_cell c3'
    have z1 := lt_of_cell x1
    have z2 := lt_of_cell x2
    have z3 := lt_of_cell x3
    clear c3 t1 t3 S0 hns hpm2
    refine wp_region_drew_tail 5 (by kernel_rfl) (by kernel_rfl) ?_
    dsimp only [List.take, List.drop]
    repeat (go_big_quiet_step (fail))
    refine wpQuiet_nil ?_
    rintro w' ⟨nq, rfl⟩
    go_wp2_with fail
    have kd : Keep (fun x => x < W2.heap.size ∧ x ≠ P) W2 (W2.drewN nq) := Keep.of_below (below_drewN' (Below.refl W2.heap.size W2) nq) fun _ h _ => h.1
    refine Calls.mono (f := 84) (c84 b (held0 b) k G H P _ _ _ HP.out.hHP hMP k.nums.length 0 (by omega) k.An k.cn _ (HS0.out.on (below_drewN' (Below.refl _ _) nq)) x1 x2 x3 (HNS.out.keep kd) HM.out.ok.cap) ?_
    rintro e w5 ⟨rfl, hA5, hk5⟩
    have HA5 := Lib.hid hA5
    have HK5 := Lib.hid hk5
    have t3' := (kd.trans hk5).cell x2 ⟨by omega, hT3⟩
    clear hA5 hk5 x1 x2 x3 c3'
    go_wp2_with fail
    go_ret
    refine ⟨G, H, P, rfl, ?_, ?_⟩
    · have := HA5.out
      rw [spU_all b _ (by rw [HM.out.kn]; exact Nat.le_refl _)] at this
      exact this
    · have h1 := HP.out.bel
      have h2 : Keep (fun x => x < W2.heap.size ∧ x ≠ P) W2 w5 := kd.trans HK5.out
      have h3 := HP.out.hP
      have h4 := h1.size
      exact (h1.trans (k2.below fun j hj => ⟨by omega, by omega⟩)).trans (h2.below fun j hj => ⟨⟨by omega, by omega⟩, by omega⟩)
end Go.Proofs.Ytmcnpfjichbijaa

