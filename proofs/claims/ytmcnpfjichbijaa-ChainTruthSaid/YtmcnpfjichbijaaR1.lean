/- The document's own small functions. -/
import Derived.Test.YtmcnpfjichbijaaC1
import Derived.Test.YtmcnpfjichbijaaT1
import Derived.RegionTactic
import Derived.Laws.StructEq

set_option linter.unusedSimpArgs false
set_option linter.unusedVariables false
namespace Go.Proofs.Ytmcnpfjichbijaa
open Go Go.Proofs Go.RowKit Go.Shelf


/-- The same from a world that has grown already. -/
theorem wp_region_over2 {P : Program} {id : Nat} {Q : Exit → Act → World → Prop} {a : Act} {w y : World} {l : List Oper} (hm : P.follows .mixedOrders = true) (hB : Region.lexB .any l.toArray = true)
    (h : wpQuiet P l.toArray (fun w' => ∃ x, w' = over w x) (fun a' => ∀ w', (∃ x, w' = over w x) → Q .normal a' w') l a) : (Code.region id l.toArray true).wp P Q a (over w y) :=
  wp_region_quiet (C := fun w' => ∃ x, w' = over w x) hm hB ⟨{ y with drawn := y.drawn + 1 }, rfl⟩ (by simpa using h)

theorem wp_region_over2_tail {P : Program} {id : Nat} {Q : Exit → Act → World → Prop} {a : Act} {w y : World} {l : List Oper} (n : Nat) (hm : P.follows .mixedOrders = true) (hB : Region.lexTailB .any l.toArray n = true)
    (h : wpQuiet P l.toArray (fun w' => ∃ x, w' = over w x) (fun a' => ∀ w', (∃ x, w' = over w x) → wpList P l.toArray Q (l.drop n) a' w') (l.take n) a) : (Code.region id l.toArray true).wp P Q a (over w y) :=
  wp_region_quiet_tail n hm hB ⟨{ y with drawn := y.drawn + 1 }, rfl⟩ h

theorem c56 (n lo hi : Int) (w : World) :
    Calls Try.prog 56 #[.int .i64 n, .int .i64 lo, .int .i64 hi] w fun e w' => e = .returned (.bool (inB n lo hi)) ∧ w' = w := by
  go_enter Try.func56, Try.ntmps56
  go_wp2
  all_goals (go_ret; exact ⟨by simp [inB, *]; try omega, rfl⟩)

theorem c25 {A : Option Addr} {cn : Nat} {l : List Int} (n : Int) {w : World} {S : Nat → Prop} (h : numsAt S w A l) (hl : l.length ≤ 2000) :
    Calls Try.prog 25 #[.slice A l.length cn, .int .i64 n] w fun e w' => e = .returned (.bool (decide (n ∈ l))) ∧ w' = w := by
  go_enter Try.func25, Try.ntmps25
  go_wp2_with fail
  go_loop [5] (fun t => ∃ i : Nat, i ≤ l.length ∧ t = .int .i64 i ∧ n ∉ l.take i) (fun t => l.length - (intOf t).toNat)
  case atStart => exact ⟨0, Nat.zero_le _, rfl, by simp⟩
  case round =>
    obtain ⟨i, hi, rfl, hn⟩ := hrel
    have HN := Lib.hid hn
    clear hn
    by_cases hlt : i < l.length
    · have htk := List.take_succ_eq_append_getElem hlt
      obtain ⟨q, hq⟩ : ∃ q, q = l[i] := ⟨_, rfl⟩
      rw [← hq] at htk
      have hmem : q ∈ l := by rw [hq]; exact List.getElem_mem hlt
      obtain ⟨An, Ao, eA, hSA, hns⟩ := h (by omega)
      have hcell := hns i q (by simp [hlt, hq])
      have hix := fun c => @idx26 A An Ao l.length c eA i hlt
      have HT := Lib.hid htk
      have HM := Lib.hid hmem
      clear eA hns hq htk hmem
      cases hqn : (q == n)
      · go_wp2
        go_round
        case rel => exact ⟨i + 1, by omega, by go_num, by rw [HT.out]; have := HN.out; simp at hqn; simp [this, Ne.symm hqn]⟩
        case measure => simp [intOf]; omega
      · go_wp2
        go_ret
        simp at hqn
        subst hqn
        exact ⟨by simp [HM.out], rfl⟩
    · go_wp2
      go_ret
      have := HN.out
      rw [List.take_of_length_le (by omega)] at this
      exact ⟨by simp [this], rfl⟩

set_option maxRecDepth 100000 in
set_option maxHeartbeats 1000000 in
theorem c63 (n i b d v l h day : Int) (w : World) (h1 : 0 ≤ d) (h2 : d ≤ 1000) (h3 : 0 ≤ v) (h4 : v ≤ 1000) :
    Calls Try.prog 63 #[.agg #[.int .i64 n, .int .i64 i, .int .i64 b, .int .i64 d, .int .i64 v, .int .i64 l, .int .i64 h], .int .i64 day] w
      fun e w' => e = .returned (.bool (inB day d (d + v))) ∧ ∃ x, w' = over w x := by
  go_enter Try.func63, Try.ntmps63
  go_wp2_with fail
  refine (c56 _ _ _ _).mono ?_
  rintro e w' ⟨rfl, rfl⟩
  go_wp2_with fail
  go_ret
  exact ⟨rfl, below_over (by repeat' (first | exact Below.refl _ _ | (refine below_ov ?_ ?_) | (refine Below.alloc ?_ ?_ _) | (refine below_drewN' ?_ _) | (refine Below.drew ?_) | (refine below_set ?_ _ _ ?_) | (simp; done) | (simp; omega) | omega))⟩

theorem rests_eq (n i b d v l h n2 i2 b2 d2 v2 l2 h2 : Int) : restsB ⟨n, i, b, d, v, ⟨l, h⟩⟩ ⟨n2, i2, b2, d2, v2, ⟨l2, h2⟩⟩ = (i2 == b && decide (n2 < n) && inB d d2 (d2 + v2)) := rfl

set_option maxRecDepth 100000 in
set_option maxHeartbeats 1000000 in
theorem c76 (c o : Crt) (w : World) (h1 : 0 ≤ o.day) (h2 : o.day ≤ 1000) (h3 : 0 ≤ o.valid) (h4 : o.valid ≤ 1000) :
    Calls Try.prog 76 #[crtV c, crtV o] w fun e w' => e = .returned (.bool (restsB c o)) ∧ ∃ x, w' = over w x := by
  obtain ⟨n, i, b, d, v, ⟨l, h⟩⟩ := c
  obtain ⟨n2, i2, b2, d2, v2, ⟨l2, g2⟩⟩ := o
  rw [rests_eq]
  simp only [crtV]
  dsimp only at h1 h2 h3 h4
  cases e1 : (i2 == b)
  · go_enter Try.func76, Try.ntmps76
    go_wp2_with fail
    go_ret
    exact ⟨by simp, below_over (by repeat' (first | exact Below.refl _ _ | (refine below_ov ?_ ?_) | (refine Below.alloc ?_ ?_ _) | (refine below_drewN' ?_ _) | (refine Below.drew ?_) | (refine below_set ?_ _ _ ?_) | (simp; done) | (simp; omega) | omega))⟩
  · cases e2 : decide (n2 < n)
    · go_enter Try.func76, Try.ntmps76
      go_wp2_with fail
      go_ret
      exact ⟨by simp, below_over (by repeat' (first | exact Below.refl _ _ | (refine below_ov ?_ ?_) | (refine Below.alloc ?_ ?_ _) | (refine below_drewN' ?_ _) | (refine Below.drew ?_) | (refine below_set ?_ _ _ ?_) | (simp; done) | (simp; omega) | omega))⟩
    · go_enter Try.func76, Try.ntmps76
      go_wp2_with (go_at_call 63; refine (c63 _ _ _ _ _ _ _ _ _ (by omega) (by omega) (by omega) (by omega)).mono ?_; rintro e w' ⟨rfl, x, rfl⟩)
      go_ret
      exact ⟨by simp, below_over (by repeat' (first | exact Below.refl _ _ | (refine below_ov ?_ ?_) | (refine Below.alloc ?_ ?_ _) | (refine below_drewN' ?_ _) | (refine Below.drew ?_) | (refine below_set ?_ _ _ ?_) | (simp; done) | (simp; omega) | omega))⟩
end Go.Proofs.Ytmcnpfjichbijaa


/- The document's own: does a certificate hold? -/
set_option linter.unusedSimpArgs false
set_option linter.unusedVariables false
namespace Go.Proofs.Ytmcnpfjichbijaa
open Go Go.Proofs Go.RowKit Go.Shelf


theorem c76f (n i b d v l h n2 i2 b2 d2 v2 l2 h2 : Int) (w : World) (k1 : 0 ≤ d2) (k2 : d2 ≤ 1000) (k3 : 0 ≤ v2) (k4 : v2 ≤ 1000) :
    Calls Try.prog 76 #[.agg #[.int .i64 n, .int .i64 i, .int .i64 b, .int .i64 d, .int .i64 v, .int .i64 l, .int .i64 h], .agg #[.int .i64 n2, .int .i64 i2, .int .i64 b2, .int .i64 d2, .int .i64 v2, .int .i64 l2, .int .i64 h2]] w
      fun e w' => e = .returned (.bool (restsB ⟨n, i, b, d, v, ⟨l, h⟩⟩ ⟨n2, i2, b2, d2, v2, ⟨l2, h2⟩⟩)) ∧ ∃ x, w' = over w x :=
  c76 ⟨n, i, b, d, v, ⟨l, h⟩⟩ ⟨n2, i2, b2, d2, v2, ⟨l2, h2⟩⟩ w k1 k2 k3 k4

/-- A list of numbers lies in a slice, anywhere. -/
theorem c25o {S : Nat → Prop} {A : Option Addr} {cn : Nat} {l : List Int} (n : Int) {w y : World} (h : numsAt S w A l) (hS : ∀ k, S k → k < w.heap.size) (hl : l.length ≤ 2000) :
    Calls Try.prog 25 #[.slice A l.length cn, .int .i64 n] (over w y) fun e w' => e = .returned (.bool (decide (n ∈ l))) ∧ w' = over w y :=
  c25 n (h.keep (Keep.over _ _ _)) hl

/-- What the certificates up to i tell. -/
def hUp (b : Bk) (c : Crt) (held : List Int) (i : Nat) : Bool := stdOf b c.by_ || (b.certs.take i).any fun o => restsB c o && decide (o.num ∈ held)

theorem hUp_succ (b : Bk) (c : Crt) (held : List Int) (i : Nat) (h : i < b.certs.length) : hUp b c held (i + 1) = (hUp b c held i || (restsB c b.certs[i] && decide (b.certs[i].num ∈ held))) := by
  unfold hUp
  rw [List.take_succ_eq_append_getElem h, List.any_append]
  simp [Bool.or_assoc]

set_option maxRecDepth 100000 in
set_option maxHeartbeats 1000000 in
theorem c57 (Ai Ac Ab Ah : Option Addr) (ci cc cb ch : Nat) (b : Bk) (n i by_ d v l h : Int) (bad held : List Int) (w : World) (hI : itemsAt (· < w.heap.size) w Ai b.items) (hC : certsAt (· < w.heap.size) w Ac b.certs)
    (hB : numsAt (· < w.heap.size) w Ab bad) (hH : numsAt (· < w.heap.size) w Ah held) (hl1 : bad.length ≤ 2000) (hl2 : held.length ≤ 2000) (hl3 : b.certs.length ≤ 1000) (hl4 : b.items.length ≤ 1000)
    (hb0 : 0 ≤ by_) (hb1 : by_ < b.items.length) (hv : ∀ c ∈ b.certs, 0 ≤ c.day ∧ c.day ≤ 1000 ∧ 0 ≤ c.valid ∧ c.valid ≤ 1000) :
    Calls Try.prog 57 #[.agg #[.slice Ai b.items.length ci, .slice Ac b.certs.length cc], .agg #[.int .i64 n, .int .i64 i, .int .i64 by_, .int .i64 d, .int .i64 v, .int .i64 l, .int .i64 h], .slice Ab bad.length cb, .slice Ah held.length ch] w
      fun e w' => e = .returned (.bool (refHolds b ⟨n, i, by_, d, v, ⟨l, h⟩⟩ bad held)) ∧ ∃ x, w' = over w x := by
  obtain ⟨m, hm⟩ := Int.eq_ofNat_of_zero_le hb0
  subst hm
  have hml : m < b.items.length := by omega
  obtain ⟨Bi, Bo, eI, hSI, hits⟩ := hI (by omega)
  have hstdc := (hits m b.items[m] (by simp [hml])).2.1
  have hix := fun c => @idx22 Ai Bi Bo b.items.length c eI m hml
  have hstd : stdOf b (m : Int) = b.items[m].std := by unfold stdOf; simp [hml]
  have hup0 : hUp b ⟨n, i, m, d, v, ⟨l, h⟩⟩ held 0 = b.items[m].std := by unfold hUp; rw [hstd]; simp
  have HU0 := Lib.hid hup0
  generalize b.items[m].std = sv at hstdc HU0
  clear hup0 hstd hits eI
  have hres : refHolds b ⟨n, i, m, d, v, ⟨l, h⟩⟩ bad held = (hUp b ⟨n, i, m, d, v, ⟨l, h⟩⟩ held b.certs.length && !decide (n ∈ bad)) := by
    unfold refHolds hUp; rw [List.take_length]
  have HR := Lib.hid hres
  have HV := Lib.hid hv
  clear hres hv
  have k0 : Keep (· < w.heap.size) w ((w.alloc (.cells #[.slice Ai b.items.length ci, .slice Ac b.certs.length cc] 25)).alloc (.cells #[.int .i64 n, .int .i64 i, .int .i64 m, .int .i64 d, .int .i64 v, .int .i64 l, .int .i64 h] 58)) := (Keep.alloc _ _ _).trans (Keep.alloc _ _ _)
  have hC1 := Lib.hid (hC.keep k0)
  have hB1 := Lib.hid (hB.keep k0)
  have hH1 := Lib.hid (hH.keep k0)
  have lbi := lt_of_cell hstdc
  go_enter Try.func57, Try.ntmps57
  go_wp2_with fail
  clear k0 hC hB hH
  generalize hw1 : World.alloc (World.alloc w _) _ = w1 at hC1 hB1 hH1 ⊢
  have hs1 : w1.heap.size = w.heap.size + 2 := by rw [← hw1]; simp
  have a0 : w1.cell? ⟨w.heap.size, 1, none⟩ = some (.slice Ac b.certs.length cc) := by rw [← hw1]; simp [go_sem]
  have b0 : w1.cell? ⟨w.heap.size + 1, 0, none⟩ = some (.int .i64 n) := by rw [← hw1]; simp [go_sem]
  have b1 : w1.cell? ⟨w.heap.size + 1, 1, none⟩ = some (.int .i64 i) := by rw [← hw1]; simp [go_sem]
  have b2 : w1.cell? ⟨w.heap.size + 1, 2, none⟩ = some (.int .i64 m) := by rw [← hw1]; simp [go_sem]
  have b3 : w1.cell? ⟨w.heap.size + 1, 3, none⟩ = some (.int .i64 d) := by rw [← hw1]; simp [go_sem]
  have b4 : w1.cell? ⟨w.heap.size + 1, 4, none⟩ = some (.int .i64 v) := by rw [← hw1]; simp [go_sem]
  have b5 : w1.cell? ⟨w.heap.size + 1, 5, none⟩ = some (.int .i64 l) := by rw [← hw1]; simp [go_sem]
  have b6 : w1.cell? ⟨w.heap.size + 1, 6, none⟩ = some (.int .i64 h) := by rw [← hw1]; simp [go_sem]
  have hbel : Below w.heap.size w w1 := by rw [← hw1]; repeat' (first | exact Below.refl _ _ | (refine below_ov ?_ ?_) | (refine Below.alloc ?_ ?_ _) | (refine below_drewN' ?_ _) | (refine Below.drew ?_) | (refine below_set ?_ _ _ ?_) | (simp; done) | (simp; omega) | omega)
  have HBEL := Lib.hid hbel
  clear hw1 hbel hstdc hix
  have la : w.heap.size < w1.heap.size := by omega
  have lb : w.heap.size + 1 < w1.heap.size := by omega
  clear hs1
  go_loopw [9, 10] (fun u t wr => ∃ (j : Nat) (y : World), j ≤ b.certs.length ∧ t = .int .i64 j ∧ u = .bool (hUp b ⟨n, i, m, d, v, ⟨l, h⟩⟩ held j) ∧ wr = over w1 y) (fun _ t _ => b.certs.length - (intOf t).toNat)
  case atStart =>
    obtain ⟨y, hy⟩ := over_refl w1
    exact ⟨0, y, Nat.zero_le _, rfl, by rw [HU0.out], hy⟩
  case round =>
    obtain ⟨j, y, hj, rfl, rfl, rfl⟩ := hrel
    by_cases hlt : j < b.certs.length
    · have hsucc := hUp_succ b ⟨n, i, m, d, v, ⟨l, h⟩⟩ held j hlt
      obtain ⟨q, hq⟩ : ∃ q, q = b.certs[j] := ⟨_, rfl⟩
      rw [← hq] at hsucc
      have hmem : q ∈ b.certs := by rw [hq]; exact List.getElem_mem hlt
      obtain ⟨d0, d1, v0, v1⟩ := HV.out q hmem
      obtain ⟨Bc, Co, eC, hSC, hcs⟩ := hC1.out (by omega)
      obtain ⟨q0, q1, q2, q3, q4, q5, q6⟩ := hcs j q (by simp [hlt, hq])
      have hix := fun c => @idx23 Ac Bc Co b.certs.length c eC j hlt
      have HS := Lib.hid hsucc
      have lc := lt_of_cell q0
      clear hsucc hq hmem hcs eC
      generalize hu : hUp b ⟨n, i, m, d, v, ⟨l, h⟩⟩ held j = u at HS
      have HU := Lib.hid hu
      clear hu
      have k1 : ∀ z, (Instr.indexAt 23 (.slice Ac b.certs.length cc) (.int .i64 j)).run Try.prog z = .ok (.pointer (some ⟨Bc, Co + j * 7, none⟩)) z := fun z => hix cc z
      cases u
      · generalize hr : restsB ⟨n, i, m, d, v, ⟨l, h⟩⟩ q = r at HS
        have hc76 : ∀ z, Calls Try.prog 76 #[.agg #[.int .i64 n, .int .i64 i, .int .i64 m, .int .i64 d, .int .i64 v, .int .i64 l, .int .i64 h], .agg #[.int .i64 q.num, .int .i64 q.item, .int .i64 q.by_, .int .i64 q.day, .int .i64 q.valid, .int .i64 q.diff.lo, .int .i64 q.diff.hi]] z
          fun e w' => e = .returned (.bool r) ∧ ∃ x, w' = over z x := fun z => by rw [← hr]; exact c76f n i m d v l h q.num q.item q.by_ q.day q.valid q.diff.lo q.diff.hi z d0 d1 v0 v1
        have HC76 := Lib.hid hc76
        clear hc76 hr
        cases r
        · go_wp2_with fail
          refine wp_region_over2 (by kernel_rfl) (by kernel_rfl) ?_
          repeat (go_big_quiet_step (exact calls_over_of (HC76.out _)))
          refine wpQuiet_nil ?_
          rintro w' ⟨z, rfl⟩
          go_wp2_with fail
          go_roundw
          case rel => exact ⟨j + 1, z, by omega, by go_num, by rw [HS.out]; rfl, rfl⟩
          case measure => simp [intOf]; omega
        · have hc25 : ∀ z, Calls Try.prog 25 #[.slice Ah held.length ch, .int .i64 q.num] (over w1 z) fun e w' => e = .returned (.bool (decide (q.num ∈ held))) ∧ w' = over w1 z := fun z => c25o q.num hH1.out (fun k h => by omega) hl2
          generalize decide (q.num ∈ held) = p at hc25 HS
          have HC25 := Lib.hid hc25
          clear hc25
          go_wp2_with fail
          refine wp_region_over2 (by kernel_rfl) (by kernel_rfl) ?_
          repeat (go_big_quiet_step (first | exact calls_over_of (HC76.out _) | exact calls_over_same (HC25.out _)))
          refine wpQuiet_nil ?_
          rintro w' ⟨z, rfl⟩
          go_wp2_with fail
          go_roundw
          case rel => exact ⟨j + 1, z, by omega, by go_num, by rw [HS.out]; simp, rfl⟩
          case measure => simp [intOf]; omega
      · go_wp2_with fail
        refine wp_region_over2 (by kernel_rfl) (by kernel_rfl) ?_
        repeat (go_big_quiet_step (fail))
        refine wpQuiet_nil ?_
        rintro w' ⟨z, rfl⟩
        go_wp2_with fail
        go_roundw
        case rel => exact ⟨j + 1, z, by omega, by go_num, by rw [HS.out]; simp, rfl⟩
        case measure => simp [intOf]; omega
    · have hje : j = b.certs.length := by omega
      have hres := HR.out
      rw [← hje] at hres
      have HR2 := Lib.hid hres
      clear hres
      have HJ := Lib.hid hje
      clear hje
      generalize hUp b ⟨n, i, m, d, v, ⟨l, h⟩⟩ held j = u at HR2
      have hc25 := c25o (y := y) (cn := cb) n hB1.out (fun k h => by omega) hl1
      have HC25 := Lib.hid hc25
      clear hc25
      cases u
      · go_wp2_with fail
        go_ret
        exact ⟨by rw [HR2.out]; rfl, below_over (below_ov HBEL.out (by omega))⟩
      · go_wp2_with (go_at_call 25; refine HC25.out.mono ?_; rintro e w' ⟨rfl, rfl⟩)
        go_ret
        exact ⟨by rw [HR2.out]; simp, below_over (below_ov HBEL.out (by omega))⟩
end Go.Proofs.Ytmcnpfjichbijaa


/- Two certificates are compared. -/
set_option linter.unusedSimpArgs false
set_option linter.unusedVariables false
namespace Go.Proofs.Ytmcnpfjichbijaa
open Go Go.Proofs Go.RowKit
theorem held90 : Try.prog.stoodInHeld 90 = false := by kernel_rfl
theorem held45 : Try.prog.stoodInHeld 45 = false := by kernel_rfl

theorem crt_ext_iff (x y : Crt) : x = y ↔ x.num = y.num ∧ x.item = y.item ∧ x.by_ = y.by_ ∧ x.day = y.day ∧ x.valid = y.valid ∧ x.diff.lo = y.diff.lo ∧ x.diff.hi = y.diff.hi := by
  obtain ⟨a, b, c, d, e, ⟨f, g⟩⟩ := x
  obtain ⟨a', b', c', d', e', ⟨f', g'⟩⟩ := y
  simp

theorem run_eq90 (x y : Crt) (w : World) : (Op.equalIn 10000 90 (crtV x) (crtV y)).run Try.prog w = .ok (x == y) w := by
  unfold crtV
  rw [run_equalIn_agg _ 9999 90 _ _ (by kernel_rfl) held90]
  simp [go_sem]
  have hb : ∀ b, b = (x == y) → (Result.ok b w : Result Bool) = Result.ok (x == y) w := fun b h => by rw [h]
  have hne : ∀ h : ¬ x = y, false = (x == y) := fun h => by simp [h]
  repeat' split
  · rename_i h1 h2 h3 h4 h5 h6 h7
    refine hb _ ?_
    have := (crt_ext_iff x y).2 ⟨h1, h2, h3, h4, h5, h6, h7⟩
    simp [this]
  all_goals
    refine hb _ (hne fun h => ?_)
    have := (crt_ext_iff x y).1 h
    omega

theorem run_ne90 (x y : Crt) (w : World) : (binOp .neq 90 (crtV x) (crtV y)).run Try.prog w = .ok (.bool (x != y)) w := by
  have := run_eq90 x y w
  unfold crtV at *
  rw [run_neq_struct, this]
  rfl

theorem run_field90_3 (c : Crt) (w : World) : (Instr.field 90 (crtV c) 3).run Try.prog w = .ok (.int .i64 c.day) w := by
  unfold crtV
  simp [go_sem, Instr.field, asAgg]
end Go.Proofs.Ytmcnpfjichbijaa

/- The document's own: the error of a book. -/
set_option linter.unusedSimpArgs false
set_option linter.unusedVariables false
namespace Go.Proofs.Ytmcnpfjichbijaa
open Go Go.Proofs Go.RowKit Go.Shelf


set_option maxRecDepth 100000 in
set_option maxHeartbeats 1000000 in
theorem c74 (lo hi : Int) (w : World) : Calls Try.prog 74 #[.agg #[.int .i64 lo, .int .i64 hi]] w fun e w' => e = .returned (.bool (spanOk ⟨lo, hi⟩)) ∧ ∃ x, w' = over w x := by
  have H : Hid (spanOk ⟨lo, hi⟩ = (inB lo (-100000) hi && decide (hi ≤ 100000))) := by
    show spanOk ⟨lo, hi⟩ = _
    rw [Bool.eq_iff_iff]; simp [spanOk, inB]; omega
  cases h1 : inB lo (-100000) hi
  · rw [h1] at H
    go_enter Try.func74, Try.ntmps74
    go_wp2_with (go_at_call 56; refine (c56 _ _ _ _).mono ?_; rintro e w' ⟨rfl, rfl⟩)
    go_ret
    exact ⟨by rw [H.out]; simp, below_over (by repeat' (first | exact Below.refl _ _ | (refine below_ov ?_ ?_) | (refine Below.alloc ?_ ?_ _) | (refine below_drewN' ?_ _) | (refine Below.drew ?_) | (refine below_set ?_ _ _ ?_) | (simp; done) | (simp; omega) | omega))⟩
  · rw [h1] at H
    go_enter Try.func74, Try.ntmps74
    go_wp2_with (go_at_call 56; refine (c56 _ _ _ _).mono ?_; rintro e w' ⟨rfl, rfl⟩)
    all_goals
      go_ret
      exact ⟨by rw [H.out]; simp [*], below_over (by repeat' (first | exact Below.refl _ _ | (refine below_ov ?_ ?_) | (refine Below.alloc ?_ ?_ _) | (refine below_drewN' ?_ _) | (refine Below.drew ?_) | (refine below_set ?_ _ _ ?_) | (simp; done) | (simp; omega) | omega))⟩

theorem held58 : Try.prog.stoodInHeld 58 = false := by kernel_rfl
theorem held49 : Try.prog.stoodInHeld 49 = false := by kernel_rfl

theorem run_eq58 (x y : Crt) (w : World) : (Op.equalIn 10000 58 (crtV x) (crtV y)).run Try.prog w = .ok (x == y) w := by
  unfold crtV
  rw [run_equalIn_agg _ 9999 58 _ _ (by kernel_rfl) held58]
  simp [go_sem]
  have hb : ∀ b, b = (x == y) → (Result.ok b w : Result Bool) = Result.ok (x == y) w := fun b h => by rw [h]
  have hne : ∀ h : ¬ x = y, false = (x == y) := fun h => by simp [h]
  repeat' split
  · rename_i h1 h2 h3 h4 h5 h6 h7
    refine hb _ ?_
    have := (crt_ext_iff x y).2 ⟨h1, h2, h3, h4, h5, h6, h7⟩
    simp [this]
  all_goals
    refine hb _ (hne fun h => ?_)
    have := (crt_ext_iff x y).1 h
    omega

theorem run_ne58 (x y : Crt) (w : World) : (binOp .neq 58 (crtV x) (crtV y)).run Try.prog w = .ok (.bool (x != y)) w := by
  have := run_eq58 x y w
  unfold crtV at *
  rw [run_neq_struct, this]
  rfl

theorem fault_three {b : Bk} (h : 8 < b.items.length ∨ 24 < b.certs.length) : fault b = 3 := by unfold fault; rw [if_pos h]
theorem fault_one {b : Bk} (h : ¬ (8 < b.items.length ∨ 24 < b.certs.length)) (h2 : (∃ x ∈ b.items, itmOk x = false) ∨ ∃ c ∈ b.certs, crtOk b c = false) : fault b = 1 := by
  unfold fault
  rw [if_neg h, if_pos]
  rw [Bool.and_eq_false_iff]
  rcases h2 with ⟨x, hx, h2⟩ | ⟨x, hx, h2⟩
  · exact .inl (by rw [List.all_eq_false]; exact ⟨x, hx, by simp [h2]⟩)
  · exact .inr (by rw [List.all_eq_false]; exact ⟨x, hx, by simp [h2]⟩)
theorem fault_clash {b : Bk} (h : ¬ (8 < b.items.length ∨ 24 < b.certs.length)) (h1 : ∀ x ∈ b.items, itmOk x = true) (h2 : ∀ c ∈ b.certs, crtOk b c = true) (h3 : ∃ x ∈ b.certs, ∃ y ∈ b.certs, clash x y = true) : fault b = 6 := by
  obtain ⟨x, hx, y, hy, hc⟩ := h3
  unfold fault
  rw [if_neg h, if_neg (by rw [Bool.and_eq_false_iff, List.all_eq_true.2 h1, List.all_eq_true.2 h2]; simp), if_pos]
  exact List.any_eq_true.2 ⟨x, hx, List.any_eq_true.2 ⟨y, hy, hc⟩⟩
theorem fault_none {b : Bk} (h : ¬ (8 < b.items.length ∨ 24 < b.certs.length)) (h1 : ∀ x ∈ b.items, itmOk x = true) (h2 : ∀ c ∈ b.certs, crtOk b c = true) (h3 : ∀ x ∈ b.certs, ∀ y ∈ b.certs, clash x y = false) : fault b = 0 := by
  unfold fault
  rw [if_neg h, if_neg (by rw [Bool.and_eq_false_iff, List.all_eq_true.2 h1, List.all_eq_true.2 h2]; simp), if_neg]
  intro hc
  obtain ⟨x, hx, hc⟩ := List.any_eq_true.1 hc
  obtain ⟨y, hy, hc⟩ := List.any_eq_true.1 hc
  rw [h3 x hx y hy] at hc; cases hc

theorem itmOk_eq (x : Itm) : itmOk x = (inB x.drift 0 100 && spanOk x.val && (x.std || (x.val.lo == 0 && x.val.hi == 0))) := rfl
end Go.Proofs.Ytmcnpfjichbijaa

