/- The document's own: does a certificate hold? -/
import Derived.Test.YtmcnpfjichbijaaR1
set_option linter.unusedSimpArgs false
set_option linter.unusedVariables false
namespace Go.Proofs.Ytmcnpfjichbijaa
open Go Go.Proofs Go.RowKit Go.Shelf


theorem c76f (n i b d v l h n2 i2 b2 d2 v2 l2 h2 : Int) (w : World) (k1 : 0 ≤ d2) (k2 : d2 ≤ 1000) (k3 : 0 ≤ v2) (k4 : v2 ≤ 1000) :
    Calls Try.prog 76 #[.agg #[.int .i64 n, .int .i64 i, .int .i64 b, .int .i64 d, .int .i64 v, .int .i64 l, .int .i64 h], .agg #[.int .i64 n2, .int .i64 i2, .int .i64 b2, .int .i64 d2, .int .i64 v2, .int .i64 l2, .int .i64 h2]] w
      fun e w' => e = .returned (.bool (restsB ⟨n, i, b, d, v, ⟨l, h⟩⟩ ⟨n2, i2, b2, d2, v2, ⟨l2, h2⟩⟩)) ∧ ∃ x, w' = over w x :=
  c76 ⟨n, i, b, d, v, ⟨l, h⟩⟩ ⟨n2, i2, b2, d2, v2, ⟨l2, h2⟩⟩ w k1 k2 k3 k4

/-- A list of numbers lies in a slice, anywhere. -/
theorem c25o {S : Nat → Prop} {A : Option Addr} {cn : Nat} {l : List Int} (n : Int) {w y : World} (h : numsAt S w A l) (hS : ∀ k, S k → k < w.heap.size) (hl : l.length ≤ 2000) :
    Calls Try.prog 25 #[.slice A l.length cn, .int .i64 n] (over w y) fun e w' => e = .returned (.bool (decide (n ∈ l))) ∧ w' = over w y :=
  c25 n (h.keep (Keep.over _ _ _)) hl

/-- What the certificates up to i tell. -/
def hUp (b : Bk) (c : Crt) (held : List Int) (i : Nat) : Bool := stdOf b c.by_ || (b.certs.take i).any fun o => restsB c o && decide (o.num ∈ held)

theorem hUp_succ (b : Bk) (c : Crt) (held : List Int) (i : Nat) (h : i < b.certs.length) : hUp b c held (i + 1) = (hUp b c held i || (restsB c b.certs[i] && decide (b.certs[i].num ∈ held))) := by
  unfold hUp
  rw [List.take_succ_eq_append_getElem h, List.any_append]
  simp [Bool.or_assoc]

set_option maxRecDepth 100000 in
set_option maxHeartbeats 1000000 in
theorem c57 (Ai Ac Ab Ah : Option Addr) (ci cc cb ch : Nat) (b : Bk) (n i by_ d v l h : Int) (bad held : List Int) (w : World) (hI : itemsAt (· < w.heap.size) w Ai b.items) (hC : certsAt (· < w.heap.size) w Ac b.certs)
    (hB : numsAt (· < w.heap.size) w Ab bad) (hH : numsAt (· < w.heap.size) w Ah held) (hl1 : bad.length ≤ 2000) (hl2 : held.length ≤ 2000) (hl3 : b.certs.length ≤ 1000) (hl4 : b.items.length ≤ 1000)
    (hb0 : 0 ≤ by_) (hb1 : by_ < b.items.length) (hv : ∀ c ∈ b.certs, 0 ≤ c.day ∧ c.day ≤ 1000 ∧ 0 ≤ c.valid ∧ c.valid ≤ 1000) :
    Calls Try.prog 57 #[.agg #[.slice Ai b.items.length ci, .slice Ac b.certs.length cc], .agg #[.int .i64 n, .int .i64 i, .int .i64 by_, .int .i64 d, .int .i64 v, .int .i64 l, .int .i64 h], .slice Ab bad.length cb, .slice Ah held.length ch] w
      fun e w' => e = .returned (.bool (refHolds b ⟨n, i, by_, d, v, ⟨l, h⟩⟩ bad held)) ∧ ∃ x, w' = over w x := by
  obtain ⟨m, hm⟩ := Int.eq_ofNat_of_zero_le hb0
  subst hm
  have hml : m < b.items.length := by omega
  obtain ⟨Bi, Bo, eI, hSI, hits⟩ := hI (by omega)
  have hstdc := (hits m b.items[m] (by simp [hml])).2.1
  have hix := fun c => @idx22 Ai Bi Bo b.items.length c eI m hml
  have hstd : stdOf b (m : Int) = b.items[m].std := by unfold stdOf; simp [hml]
  have hup0 : hUp b ⟨n, i, m, d, v, ⟨l, h⟩⟩ held 0 = b.items[m].std := by unfold hUp; rw [hstd]; simp
  have HU0 := Lib.hid hup0
  generalize b.items[m].std = sv at hstdc HU0
  clear hup0 hstd hits eI
  have hres : refHolds b ⟨n, i, m, d, v, ⟨l, h⟩⟩ bad held = (hUp b ⟨n, i, m, d, v, ⟨l, h⟩⟩ held b.certs.length && !decide (n ∈ bad)) := by
    unfold refHolds hUp; rw [List.take_length]
  have HR := Lib.hid hres
  have HV := Lib.hid hv
  clear hres hv
  have k0 : Keep (· < w.heap.size) w ((w.alloc (.cells #[.slice Ai b.items.length ci, .slice Ac b.certs.length cc] 25)).alloc (.cells #[.int .i64 n, .int .i64 i, .int .i64 m, .int .i64 d, .int .i64 v, .int .i64 l, .int .i64 h] 58)) := (Keep.alloc _ _ _).trans (Keep.alloc _ _ _)
  have hC1 := Lib.hid (hC.keep k0)
  have hB1 := Lib.hid (hB.keep k0)
  have hH1 := Lib.hid (hH.keep k0)
  have lbi := lt_of_cell hstdc
  go_enter Try.func57, Try.ntmps57
  go_wp2_with fail
  clear k0 hC hB hH
  generalize hw1 : World.alloc (World.alloc w _) _ = w1 at hC1 hB1 hH1 ⊢
  have hs1 : w1.heap.size = w.heap.size + 2 := by rw [← hw1]; simp
  have a0 : w1.cell? ⟨w.heap.size, 1, none⟩ = some (.slice Ac b.certs.length cc) := by rw [← hw1]; simp [go_sem]
  have b0 : w1.cell? ⟨w.heap.size + 1, 0, none⟩ = some (.int .i64 n) := by rw [← hw1]; simp [go_sem]
  have b1 : w1.cell? ⟨w.heap.size + 1, 1, none⟩ = some (.int .i64 i) := by rw [← hw1]; simp [go_sem]
  have b2 : w1.cell? ⟨w.heap.size + 1, 2, none⟩ = some (.int .i64 m) := by rw [← hw1]; simp [go_sem]
  have b3 : w1.cell? ⟨w.heap.size + 1, 3, none⟩ = some (.int .i64 d) := by rw [← hw1]; simp [go_sem]
  have b4 : w1.cell? ⟨w.heap.size + 1, 4, none⟩ = some (.int .i64 v) := by rw [← hw1]; simp [go_sem]
  have b5 : w1.cell? ⟨w.heap.size + 1, 5, none⟩ = some (.int .i64 l) := by rw [← hw1]; simp [go_sem]
  have b6 : w1.cell? ⟨w.heap.size + 1, 6, none⟩ = some (.int .i64 h) := by rw [← hw1]; simp [go_sem]
  have hbel : Below w.heap.size w w1 := by rw [← hw1]; repeat' (first | exact Below.refl _ _ | (refine below_ov ?_ ?_) | (refine Below.alloc ?_ ?_ _) | (refine below_drewN' ?_ _) | (refine Below.drew ?_) | (refine below_set ?_ _ _ ?_) | (simp; done) | (simp; omega) | omega)
  have HBEL := Lib.hid hbel
  clear hw1 hbel hstdc hix
  have la : w.heap.size < w1.heap.size := by omega
  have lb : w.heap.size + 1 < w1.heap.size := by omega
  clear hs1
  go_loopw [9, 10] (fun u t wr => ∃ (j : Nat) (y : World), j ≤ b.certs.length ∧ t = .int .i64 j ∧ u = .bool (hUp b ⟨n, i, m, d, v, ⟨l, h⟩⟩ held j) ∧ wr = over w1 y) (fun _ t _ => b.certs.length - (intOf t).toNat)
  case atStart =>
    obtain ⟨y, hy⟩ := over_refl w1
    exact ⟨0, y, Nat.zero_le _, rfl, by rw [HU0.out], hy⟩
  case round =>
    obtain ⟨j, y, hj, rfl, rfl, rfl⟩ := hrel
    by_cases hlt : j < b.certs.length
    · have hsucc := hUp_succ b ⟨n, i, m, d, v, ⟨l, h⟩⟩ held j hlt
      obtain ⟨q, hq⟩ : ∃ q, q = b.certs[j] := ⟨_, rfl⟩
      rw [← hq] at hsucc
      have hmem : q ∈ b.certs := by rw [hq]; exact List.getElem_mem hlt
      obtain ⟨d0, d1, v0, v1⟩ := HV.out q hmem
      obtain ⟨Bc, Co, eC, hSC, hcs⟩ := hC1.out (by omega)
      obtain ⟨q0, q1, q2, q3, q4, q5, q6⟩ := hcs j q (by simp [hlt, hq])
      have hix := fun c => @idx23 Ac Bc Co b.certs.length c eC j hlt
      have HS := Lib.hid hsucc
      have lc := lt_of_cell q0
      clear hsucc hq hmem hcs eC
      generalize hu : hUp b ⟨n, i, m, d, v, ⟨l, h⟩⟩ held j = u at HS
      have HU := Lib.hid hu
      clear hu
      have k1 : ∀ z, (Instr.indexAt 23 (.slice Ac b.certs.length cc) (.int .i64 j)).run Try.prog z = .ok (.pointer (some ⟨Bc, Co + j * 7, none⟩)) z := fun z => hix cc z
      cases u
      · generalize hr : restsB ⟨n, i, m, d, v, ⟨l, h⟩⟩ q = r at HS
        have hc76 : ∀ z, Calls Try.prog 76 #[.agg #[.int .i64 n, .int .i64 i, .int .i64 m, .int .i64 d, .int .i64 v, .int .i64 l, .int .i64 h], .agg #[.int .i64 q.num, .int .i64 q.item, .int .i64 q.by_, .int .i64 q.day, .int .i64 q.valid, .int .i64 q.diff.lo, .int .i64 q.diff.hi]] z
          fun e w' => e = .returned (.bool r) ∧ ∃ x, w' = over z x := fun z => by rw [← hr]; exact c76f n i m d v l h q.num q.item q.by_ q.day q.valid q.diff.lo q.diff.hi z d0 d1 v0 v1
        have HC76 := Lib.hid hc76
        clear hc76 hr
        cases r
        · go_wp2_with fail
          refine wp_region_over2 (by kernel_rfl) (by kernel_rfl) ?_
          repeat (go_big_quiet_step (exact calls_over_of (HC76.out _)))
          refine wpQuiet_nil ?_
          rintro w' ⟨z, rfl⟩
          go_wp2_with fail
          go_roundw
          case rel => exact ⟨j + 1, z, by omega, by go_num, by rw [HS.out]; rfl, rfl⟩
          case measure => simp [intOf]; omega
        · have hc25 : ∀ z, Calls Try.prog 25 #[.slice Ah held.length ch, .int .i64 q.num] (over w1 z) fun e w' => e = .returned (.bool (decide (q.num ∈ held))) ∧ w' = over w1 z := fun z => c25o q.num hH1.out (fun k h => by omega) hl2
          generalize decide (q.num ∈ held) = p at hc25 HS
          have HC25 := Lib.hid hc25
          clear hc25
          go_wp2_with fail
          refine wp_region_over2 (by kernel_rfl) (by kernel_rfl) ?_
          repeat (go_big_quiet_step (first | exact calls_over_of (HC76.out _) | exact calls_over_same (HC25.out _)))
          refine wpQuiet_nil ?_
          rintro w' ⟨z, rfl⟩
          go_wp2_with fail
          go_roundw
          case rel => exact ⟨j + 1, z, by omega, by go_num, by rw [HS.out]; simp, rfl⟩
          case measure => simp [intOf]; omega
      · go_wp2_with fail
        refine wp_region_over2 (by kernel_rfl) (by kernel_rfl) ?_
        repeat (go_big_quiet_step (fail))
        refine wpQuiet_nil ?_
        rintro w' ⟨z, rfl⟩
        go_wp2_with fail
        go_roundw
        case rel => exact ⟨j + 1, z, by omega, by go_num, by rw [HS.out]; simp, rfl⟩
        case measure => simp [intOf]; omega
    · have hje : j = b.certs.length := by omega
      have hres := HR.out
      rw [← hje] at hres
      have HR2 := Lib.hid hres
      clear hres
      have HJ := Lib.hid hje
      clear hje
      generalize hUp b ⟨n, i, m, d, v, ⟨l, h⟩⟩ held j = u at HR2
      have hc25 := c25o (y := y) (cn := cb) n hB1.out (fun k h => by omega) hl1
      have HC25 := Lib.hid hc25
      clear hc25
      cases u
      · go_wp2_with fail
        go_ret
        exact ⟨by rw [HR2.out]; rfl, below_over (below_ov HBEL.out (by omega))⟩
      · go_wp2_with (go_at_call 25; refine HC25.out.mono ?_; rintro e w' ⟨rfl, rfl⟩)
        go_ret
        exact ⟨by rw [HR2.out]; simp, below_over (below_ov HBEL.out (by omega))⟩
end Go.Proofs.Ytmcnpfjichbijaa

