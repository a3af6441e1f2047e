/- The end of a span that is reached. -/
import Derived.Test.YtmcnpfjichbijaaL23
set_option linter.unusedSimpArgs false
set_option linter.unusedVariables false
namespace Go.Proofs.Ytmcnpfjichbijaa
open Go Go.Proofs Go.RowKit Go.Shelf


set_option maxRecDepth 100000 in
set_option maxHeartbeats 1000000 in
theorem c68 (lo hi : Int) (high : Bool) (w : World) : Calls Try.prog 68 #[.agg #[.int .i64 lo, .int .i64 hi], .bool high] w fun e w' => e = .returned (.int .i64 (rEnd ⟨lo, hi⟩ high)) ∧ ∃ x, w' = over w x := by
  cases high
  all_goals
    go_enter Try.func68, Try.ntmps68
    go_wp2_with fail
    go_ret
    exact ⟨rfl, below_over (by repeat' (first | exact Below.refl _ _ | (refine below_ov ?_ ?_) | (refine Below.alloc ?_ ?_ _) | (refine below_drewN' ?_ _) | (refine Below.drew ?_) | (refine below_set ?_ _ _ ?_) | (simp; done) | (simp; omega) | omega))⟩

theorem mul_bd2 {d y : Int} (h0 : 0 ≤ d) (h1 : d ≤ 100) (h2 : -1000 ≤ y) (h3 : y ≤ 1000) : -100000 ≤ d * y ∧ d * y ≤ 100000 := by
  have a1 := Int.mul_le_mul_of_nonneg_left h3 h0
  have a2 := Int.mul_le_mul_of_nonneg_left h2 h0
  omega

set_option maxRecDepth 100000 in
set_option maxHeartbeats 4000000 in
theorem c39s (Ai Ac : Option Addr) (ci cc : Nat) (b : Bk) (v : Vb b) (s : Single b) (high : Bool) (N : Int)
    (ih : ∀ c ∈ b.certs, c.num ≤ N → ∀ w, bookAt (· < w.heap.size) w Ai Ac b → Calls Try.prog 39 #[.agg #[.slice Ai b.items.length ci, .slice Ac b.certs.length cc], .int .i64 c.by_, .int .i64 c.day, .bool high] w fun e w' => e = .returned (.int .i64 (reachV b c.by_ c.day high)) ∧ ∃ x, w' = over w x)
    (item day : Int) (w : World) (hA : bookAt (· < w.heap.size) w Ai Ac b) (h0 : 0 ≤ item) (h1 : item < b.items.length) (h2 : 0 ≤ day) (h3 : day ≤ 1000) (hN : ∀ c, firstOf b item = some c → c.num ≤ N) :
    Calls Try.prog 39 #[.agg #[.slice Ai b.items.length ci, .slice Ac b.certs.length cc], .int .i64 item, .int .i64 day, .bool high] w fun e w' => e = .returned (.int .i64 (reachV b item day high)) ∧ ∃ x, w' = over w x := by
  have HA := Lib.hid hA
  have HV := Lib.hid v
  have HSI := Lib.hid s
  have HIH := Lib.hid ih
  have HNN := Lib.hid hN
  have hil := v.il
  have hcl := v.cl
  obtain ⟨m, hm⟩ := Int.eq_ofNat_of_zero_le h0
  subst hm
  have hml : m < b.items.length := by omega
  obtain ⟨Bi, Bo, eBi, hSI, hits⟩ := hA.1 (by omega)
  obtain ⟨i1, i2, i3, i4⟩ := hits m b.items[m] (by simp [hml])
  have hix := fun c => @idx22 Ai Bi Bo b.items.length c eBi m hml
  have hstd : stdOf b (m : Int) = b.items[m].std := by unfold stdOf; simp [hml]
  have hitm : itmOf b (m : Int) = b.items[m] := by unfold itmOf; simp [hml]
  have hok := (itmOk_iff _).1 (v.it _ (List.getElem_mem hml))
  generalize b.items[m] = X at i1 i2 i3 i4 hstd hitm hok
  obtain ⟨dr, sv, ⟨vl, vh⟩⟩ := X
  simp only at i1 i2 i3 i4 hstd
  have d1 := hok.d1
  have d2 := hok.d2
  simp only at d1 d2
  have HST := Lib.hid hstd
  have HIT := Lib.hid hitm
  have li := lt_of_cell i2
  have hnl : (numsOf b).length ≤ 24 := by rw [numsOf_length]; exact Nat.le_trans (firsts_length _) hcl
  have HIN := Lib.hid (spansOf_in v hnl)
  clear hits eBi hstd hitm hA v s ih hN hok hnl hSI
  cases sv
  · go_enter Try.func39, Try.ntmps39
    go_wp2_with fail
    have hb0 : Below w.heap.size w ((w.alloc (.cells #[.slice Ai b.items.length ci, .slice Ac b.certs.length cc] 25)).alloc (.cells #[.int .i64 dr, .bool false, .int .i64 vl, .int .i64 vh] 83)) := by repeat' (first | exact Below.refl _ _ | (refine below_ov ?_ ?_) | (refine Below.alloc ?_ ?_ _) | (refine below_drewN' ?_ _) | (refine Below.drew ?_) | (refine below_set ?_ _ _ ?_) | (simp; done) | (simp; omega) | omega)
    have HS0 := Lib.hid ((((show St w [] ((w.alloc (.cells #[.slice Ai b.items.length ci, .slice Ac b.certs.length cc] 25)).alloc (.cells #[.int .i64 dr, .bool false, .int .i64 vl, .int .i64 vh] 83)) from ⟨hb0, fun p hp => by cases hp⟩).add (b := w.heap.size + 1) (o := 0) (v := .int .i64 dr) (by simp [go_sem])).add (b := w.heap.size) (o := 1) (v := .slice Ac b.certs.length cc) (by simp [go_sem])).add (b := w.heap.size) (o := 0) (v := .slice Ai b.items.length ci) (by simp [go_sem]))
    clear hb0 i1 i2 i3 i4 hix li
    generalize (w.alloc _).alloc _ = V at *
    go_loopw [10] (fun t wr => ∃ i : Nat, i ≤ b.certs.length ∧ t = .int .i64 i ∧ (∀ c ∈ b.certs.take i, c.item ≠ m) ∧ St w [(w.heap.size, 0, .slice Ai b.items.length ci), (w.heap.size, 1, .slice Ac b.certs.length cc), (w.heap.size + 1, 0, .int .i64 dr)] wr) (fun t _ => b.certs.length - (intOf t).toNat)
    case atStart => exact ⟨0, Nat.zero_le _, rfl, by simp, HS0.out⟩
    case round =>
      obtain ⟨i, hi, rfl, hno, hS⟩ := hrel
      have HNO := Lib.hid hno
      have HS := Lib.hid hS
      have a0 := hS.cell _ (.head _)
      have a1 := hS.cell _ (.tail _ (.head _))
      have x0 := hS.cell _ (.tail _ (.tail _ (.head _)))
      simp only at a0 a1 x0
      have lw := lt_of_cell a0
      have lx := lt_of_cell x0
      have hbk := HA.out.below hS.bel
      clear hno hS
      by_cases hlt : i < b.certs.length
      · obtain ⟨q, hq⟩ : ∃ q, b.certs[i]? = some q := ⟨b.certs[i], by simp [hlt]⟩
        obtain ⟨Bc, Co, eC, hSC, hcs⟩ := hbk.2 (by omega)
        obtain ⟨q0, q1, q2, q3, q4, q5, q6⟩ := hcs i q hq
        have hixc := fun c => @idx23 Ac Bc Co b.certs.length c eC i hlt
        have lc := lt_of_cell q0
        have HQ := Lib.hid hq
        have hal : Below wr.heap.size wr (wr.alloc (.cells #[.int .i64 q.num, .int .i64 q.item, .int .i64 q.by_, .int .i64 q.day, .int .i64 q.valid, .int .i64 q.diff.lo, .int .i64 q.diff.hi] 58)) := (Below.refl _ _).alloc (Nat.le_refl _) _
        have HS3 := Lib.hid (HS.out.on hal)
        clear hq hcs eC hbk hal hSC
        cases hqi : (q.item == (m : Int))
        · have hne : q.item ≠ (m : Int) := by simpa using hqi
          have HN : Hid (∀ c ∈ b.certs.take (i + 1), c.item ≠ m) := Lib.hid fun c hc => by
            rw [List.take_add_one, HQ.out] at hc
            rcases List.mem_append.1 hc with h | h
            · exact HNO.out c h
            · simp at h; subst h; exact hne
          clear hne
          go_wp2_with fail
          go_roundw
          case rel => exact ⟨i + 1, by omega, by go_num, HN.out, HS3.out⟩
          case measure => simp [intOf]; omega
        · have heq : q.item = (m : Int) := by simpa using hqi
          have hme := List.mem_of_getElem? HQ.out
          have hfi : firstOf b m = some q := by rw [← heq]; exact firstOf_eq HSI.out hme
          have hcv := (crtOk_iff b q).1 (HV.out.ct q hme)
          have g1 := hcv.d1; have g2 := hcv.d2; have g3 := hcv.l1; have g4 := hcv.l2; have g5 := hcv.l3
          obtain ⟨m1, m2⟩ := mul_bd2 (y := day - q.day) d1 d2 (by omega) (by omega)
          have hsc := HSI.out.cert HV.out hme high
          have hin := HIN.out q.num
          have hcall := HIH.out q hme (HNN.out q hfi)
          have hrv : reachV b m day high = rEnd (spansOf b q.num) high + (if high then dr * (day - q.day) else -(dr * (day - q.day))) := by
            unfold reachV
            rw [if_neg (by rw [HST.out]; simp), hfi, HIT.out]
          have HRV := Lib.hid hrv
          have HCALL := Lib.hid hcall
          generalize reachV b q.by_ q.day high = R at hsc HCALL
          obtain ⟨R2, hR2⟩ : ∃ R2, R2 = reachV b m day high := ⟨_, rfl⟩
          rw [← hR2] at HRV
          have HRR2 := Lib.hid hR2.symm
          clear hR2
          obtain ⟨s1, s2, s3, s4⟩ := hin
          have hR : -2199023355552 ≤ R ∧ R ≤ 2199023355552 := by
            unfold rEnd at hsc
            split at hsc <;> omega
          obtain ⟨r1, r2⟩ := hR
          have hRE : -100000 ≤ rEnd q.diff high ∧ rEnd q.diff high ≤ 100000 := by unfold rEnd; split <;> omega
          obtain ⟨e1, e2⟩ := hRE
          have HRE := Lib.hid (show R2 = R + rEnd q.diff high + (if high then dr * (day - q.day) else -(dr * (day - q.day))) by rw [HRV.out, hsc])
          have hc68 : ∀ W, Calls Try.prog 68 #[.agg #[.int .i64 q.diff.lo, .int .i64 q.diff.hi], .bool high] W fun e w' => e = .returned (.int .i64 (rEnd q.diff high)) ∧ ∃ x, w' = over W x := fun W => c68 _ _ _ W
          have HC68 := Lib.hid hc68
          generalize rEnd q.diff high = R3 at *
          have hcall2 := fun z => HCALL.out _ (HA.out.below (HS3.out.on (over_below _ z)).bel)
          have HCALL2 := Lib.hid hcall2
          clear heq hme hfi hcv hsc hcall hcall2 hrv hc68 HRV HCALL
          cases high
          · simp only [Bool.false_eq_true, if_false] at HRE
            go_wp2_with fail
            refine wp_region_over (by kernel_rfl) (by kernel_rfl) ?_
            repeat (go_big_quiet_step (first | exact calls_over_of (HCALL2.out _) | exact calls_over_of (HC68.out _)))
            refine wpQuiet_nil ?_
            rintro w' ⟨z, rfl⟩
            go_wp2_with fail
            go_ret
            exact ⟨by rw [HRR2.out, HRE.out]; rfl, below_over (HS3.out.on (over_below _ z)).bel⟩
          · simp only [if_true] at HRE
            go_wp2_with fail
            refine wp_region_over (by kernel_rfl) (by kernel_rfl) ?_
            repeat (go_big_quiet_step (first | exact calls_over_of (HCALL2.out _) | exact calls_over_of (HC68.out _)))
            refine wpQuiet_nil ?_
            rintro w' ⟨z, rfl⟩
            go_wp2_with fail
            go_ret
            exact ⟨by rw [HRR2.out, HRE.out]; rfl, below_over (HS3.out.on (over_below _ z)).bel⟩
      · have hfi : firstOf b (m : Int) = none := by
          unfold firstOf
          refine List.find?_eq_none.2 fun c hc => ?_
          have := HNO.out c (by rwa [List.take_of_length_le (by omega)])
          simpa using this
        have hrv : reachV b m day high = 0 := by unfold reachV; rw [if_neg (by rw [HST.out]; simp), hfi]
        have HRV := Lib.hid hrv
        clear hrv hfi hbk
        go_wp2_with fail
        go_ret
        exact ⟨by rw [HRV.out]; rfl, below_over HS.out.bel⟩
  · have hrv : reachV b m day high = rEnd ⟨vl, vh⟩ high := by unfold reachV; rw [if_pos HST.out, HIT.out]
    rw [hrv]
    clear hrv
    go_enter Try.func39, Try.ntmps39
    go_wp2_with fail
    refine (c68 vl vh high _).mono ?_
    rintro e W1 ⟨rfl, y, rfl⟩
    go_wp2_with fail
    go_ret
    exact ⟨rfl, below_over (by repeat' (first | exact Below.refl _ _ | (refine below_ov ?_ ?_) | (refine Below.alloc ?_ ?_ _) | (refine below_drewN' ?_ _) | (refine Below.drew ?_) | (refine below_set ?_ _ _ ?_) | (simp; done) | (simp; omega) | omega))⟩

theorem c39 (Ai Ac : Option Addr) (ci cc : Nat) (b : Bk) (v : Vb b) (s : Single b) (high : Bool) (item day : Int) (w : World) (hA : bookAt (· < w.heap.size) w Ai Ac b) (h0 : 0 ≤ item) (h1 : item < b.items.length) (h2 : 0 ≤ day) (h3 : day ≤ 1000) :
    Calls Try.prog 39 #[.agg #[.slice Ai b.items.length ci, .slice Ac b.certs.length cc], .int .i64 item, .int .i64 day, .bool high] w fun e w' => e = .returned (.int .i64 (reachV b item day high)) ∧ ∃ x, w' = over w x := by
  have main : ∀ (N : Nat) (c : Crt), c ∈ b.certs → c.num ≤ N → ∀ w, bookAt (· < w.heap.size) w Ai Ac b → Calls Try.prog 39 #[.agg #[.slice Ai b.items.length ci, .slice Ac b.certs.length cc], .int .i64 c.by_, .int .i64 c.day, .bool high] w fun e w' => e = .returned (.int .i64 (reachV b c.by_ c.day high)) ∧ ∃ x, w' = over w x := by
    intro N
    induction N with
    | zero =>
      intro c hc hn
      have := ((crtOk_iff b c).1 (v.ct c hc)).n1
      omega
    | succ N ih =>
      intro c hc hn w hA
      have hk := (crtOk_iff b c).1 (v.ct c hc)
      refine c39s Ai Ac ci cc b v s high N (fun d hd hdn => ih d hd hdn) c.by_ c.day w hA hk.b1 hk.b2 hk.d1 hk.d2 fun d hd => ?_
      have hdm := List.mem_of_find?_eq_some hd
      have hdi : d.item = c.by_ := by have := List.find?_some hd; simpa using this
      rcases s.by_ v hc with h | ⟨d', hd', hf, hlt, _⟩
      · have := ((crtOk_iff b d).1 (v.ct d hdm)).is
        rw [hdi, h] at this; cases this
      · rw [hd] at hf; cases hf; omega
  exact c39s Ai Ac ci cc b v s high 999 (fun d hd hdn => main 999 d hd hdn) item day w hA h0 h1 h2 h3 fun d hd => ((crtOk_iff b d).1 (v.ct d (List.mem_of_find?_eq_some hd))).n2
end Go.Proofs.Ytmcnpfjichbijaa

