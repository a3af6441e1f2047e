/- ChainTruth, walked. -/
import Derived.Test.YtmcnpfjichbijaaL30
set_option linter.unusedSimpArgs false
set_option linter.unusedVariables false
namespace Go.Proofs.Ytmcnpfjichbijaa
open Go Go.Proofs Go.RowKit Go.Shelf


theorem writ_truth {b : Bk} (v : Vb b) {ws : List Int} (hok : wordsOk ws) : Truth (writB b ws) (fun i d => trueAt b i d ws) :=
  ⟨fun i d h0 h1 h => trueAt_std v i d h0 h1 h, fun i d e h0 h1 h hd hde => trueAt_drift v i d e h0 h1 h hd hde, fun i d h0 h1 => by have := trueAt_big v (ws := ws) i d h0 h1; omega, fun c hc => by
    obtain ⟨c0, _, rfl⟩ := List.mem_map.1 hc
    have h1 := wordAt_in hok c0.num
    have h2 := wordAt_in hok (c0.num + 1)
    show trueAt b c0.by_ c0.day ws + (trueAt b c0.item c0.day ws - trueAt b c0.by_ c0.day ws - wordAt ws c0.num % 9) ≤ trueAt b c0.item c0.day ws ∧ trueAt b c0.item c0.day ws ≤ trueAt b c0.by_ c0.day ws + (trueAt b c0.item c0.day ws - trueAt b c0.by_ c0.day ws + wordAt ws (c0.num + 1) % 9)
    omega⟩
theorem truth_span {x : Bk} (v : Vb x) {t : Int → Int → Int} (T : Truth x t) {K D : Int} (h0 : 0 ≤ K) (h1 : K < x.items.length) (h2 : 0 ≤ D) (h3 : D ≤ 1000) :
    spanErr x K D = 10 ∨ (spanErr x K D = 0 ∧ (spanRes x K D).lo ≤ t K D ∧ t K D ≤ (spanRes x K D).hi) := by
  have ask : askErr x K D = if reach x K D then 0 else 10 := by
    unfold askErr
    rw [if_neg (by rw [(fault_iff x).2 v]; simp), if_neg (by simp [inB]; omega)]
  cases hr : reach x K D
  · rw [hr] at ask
    exact .inl (by rw [spanErr_ask (by rw [ask]; simp), ask]; rfl)
  · rw [hr] at ask
    have e := spanErr_ok ask (T.contra v)
    refine .inr ⟨e, ?_⟩
    unfold spanRes
    rw [if_pos e]
    exact T.at v D h0 h1

set_option maxRecDepth 100000 in
set_option maxHeartbeats 4000000 in
theorem c11 (Ai Ac Aw : Option Addr) (ci cc cw : Nat) (b : Bk) (ws : List Int) (dy : Int) (w : World) (hA : bookAt (· < w.heap.size) w Ai Ac b) (hw : wordsAt (· < w.heap.size) w Aw ws) (hok : wordsOk ws)
    (h1 : b.items.length ≤ 9223372036854775807) (h2 : b.certs.length ≤ 9223372036854775807) (h4 : (Lit.int .u16 dy).wf = true) :
    Calls Try.prog 11 #[.agg #[.slice Ai b.items.length ci, .slice Ac b.certs.length cc], .slice Aw ws.length cw, .int .u16 dy] w fun e w' => e = .returned (.bool true) ∧ ∃ x, w' = over w x := by
  have HA := Lib.hid hA
  have HW := Lib.hid hw
  have HOK := Lib.hid hok
  clear hA hw hok
  go_enter Try.func11, Try.ntmps11
  go_wp2_with fail
  have hCl : Cl w (.slice Ai b.items.length ci) (.slice Ac b.certs.length cc) (w.alloc (.cells #[.slice Ai b.items.length ci, .slice Ac b.certs.length cc] 25)) := ⟨by repeat' (first | exact Below.refl _ _ | (refine below_ov ?_ ?_) | (refine Below.alloc ?_ ?_ _) | (refine below_drewN' ?_ _) | (refine Below.drew ?_) | (refine below_set ?_ _ _ ?_) | (simp; done) | (simp; omega) | omega), by simp [go_sem], by simp [go_sem]⟩
  refine (c32 Ai Ac ci cc b _ (HA.out.alloc _) h1 h2).mono ?_
  rintro e w1 ⟨rfl, x, rfl⟩
  have HC1 := Lib.hid (hCl.onx (x := x))
  clear hCl
  generalize over _ x = W1 at *
  have c0 := HC1.out.a0
  have c1 := HC1.out.a1
  have lw := lt_of_cell c0
  cases hf : (fault b == 0)
  · go_wp2_with fail
    refine (c18 _).mono ?_
    rintro e w2 ⟨rfl, y, rfl⟩
    go_wp2_with fail
    go_ret
    exact ⟨rfl, below_over (HC1.out.onx.bel)⟩
  · have hv : Vb b := (fault_iff b).1 (by simpa using hf)
    have HV := Lib.hid hv
    have hil := hv.il
    have hcl := hv.cl
    clear hv hf
    go_wp2_with fail
    refine (c43 Ai Ac Aw ci cc cw b ws HV.out HOK.out W1 (HA.out.below HC1.out.bel) (HW.out.below HC1.out.bel)).mono ?_
    rintro e W2 ⟨Ax, cx, rfl, hcx, y, hy⟩
    have hb12 : Below W1.heap.size W1 W2 := by rw [hy]; exact over_below _ _
    have HC2 := Lib.hid (HC1.out.on hb12)
    obtain ⟨x, hx⟩ : ∃ x, x = writB b ws := ⟨_, rfl⟩
    rw [← hx] at hcx
    rw [← hx]
    have hxi : x.items = b.items := by rw [hx]; rfl
    have hxl : x.certs.length = b.certs.length := by rw [hx]; simp [writB]
    have HXE := Lib.hid hx
    have HXI := Lib.hid hxi
    have HXC := Lib.hid hcx
    have c0 := HC2.out.a0
    have c1 := HC2.out.a1
    have lw := lt_of_cell c0
    have hxil : x.items.length ≤ 8 := by rw [hxi]; exact hil
    have hxcl : x.certs.length ≤ 24 := by omega
    have HXL := Lib.hid hxl
    clear hb12 HC1 hy hx hxi hcx hxl
    cases hfx : (fault x == 0)
    · go_wp2_with fail
      refine (c18 _).mono ?_
      rintro e w2 ⟨rfl, y, rfl⟩
      go_wp2_with fail
      go_ret
      exact ⟨rfl, below_over (HC2.out.bel.trans (((Below.refl _ _).alloc (Nat.le_refl _) _ |>.trans ((over_below _ _).mono (by simp))).mono HC2.out.bel.size))⟩
    · have hvx : Vb x := (fault_iff x).1 (by simpa using hfx)
      have HVX := Lib.hid hvx
      obtain ⟨D, hD, hD1, hD2⟩ : ∃ D, (wrap64 dy).tmod 1001 = D ∧ 0 ≤ D ∧ D < 1001 := ⟨_, rfl, tmod_in16 h4⟩
      have hT : Truth x (fun i d => trueAt b i d ws) := by rw [HXE.out]; exact writ_truth HV.out HOK.out
      have HT := Lib.hid hT
      have hse : susErr x = 7 := by unfold susErr; rw [if_neg (by rw [(fault_iff x).2 hvx]; simp), if_neg (by rw [hT.contra hvx]; simp)]
      have HSE := Lib.hid hse
      clear hvx hfx hT hse
      go_wp2_with fail
      have l1 : b.items.length = x.items.length := by rw [HXI.out]
      have l2 : b.certs.length = x.certs.length := HXL.out.symm
      rw [l1, l2]
      have hal : Below W2.heap.size W2 (W2.alloc (.cells #[.slice Ai x.items.length ci, .slice Ax x.certs.length cx] 25)) := (Below.refl _ _).alloc (Nat.le_refl _) _
      have hbw := HC2.out.bel.trans (hal.mono HC2.out.bel.size)
      have HVB := Lib.hid hbw
      have HX0 := Lib.hid (show bookAt (· < (W2.alloc (.cells #[.slice Ai x.items.length ci, .slice Ax x.certs.length cx] 25)).heap.size) (W2.alloc (.cells #[.slice Ai x.items.length ci, .slice Ax x.certs.length cx] 25)) Ai Ax x from ⟨by have hia := (HA.out.below hbw).1; rwa [← HXI.out] at hia, (bookAt.below (Ai := none) (b := ⟨[], x.certs⟩) ⟨fun h => by simp at h, HXC.out⟩ hal).2⟩)
      have HS_0 := Lib.hid (((show St (W2.alloc (.cells #[.slice Ai x.items.length ci, .slice Ax x.certs.length cx] 25)) [] (W2.alloc (.cells #[.slice Ai x.items.length ci, .slice Ax x.certs.length cx] 25)) from ⟨Below.refl _ _, fun p hp => by cases hp⟩).add (b := W2.heap.size) (o := 1) (v := .slice Ax x.certs.length cx) (by simp [go_sem])).add (b := W2.heap.size) (o := 0) (v := .slice Ai x.items.length ci) (by simp [go_sem]))
      have hxi8 : x.items.length ≤ 8 := hxil
      clear hal hbw HC2 c0 c1 lw l1 l2
      generalize W2.alloc (.cells #[.slice Ai x.items.length ci, .slice Ax x.certs.length cx] 25) = W_0 at *
      generalize W2.heap.size = X at *
      have x0 := HS_0.out.cell _ (.head _)
      have x1 := HS_0.out.cell _ (.tail _ (.head _))
      have lv_W_0 := lt_of_cell x0
      have l_x0 := lt_of_cell x0
      have l_x1 := lt_of_cell x1
      refine (c20 Ai Ax ci cx x W_0 (HX0.out.below HS_0.out.bel) (by omega) (by omega)).mono ?_
      rintro e W_x ⟨I_1, i_1, C_1, j_1, rfl, hB, y, rfl⟩
      have HB_1 := Lib.hid hB
      clear hB
      have HS_3 := Lib.hid (HS_0.out.on (over_below _ y))
      clear x0 x1 l_x0 l_x1 lv_W_0
      clear HS_0 
      generalize over W_0 y = W_2 at *
      have x0 := HS_3.out.cell _ (.head _)
      have x1 := HS_3.out.cell _ (.tail _ (.head _))
      have lv_W_2 := lt_of_cell x0
      have l_x0 := lt_of_cell x0
      have l_x1 := lt_of_cell x1
      go_wp2_with fail
      refine Calls.mono (f := 41) (c41u I_1 C_1 i_1 j_1 x W_2 HB_1.out (by omega) (by omega)) ?_
      rintro e W_x ⟨B_4, d_4, rfl, hn, y, he⟩
      have hb : Below W_2.heap.size W_2 W_x := by rw [he]; exact over_below _ _
      rw [HSE.out]
      have HN_5 := Lib.hid (hn.mono (T := (· < W_x.heap.size)) fun j hj => hj.2)
      clear HB_1 hn he
      have HS_7 := Lib.hid (HS_3.out.on (hb))
      clear x0 x1 l_x0 l_x1 lv_W_2
      clear HS_3 
      clear hb y
      generalize W_x = W_6 at *
      have x0 := HS_7.out.cell _ (.head _)
      have x1 := HS_7.out.cell _ (.tail _ (.head _))
      have lv_W_6 := lt_of_cell x0
      have l_x0 := lt_of_cell x0
      have l_x1 := lt_of_cell x1
      go_wp2_with fail
      go_loopw [12] (fun t wr => ∃ i : Nat, i ≤ x.items.length ∧ t = .int .i64 i ∧ St W_0 [(X, 0, .slice Ai x.items.length ci), (X, 1, .slice Ax x.certs.length cx)] wr) (fun t _ => x.items.length - (intOf t).toNat)
      case atStart => exact ⟨0, Nat.zero_le _, rfl, HS_7.out⟩
      case round =>
        clear x0 x1 l_x0 l_x1 lv_W_6
        obtain ⟨i, hi, rfl, hS⟩ := hrel
        have HS_r := Lib.hid hS
        clear hS
        have x0 := HS_r.out.cell _ (.head _)
        have x1 := HS_r.out.cell _ (.tail _ (.head _))
        have lv_wr := lt_of_cell x0
        have l_x0 := lt_of_cell x0
        have l_x1 := lt_of_cell x1
        by_cases hlt : i < x.items.length
        · have hi0 : (0 : Int) ≤ i := by omega
          have hi1 : (i : Int) < x.items.length := by omega
          go_wp2_with fail
          refine (c20 Ai Ax ci cx x wr (HX0.out.below HS_r.out.bel) (by omega) (by omega)).mono ?_
          rintro e W_x ⟨I_8, i_8, C_8, j_8, rfl, hB, y, rfl⟩
          have HB_8 := Lib.hid hB
          clear hB
          have HS_10 := Lib.hid (HS_r.out.on (over_below _ y))
          clear x0 x1 l_x0 l_x1 lv_wr
          clear HS_r 
          generalize over wr y = W_9 at *
          have x0 := HS_10.out.cell _ (.head _)
          have x1 := HS_10.out.cell _ (.tail _ (.head _))
          have lv_W_9 := lt_of_cell x0
          have l_x0 := lt_of_cell x0
          have l_x1 := lt_of_cell x1
          go_wp2_with fail
          refine (c27 I_8 C_8 i_8 j_8 x (i : Int) D W_9 HB_8.out (by omega) (by omega)).mono ?_
          rintro e W_x ⟨rfl, y, rfl⟩
          clear HB_8
          have HS_12 := Lib.hid (HS_10.out.on (over_below _ y))
          clear x0 x1 l_x0 l_x1 lv_W_9
          clear HS_10 
          generalize over W_9 y = W_11 at *
          have x0 := HS_12.out.cell _ (.head _)
          have x1 := HS_12.out.cell _ (.tail _ (.head _))
          have lv_W_11 := lt_of_cell x0
          have l_x0 := lt_of_cell x0
          have l_x1 := lt_of_cell x1
          unfold rngV
          go_wp2_with fail
          have hal : Below W_11.heap.size W_11 (W_11.alloc (.cells #[.int .i64 (spanRes x (i : Int) D).lo, .int .i64 (spanRes x (i : Int) D).hi] 45)) := (Below.refl _ _).alloc (Nat.le_refl _) _
          have HS_13 := Lib.hid (((HS_12.out.on hal).add (b := W_11.heap.size) (o := 1) (v := .int .i64 (spanRes x (i : Int) D).hi) (by simp [go_sem])).add (b := W_11.heap.size) (o := 0) (v := .int .i64 (spanRes x (i : Int) D).lo) (by simp [go_sem]))
          clear x0 x1 l_x0 l_x1 lv_W_11
          clear hal HS_12 
          generalize W_11.alloc (.cells #[.int .i64 (spanRes x (i : Int) D).lo, .int .i64 (spanRes x (i : Int) D).hi] 45) = W_14 at *
          generalize W_11.heap.size = Rs at *
          have s0 := HS_13.out.cell _ (.head _)
          have s1 := HS_13.out.cell _ (.tail _ (.head _))
          have x0 := HS_13.out.cell _ (.tail _ (.tail _ (.head _)))
          have x1 := HS_13.out.cell _ (.tail _ (.tail _ (.tail _ (.head _))))
          have lv_W_14 := lt_of_cell s0
          have l_s0 := lt_of_cell s0
          have l_s1 := lt_of_cell s1
          have l_x0 := lt_of_cell x0
          have l_x1 := lt_of_cell x1
          refine (c44 Ai Ax Aw ci cx cw x HVX.out.it ws i D W_14 (HX0.out.below HS_13.out.bel).1 (HW.out.below (HVB.out.trans (HS_13.out.bel.mono HVB.out.size))) HOK.out hlt hxi8 hD1 (by omega)).mono ?_
          rintro e W_x ⟨rfl, y, rfl⟩
          have HS_16 := Lib.hid (HS_13.out.on (over_below _ y))
          clear s0 s1 x0 x1 l_s0 l_s1 l_x0 l_x1 lv_W_14
          clear HS_13 
          generalize over W_14 y = W_15 at *
          have s0 := HS_16.out.cell _ (.head _)
          have s1 := HS_16.out.cell _ (.tail _ (.head _))
          have x0 := HS_16.out.cell _ (.tail _ (.tail _ (.head _)))
          have x1 := HS_16.out.cell _ (.tail _ (.tail _ (.tail _ (.head _))))
          have lv_W_15 := lt_of_cell s0
          have l_s0 := lt_of_cell s0
          have l_s1 := lt_of_cell s1
          have l_x0 := lt_of_cell x0
          have l_x1 := lt_of_cell x1
          have hts := truth_span HVX.out HT.out (K := (i : Int)) (D := D) hi0 hi1 hD1 (by omega)
          have htt : trueAt x i D ws = trueAt b i D ws := by rw [HXE.out]; rfl
          rw [htt]
          clear htt
          simp only at s0 s1
          generalize trueAt b i D ws = T at *
          generalize spanRes x (i : Int) D = s at *
          generalize spanErr x (i : Int) D = f at *
          rcases hts with rfl | ⟨rfl, t1, t2⟩
          · go_wp2_with fail
            go_roundw
            case rel => exact ⟨i + 1, by omega, by go_num, ((show St W_0 [] W_15 from ⟨HS_16.out.bel, fun p hp => by cases hp⟩).add x1).add x0⟩
            case measure => simp [intOf]; omega
          · have t3 : ¬ T < s.lo := by omega
            have t4 : ¬ T > s.hi := by omega
            have t5 : ¬ s.hi < T := by omega
            go_wp2_with fail
            go_roundw
            case rel => exact ⟨i + 1, by omega, by go_num, ((show St W_0 [] W_15 from ⟨HS_16.out.bel, fun p hp => by cases hp⟩).add x1).add x0⟩
            case measure => simp [intOf]; omega
        · have hie : ¬ (i : Int) < (x.items.length : Int) := by omega
          go_wp2_with fail
          refine (c18 _).mono ?_
          rintro e w2 ⟨rfl, y, rfl⟩
          go_wp2_with fail
          go_ret
          exact ⟨rfl, below_over (HVB.out.trans ((HS_r.out.bel.trans ((over_below _ _).mono HS_r.out.bel.size)).mono HVB.out.size))⟩
end Go.Proofs.Ytmcnpfjichbijaa

