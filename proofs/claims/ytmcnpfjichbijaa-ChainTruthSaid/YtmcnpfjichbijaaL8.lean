/- ChainHangs, walked. -/
import Derived.Test.YtmcnpfjichbijaaL6
import Derived.Test.YtmcnpfjichbijaaC13
set_option linter.unusedSimpArgs false
set_option linter.unusedVariables false
namespace Go.Proofs.Ytmcnpfjichbijaa
open Go Go.Proofs Go.RowKit Go.Shelf


theorem hung_eq (b : Bk) (l : List Int) : (numsOf b).filter (hungB b l) = (heldL b []).filter fun n => !decide (n ∈ heldL b l) && !decide (n ∈ l) := by
  unfold hungB
  rw [show heldL b [] = (numsOf b).filter (holds b fun n => decide (n ∈ ([] : List Int))) from rfl, List.filter_filter]
  congr 1
  funext n
  have h : decide (n ∈ heldL b l) = holds b (fun n => decide (n ∈ l)) n := by rw [Bool.eq_iff_iff, decide_eq_true_eq]; exact mem_heldL b l n
  rw [h]
  cases holds b (fun n => decide (n ∈ ([] : List Int))) n <;> cases holds b (fun n => decide (n ∈ l)) n <;> simp

theorem bookAt.below {w w' : World} {Ai Ac : Option Addr} {b : Bk} (h : bookAt (· < w.heap.size) w Ai Ac b) (hb : Below w.heap.size w w') : bookAt (· < w'.heap.size) w' Ai Ac b :=
  have k : Keep (· < w.heap.size) w w' := Keep.of_below hb fun _ h _ => h
  have hm : ∀ j, j < w.heap.size → j < w'.heap.size := fun j hj => by have := hb.size; omega
  ⟨(h.1.keep k).mono hm, (h.2.keep k).mono hm⟩

theorem vb_by {b : Bk} (v : Vb b) {c : Crt} (hc : c ∈ b.certs) : 0 ≤ c.by_ ∧ c.by_ < b.items.length := by
  have := v.ct c hc
  simp [crtOk, inB] at this
  omega
theorem vb_day {b : Bk} (v : Vb b) {c : Crt} (hc : c ∈ b.certs) : 0 ≤ c.day ∧ c.day ≤ 1000 ∧ 0 ≤ c.valid ∧ c.valid ≤ 1000 := by
  have := v.ct c hc
  simp [crtOk, inB] at this
  omega

def outL (L1 L2 l : List Int) (i : Nat) : List Int := (L1.take i).filter fun n => !decide (n ∈ L2) && !decide (n ∈ l)
theorem outL_succ (L1 L2 l : List Int) (i : Nat) (q : Int) (h : L1[i]? = some q) : outL L1 L2 l (i + 1) = if (!decide (q ∈ L2) && !decide (q ∈ l)) = true then outL L1 L2 l i ++ [q] else outL L1 L2 l i := by
  unfold outL
  rw [List.take_add_one, h, List.filter_append]
  by_cases hh : (!decide (q ∈ L2) && !decide (q ∈ l)) = true
  · rw [if_pos hh]; simp [hh]
  · rw [if_neg hh]; simp [hh]
theorem outL_length (L1 L2 l : List Int) (i : Nat) : (outL L1 L2 l i).length ≤ L1.length := by
  unfold outL
  exact Nat.le_trans (List.length_filter_le _ _) (by simp; omega)

/-- The call's world: the box of its book. -/
structure Cl (w : World) (v1 v2 : Value) (W : World) : Prop where
  bel : Below w.heap.size w W
  a0 : W.cell? ⟨w.heap.size, 0, none⟩ = some v1
  a1 : W.cell? ⟨w.heap.size, 1, none⟩ = some v2

theorem Cl.on {w W W' : World} {v1 v2 : Value} (h : Cl w v1 v2 W) (hb : Below W.heap.size W W') : Cl w v1 v2 W' :=
  have k : Keep (· < W.heap.size) W W' := Keep.of_below hb fun _ h _ => h
  ⟨h.bel.trans (hb.mono h.bel.size), k.cell h.a0 (lt_of_cell h.a0), k.cell h.a1 (lt_of_cell h.a1)⟩
theorem Cl.onx {w W x : World} {v1 v2 : Value} (h : Cl w v1 v2 W) : Cl w v1 v2 (over W x) := h.on (over_below W x)

set_option maxRecDepth 100000 in
set_option maxHeartbeats 4000000 in
theorem c3 (Ai Ac Ab : Option Addr) (ci cc cb : Nat) (b : Bk) (l : List Int) (w : World) (hA : bookAt (· < w.heap.size) w Ai Ac b) (hB : numsAt (· < w.heap.size) w Ab l) (hAb : Ab = none → cb = 0)
    (h1 : b.items.length ≤ 9223372036854775807) (h2 : b.certs.length ≤ 9223372036854775807) :
    Calls Try.prog 3 #[.agg #[.slice Ai b.items.length ci, .slice Ac b.certs.length cc], .slice Ab l.length cb] w fun e w' => e = .returned (.bool true) ∧ ∃ x, w' = over w x := by
  have HA := Lib.hid hA
  have HBS := Lib.hid hB
  clear hA hB
  go_enter Try.func3, Try.ntmps3
  go_wp2_with fail
  have hCl : Cl w (.slice Ai b.items.length ci) (.slice Ac b.certs.length cc) (w.alloc (.cells #[.slice Ai b.items.length ci, .slice Ac b.certs.length cc] 25)) := ⟨by repeat' (first | exact Below.refl _ _ | (refine below_ov ?_ ?_) | (refine Below.alloc ?_ ?_ _) | (refine below_drewN' ?_ _) | (refine Below.drew ?_) | (refine below_set ?_ _ _ ?_) | (simp; done) | (simp; omega) | omega), by simp [go_sem], by simp [go_sem]⟩
  refine (c17 Ai Ac ci cc b.items.length b.certs.length _ h1 h2).mono ?_
  rintro e w1 ⟨rfl, x, rfl⟩
  have HC1 := Lib.hid (hCl.onx (x := x))
  clear hCl
  generalize over _ x = W1 at *
  have c0 := HC1.out.a0
  have c1 := HC1.out.a1
  have lw := lt_of_cell c0
  by_cases hth : (decide (b.items.length ≤ 10) && decide (b.certs.length ≤ 28)) = true
  · rw [hth]
    simp at hth
    by_cases hll : (l.length : Int) ≤ 30
    · have hd : decide ((30 : Int) < l.length) = false := by simp; omega
      have hA1 := HA.out.below HC1.out.bel
      have hB1 := HBS.out.below HC1.out.bel
      have HA1 := Lib.hid hA1
      have HB1 := Lib.hid hB1
      clear hA1 hB1
      go_wp2_with fail
      refine (c20 Ai Ac ci cc b W1 HA1.out (by omega) (by omega)).mono ?_
      rintro e W2 ⟨Ai2, ci2, Ac2, cc2, rfl, hA2, x2, e2⟩
      have hb2 : Below W1.heap.size W1 W2 := by rw [e2]; exact over_below _ _
      have HC2 := Lib.hid (HC1.out.on hb2)
      have HA2 := Lib.hid hA2
      clear hA2 e2 x2 hb2 HA1 HB1 c0 c1 lw
      have hB2 := HBS.out.below HC2.out.bel
      have HB2 := Lib.hid hB2
      clear hB2 HC1
      go_wp2_with fail
      refine (c21 HB2.out (by omega) hAb).mono ?_
      rintro e W3 ⟨A3, c3, rfl, hn3, x3, e3⟩
      have hb3 : Below W2.heap.size W2 W3 := by rw [e3]; exact over_below _ _
      have HC3 := Lib.hid (HC2.out.on hb3)
      have HA3 := Lib.hid (HA2.out.below hb3)
      have HN3 := Lib.hid hn3
      clear hn3 e3 x3 hb3 HA2 HB2 HC2
      go_wp2_with fail
      refine (c19 Ai2 Ac2 A3 ci2 cc2 c3 b l W3 HA3.out (HN3.out.mono fun j hj => hj.2) (by omega) (by omega) (by omega)).mono ?_
      rintro e W4 (⟨he, rfl, x4, e4⟩ | ⟨he, A4, c4, rfl, hn4, x4, e4⟩)
      · have hb4 : Below W3.heap.size W3 W4 := by rw [e4]; exact over_below _ _
        have HC4 := Lib.hid (HC3.out.on hb4)
        have HA4 := Lib.hid (HA.out.below HC4.out.bel)
        have HB4 := Lib.hid (HBS.out.below HC4.out.bel)
        have c0 := HC4.out.a0
        have c1 := HC4.out.a1
        have lw := lt_of_cell c0
        clear e4 x4 hb4 HC3 HA3 HN3
        go_wp2_with fail
        refine (c22 Ai Ac ci cc b W4 HA4.out (by omega) (by omega)).mono ?_
        rintro e W5 ⟨rfl, x5, rfl⟩
        have HC5 := Lib.hid (HC4.out.onx (x := x5))
        have HB5 := Lib.hid (HB4.out.below (over_below W4 x5))
        clear c0 c1 lw HA4 HB4 HC4
        generalize over W4 x5 = W5 at *
        by_cases hf : fault b = 0
        · have hE : errOf b l = 2 ∧ badOk l = false := by
            unfold errOf at he ⊢
            rw [if_neg (by omega)] at he ⊢
            cases hb : badOk l
            · exact ⟨rfl, rfl⟩
            · rw [hb] at he; simp at he
          obtain ⟨hE1, hE2⟩ := hE
          rw [hE1, hf]
          clear he hf
          go_wp2_with fail
          refine (c23 HB5.out (by omega)).mono ?_
          rintro e W6 ⟨rfl, x6, rfl⟩
          rw [hE2]
          go_wp2_with fail
          refine (c18 _).mono ?_
          rintro e W7 ⟨rfl, x7, rfl⟩
          go_wp2_with fail
          go_ret
          exact ⟨rfl, below_over (HC5.out.onx.bel)⟩
        · have hE : errOf b l = fault b := by unfold errOf; rw [if_pos hf]
          rw [hE]
          clear he hE
          generalize fault b = f at *
          have e1 : (f == 0) = false := by simp [hf]
          have e2 : (f != 0) = true := by simp [hf]
          clear hf
          go_wp2_with fail
          refine (c18 _).mono ?_
          rintro e W7 ⟨rfl, x7, rfl⟩
          go_wp2_with fail
          go_ret
          exact ⟨rfl, below_over (HC5.out.onx.bel)⟩
      · have hb4 : Below W3.heap.size W3 W4 := by rw [e4]; exact over_below _ _
        have HC4 := Lib.hid (HC3.out.on hb4)
        have HA4 := Lib.hid (HA.out.below HC4.out.bel)
        have HB4 := Lib.hid (HBS.out.below HC4.out.bel)
        have HN4 := Lib.hid (hn4.mono (T := (· < W4.heap.size)) fun j hj => hj.2)
        have c0 := HC4.out.a0
        have c1 := HC4.out.a1
        have lw := lt_of_cell c0
        have hf : fault b = 0 ∧ badOk l = true := by
          unfold errOf at he
          by_cases hf : fault b = 0
          · rw [if_neg (by omega)] at he
            cases hb : badOk l
            · rw [hb] at he; simp at he
            · exact ⟨hf, rfl⟩
          · rw [if_pos hf] at he; exact absurd he hf
        obtain ⟨hf1, hf2⟩ := hf
        clear e4 x4 hb4 HC3 HA3 HN3 hn4 he
        have HF1 := Lib.hid hf1
        rw [hung_eq] at HN4 ⊢
        generalize hL : ((heldL b []).filter fun n => !decide (n ∈ heldL b l) && !decide (n ∈ l)) = L at *
        have HL := Lib.hid hL
        clear hL
        go_wp2_with fail
        refine (c22 Ai Ac ci cc b W4 HA4.out (by omega) (by omega)).mono ?_
        rintro e W5 ⟨rfl, x5, rfl⟩
        rw [hf1]
        clear hf1
        have HC5 := Lib.hid (HC4.out.onx (x := x5))
        have HB5 := Lib.hid (HB4.out.below (over_below W4 x5))
        have HN5 := Lib.hid (HN4.out.below (over_below W4 x5))
        clear c0 c1 lw HA4 HB4 HC4 HN4
        generalize over W4 x5 = W5 at *
        go_wp2_with fail
        refine (c23 HB5.out (by omega)).mono ?_
        rintro e W6 ⟨rfl, x6, rfl⟩
        rw [hf2]
        clear hf2
        have HC6 := Lib.hid (HC5.out.onx (x := x6))
        have HA6 := Lib.hid (HA.out.below HC6.out.bel)
        have HB6 := Lib.hid (HB5.out.below (over_below W5 x6))
        have HN6 := Lib.hid (HN5.out.below (over_below W5 x6))
        clear HC5 HB5 HN5
        generalize over W5 x6 = W6 at *
        have c0 := HC6.out.a0
        have c1 := HC6.out.a1
        have lw := lt_of_cell c0
        go_wp2_with fail
        refine Code.wp_mono (Q := fun e a' w' => e = .normal ∧ ∃ A1 d1 A2 d2, Below W6.heap.size W6 w' ∧ numsAt (· < w'.heap.size) w' A1 (refTo b [] 999) ∧ numsAt (· < w'.heap.size) w' A2 (refTo b l 999) ∧
          a' = { tmps := #[.agg #[.slice Ai b.items.length ci, .slice Ac b.certs.length cc], .slice Ab l.length cb, .pointer (some ⟨w.heap.size, 0, none⟩), undef, .bool false, .slice A4 L.length c4, .int .i64 0, .int .i64 0, .slice none 0 0, .slice A1 (refTo b [] 999).length d1, .slice A2 (refTo b l 999).length d2, undef, .agg #[.slice Ai b.items.length ci, .slice Ac b.certs.length cc], .bool true, .bool false, .bool false, .slice Ab l.length cb, .int .i64 l.length, .bool false, .bool false, undef, .tuple #[.slice A4 L.length c4, .int .i64 0], .agg #[.slice Ai b.items.length ci, .slice Ac b.certs.length cc], .agg #[.slice Ai2 b.items.length ci2, .slice Ac2 b.certs.length cc2], .slice Ab l.length cb, .slice A3 l.length c3, .tuple #[.slice A4 L.length c4, .int .i64 0], .slice A4 L.length c4, .int .i64 0, .agg #[.slice Ai b.items.length ci, .slice Ac b.certs.length cc], .int .i64 0, .int .i64 0, .bool true, .bool true, .slice Ab l.length cb, .bool true, .bool false, .bool false, .int .i64 0, .bool false, undef, undef, undef, undef, undef, undef, undef, undef, undef, undef, undef, .agg #[.slice Ai b.items.length ci, .slice Ac b.certs.length cc], .slice A1 (refTo b [] 999).length d1, .agg #[.slice Ai b.items.length ci, .slice Ac b.certs.length cc], .slice Ab l.length cb, .slice A2 (refTo b l 999).length d2, undef, undef, undef, undef, undef, undef, undef, undef, undef, undef, undef, undef, undef, undef, undef, undef, undef, undef, undef, undef, undef, undef, undef, undef, undef, undef, undef, undef, undef, undef, undef, undef, undef, undef, undef, undef, undef, undef, undef], defers := [] }) ?after ?region
        case region =>
          refine wp_region_held_drew (S := fun w' => Below W6.heap.size W6 w') (by kernel_rfl) (Below.drew (Below.refl _ _)) (fun S0 => ?_)
          have HK := Lib.hid (And.intro c0 (And.intro c1 lw))
          have hld : ∀ W', Below W6.heap.size W6 W' → W'.cell? ⟨w.heap.size, 0, none⟩ = some (.slice Ai b.items.length ci) ∧ W'.cell? ⟨w.heap.size, 1, none⟩ = some (.slice Ac b.certs.length cc) := fun W' h =>
            have k : Keep (· < W6.heap.size) W6 W' := Keep.of_below h fun _ h _ => h
            ⟨k.cell HK.out.1 HK.out.2.2, k.cell HK.out.2.1 HK.out.2.2⟩
          refine wpAnyH_take (i := 0) (v := .agg #[.slice Ai b.items.length ci, .slice Ac b.certs.length cc]) rfl (by kernel_rfl) (by kernel_rfl) (by kernel_rfl) (fun _ _ _ h => by cases h.1) (Or.inl ⟨by rfl, fun w' hw' => ?_⟩) S0 ?_
          · have := hld w' hw'; obtain ⟨g0, g1⟩ := this; go_simp
          simp only [Act.put, List.getElem_toArray, List.getElem_cons_zero, List.getElem_cons_succ, List.setIfInBounds_toArray, List.set_cons_zero, List.set_cons_succ]
          refine wpAnyH_take (i := 2) (v := .agg #[.slice Ai b.items.length ci, .slice Ac b.certs.length cc]) rfl (by kernel_rfl) (by kernel_rfl) (by kernel_rfl) (fun _ _ _ h => by cases h.1) (Or.inl ⟨by rfl, fun w' hw' => ?_⟩) S0 ?_
          · have := hld w' hw'; obtain ⟨g0, g1⟩ := this; go_simp
          simp only [Act.put, List.getElem_toArray, List.getElem_cons_zero, List.getElem_cons_succ, List.setIfInBounds_toArray, List.set_cons_zero, List.set_cons_succ]
          refine wpAnyH_take (i := 3) (v := .slice Ab l.length cb) rfl (by kernel_rfl) (by kernel_rfl) (by kernel_rfl) (fun _ _ _ h => by cases h.1) (Or.inl ⟨by rfl, fun w' hw' => ?_⟩) S0 ?_
          · go_simp
          simp only [Act.put, List.getElem_toArray, List.getElem_cons_zero, List.getElem_cons_succ, List.setIfInBounds_toArray, List.set_cons_zero, List.set_cons_succ]
          have hv := (fault_iff b).1 HF1.out
          have hcs : ∀ (W' : World) (A : Option Addr) (cn : Nat) (m : List Int), Below W6.heap.size W6 W' → numsAt (· < W6.heap.size) W6 A m → m.length ≤ 30 →
              Calls Try.prog 24 #[.agg #[.slice Ai b.items.length ci, .slice Ac b.certs.length cc], .slice A m.length cn] W' (HldTo (refTo b m 999) W') := fun W' A cn m hb' hm hl' =>
            have hA' := HA6.out.below hb'
            c24 Ai Ac A ci cc cn b m W' hA'.1 hA'.2 (hm.below hb') (by omega) (by omega) (by omega) (fun c hc => vb_by hv hc) (fun c hc => vb_day hv hc)
          have HCS := Lib.hid hcs
          clear hcs hld
          refine wpAnyH_ready (rs := [1]) (by kernel_rfl) (by simp) ?_
          refine AllReadyH.cons rfl (fun K hK => ?_) AllReadyH.nil
          · go_simp
            refine (HCS.out _ none 0 [] S0 (fun h => by simp at h) (by simp)).mono ?_
            rintro e V1 ⟨A1, d1, rfl, hn1, x1, e1⟩
            have k1 : Below W6.heap.size W6 V1 := S0.trans (by rw [e1]; exact (over_below _ _).mono S0.size)
            have n1 : numsAt (· < V1.heap.size) V1 A1 (refTo b [] 999) := hn1.mono fun j hj => hj.2
            clear hn1 e1 x1
            refine hK.out _ _ k1 (fun _ => ?_)
            refine wpAnyH_ready (rs := [4]) (by kernel_rfl) (by simp) ?_
            refine AllReadyH.cons rfl (fun K2 hK2 => ?_) AllReadyH.nil
            go_simp
            refine (HCS.out V1 Ab cb l k1 HB6.out (by omega)).mono ?_
            rintro e V2 ⟨A2, d2, rfl, hn2, x2, e2⟩
            have hb2 : Below V1.heap.size V1 V2 := by rw [e2]; exact over_below _ _
            have k2 : Below W6.heap.size W6 V2 := k1.trans (hb2.mono k1.size)
            refine hK2.out _ _ k2 (fun _ => ?_)
            have hfin : numsAt (· < V2.heap.size) V2 A1 (refTo b [] 999) ∧ numsAt (· < V2.heap.size) V2 A2 (refTo b l 999) := ⟨n1.below hb2, hn2.mono fun j hj => hj.2⟩
            clear n1 hn2 e2 x2 hb2
            refine wpAnyH_take (i := 5) (v := .slice A1 (refTo b [] 999).length d1) rfl (by kernel_rfl) (by kernel_rfl) (by kernel_rfl) (fun _ _ _ h => by cases h.1) (Or.inl ⟨by rfl, fun w' hw' => by go_simp⟩) k2 ?_
            simp only [Act.put, List.getElem_toArray, List.getElem_cons_zero, List.getElem_cons_succ, List.setIfInBounds_toArray, List.set_cons_zero, List.set_cons_succ]
            refine wpAnyH_take (i := 6) (v := .slice A2 (refTo b l 999).length d2) rfl (by kernel_rfl) (by kernel_rfl) (by kernel_rfl) (fun _ _ _ h => by cases h.1) (Or.inl ⟨by rfl, fun w' hw' => by go_simp⟩) k2 ?_
            simp only [Act.put, List.getElem_toArray, List.getElem_cons_zero, List.getElem_cons_succ, List.setIfInBounds_toArray, List.set_cons_zero, List.set_cons_succ]
            refine wpAnyH_done (by kernel_rfl) ?_ _
            exact ⟨rfl, A1, d1, A2, d2, k2, hfin.1, hfin.2, rfl⟩
        case after =>
          rintro e a' W7 ⟨rfl, A1, d1, A2, d2, hb7, n1, n2, rfl⟩
          have hv := (fault_iff b).1 HF1.out
          have r1 := refTo_length b [] 999
          have r2 := refTo_length b l 999
          rw [refTo_all hv] at n1 n2 r1 r2
          rw [refTo_all hv, refTo_all hv]
          have HC7 := Lib.hid (HC6.out.on hb7)
          have HB7 := Lib.hid (HB6.out.below hb7)
          have HN7 := Lib.hid (HN6.out.below hb7)
          have HN1 := Lib.hid n1
          have HN2 := Lib.hid n2
          clear hb7 n1 n2 HC6 HB6 HN6 HA6 c0 c1 lw hv HF1
          generalize heldL b [] = L1 at *
          generalize heldL b l = L2 at *
          go_wp2_with fail
          go_loopw [8, 11] (fun s t wr => ∃ (i : Nat) (A : Option Addr) (c : Nat), i ≤ L1.length ∧ t = .int .i64 i ∧ s = .slice A (outL L1 L2 l i).length c ∧ wr.ownsRow W7.heap.size 3 1 (.slice A (outL L1 L2 l i).length c) (outL L1 L2 l i).length ((outL L1 L2 l i).map (Value.int .i64)) ∧ Below W7.heap.size W7 wr) (fun _ t _ => L1.length - (intOf t).toNat)
          case atStart => exact ⟨0, none, 0, Nat.zero_le _, rfl, rfl, World.ownsRow_nil _ _ _ _, Below.refl _ _⟩
          case round =>
            obtain ⟨i, A, c, hi, rfl, rfl, hown, hbel⟩ := hrel
            have HO := Lib.hid hown
            have HBE := Lib.hid hbel
            have m1 := HN1.out.below hbel
            have m2 := HN2.out.below hbel
            have m3 := HB7.out.below hbel
            clear hown hbel
            by_cases hlt : i < L1.length
            · obtain ⟨q, hq⟩ : ∃ q, L1[i]? = some q := ⟨L1[i], by simp [hlt]⟩
              obtain ⟨An, Ao, eA, hSA, hns⟩ := m1 (by omega)
              have hcell := hns i q hq
              have hix := fun c => @idx26 A1 An Ao L1.length c eA i hlt
              have hc1 := c25 (cn := d2) q m2 (by omega)
              have hc2 := c25 (cn := cb) q m3 (by omega)
              have HQ := Lib.hid hq
              have hsucc := outL_succ L1 L2 l i q hq
              have HS := Lib.hid hsucc
              have HC1 := Lib.hid hc1
              have HC2 := Lib.hid hc2
              have lc := lt_of_cell hcell
              clear hq eA hns hc1 hc2 hsucc m1 m2 m3
              go_wp2_with fail
              refine HC1.out.mono ?_
              rintro e w8 ⟨rfl, rfl⟩
              cases hq2 : decide (q ∈ L2)
              · cases hq3 : decide (q ∈ l)
                · have HM : Hid (outL L1 L2 l (i + 1) = outL L1 L2 l i ++ [q]) := Lib.hid (by rw [HS.out, hq2, hq3]; rfl)
                  rw [hq3] at HC2
                  clear hq2 hq3
                  have hol := outL_length L1 L2 l i
                  go_wp2_with fail
                  refine HC2.out.mono ?_
                  rintro e w9 ⟨rfl, rfl⟩
                  obtain ⟨i0, hi0, hz0, hz1, hz2⟩ := info3o
                  have HI0 := Lib.hid (And.intro hi0 (And.intro hz0 (And.intro hz1 hz2)))
                  clear hi0 hz0 hz1 hz2
                  have hsz := HBE.out.size
                  go_wp2_with (at_builtin; refine wpList_append_own _ rfl _ _ 26 rfl W7.heap.size 3 i0 (.int .i64 0) 1 8 und26 HI0.out.1 HI0.out.2.1 HI0.out.2.2.1 HI0.out.2.2.2 rfl (by decide) (.slice A (outL L1 L2 l i).length c) (outL L1 L2 l i).length _ rfl (HO.out.alloc _) ⟨w9.heap.size, 0, none⟩ 1 1 [.int .i64 q] rfl rfl (cell_one_new _ _ _) ?one ?h63 ?hb ?base ?_)
                  case one => intro u hu; simp at hu; rw [hu]; rfl
                  case h63 => simp only [maxLen]; omega
                  case hb => omega
                  case base => simp; omega
                  intro v' w1 hown hgr _
                  obtain ⟨A', c', e⟩ : ∃ A' c', v' = .slice A' ((outL L1 L2 l i).length + 1) c' := by
                    rcases hown.2 with ⟨h1, h2⟩ | ⟨g, cap, cur, h1, _⟩
                    · omega
                    · exact ⟨_, _, h1⟩
                  subst e
                  have hb1 : Below W7.heap.size W7 w1 := (HBE.out.alloc HBE.out.size _).grown hgr (by simp; omega) (fun k hk => (HO.out.lt _ hk).1)
                  have HB1 := Lib.hid hb1
                  have HO1 := Lib.hid hown
                  clear hown hgr hb1
                  go_wp2_with fail
                  go_roundw
                  case rel => exact ⟨i + 1, A', c', by omega, by go_num, by rw [HM.out]; simp, by rw [HM.out]; simpa using HO1.out, HB1.out⟩
                  case measure => simp [intOf]; omega
                · have HM : Hid (outL L1 L2 l (i + 1) = outL L1 L2 l i) := Lib.hid (by rw [HS.out, hq2, hq3]; rfl)
                  rw [hq3] at HC2
                  clear hq2 hq3
                  go_wp2_with fail
                  refine HC2.out.mono ?_
                  rintro e w9 ⟨rfl, rfl⟩
                  go_wp2_with fail
                  go_roundw
                  case rel => exact ⟨i + 1, A, c, by omega, by go_num, by rw [HM.out], by rw [HM.out]; exact HO.out, HBE.out⟩
                  case measure => simp [intOf]; omega
              · have HM : Hid (outL L1 L2 l (i + 1) = outL L1 L2 l i) := Lib.hid (by rw [HS.out, hq2]; rfl)
                clear hq2
                go_wp2_with fail
                go_roundw
                case rel => exact ⟨i + 1, A, c, by omega, by go_num, by rw [HM.out], by rw [HM.out]; exact HO.out, HBE.out⟩
                case measure => simp [intOf]; omega
            · have hie : outL L1 L2 l i = L := by
                unfold outL
                rw [List.take_of_length_le (by omega)]
                exact HL.out
              rw [hie] at HO ⊢
              have hol : L.length ≤ L1.length := by rw [← hie]; exact outL_length L1 L2 l i
              have hc26 := c26 (ca := c4) (cb := c) (HN7.out.below HBE.out) (nums_of_own HO.out) (by omega) (by omega)
              rw [decide_eq_true (rfl : L = L)] at hc26
              have HC26 := Lib.hid hc26
              clear hc26 m1 m2 m3 hie
              go_wp2_with fail
              refine HC26.out.mono ?_
              rintro e w8 ⟨rfl, nd, rfl⟩
              go_wp2_with fail
              refine (c18 _).mono ?_
              rintro e w9 ⟨rfl, y, rfl⟩
              go_wp2_with fail
              go_ret
              refine ⟨rfl, below_over ?_⟩
              have hb := (below_drewN' HBE.out nd).trans ((over_below _ y).mono (by show W7.heap.size ≤ wr.heap.size; exact HBE.out.size))
              exact HC7.out.bel.trans (hb.mono HC7.out.bel.size)
    · go_wp2_with fail
      refine (c18 _).mono ?_
      rintro e w2 ⟨rfl, y, rfl⟩
      go_wp2_with fail
      go_ret
      exact ⟨rfl, below_over (HC1.out.onx.bel)⟩
  · rw [Bool.not_eq_true] at hth
    rw [hth]
    go_wp2_with fail
    refine (c18 _).mono ?_
    rintro e w2 ⟨rfl, y, rfl⟩
    go_wp2_with fail
    go_ret
    exact ⟨rfl, below_over (HC1.out.onx.bel)⟩
end Go.Proofs.Ytmcnpfjichbijaa

