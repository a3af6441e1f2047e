/- ChainSpans, walked. -/
import Derived.Test.YtmcnpfjichbijaaL15
set_option linter.unusedSimpArgs false
set_option linter.unusedVariables false
namespace Go.Proofs.Ytmcnpfjichbijaa
open Go Go.Proofs Go.RowKit Go.Shelf


/-- Two cells of a range at a box. -/
structure RgS (g : Nat) (r : Rng) (W : World) : Prop where
  c0 : W.cell? ⟨g, 0, none⟩ = some (.int .i64 r.lo)
  c1 : W.cell? ⟨g, 1, none⟩ = some (.int .i64 r.hi)
theorem RgS.on {g : Nat} {r : Rng} {W W' : World} (h : RgS g r W) (hb : Below W.heap.size W W') : RgS g r W' := ⟨cell_on hb h.c0, cell_on hb h.c1⟩

set_option maxRecDepth 100000 in
set_option maxHeartbeats 4000000 in
theorem c4 (Ai Ac : Option Addr) (ci cc : Nat) (b : Bk) (it dy : Int) (w : World) (hA : bookAt (· < w.heap.size) w Ai Ac b)
    (h1 : b.items.length ≤ 9223372036854775807) (h2 : b.certs.length ≤ 9223372036854775807) :
    Calls Try.prog 4 #[.agg #[.slice Ai b.items.length ci, .slice Ac b.certs.length cc], .int .i64 it, .int .i64 dy] w fun e w' => e = .returned (.bool true) ∧ ∃ x, w' = over w x := by
  have HA := Lib.hid hA
  clear hA
  go_enter Try.func4, Try.ntmps4
  go_wp2_with fail
  have hCl : Cl w (.slice Ai b.items.length ci) (.slice Ac b.certs.length cc) (w.alloc (.cells #[.slice Ai b.items.length ci, .slice Ac b.certs.length cc] 25)) := ⟨by repeat' (first | exact Below.refl _ _ | (refine below_ov ?_ ?_) | (refine Below.alloc ?_ ?_ _) | (refine below_drewN' ?_ _) | (refine Below.drew ?_) | (refine below_set ?_ _ _ ?_) | (simp; done) | (simp; omega) | omega), by simp [go_sem], by simp [go_sem]⟩
  refine (c17 Ai Ac ci cc b.items.length b.certs.length _ h1 h2).mono ?_
  rintro e W1 ⟨rfl, x, rfl⟩
  have HC1 := Lib.hid (hCl.onx (x := x))
  clear hCl
  generalize over _ x = W1 at *
  have c0 := HC1.out.a0
  have c1 := HC1.out.a1
  have lw := lt_of_cell c0
  by_cases hth : (decide (b.items.length ≤ 10) && decide (b.certs.length ≤ 28)) = true
  · rw [hth]
    simp at hth
    go_wp2_with fail
    refine (c20 Ai Ac ci cc b W1 (HA.out.below HC1.out.bel) (by omega) (by omega)).mono ?_
    rintro e W2 ⟨Ai2, ci2, Ac2, cc2, rfl, hA2, x2, rfl⟩
    have HC2 := Lib.hid (HC1.out.onx (x := x2))
    have HA2 := Lib.hid hA2
    clear hA2 HC1 c0 c1 lw
    generalize over W1 x2 = W2 at *
    have c0 := HC2.out.a0
    have c1 := HC2.out.a1
    have lw := lt_of_cell c0
    go_wp2_with fail
    refine (c27 Ai2 Ac2 ci2 cc2 b it dy W2 HA2.out (by omega) (by omega)).mono ?_
    rintro e W3 ⟨rfl, x3, rfl⟩
    have HC3 := Lib.hid (HC2.out.onx (x := x3))
    clear HC2 HA2 c0 c1 lw
    generalize over W2 x3 = W3 at *
    have c0 := HC3.out.a0
    have c1 := HC3.out.a1
    have lw := lt_of_cell c0
    unfold rngV
    go_wp2_with fail
    have hb4 : Below W3.heap.size W3 (W3.alloc (.cells #[.int .i64 (spanRes b it dy).lo, .int .i64 (spanRes b it dy).hi] 45)) := (Below.refl _ _).alloc (Nat.le_refl _) _
    have HC4 := Lib.hid (HC3.out.on hb4)
    have HR4 := Lib.hid (show RgS W3.heap.size (spanRes b it dy) (W3.alloc (.cells #[.int .i64 (spanRes b it dy).lo, .int .i64 (spanRes b it dy).hi] 45)) from ⟨by simp [go_sem], by simp [go_sem]⟩)
    clear hb4 HC3 c0 c1 lw
    generalize hR : W3.heap.size = R at *
    generalize World.alloc W3 _ = W4 at *
    clear hR W3
    refine (c28 Ai Ac ci cc b it dy W4 (HA.out.below HC4.out.bel) (by omega) (by omega)).mono ?_
    rintro e W5 ⟨rfl, x5, rfl⟩
    have HC5 := Lib.hid (HC4.out.onx (x := x5))
    have HR5 := Lib.hid (HR4.out.on (over_below W4 x5))
    clear HC4 HR4
    generalize over W4 x5 = W5 at *
    have c0 := HC5.out.a0
    have c1 := HC5.out.a1
    have lw := lt_of_cell c0
    have r0 := HR5.out.c0
    have r1 := HR5.out.c1
    have lr := lt_of_cell r0
    by_cases h0 : askErr b it dy = 0
    · have hr := askErr_reach h0
      have HV := Lib.hid hr.1
      have g1 := hr.2.1
      have g2 := hr.2.2.1
      have g3 := hr.2.2.2.1
      have g4 := hr.2.2.2.2.1
      have hil := hr.1.il
      have hcl := hr.1.cl
      have H0 := Lib.hid h0
      rw [h0]
      clear hr h0
      go_wp2_with fail
      refine (c29 Ai Ac ci cc b W5 (HA.out.below HC5.out.bel) HV.out).mono ?_
      rintro e W6 ⟨rfl, x6, rfl⟩
      have HC6 := Lib.hid (HC5.out.onx (x := x6))
      have HR6 := Lib.hid (HR5.out.on (over_below W5 x6))
      clear HC5 HR5 c0 c1 lw r0 r1 lr
      generalize over W5 x6 = W6 at *
      have c0 := HC6.out.a0
      have c1 := HC6.out.a1
      have lw := lt_of_cell c0
      cases hcn : contra b
      · have he := spanErr_ok H0.out hcn
        have hv : spanRes b it dy = spanAt b it dy := by unfold spanRes; rw [if_pos he]
        have hrs : refSpan b (held0 b) (spansOf b) it dy 1000 = spanRes b it dy := by rw [refSpan_eq HV.out, hv]; rfl
        rw [he]
        clear hv he hcn
        generalize spanRes b it dy = sr at *
        have HRS := Lib.hid hrs
        have hnl : (numsOf b).length ≤ 24 := by rw [numsOf_length]; exact Nat.le_trans (firsts_length _) hcl
        have HIN := Lib.hid (spansOf_in HV.out hnl)
        have hLl := heldL_len b
        clear hrs hnl
        go_wp2_with fail
        refine region_cut (fun l W' => ∃ g G, l = [(46, .agg #[.slice Ai b.items.length ci, .slice Ac b.certs.length cc]), (47, .agg #[.slice Ai b.items.length ci, .slice Ac b.certs.length cc]), (49, .int .i64 it), (50, .int .i64 dy), (48, .pointer (some ⟨G, 0, none⟩)), (51, .agg #[.int .i64 sr.lo, .int .i64 sr.hi]), (10, .pointer (some ⟨g, 0, none⟩))] ∧ RgS g sr W' ∧ Below W6.heap.size W6 W') ?region ?after
        case region =>
          have hcell : ∀ W', Below W6.heap.size W6 W' → W'.cell? ⟨w.heap.size, 0, none⟩ = some (.slice Ai b.items.length ci) ∧ W'.cell? ⟨w.heap.size, 1, none⟩ = some (.slice Ac b.certs.length cc) := fun W' h => ⟨cell_on h HC6.out.a0, cell_on h HC6.out.a1⟩
          have h31 : ∀ W', Below W6.heap.size W6 W' → Calls Try.prog 31 #[.agg #[.slice Ai b.items.length ci, .slice Ac b.certs.length cc]] W' (WorkTo b W') := fun W' h => c31 Ai Ac ci cc b W' (HA.out.below (HC6.out.on h).bel) HV.out
          have h30 : ∀ W' G A c, Below W6.heap.size W6 W' → SpsAt (· < W'.heap.size) W' G A c (heldL b []) (spansOf b) → Calls Try.prog 30 #[.agg #[.slice Ai b.items.length ci, .slice Ac b.certs.length cc], .pointer (some ⟨G, 0, none⟩), .int .i64 it, .int .i64 dy, .int .i64 1000] W' fun e w' => e = .returned (.agg #[.int .i64 sr.lo, .int .i64 sr.hi]) ∧ ∃ x, w' = over W' x := fun W' G A c h hS => by
            have := c30 Ai Ac A ci cc c G b (heldL b []) (spansOf b) it dy 1000 W' (HA.out.below (HC6.out.on h).bel) HV.out hS (by omega) g1 g2 g3 g4 HIN.out
            have hdec : (fun n => decide (n ∈ heldL b [])) = held0 b := by
              funext m
              rw [Bool.eq_iff_iff, decide_eq_true_eq, mem_heldL0]
            rw [hdec, HRS.out] at this
            exact this
          have HCE := Lib.hid hcell
          have H31 := Lib.hid h31
          have H30 := Lib.hid h30
          clear hcell h31 h30 c0 c1
          refine wp_region_held_drew (S := fun w' => Below W6.heap.size W6 w') (by kernel_rfl) (Below.drew (Below.refl _ _)) (fun S0 => ?_)
          refine wpAnyH_take (i := 0) (v := .agg #[.slice Ai b.items.length ci, .slice Ac b.certs.length cc]) rfl (by kernel_rfl) (by kernel_rfl) (by kernel_rfl) (fun _ _ _ h => h) (Or.inl ⟨by rfl, fun w' hw' => ?_⟩) S0 ?_
          · obtain ⟨e0, e1⟩ := HCE.out w' hw'; go_simp
          simp only [Act.put, List.getElem_toArray, List.getElem_cons_zero, List.getElem_cons_succ, List.setIfInBounds_toArray, List.set_cons_zero, List.set_cons_succ]
          refine wpAnyH_take (i := 1) (v := .agg #[.slice Ai b.items.length ci, .slice Ac b.certs.length cc]) rfl (by kernel_rfl) (by kernel_rfl) (by kernel_rfl) (fun _ _ _ h => h) (Or.inl ⟨by rfl, fun w' hw' => ?_⟩) S0 ?_
          · obtain ⟨e0, e1⟩ := HCE.out w' hw'; go_simp
          simp only [Act.put, List.getElem_toArray, List.getElem_cons_zero, List.getElem_cons_succ, List.setIfInBounds_toArray, List.set_cons_zero, List.set_cons_succ]
          refine wpAnyH_take (i := 3) (v := .int .i64 it) rfl (by kernel_rfl) (by kernel_rfl) (by kernel_rfl) (fun _ _ _ h => h) (Or.inl ⟨by rfl, fun w' hw' => ?_⟩) S0 ?_
          · go_simp
          simp only [Act.put, List.getElem_toArray, List.getElem_cons_zero, List.getElem_cons_succ, List.setIfInBounds_toArray, List.set_cons_zero, List.set_cons_succ]
          refine wpAnyH_take (i := 4) (v := .int .i64 dy) rfl (by kernel_rfl) (by kernel_rfl) (by kernel_rfl) (fun _ _ _ h => h) (Or.inl ⟨by rfl, fun w' hw' => ?_⟩) S0 ?_
          · go_simp
          simp only [Act.put, List.getElem_toArray, List.getElem_cons_zero, List.getElem_cons_succ, List.setIfInBounds_toArray, List.set_cons_zero, List.set_cons_succ]
          refine wpAnyH_ready (rs := [2, 6]) (by kernel_rfl) (by simp) ?_
          refine AllReadyH.cons rfl (fun K hK => ?_) (AllReadyH.cons rfl (fun K hK => ?_) AllReadyH.nil)
          · go_simp
            refine Calls.mono (f := 31) (H31.out _ S0) ?_
            rintro e V1 ⟨G, A, c, rfl, hS, x1, hx1⟩
            have b1 : Below W6.heap.size W6 V1 := S0.trans (by rw [hx1]; exact (over_below _ _).mono S0.size)
            replace hS := hS.mono (T := (· < V1.heap.size)) fun j hj => hj.2
            have HSS := Lib.hid hS
            clear hx1 hS
            refine hK.out _ _ b1 (fun _ => ?_)
            refine wpAnyH_ready (rs := [5, 6]) (by kernel_rfl) (by simp) ?_
            refine AllReadyH.cons rfl (fun K2 hK2 => ?_) (AllReadyH.cons rfl (fun K2 hK2 => ?_) AllReadyH.nil)
            · go_simp
              refine Calls.mono (f := 30) (H30.out _ G A c b1 HSS.out) ?_
              rintro e V2 ⟨rfl, x2, rfl⟩
              have b2 : Below W6.heap.size W6 (over V1 x2) := b1.trans ((over_below _ _).mono b1.size)
              clear HSS
              generalize over V1 x2 = V2 at *
              refine hK2.out _ _ b2 (fun _ => ?_)
              refine wpAnyH_ready (rs := [6]) (by kernel_rfl) (by simp) ?_
              refine AllReadyH.cons rfl (fun K3 hK3 => ?_) AllReadyH.nil
              go_simp
              have b3 := b2.alloc b2.size (.cells #[.int .i64 0, .int .i64 0] 49)
              refine hK3.out _ _ b3 (fun _ => ?_)
              refine wpAnyH_ready (rs := [7]) (by kernel_rfl) (by simp) ?_
              refine AllReadyH.cons rfl (fun K4 hK4 => ?_) AllReadyH.nil
              go_simp
              have b4 := b2.alloc b2.size (.cells #[.int .i64 sr.lo, .int .i64 sr.hi] 49)
              refine hK4.out _ _ b4 (fun _ => ?_)
              refine wpAnyH_done (by kernel_rfl) ?_ _
              exact ⟨_, ⟨_, G, rfl, ⟨by simp [go_sem], by simp [go_sem]⟩, b4⟩, rfl⟩
            · go_simp
              have b2 := b1.alloc b1.size (.cells #[.int .i64 0, .int .i64 0] 49)
              have hal : Below V1.heap.size V1 (V1.alloc (.cells #[.int .i64 0, .int .i64 0] 49)) := (Below.refl _ _).alloc (Nat.le_refl _) _
              have HS2 := Lib.hid (HSS.out.on hal)
              have z0 : (V1.alloc (.cells #[.int .i64 0, .int .i64 0] 49)).cell? ⟨V1.heap.size, 0, none⟩ = some (.int .i64 0) := by simp [go_sem]
              have z1 : (V1.alloc (.cells #[.int .i64 0, .int .i64 0] 49)).cell? ⟨V1.heap.size, 1, none⟩ = some (.int .i64 0) := by simp [go_sem]
              have zf0 : (V1.alloc (.cells #[.int .i64 0, .int .i64 0] 49)).frozen? ⟨V1.heap.size, 0, none⟩ = false := by simp [go_sem]
              have zf1 : (V1.alloc (.cells #[.int .i64 0, .int .i64 0] 49)).frozen? ⟨V1.heap.size, 1, none⟩ = false := by simp [go_sem]
              have hsz : V1.heap.size < (V1.alloc (.cells #[.int .i64 0, .int .i64 0] 49)).heap.size := by simp
              have hW6 := b1.size
              clear hal HSS
              refine hK2.out _ _ b2 (fun _ => ?_)
              clear hK2
              generalize V1.alloc (.cells #[.int .i64 0, .int .i64 0] 49) = V2 at *
              generalize V1.heap.size = Y at *
              refine wpAnyH_ready (rs := [5]) (by kernel_rfl) (by simp) ?_
              refine AllReadyH.cons rfl (fun K3 hK3 => ?_) AllReadyH.nil
              go_simp
              refine Calls.mono (f := 30) (H30.out _ G A c b2 HS2.out) ?_
              rintro e V3 ⟨rfl, x2, rfl⟩
              have b3 : Below W6.heap.size W6 (over V2 x2) := b2.trans ((over_below _ _).mono b2.size)
              replace z0 := cell_ov (x := x2) z0
              replace z1 := cell_ov (x := x2) z1
              replace zf0 : (over V2 x2).frozen? ⟨Y, 0, none⟩ = false := by rw [over_frozen _ _ _ _ hsz]; exact zf0
              replace zf1 : (over V2 x2).frozen? ⟨Y, 1, none⟩ = false := by rw [over_frozen _ _ _ _ hsz]; exact zf1
              refine hK3.out _ _ b3 (fun _ => ?_)
              clear hK3 HS2
              generalize over V2 x2 = V3 at *
              refine wpAnyH_ready (rs := [7]) (by kernel_rfl) (by simp) ?_
              refine AllReadyH.cons rfl (fun K4 hK4 => ?_) AllReadyH.nil
              go_simp
              have b4 : Below W6.heap.size W6 ((V3.setCell ⟨Y, 0, none⟩ (.int .i64 sr.lo)).setCell ⟨Y, 1, none⟩ (.int .i64 sr.hi)) := below_set (below_set b3 _ _ (by simp; omega)) _ _ (by simp; omega)
              refine hK4.out _ _ b4 (fun _ => ?_)
              refine wpAnyH_done (by kernel_rfl) ?_ _
              exact ⟨_, ⟨_, G, rfl, ⟨by rw [World.cell?_setCell_other _ _ _ _ (by simp)]; exact World.cell?_setCell_same' _ _ _ (by rw [z0]; rfl), World.cell?_setCell_same' _ _ _ (by rw [World.cell?_setCell_other _ _ _ _ (by simp), z1]; rfl)⟩, b4⟩, rfl⟩
          · go_simp
            have b2 : Below W6.heap.size W6 (W6.alloc (.cells #[.int .i64 0, .int .i64 0] 49)).drew := Below.drew ((Below.refl _ _).alloc (Nat.le_refl _) _)
            have z0 : (W6.alloc (.cells #[.int .i64 0, .int .i64 0] 49)).drew.cell? ⟨W6.heap.size, 0, none⟩ = some (.int .i64 0) := by simp [go_sem]
            have z1 : (W6.alloc (.cells #[.int .i64 0, .int .i64 0] 49)).drew.cell? ⟨W6.heap.size, 1, none⟩ = some (.int .i64 0) := by simp [go_sem]
            have zf0 : (W6.alloc (.cells #[.int .i64 0, .int .i64 0] 49)).drew.frozen? ⟨W6.heap.size, 0, none⟩ = false := by simp [go_sem]
            have zf1 : (W6.alloc (.cells #[.int .i64 0, .int .i64 0] 49)).drew.frozen? ⟨W6.heap.size, 1, none⟩ = false := by simp [go_sem]
            have hsz : W6.heap.size < (W6.alloc (.cells #[.int .i64 0, .int .i64 0] 49)).drew.heap.size := by simp
            refine hK.out _ _ b2 (fun _ => ?_)
            clear hK
            generalize (W6.alloc (.cells #[.int .i64 0, .int .i64 0] 49)).drew = V2 at *
            refine wpAnyH_ready (rs := [2]) (by kernel_rfl) (by simp) ?_
            refine AllReadyH.cons rfl (fun K2 hK2 => ?_) AllReadyH.nil
            go_simp
            refine Calls.mono (f := 31) (H31.out _ b2) ?_
            rintro e V1 ⟨G, A, c, rfl, hS, x1, hx1⟩
            have hb1 : Below V2.heap.size V2 V1 := by rw [hx1]; exact over_below _ _
            have b1 : Below W6.heap.size W6 V1 := b2.trans (hb1.mono b2.size)
            replace hS := hS.mono (T := (· < V1.heap.size)) fun j hj => hj.2
            have HSS := Lib.hid hS
            replace z0 := cell_on hb1 z0
            replace z1 := cell_on hb1 z1
            replace zf0 : V1.frozen? ⟨W6.heap.size, 0, none⟩ = false := by rw [World.frozen?_of_block (w := V2) (hb1.block _ hsz)]; exact zf0
            replace zf1 : V1.frozen? ⟨W6.heap.size, 1, none⟩ = false := by rw [World.frozen?_of_block (w := V2) (hb1.block _ hsz)]; exact zf1
            replace hsz := lt_of_cell z0
            clear hx1 hS hb1
            refine hK2.out _ _ b1 (fun _ => ?_)
            clear hK2
            refine wpAnyH_ready (rs := [5]) (by kernel_rfl) (by simp) ?_
            refine AllReadyH.cons rfl (fun K3 hK3 => ?_) AllReadyH.nil
            go_simp
            refine Calls.mono (f := 30) (H30.out _ G A c b1 HSS.out) ?_
            rintro e V3 ⟨rfl, x2, rfl⟩
            have b3 : Below W6.heap.size W6 (over V1 x2) := b1.trans ((over_below _ _).mono b1.size)
            replace z0 := cell_ov (x := x2) z0
            replace z1 := cell_ov (x := x2) z1
            replace zf0 : (over V1 x2).frozen? ⟨W6.heap.size, 0, none⟩ = false := by rw [over_frozen _ _ _ _ hsz]; exact zf0
            replace zf1 : (over V1 x2).frozen? ⟨W6.heap.size, 1, none⟩ = false := by rw [over_frozen _ _ _ _ hsz]; exact zf1
            refine hK3.out _ _ b3 (fun _ => ?_)
            clear hK3 HSS
            generalize over V1 x2 = V3 at *
            refine wpAnyH_ready (rs := [7]) (by kernel_rfl) (by simp) ?_
            refine AllReadyH.cons rfl (fun K4 hK4 => ?_) AllReadyH.nil
            go_simp
            have b4 : Below W6.heap.size W6 ((V3.setCell ⟨W6.heap.size, 0, none⟩ (.int .i64 sr.lo)).setCell ⟨W6.heap.size, 1, none⟩ (.int .i64 sr.hi)) := below_set (below_set b3 _ _ (by simp)) _ _ (by simp)
            refine hK4.out _ _ b4 (fun _ => ?_)
            refine wpAnyH_done (by kernel_rfl) ?_ _
            exact ⟨_, ⟨_, G, rfl, ⟨by rw [World.cell?_setCell_other _ _ _ _ (by simp)]; exact World.cell?_setCell_same' _ _ _ (by rw [z0]; rfl), World.cell?_setCell_same' _ _ _ (by rw [World.cell?_setCell_other _ _ _ _ (by simp), z1]; rfl)⟩, b4⟩, rfl⟩
        case after =>
          rintro l W7 ⟨g, G, rfl, hR7, hb7⟩
          have HC7 := Lib.hid (HC6.out.on hb7)
          have HR7 := Lib.hid (HR6.out.on hb7)
          have r0 := HR7.out.c0
          have r1 := HR7.out.c1
          have t0 := hR7.c0
          have t1 := hR7.c1
          have lr := lt_of_cell r0
          have lt := lt_of_cell t0
          clear hb7 hR7 HC6 HR6 c0 c1 lw
          simp only [outFrame, List.foldl_cons, List.foldl_nil, Act.put, List.setIfInBounds_toArray, List.set_cons_zero, List.set_cons_succ]
          go_wp2_with fail
          refine (c18 _).mono ?_
          rintro e w2 ⟨rfl, y, rfl⟩
          go_wp2_with fail
          go_ret
          exact ⟨rfl, below_over (HC7.out.onx.bel)⟩
      · have he := spanErr_contra H0.out hcn
        have hsz := spanRes_err (show spanErr b it dy ≠ 0 by rw [he]; decide)
        rw [hsz] at HR6
        have r0 := HR6.out.c0
        have r1 := HR6.out.c1
        have lr := lt_of_cell r0
        rw [he]
        clear he hcn hsz
        go_wp2_with fail
        refine (c18 _).mono ?_
        rintro e w2 ⟨rfl, y, rfl⟩
        go_wp2_with fail
        go_ret
        exact ⟨rfl, below_over (HC6.out.onx.bel)⟩
    · have he := spanErr_ask h0
      clear r0 r1
      have hsz := spanRes_err (show spanErr b it dy ≠ 0 by rw [he]; exact h0)
      rw [hsz] at HR5
      have r0 := HR5.out.c0
      have r1 := HR5.out.c1
      have hz : (askErr b it dy == 0) = false := beq_eq_false_iff_ne.2 h0
      have hz2 : (askErr b it dy != 0) = true := by simp [h0]
      rw [he]
      clear he hsz
      generalize askErr b it dy = g at *
      clear h0
      go_wp2_with fail
      refine (c18 _).mono ?_
      rintro e w2 ⟨rfl, y, rfl⟩
      go_wp2_with fail
      go_ret
      exact ⟨rfl, below_over (HC5.out.onx.bel)⟩
  · rw [Bool.not_eq_true] at hth
    rw [hth]
    go_wp2_with fail
    refine (c18 _).mono ?_
    rintro e w2 ⟨rfl, y, rfl⟩
    go_wp2_with fail
    go_ret
    exact ⟨rfl, below_over (HC1.out.onx.bel)⟩
end Go.Proofs.Ytmcnpfjichbijaa

