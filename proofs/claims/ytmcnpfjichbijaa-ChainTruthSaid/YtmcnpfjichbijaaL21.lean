/- The reference's Without. -/
import Derived.Test.YtmcnpfjichbijaaL18
set_option linter.unusedSimpArgs false
set_option linter.unusedVariables false
namespace Go.Proofs.Ytmcnpfjichbijaa
open Go Go.Proofs Go.RowKit Go.Shelf


/-- What Without leaves. -/
def WoTo (Ai : Option Addr) (ci : Nat) (b : Bk) (n : Int) (w : World) (e : Ending) (w' : World) : Prop :=
  ∃ A c, e = .returned (.agg #[.slice Ai b.items.length ci, .slice A (dropC b n).certs.length c]) ∧ certsAt (· < w'.heap.size) w' A (dropC b n).certs ∧ ∃ x, w' = over w x

theorem filter_snoc_ne {l : List Crt} {i : Nat} {q : Crt} {n : Int} (h : l[i]? = some q) : (l.take (i + 1)).filter (fun c => c.num != n) = if (q.num != n) = true then (l.take i).filter (fun c => c.num != n) ++ [q] else (l.take i).filter (fun c => c.num != n) := by
  rw [List.take_add_one, h, List.filter_append]
  by_cases hh : (q.num != n) = true
  · rw [if_pos hh]; simp [hh]
  · rw [if_neg hh]; simp [hh]

set_option maxRecDepth 100000 in
set_option maxHeartbeats 4000000 in
theorem c42 (Ai Ac : Option Addr) (ci cc : Nat) (b : Bk) (n : Int) (w : World) (hA : certsAt (· < w.heap.size) w Ac b.certs) (hl2 : b.certs.length ≤ 1000) :
    Calls Try.prog 42 #[.agg #[.slice Ai b.items.length ci, .slice Ac b.certs.length cc], .int .i64 n] w (WoTo Ai ci b n w) := by
  have HA := Lib.hid hA
  clear hA
  go_enter Try.func42, Try.ntmps42
  go_wp2_with fail
  have hb : Below w.heap.size w (((w.alloc (.cells #[.slice Ai b.items.length ci, .slice Ac b.certs.length cc] 25)).alloc (.cells #[.slice none 0 0, .slice none 0 0] 25)).alloc (.cells #[.slice Ai b.items.length ci, .slice none 0 0] 25)) := by repeat' (first | exact Below.refl _ _ | (refine below_ov ?_ ?_) | (refine Below.alloc ?_ ?_ _) | (refine below_drewN' ?_ _) | (refine Below.drew ?_) | (refine below_set ?_ _ _ ?_) | (simp; done) | (simp; omega) | omega)
  have a1 : (((w.alloc (.cells #[.slice Ai b.items.length ci, .slice Ac b.certs.length cc] 25)).alloc (.cells #[.slice none 0 0, .slice none 0 0] 25)).alloc (.cells #[.slice Ai b.items.length ci, .slice none 0 0] 25)).cell? ⟨w.heap.size, 1, none⟩ = some (.slice Ac b.certs.length cc) := by simp [go_sem]
  have z0 : (((w.alloc (.cells #[.slice Ai b.items.length ci, .slice Ac b.certs.length cc] 25)).alloc (.cells #[.slice none 0 0, .slice none 0 0] 25)).alloc (.cells #[.slice Ai b.items.length ci, .slice none 0 0] 25)).cell? ⟨w.heap.size + 1, 0, none⟩ = some (.slice none 0 0) := by simp [go_sem]
  have z1 : (((w.alloc (.cells #[.slice Ai b.items.length ci, .slice Ac b.certs.length cc] 25)).alloc (.cells #[.slice none 0 0, .slice none 0 0] 25)).alloc (.cells #[.slice Ai b.items.length ci, .slice none 0 0] 25)).cell? ⟨w.heap.size + 1, 1, none⟩ = some (.slice none 0 0) := by simp [go_sem]
  have zf : ∀ j, (((w.alloc (.cells #[.slice Ai b.items.length ci, .slice Ac b.certs.length cc] 25)).alloc (.cells #[.slice none 0 0, .slice none 0 0] 25)).alloc (.cells #[.slice Ai b.items.length ci, .slice none 0 0] 25)).frozen? ⟨w.heap.size + 1, j, none⟩ = false := fun j => by simp [go_sem]
  have hl0 : ApS (((w.alloc (.cells #[.slice Ai b.items.length ci, .slice Ac b.certs.length cc] 25)).alloc (.cells #[.slice none 0 0, .slice none 0 0] 25)).alloc (.cells #[.slice Ai b.items.length ci, .slice none 0 0] 25)) (w.heap.size + 1 + 1) (.slice Ai b.items.length ci) (.slice none 0 0) 0 [] (((w.alloc (.cells #[.slice Ai b.items.length ci, .slice Ac b.certs.length cc] 25)).alloc (.cells #[.slice none 0 0, .slice none 0 0] 25)).alloc (.cells #[.slice Ai b.items.length ci, .slice none 0 0] 25)) :=
    ⟨Below.refl _ _, by simp, by simp [go_sem], by simp [go_sem], fun j => by simp [go_sem], World.ownsRow_nil _ _ _ _⟩
  have hcr : certsAt (· < w.heap.size) (((w.alloc (.cells #[.slice Ai b.items.length ci, .slice Ac b.certs.length cc] 25)).alloc (.cells #[.slice none 0 0, .slice none 0 0] 25)).alloc (.cells #[.slice Ai b.items.length ci, .slice none 0 0] 25)) Ac b.certs := HA.out.keep (Keep.of_below hb fun _ h _ => h)
  generalize ((w.alloc (.cells #[.slice Ai b.items.length ci, .slice Ac b.certs.length cc] 25)).alloc (.cells #[.slice none 0 0, .slice none 0 0] 25)).alloc (.cells #[.slice Ai b.items.length ci, .slice none 0 0] 25) = V at *
  have HL0 := Lib.hid hl0
  have HB := Lib.hid hb
  have HZ := Lib.hid (And.intro a1 (And.intro z0 (And.intro z1 zf)))
  have HCR := Lib.hid hcr
  have hX1 : w.heap.size < w.heap.size + 1 + 1 := by omega
  have hX2 : w.heap.size + 1 < w.heap.size + 1 + 1 := by omega
  have hX3 : w.heap.size + 1 + 1 < V.heap.size := hl0.lt
  clear hl0 hb a1 z0 z1 zf hcr HA
  generalize hXX : w.heap.size + 1 + 1 = X at *
  clear hXX
  go_loopw [6] (fun t wr => ∃ (i : Nat) (v : Value), i ≤ b.certs.length ∧ t = .int .i64 i ∧ ApS V X (.slice Ai b.items.length ci) v ((b.certs.take i).filter fun c => c.num != n).length (((b.certs.take i).filter fun c => c.num != n).flatMap crtLs) wr) (fun t _ => b.certs.length - (intOf t).toNat)
  case atStart => exact ⟨0, _, Nat.zero_le _, rfl, HL0.out⟩
  case round =>
    obtain ⟨i, v, hi, rfl, hS⟩ := hrel
    have HS := Lib.hid hS
    have kv : Keep (fun j => j < X) V wr := Keep.of_below hS.bel fun _ h _ => h
    have d1 := kv.cell HZ.out.1 hX1
    have e0 := hS.x0
    have e1 := hS.x1
    have xf := hS.xf 1
    have lX := hS.lt
    have lw := lt_of_cell d1
    by_cases hlt : i < b.certs.length
    · obtain ⟨q, hq⟩ : ∃ q, b.certs[i]? = some q := ⟨b.certs[i], by simp [hlt]⟩
      obtain ⟨An, Ao, eA, hSA, hns⟩ := HCR.out.keep (kv.mono fun j hj => by omega) (by omega)
      obtain ⟨g0, g1, g2, g3, g4, g5, g6⟩ := hns i q hq
      have lg := lt_of_cell g0
      have HANX : Hid (An < X) := Lib.hid (by omega)
      have hix := fun c => @idx23 Ac An Ao b.certs.length c eA i hlt
      have HSN := Lib.hid (filter_snoc_ne (n := n) hq)
      have hlen : ((b.certs.take i).filter fun c => c.num != n).length ≤ 1000 := Nat.le_trans (List.length_filter_le _ _) (by simp; omega)
      clear hS kv hq eA hns e0 hSA
      cases hqn : (q.num != n)
      · have HM := Lib.hid (HSN.out.trans (if_neg (by rw [hqn]; simp)))
        go_wp2_with fail
        go_roundw
        case rel => exact ⟨i + 1, v, by omega, by go_num, by rw [HM.out]; exact HS.out⟩
        case measure => simp [intOf]; omega
      · have HM := Lib.hid (HSN.out.trans (if_pos hqn))
        generalize (b.certs.take i).filter (fun c => c.num != n) = fl at *
        go_wp2_with fail
        have hAnX : An < X := HANX.out
        have hS0 : w.heap.size < X := hX1
        refine wp_region_held_drew (S := fun w' => Keep (fun j => j < X) wr w') (by kernel_rfl) (Keep.drew _ _) (fun S0 => ?_)
        have HK := Lib.hid (And.intro d1 (And.intro g0 (And.intro g1 (And.intro g2 (And.intro g3 (And.intro g4 (And.intro g5 g6)))))))
        have hld : ∀ w', Keep (fun j => j < X) wr w' → w'.cell? ⟨w.heap.size, 1, none⟩ = some (.slice Ac b.certs.length cc) ∧ w'.cell? ⟨An, Ao + i * 7, none⟩ = some (.int .i64 q.num) ∧ w'.cell? ⟨An, Ao + i * 7 + 1, none⟩ = some (.int .i64 q.item) ∧ w'.cell? ⟨An, Ao + i * 7 + 2, none⟩ = some (.int .i64 q.by_) ∧ w'.cell? ⟨An, Ao + i * 7 + 3, none⟩ = some (.int .i64 q.day) ∧ w'.cell? ⟨An, Ao + i * 7 + 4, none⟩ = some (.int .i64 q.valid) ∧ w'.cell? ⟨An, Ao + i * 7 + 5, none⟩ = some (.int .i64 q.diff.lo) ∧ w'.cell? ⟨An, Ao + i * 7 + 6, none⟩ = some (.int .i64 q.diff.hi) := fun w' kk => by
          obtain ⟨y1, y2, y3, y4, y5, y6, y7, y8⟩ := HK.out
          exact ⟨kk.cell y1 hS0, kk.cell y2 hAnX, kk.cell y3 hAnX, kk.cell y4 hAnX, kk.cell y5 hAnX, kk.cell y6 hAnX, kk.cell y7 hAnX, kk.cell y8 hAnX⟩
        have HLD := Lib.hid hld
        clear hld
        refine wpAnyH_take (i := 0) (v := .pointer (some ⟨X, 1, none⟩)) rfl (by kernel_rfl) (by kernel_rfl) (by kernel_rfl) (fun _ _ _ h => h) (Or.inl ⟨by rfl, fun w' hw' => ?_⟩) S0 ?_
        · go_simp
        simp only [Act.put, List.getElem_toArray, List.getElem_cons_zero, List.getElem_cons_succ, List.setIfInBounds_toArray, List.set_cons_zero, List.set_cons_succ]
        refine wpAnyH_take (i := 2) (v := .pointer (some ⟨w.heap.size, 1, none⟩)) rfl (by kernel_rfl) (by kernel_rfl) (by kernel_rfl) (fun _ _ _ h => h) (Or.inl ⟨by rfl, fun w' hw' => ?_⟩) S0 ?_
        · go_simp
        simp only [Act.put, List.getElem_toArray, List.getElem_cons_zero, List.getElem_cons_succ, List.setIfInBounds_toArray, List.set_cons_zero, List.set_cons_succ]
        refine wpAnyH_take (i := 3) (v := .slice Ac b.certs.length cc) rfl (by kernel_rfl) (by kernel_rfl) (by kernel_rfl) (fun _ _ _ h => h) (Or.inl ⟨by rfl, fun w' hw' => ?_⟩) S0 ?_
        · have := (HLD.out w' hw').1; go_simp
        simp only [Act.put, List.getElem_toArray, List.getElem_cons_zero, List.getElem_cons_succ, List.setIfInBounds_toArray, List.set_cons_zero, List.set_cons_succ]
        refine wpAnyH_take (i := 4) (v := .int .i64 i) rfl (by kernel_rfl) (by kernel_rfl) (by kernel_rfl) (fun _ _ _ h => h) (Or.inl ⟨by rfl, fun w' hw' => ?_⟩) S0 ?_
        · go_simp
        simp only [Act.put, List.getElem_toArray, List.getElem_cons_zero, List.getElem_cons_succ, List.setIfInBounds_toArray, List.set_cons_zero, List.set_cons_succ]
        refine wpAnyH_take (i := 5) (v := .pointer (some ⟨An, Ao + i * 7, none⟩)) rfl (by kernel_rfl) (by kernel_rfl) (by kernel_rfl) (fun _ _ _ h => h) (Or.inl ⟨by rfl, fun w' hw' => ?_⟩) S0 ?_
        · go_simp
        simp only [Act.put, List.getElem_toArray, List.getElem_cons_zero, List.getElem_cons_succ, List.setIfInBounds_toArray, List.set_cons_zero, List.set_cons_succ]
        refine wpAnyH_take (i := 6) (v := .agg #[.int .i64 q.num, .int .i64 q.item, .int .i64 q.by_, .int .i64 q.day, .int .i64 q.valid, .int .i64 q.diff.lo, .int .i64 q.diff.hi]) rfl (by kernel_rfl) (by kernel_rfl) (by kernel_rfl) (fun _ _ _ h => h) (Or.inl ⟨by rfl, fun w' hw' => ?_⟩) S0 ?_
        · obtain ⟨_, y2, y3, y4, y5, y6, y7, y8⟩ := HLD.out w' hw'; go_simp
        simp only [Act.put, List.getElem_toArray, List.getElem_cons_zero, List.getElem_cons_succ, List.setIfInBounds_toArray, List.set_cons_zero, List.set_cons_succ]
        obtain ⟨i0, hi0, hz0, hz1, hz2⟩ := info_parts info58
        have hsV := HS.out.on (show Below wr.heap.size wr wr.drew from (Below.refl _ _).drew)
        have k6 : Keep (fun j => j < X) wr (wr.drew.alloc (.cells #[.int .i64 q.num, .int .i64 q.item, .int .i64 q.by_, .int .i64 q.day, .int .i64 q.valid, .int .i64 q.diff.lo, .int .i64 q.diff.hi] 58)) := S0.trans (Keep.alloc _ _ _)
        have hA := hsV.on ((Below.refl _ wr.drew).alloc (Nat.le_refl _) (.cells #[.int .i64 q.num, .int .i64 q.item, .int .i64 q.by_, .int .i64 q.day, .int .i64 q.valid, .int .i64 q.diff.lo, .int .i64 q.diff.hi] 58))
        have x1V := hsV.x1
        have x1A := hA.x1
        refine wpAnyH_ready (rs := [1, 7]) (by kernel_rfl) (by simp) ?_
        refine AllReadyH.cons rfl (fun K hK => ?_) (AllReadyH.cons rfl (fun K hK => ?_) AllReadyH.nil)
        · go_simp
          refine hK.out _ _ S0 (fun _ => ?_)
          refine wpAnyH_ready (rs := [7]) (by kernel_rfl) (by simp) ?_
          refine AllReadyH.cons rfl (fun K2 hK2 => ?_) AllReadyH.nil
          go_simp
          refine hK2.out _ _ k6 (fun _ => ?_)
          refine wpAnyH_ready (rs := [8]) (by kernel_rfl) (by simp) ?_
          refine AllReadyH.cons rfl (fun K3 hK3 => ?_) AllReadyH.nil
          refine step_append_lies _ (by rfl) _ _ _ (by rfl) (X + 1) 58 i0 _ 7 56 und23e hi0 hz0 hz1 hz2 rfl (by omega) v fl.length (fl.flatMap crtLs) (by rfl) (hsV.own.alloc _) ⟨wr.drew.heap.size, 0, none⟩ 1 1 (crtLs q) (by rfl) (by rfl) (news7 _ _ _ _ rfl) (by intro u hu; simp [crtLs] at hu; rcases hu with rfl | rfl | rfl | rfl | rfl | rfl | rfl <;> rfl) (by omega) (by simp only [maxLen]; omega) (by omega) (by simp; omega) (wr.drew.heap.size + 1) (by simp) ?_
          intro g cap w1 hown hgr hat7 hlt7
          have k7 : Keep (fun j => j < X) wr w1 := k6.trans (Keep.grown hgr fun r hr h => by
            have := (hsV.own.lt r hr).1
            have h' : r < X := h
            omega)
          refine hK3.out _ _ k7 (fun _ => ?_)
          obtain ⟨p0, p1, pf⟩ := hA.box hgr
          have pf1 := pf 1
          have lp := lt_of_cell p1
          have HMR := Lib.hid (hA.more hown hgr)
          clear hown hgr pf p0 hat7 hlt7
          refine wpAnyH_take (i := 9) (v := .pointer (some ⟨X, 1, none⟩)) rfl (by kernel_rfl) (by kernel_rfl) (by kernel_rfl) (fun _ _ _ h => h) (Or.inl ⟨by rfl, fun w' hw' => ?_⟩) k7 ?_
          · go_simp
          simp only [Act.put, List.getElem_toArray, List.getElem_cons_zero, List.getElem_cons_succ, List.setIfInBounds_toArray, List.set_cons_zero, List.set_cons_succ]
          refine wpAnyH_ready (rs := [10]) (by kernel_rfl) (by simp) ?_
          refine AllReadyH.cons rfl (fun K4 hK4 => ?_) AllReadyH.nil
          go_simp
          refine hK4.out _ _ (k7.trans (Keep.setCell _ _ _ (fun h => absurd h (Nat.lt_irrefl _)))) (fun _ => ?_)
          refine wpAnyH_done (by kernel_rfl) ?_ _
          clear hK hK2 hK3 hK4 x1V x1A hA hsV k6 k7 hi0 hz0 hz1 hz2 S0
          go_wp2_with fail
          go_roundw
          case rel => exact ⟨i + 1, _, by omega, by go_num, by rw [HM.out]; simpa using HMR.out⟩
          case measure => simp [intOf]; omega
        · go_simp
          refine hK.out _ _ k6 (fun _ => ?_)
          refine wpAnyH_ready (rs := [1]) (by kernel_rfl) (by simp) ?_
          refine AllReadyH.cons rfl (fun K2 hK2 => ?_) AllReadyH.nil
          go_simp
          refine hK2.out _ _ k6 (fun _ => ?_)
          refine wpAnyH_ready (rs := [8]) (by kernel_rfl) (by simp) ?_
          refine AllReadyH.cons rfl (fun K3 hK3 => ?_) AllReadyH.nil
          refine step_append_lies _ (by rfl) _ _ _ (by rfl) (X + 1) 58 i0 _ 7 56 und23e hi0 hz0 hz1 hz2 rfl (by omega) v fl.length (fl.flatMap crtLs) (by rfl) (hsV.own.alloc _) ⟨wr.drew.heap.size, 0, none⟩ 1 1 (crtLs q) (by rfl) (by rfl) (news7 _ _ _ _ rfl) (by intro u hu; simp [crtLs] at hu; rcases hu with rfl | rfl | rfl | rfl | rfl | rfl | rfl <;> rfl) (by omega) (by simp only [maxLen]; omega) (by omega) (by simp; omega) (wr.drew.heap.size + 1) (by simp) ?_
          intro g cap w1 hown hgr hat7 hlt7
          have k7 : Keep (fun j => j < X) wr w1 := k6.trans (Keep.grown hgr fun r hr h => by
            have := (hsV.own.lt r hr).1
            have h' : r < X := h
            omega)
          refine hK3.out _ _ k7 (fun _ => ?_)
          obtain ⟨p0, p1, pf⟩ := hA.box hgr
          have pf1 := pf 1
          have lp := lt_of_cell p1
          have HMR := Lib.hid (hA.more hown hgr)
          clear hown hgr pf p0 hat7 hlt7
          refine wpAnyH_take (i := 9) (v := .pointer (some ⟨X, 1, none⟩)) rfl (by kernel_rfl) (by kernel_rfl) (by kernel_rfl) (fun _ _ _ h => h) (Or.inl ⟨by rfl, fun w' hw' => ?_⟩) k7 ?_
          · go_simp
          simp only [Act.put, List.getElem_toArray, List.getElem_cons_zero, List.getElem_cons_succ, List.setIfInBounds_toArray, List.set_cons_zero, List.set_cons_succ]
          refine wpAnyH_ready (rs := [10]) (by kernel_rfl) (by simp) ?_
          refine AllReadyH.cons rfl (fun K4 hK4 => ?_) AllReadyH.nil
          go_simp
          refine hK4.out _ _ (k7.trans (Keep.setCell _ _ _ (fun h => absurd h (Nat.lt_irrefl _)))) (fun _ => ?_)
          refine wpAnyH_done (by kernel_rfl) ?_ _
          clear hK hK2 hK3 hK4 x1V x1A hA hsV k6 k7 hi0 hz0 hz1 hz2 S0
          go_wp2_with fail
          go_roundw
          case rel => exact ⟨i + 1, _, by omega, by go_num, by rw [HM.out]; simpa using HMR.out⟩
          case measure => simp [intOf]; omega
    · have hie : (b.certs.take i).filter (fun c => c.num != n) = (dropC b n).certs := by rw [List.take_of_length_le (by omega)]; rfl
      rw [hie] at hS
      obtain ⟨Ax, cx, rfl, hcx⟩ := hS.certs
      have hz := HZ.out
      have z0 := kv.cell hz.2.1 hX2
      have z1 := kv.cell hz.2.2.1 hX2
      have zf : ∀ j, wr.frozen? ⟨w.heap.size + 1, j, none⟩ = false := fun j => by rw [World.frozen?_of_block (w := V) (kv.block (w.heap.size + 1) hX2 (by omega))]; exact hz.2.2.2 j
      have zf0 := zf 0
      have zf1 := zf 1
      have e0 := hS.x0
      have e1 := hS.x1
      have lz := lt_of_cell z0
      have lX := lt_of_cell e0
      have HCX := Lib.hid hcx
      have HBW := Lib.hid (HB.out.trans (hS.bel.mono (show w.heap.size ≤ X by omega)))
      clear hie hS HS kv hcx hz zf
      go_wp2_with fail
      have e0' : ((wr.setCell ⟨w.heap.size + 1, 0, none⟩ (.slice Ai b.items.length ci)).setCell ⟨w.heap.size + 1, 1, none⟩ (.slice Ax (dropC b n).certs.length cx)).cell? ⟨w.heap.size + 1, 0, none⟩ = some (.slice Ai b.items.length ci) := by
        rw [World.cell?_setCell_other _ _ _ _ (by simp)]
        exact World.cell?_setCell_same' _ _ _ (by rw [z0]; rfl)
      have e1' : ((wr.setCell ⟨w.heap.size + 1, 0, none⟩ (.slice Ai b.items.length ci)).setCell ⟨w.heap.size + 1, 1, none⟩ (.slice Ax (dropC b n).certs.length cx)).cell? ⟨w.heap.size + 1, 1, none⟩ = some (.slice Ax (dropC b n).certs.length cx) :=
        World.cell?_setCell_same' _ _ _ (by rw [World.cell?_setCell_other _ _ _ _ (by simp), z1]; rfl)
      refine bodyPost_ret (ret_cell (g := w.heap.size + 1) (v := .agg #[.slice Ai b.items.length ci, .slice Ax (dropC b n).certs.length cx]) rfl _ rfl ?_) rfl ?_
      · simp [go_sem, e0', e1']
      · have k2 : Keep (fun j => X < j ∧ j < wr.heap.size) wr ((wr.setCell ⟨w.heap.size + 1, 0, none⟩ (.slice Ai b.items.length ci)).setCell ⟨w.heap.size + 1, 1, none⟩ (.slice Ax (dropC b n).certs.length cx)) :=
          (Keep.setCell _ _ _ (fun h => by have := h.1; simp at this; omega)).trans (Keep.setCell _ _ _ (fun h => by have := h.1; simp at this; omega))
        have hbw : Below w.heap.size w ((wr.setCell ⟨w.heap.size + 1, 0, none⟩ (.slice Ai b.items.length ci)).setCell ⟨w.heap.size + 1, 1, none⟩ (.slice Ax (dropC b n).certs.length cx)) :=
          below_set (below_set HBW.out _ _ (by simp)) _ _ (by simp)
        exact ⟨Ax, cx, rfl, (HCX.out.keep k2).mono fun j hj => by simpa using hj.2, below_over hbw⟩
end Go.Proofs.Ytmcnpfjichbijaa

