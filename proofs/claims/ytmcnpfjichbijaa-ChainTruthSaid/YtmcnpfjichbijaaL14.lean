/- ChainMore, walked. -/
import Derived.Test.YtmcnpfjichbijaaL25
set_option linter.unusedSimpArgs false
set_option linter.unusedVariables false
namespace Go.Proofs.Ytmcnpfjichbijaa
open Go Go.Proofs Go.RowKit Go.Shelf


theorem tmod_in {it n : Int} (h : (Lit.int .u8 it).wf = true) (hn : 0 < n) : 0 ≤ (wrap64 it).tmod n ∧ (wrap64 it).tmod n < n := by
  have hi : 0 ≤ it ∧ it ≤ 255 := by simp [Lit.wf, IntKind.min, IntKind.max, IntKind.bits, IntKind.signed] at h; omega
  rw [show wrap64 it = it by unfold wrap64; omega, Int.tmod_eq_emod_of_nonneg hi.1]
  exact ⟨Int.emod_nonneg _ (by omega), Int.emod_lt_of_pos _ hn⟩
theorem tmod_in16 {it : Int} (h : (Lit.int .u16 it).wf = true) : 0 ≤ (wrap64 it).tmod 1001 ∧ (wrap64 it).tmod 1001 < 1001 := by
  have hi : 0 ≤ it ∧ it ≤ 65535 := by simp [Lit.wf, IntKind.min, IntKind.max, IntKind.bits, IntKind.signed] at h; omega
  rw [show wrap64 it = it by unfold wrap64; omega, Int.tmod_eq_emod_of_nonneg hi.1]
  exact ⟨Int.emod_nonneg _ (by omega), Int.emod_lt_of_pos _ (by omega)⟩

/-- What one certificate more does to a span. -/
theorem more_span {b x : Bk} (vb : Vb b) (vx : Vb x) (s : Sub b x) {K D : Int} (h0 : 0 ≤ K) (h1 : K < b.items.length) (h2 : 0 ≤ D) (h3 : D ≤ 1000) :
    (spanErr x K D = 10 ∧ spanErr b K D = 10) ∨ (spanErr x K D = 9 ∧ (spanErr b K D = 0 ∨ spanErr b K D = 9 ∨ spanErr b K D = 10)) ∨ (spanErr x K D = 0 ∧ (spanErr b K D = 10 ∨ (spanErr b K D = 0 ∧ (spanRes b K D).lo ≤ (spanRes x K D).lo ∧ (spanRes x K D).hi ≤ (spanRes b K D).hi))) := by
  have ask : ∀ (y : Bk), Vb y → y.items.length = b.items.length → askErr y K D = if reach y K D then 0 else 10 := fun y vy hl => by
    unfold askErr
    rw [if_neg (by rw [(fault_iff y).2 vy]; simp), if_neg (by simp [inB]; omega)]
  have hb := ask b vb rfl
  have hx := ask x vx (by rw [s.it])
  cases hrb : reach b K D
  · rw [hrb] at hb
    have eb : spanErr b K D = 10 := by rw [spanErr_ask (by rw [hb]; simp), hb]; rfl
    cases hrx : reach x K D
    · rw [hrx] at hx
      exact .inl ⟨by rw [spanErr_ask (by rw [hx]; simp), hx]; rfl, eb⟩
    · rw [hrx] at hx
      cases hc : contra x
      · exact .inr (.inr ⟨spanErr_ok hx hc, .inl eb⟩)
      · exact .inr (.inl ⟨spanErr_contra hx hc, .inr (.inr eb)⟩)
  · have hrx := s.reach vb vx K D hrb
    rw [hrb] at hb
    rw [hrx] at hx
    cases hc : contra x
    · have hcb : contra b = false := by
        cases hcb : contra b
        · rfl
        · rw [s.contra vb hcb] at hc; cases hc
      have e1 := spanErr_ok hb hcb
      have e2 := spanErr_ok hx hc
      refine .inr (.inr ⟨e2, .inr ⟨e1, ?_⟩⟩)
      unfold spanRes
      rw [if_pos e1, if_pos e2]
      exact s.at vb K D
    · refine .inr (.inl ⟨spanErr_contra hx hc, ?_⟩)
      cases hcb : contra b
      · exact .inl (spanErr_ok hb hcb)
      · exact .inr (.inl (spanErr_contra hb hcb))

set_option maxRecDepth 100000 in
set_option maxHeartbeats 2000000 in
theorem c6 (Ai Ac : Option Addr) (ci cc : Nat) (b : Bk) (q : Crt) (it dy : Int) (w : World) (hA : bookAt (· < w.heap.size) w Ai Ac b)
    (h1 : b.items.length ≤ 9223372036854775807) (h2 : b.certs.length * 56 ≤ 140737488351232) (hAc : Ac = none → cc = 0) (h3 : (Lit.int .u8 it).wf = true) (h4 : (Lit.int .u16 dy).wf = true) :
    Calls Try.prog 6 #[.agg #[.slice Ai b.items.length ci, .slice Ac b.certs.length cc], .agg #[.int .i64 q.num, .int .i64 q.item, .int .i64 q.by_, .int .i64 q.day, .int .i64 q.valid, .int .i64 q.diff.lo, .int .i64 q.diff.hi], .int .u8 it, .int .u16 dy] w fun e w' => e = .returned (.bool true) ∧ ∃ x, w' = over w x := by
  have HA := Lib.hid hA
  have HAC := Lib.hid (show Ac = none → cc = 0 ∧ b.certs = [] from fun h => ⟨hAc h, by
    rcases Nat.eq_zero_or_pos b.certs.length with h0 | hp
    · exact List.length_eq_zero_iff.1 h0
    · obtain ⟨_, _, e, _⟩ := hA.2 hp; rw [h] at e; cases e⟩)
  clear hA hAc
  go_enter Try.func6, Try.ntmps6
  go_wp2_with fail
  have hb : Below w.heap.size w ((w.alloc (.cells #[.slice Ai b.items.length ci, .slice Ac b.certs.length cc] 25)).alloc (.cells #[.int .i64 q.num, .int .i64 q.item, .int .i64 q.by_, .int .i64 q.day, .int .i64 q.valid, .int .i64 q.diff.lo, .int .i64 q.diff.hi] 58)) := by repeat' (first | exact Below.refl _ _ | (refine below_ov ?_ ?_) | (refine Below.alloc ?_ ?_ _) | (refine below_drewN' ?_ _) | (refine Below.drew ?_) | (refine below_set ?_ _ _ ?_) | (simp; done) | (simp; omega) | omega)
  have hcl : Cl w (.slice Ai b.items.length ci) (.slice Ac b.certs.length cc) ((w.alloc (.cells #[.slice Ai b.items.length ci, .slice Ac b.certs.length cc] 25)).alloc (.cells #[.int .i64 q.num, .int .i64 q.item, .int .i64 q.by_, .int .i64 q.day, .int .i64 q.valid, .int .i64 q.diff.lo, .int .i64 q.diff.hi] 58)) := ⟨hb, by simp [go_sem], by simp [go_sem]⟩
  have hq : ∀ t, t < 7 → ((w.alloc (.cells #[.slice Ai b.items.length ci, .slice Ac b.certs.length cc] 25)).alloc (.cells #[.int .i64 q.num, .int .i64 q.item, .int .i64 q.by_, .int .i64 q.day, .int .i64 q.valid, .int .i64 q.diff.lo, .int .i64 q.diff.hi] 58)).cell? ⟨w.heap.size + 1, t, none⟩ = (crtLs q)[t]? := fun t ht => by
    rcases t with _ | _ | _ | _ | _ | _ | _ | t <;> first | (simp [go_sem, crtLs]; done) | omega
  have HC0 := Lib.hid hcl
  have HQ0 := Lib.hid hq
  clear hb hcl hq
  generalize World.alloc (w.alloc _) _ = V at *
  have hld : ∀ w', Below V.heap.size V w' → w'.cell? ⟨w.heap.size, 0, none⟩ = some (.slice Ai b.items.length ci) ∧ w'.cell? ⟨w.heap.size, 1, none⟩ = some (.slice Ac b.certs.length cc) ∧ w'.cell? ⟨w.heap.size + 1, 0, none⟩ = some (.int .i64 q.num) ∧ w'.cell? ⟨w.heap.size + 1, 1, none⟩ = some (.int .i64 q.item) ∧ w'.cell? ⟨w.heap.size + 1, 2, none⟩ = some (.int .i64 q.by_) ∧ w'.cell? ⟨w.heap.size + 1, 3, none⟩ = some (.int .i64 q.day) ∧ w'.cell? ⟨w.heap.size + 1, 4, none⟩ = some (.int .i64 q.valid) ∧ w'.cell? ⟨w.heap.size + 1, 5, none⟩ = some (.int .i64 q.diff.lo) ∧ w'.cell? ⟨w.heap.size + 1, 6, none⟩ = some (.int .i64 q.diff.hi) := fun w' hb =>
    ⟨cell_on hb HC0.out.a0, cell_on hb HC0.out.a1, cell_on hb (HQ0.out 0 (by omega)), cell_on hb (HQ0.out 1 (by omega)), cell_on hb (HQ0.out 2 (by omega)), cell_on hb (HQ0.out 3 (by omega)), cell_on hb (HQ0.out 4 (by omega)), cell_on hb (HQ0.out 5 (by omega)), cell_on hb (HQ0.out 6 (by omega))⟩
  have HLD := Lib.hid hld
  have HSRC := Lib.hid (show ∀ w', Below V.heap.size V w' → ∀ ad, Ac = some ad → ∀ j u, (b.certs.flatMap crtLs)[j]? = some u → w'.cell? (ad.add j) = some u from fun w' hb ad e j u hj => by
    have hlt := (List.getElem?_eq_some_iff.1 hj).1
    rw [row_length (n := 7) fun _ => rfl] at hlt
    obtain ⟨g, o, e', hS, hc⟩ := ((HA.out.below HC0.out.bel).below hb).2.rows (by omega)
    rw [e] at e'
    injection e' with e'
    subst e'
    have := hc j u hj
    rwa [show (⟨g, o, none⟩ : Addr).add j = ⟨g, o + j, none⟩ from by unfold Addr.add; split <;> simp_all])
  clear hld HQ0
  obtain ⟨rr, hrr⟩ : ∃ rr, rr = [] ++ b.certs ++ [q] := ⟨_, rfl⟩
  have HRR := Lib.hid hrr
  clear hrr
  refine region_cut (fun l W' => ∃ g A c v23 v26 v28, l = [(21, .pointer (some ⟨w.heap.size, 0, none⟩)), (22, .slice Ai b.items.length ci), (23, v23), (24, .pointer (some ⟨w.heap.size, 1, none⟩)), (25, .slice Ac b.certs.length cc), (26, v26), (27, .agg #[.int .i64 q.num, .int .i64 q.item, .int .i64 q.by_, .int .i64 q.day, .int .i64 q.valid, .int .i64 q.diff.lo, .int .i64 q.diff.hi]), (28, v28), (29, .slice A rr.length c), (30, .agg #[.slice Ai b.items.length ci, .slice A rr.length c]), (9, .pointer (some ⟨g, 0, none⟩))] ∧
    W'.cell? ⟨g, 0, none⟩ = some (.slice Ai b.items.length ci) ∧ W'.cell? ⟨g, 1, none⟩ = some (.slice A rr.length c) ∧ certsAt (· < W'.heap.size) W' A rr ∧ Below V.heap.size V W') ?region ?after
  case region =>
    obtain ⟨i0, hi0, hz0, hz1, hz2⟩ := info_parts info58
    refine wp_region_held_drew (S := fun w' => Below V.heap.size V w') (by kernel_rfl) (Below.drew (Below.refl _ _)) (fun _ => ?_)
    have S0 := Sx.start V 58 7 crtLs q
    refine wpAnyH_take (i := 0) (v := .pointer (some ⟨w.heap.size, 0, none⟩)) rfl (by kernel_rfl) (by kernel_rfl) (by kernel_rfl) (fun _ _ _ h => h) (Or.inl ⟨by rfl, fun w' hw' => ?_⟩) S0.bel ?_
    · go_simp
    simp only [Act.put, List.getElem_toArray, List.getElem_cons_zero, List.getElem_cons_succ, List.setIfInBounds_toArray, List.set_cons_zero, List.set_cons_succ]
    refine wpAnyH_take (i := 1) (v := .slice Ai b.items.length ci) rfl (by kernel_rfl) (by kernel_rfl) (by kernel_rfl) (fun _ _ _ h => h) (Or.inl ⟨by rfl, fun w' hw' => ?_⟩) S0.bel ?_
    · have := (HLD.out w' hw').1; go_simp
    simp only [Act.put, List.getElem_toArray, List.getElem_cons_zero, List.getElem_cons_succ, List.setIfInBounds_toArray, List.set_cons_zero, List.set_cons_succ]
    refine wpAnyH_take (i := 3) (v := .pointer (some ⟨w.heap.size, 1, none⟩)) rfl (by kernel_rfl) (by kernel_rfl) (by kernel_rfl) (fun _ _ _ h => h) (Or.inl ⟨by rfl, fun w' hw' => ?_⟩) S0.bel ?_
    · go_simp
    simp only [Act.put, List.getElem_toArray, List.getElem_cons_zero, List.getElem_cons_succ, List.setIfInBounds_toArray, List.set_cons_zero, List.set_cons_succ]
    refine wpAnyH_take (i := 4) (v := .slice Ac b.certs.length cc) rfl (by kernel_rfl) (by kernel_rfl) (by kernel_rfl) (fun _ _ _ h => h) (Or.inl ⟨by rfl, fun w' hw' => ?_⟩) S0.bel ?_
    · have := (HLD.out w' hw').2.1; go_simp
    simp only [Act.put, List.getElem_toArray, List.getElem_cons_zero, List.getElem_cons_succ, List.setIfInBounds_toArray, List.set_cons_zero, List.set_cons_succ]
    refine wpAnyH_take (i := 6) (v := .agg #[.int .i64 q.num, .int .i64 q.item, .int .i64 q.by_, .int .i64 q.day, .int .i64 q.valid, .int .i64 q.diff.lo, .int .i64 q.diff.hi]) rfl (by kernel_rfl) (by kernel_rfl) (by kernel_rfl) (fun _ _ _ h => h) (Or.inl ⟨by rfl, fun w' hw' => ?_⟩) S0.bel ?_
    · obtain ⟨_, _, e0, e1, e2, e3, e4, e5, e6⟩ := HLD.out w' hw'; go_simp
    simp only [Act.put, List.getElem_toArray, List.getElem_cons_zero, List.getElem_cons_succ, List.setIfInBounds_toArray, List.set_cons_zero, List.set_cons_succ]
    refine wpAnyH_ready (rs := [2, 7, 10]) (by kernel_rfl) (by simp) ?_
    refine AllReadyH.cons rfl (fun K1 hK1 => ?_) (AllReadyH.cons rfl (fun K1 hK1 => ?_) (AllReadyH.cons rfl (fun K1 hK1 => ?_) (AllReadyH.nil)))
    · go_simp
      refine hK1.out _ _ (S0.made rfl).bel (fun _ => ?_)
      clear hK1
      refine wpAnyH_abs (I := Sx 58 7 crtLs V (some ⟨V.heap.size, 0, none⟩) (0) ([]) (none) q (none)) (S0.made rfl) (fun W2 S2 => ?_)
      try simp only [Act.put, List.getElem_toArray, List.getElem_cons_zero, List.getElem_cons_succ, List.setIfInBounds_toArray, List.set_cons_zero, List.set_cons_succ]
      refine wpAnyH_ready (rs := [5, 7, 10]) (by kernel_rfl) (by simp) ?_
      refine AllReadyH.cons rfl (fun K3 hK3 => ?_) (AllReadyH.cons rfl (fun K3 hK3 => ?_) (AllReadyH.cons rfl (fun K3 hK3 => ?_) (AllReadyH.nil)))
      · refine step_app (by rfl) _ _ 23 (by rfl) S2 (by rfl) Ac cc (b.certs) (by rfl) HAC.out (HSRC.out _ S2.bel) und23e hi0 hz0 hz1 hz2 rfl (by omega) (fun _ => rfl) crtLs_one (by omega) (by simp; omega) ?_
        intro A4 c4 W4 S4
        generalize hr4 : [] ++ b.certs = r4 at S4 ⊢
        have HR4 := Lib.hid hr4
        clear hr4
        have hl4 : r4.length ≤ 0 + b.certs.length := by have := congrArg List.length HR4.out; simp at this; simp; omega
        refine hK3.out _ _ S4.bel (fun _ => ?_)
        clear hK3
        try simp only [Act.put, List.getElem_toArray, List.getElem_cons_zero, List.getElem_cons_succ, List.setIfInBounds_toArray, List.set_cons_zero, List.set_cons_succ]
        refine wpAnyH_ready (rs := [7, 10]) (by kernel_rfl) (by simp) ?_
        refine AllReadyH.cons rfl (fun K5 hK5 => ?_) (AllReadyH.cons rfl (fun K5 hK5 => ?_) (AllReadyH.nil))
        · go_simp
          refine hK5.out _ _ (S4.elem rfl rfl).bel (fun _ => ?_)
          clear hK5
          refine wpAnyH_abs (I := Sx 58 7 crtLs V (A4) (c4) (r4) (some W4.heap.size) q (none)) (S4.elem rfl rfl) (fun W6 S6 => ?_)
          try simp only [Act.put, List.getElem_toArray, List.getElem_cons_zero, List.getElem_cons_succ, List.setIfInBounds_toArray, List.set_cons_zero, List.set_cons_succ]
          refine wpAnyH_ready (rs := [8, 10]) (by kernel_rfl) (by simp) ?_
          refine AllReadyH.cons rfl (fun K7 hK7 => ?_) (AllReadyH.cons rfl (fun K7 hK7 => ?_) (AllReadyH.nil))
          · refine step_app (by rfl) _ _ 23 (by rfl) S6 (by rfl) (some ⟨W4.heap.size, 0, none⟩) 1 ([q]) (by rfl) (fun e => by cases e) (S6.src1) und23e hi0 hz0 hz1 hz2 rfl (by omega) (fun _ => rfl) crtLs_one (by omega) (by simp; omega) ?_
            intro A8 c8 W8 S8
            generalize hr8 : r4 ++ [q] = r8 at S8 ⊢
            have HR8 := Lib.hid hr8
            clear hr8
            have hl8 : r8.length ≤ 0 + b.certs.length + [q].length := by have := congrArg List.length HR8.out; simp at this; simp; omega
            simp only [List.length_singleton] at hl8
            refine hK7.out _ _ S8.bel (fun _ => ?_)
            clear hK7
            try simp only [Act.put, List.getElem_toArray, List.getElem_cons_zero, List.getElem_cons_succ, List.setIfInBounds_toArray, List.set_cons_zero, List.set_cons_succ]
            refine wpAnyH_take (i := 9) (v := .agg #[.slice Ai b.items.length ci, .slice (A8) (r8).length (c8)]) rfl (by kernel_rfl) (by kernel_rfl) (by kernel_rfl) (fun _ _ _ h => h) (Or.inl ⟨by rfl, fun w' hw' => ?_⟩) S8.bel ?_
            · go_simp
            simp only [Act.put, List.getElem_toArray, List.getElem_cons_zero, List.getElem_cons_succ, List.setIfInBounds_toArray, List.set_cons_zero, List.set_cons_succ]
            refine wpAnyH_ready (rs := [10]) (by kernel_rfl) (by simp) ?_
            refine AllReadyH.cons rfl (fun K9 hK9 => ?_) (AllReadyH.nil)
            go_simp
            refine hK9.out _ _ (S8.boxd rfl).bel (fun _ => ?_)
            clear hK9
            refine wpAnyH_abs (I := Sx 58 7 crtLs V (A8) (c8) (r8) (some W4.heap.size) q (some W8.heap.size)) (S8.boxd rfl) (fun W10 S10 => ?_)
            try simp only [Act.put, List.getElem_toArray, List.getElem_cons_zero, List.getElem_cons_succ, List.setIfInBounds_toArray, List.set_cons_zero, List.set_cons_succ]
            refine wpAnyH_ready (rs := [11]) (by kernel_rfl) (by simp) ?_
            refine AllReadyH.cons rfl (fun K11 hK11 => ?_) (AllReadyH.nil)
            obtain rfl : r8 = rr := by rw [HRR.out, ← HR8.out, ← HR4.out]
            obtain ⟨_, _, _, z0, z1, f0, f1⟩ := S10.bxc _ rfl
            have lz := lt_of_cell z0
            go_simp
            have hfin := S10.fin (.slice Ai b.items.length ci) (.slice (A8) (r8).length (c8))
            refine hK11.out _ _ hfin.2.2.2 (fun _ => ?_)
            clear hK11 z0 z1 f0 f1 lz
            refine wpAnyH_done (by kernel_rfl) ?_ _
            exact ⟨_, ⟨_, A8, c8, .slice (some ⟨V.heap.size, 0, none⟩) 0 0, .slice A4 r4.length c4, .slice (some ⟨W4.heap.size, 0, none⟩) 1 1, rfl, hfin⟩, by simp only [outFrame, List.foldl_cons, List.foldl_nil, Act.put, List.setIfInBounds_toArray, List.set_cons_zero, List.set_cons_succ]⟩
          · go_simp
            refine hK7.out _ _ (S6.boxd rfl).bel (fun _ => ?_)
            clear hK7
            refine wpAnyH_abs (I := Sx 58 7 crtLs V (A4) (c4) (r4) (some W4.heap.size) q (some W6.heap.size)) (S6.boxd rfl) (fun W13 S13 => ?_)
            try simp only [Act.put, List.getElem_toArray, List.getElem_cons_zero, List.getElem_cons_succ, List.setIfInBounds_toArray, List.set_cons_zero, List.set_cons_succ]
            refine wpAnyH_ready (rs := [8]) (by kernel_rfl) (by simp) ?_
            refine AllReadyH.cons rfl (fun K14 hK14 => ?_) (AllReadyH.nil)
            refine step_app (by rfl) _ _ 23 (by rfl) S13 (by rfl) (some ⟨W4.heap.size, 0, none⟩) 1 ([q]) (by rfl) (fun e => by cases e) (S13.src1) und23e hi0 hz0 hz1 hz2 rfl (by omega) (fun _ => rfl) crtLs_one (by omega) (by simp; omega) ?_
            intro A15 c15 W15 S15
            generalize hr15 : r4 ++ [q] = r15 at S15 ⊢
            have HR15 := Lib.hid hr15
            clear hr15
            have hl15 : r15.length ≤ 0 + b.certs.length + [q].length := by have := congrArg List.length HR15.out; simp at this; simp; omega
            simp only [List.length_singleton] at hl15
            refine hK14.out _ _ S15.bel (fun _ => ?_)
            clear hK14
            try simp only [Act.put, List.getElem_toArray, List.getElem_cons_zero, List.getElem_cons_succ, List.setIfInBounds_toArray, List.set_cons_zero, List.set_cons_succ]
            refine wpAnyH_take (i := 9) (v := .agg #[.slice Ai b.items.length ci, .slice (A15) (r15).length (c15)]) rfl (by kernel_rfl) (by kernel_rfl) (by kernel_rfl) (fun _ _ _ h => h) (Or.inl ⟨by rfl, fun w' hw' => ?_⟩) S15.bel ?_
            · go_simp
            simp only [Act.put, List.getElem_toArray, List.getElem_cons_zero, List.getElem_cons_succ, List.setIfInBounds_toArray, List.set_cons_zero, List.set_cons_succ]
            refine wpAnyH_ready (rs := [11]) (by kernel_rfl) (by simp) ?_
            refine AllReadyH.cons rfl (fun K16 hK16 => ?_) (AllReadyH.nil)
            obtain rfl : r15 = rr := by rw [HRR.out, ← HR15.out, ← HR4.out]
            obtain ⟨_, _, _, z0, z1, f0, f1⟩ := S15.bxc _ rfl
            have lz := lt_of_cell z0
            go_simp
            have hfin := S15.fin (.slice Ai b.items.length ci) (.slice (A15) (r15).length (c15))
            refine hK16.out _ _ hfin.2.2.2 (fun _ => ?_)
            clear hK16 z0 z1 f0 f1 lz
            refine wpAnyH_done (by kernel_rfl) ?_ _
            exact ⟨_, ⟨_, A15, c15, .slice (some ⟨V.heap.size, 0, none⟩) 0 0, .slice A4 r4.length c4, .slice (some ⟨W4.heap.size, 0, none⟩) 1 1, rfl, hfin⟩, by simp only [outFrame, List.foldl_cons, List.foldl_nil, Act.put, List.setIfInBounds_toArray, List.set_cons_zero, List.set_cons_succ]⟩
        · go_simp
          refine hK5.out _ _ (S4.boxd rfl).bel (fun _ => ?_)
          clear hK5
          refine wpAnyH_abs (I := Sx 58 7 crtLs V (A4) (c4) (r4) (none) q (some W4.heap.size)) (S4.boxd rfl) (fun W18 S18 => ?_)
          try simp only [Act.put, List.getElem_toArray, List.getElem_cons_zero, List.getElem_cons_succ, List.setIfInBounds_toArray, List.set_cons_zero, List.set_cons_succ]
          refine wpAnyH_ready (rs := [7]) (by kernel_rfl) (by simp) ?_
          refine AllReadyH.cons rfl (fun K19 hK19 => ?_) (AllReadyH.nil)
          go_simp
          refine hK19.out _ _ (S18.elem rfl rfl).bel (fun _ => ?_)
          clear hK19
          refine wpAnyH_abs (I := Sx 58 7 crtLs V (A4) (c4) (r4) (some W18.heap.size) q (some W4.heap.size)) (S18.elem rfl rfl) (fun W20 S20 => ?_)
          try simp only [Act.put, List.getElem_toArray, List.getElem_cons_zero, List.getElem_cons_succ, List.setIfInBounds_toArray, List.set_cons_zero, List.set_cons_succ]
          refine wpAnyH_ready (rs := [8]) (by kernel_rfl) (by simp) ?_
          refine AllReadyH.cons rfl (fun K21 hK21 => ?_) (AllReadyH.nil)
          refine step_app (by rfl) _ _ 23 (by rfl) S20 (by rfl) (some ⟨W18.heap.size, 0, none⟩) 1 ([q]) (by rfl) (fun e => by cases e) (S20.src1) und23e hi0 hz0 hz1 hz2 rfl (by omega) (fun _ => rfl) crtLs_one (by omega) (by simp; omega) ?_
          intro A22 c22 W22 S22
          generalize hr22 : r4 ++ [q] = r22 at S22 ⊢
          have HR22 := Lib.hid hr22
          clear hr22
          have hl22 : r22.length ≤ 0 + b.certs.length + [q].length := by have := congrArg List.length HR22.out; simp at this; simp; omega
          simp only [List.length_singleton] at hl22
          refine hK21.out _ _ S22.bel (fun _ => ?_)
          clear hK21
          try simp only [Act.put, List.getElem_toArray, List.getElem_cons_zero, List.getElem_cons_succ, List.setIfInBounds_toArray, List.set_cons_zero, List.set_cons_succ]
          refine wpAnyH_take (i := 9) (v := .agg #[.slice Ai b.items.length ci, .slice (A22) (r22).length (c22)]) rfl (by kernel_rfl) (by kernel_rfl) (by kernel_rfl) (fun _ _ _ h => h) (Or.inl ⟨by rfl, fun w' hw' => ?_⟩) S22.bel ?_
          · go_simp
          simp only [Act.put, List.getElem_toArray, List.getElem_cons_zero, List.getElem_cons_succ, List.setIfInBounds_toArray, List.set_cons_zero, List.set_cons_succ]
          refine wpAnyH_ready (rs := [11]) (by kernel_rfl) (by simp) ?_
          refine AllReadyH.cons rfl (fun K23 hK23 => ?_) (AllReadyH.nil)
          obtain rfl : r22 = rr := by rw [HRR.out, ← HR22.out, ← HR4.out]
          obtain ⟨_, _, _, z0, z1, f0, f1⟩ := S22.bxc _ rfl
          have lz := lt_of_cell z0
          go_simp
          have hfin := S22.fin (.slice Ai b.items.length ci) (.slice (A22) (r22).length (c22))
          refine hK23.out _ _ hfin.2.2.2 (fun _ => ?_)
          clear hK23 z0 z1 f0 f1 lz
          refine wpAnyH_done (by kernel_rfl) ?_ _
          exact ⟨_, ⟨_, A22, c22, .slice (some ⟨V.heap.size, 0, none⟩) 0 0, .slice A4 r4.length c4, .slice (some ⟨W18.heap.size, 0, none⟩) 1 1, rfl, hfin⟩, by simp only [outFrame, List.foldl_cons, List.foldl_nil, Act.put, List.setIfInBounds_toArray, List.set_cons_zero, List.set_cons_succ]⟩
      · go_simp
        refine hK3.out _ _ (S2.elem rfl rfl).bel (fun _ => ?_)
        clear hK3
        refine wpAnyH_abs (I := Sx 58 7 crtLs V (some ⟨V.heap.size, 0, none⟩) (0) ([]) (some W2.heap.size) q (none)) (S2.elem rfl rfl) (fun W25 S25 => ?_)
        try simp only [Act.put, List.getElem_toArray, List.getElem_cons_zero, List.getElem_cons_succ, List.setIfInBounds_toArray, List.set_cons_zero, List.set_cons_succ]
        refine wpAnyH_ready (rs := [5, 10]) (by kernel_rfl) (by simp) ?_
        refine AllReadyH.cons rfl (fun K26 hK26 => ?_) (AllReadyH.cons rfl (fun K26 hK26 => ?_) (AllReadyH.nil))
        · refine step_app (by rfl) _ _ 23 (by rfl) S25 (by rfl) Ac cc (b.certs) (by rfl) HAC.out (HSRC.out _ S25.bel) und23e hi0 hz0 hz1 hz2 rfl (by omega) (fun _ => rfl) crtLs_one (by omega) (by simp; omega) ?_
          intro A27 c27 W27 S27
          generalize hr27 : [] ++ b.certs = r27 at S27 ⊢
          have HR27 := Lib.hid hr27
          clear hr27
          have hl27 : r27.length ≤ 0 + b.certs.length := by have := congrArg List.length HR27.out; simp at this; simp; omega
          refine hK26.out _ _ S27.bel (fun _ => ?_)
          clear hK26
          try simp only [Act.put, List.getElem_toArray, List.getElem_cons_zero, List.getElem_cons_succ, List.setIfInBounds_toArray, List.set_cons_zero, List.set_cons_succ]
          refine wpAnyH_ready (rs := [8, 10]) (by kernel_rfl) (by simp) ?_
          refine AllReadyH.cons rfl (fun K28 hK28 => ?_) (AllReadyH.cons rfl (fun K28 hK28 => ?_) (AllReadyH.nil))
          · refine step_app (by rfl) _ _ 23 (by rfl) S27 (by rfl) (some ⟨W2.heap.size, 0, none⟩) 1 ([q]) (by rfl) (fun e => by cases e) (S27.src1) und23e hi0 hz0 hz1 hz2 rfl (by omega) (fun _ => rfl) crtLs_one (by omega) (by simp; omega) ?_
            intro A29 c29 W29 S29
            generalize hr29 : r27 ++ [q] = r29 at S29 ⊢
            have HR29 := Lib.hid hr29
            clear hr29
            have hl29 : r29.length ≤ 0 + b.certs.length + [q].length := by have := congrArg List.length HR29.out; simp at this; simp; omega
            simp only [List.length_singleton] at hl29
            refine hK28.out _ _ S29.bel (fun _ => ?_)
            clear hK28
            try simp only [Act.put, List.getElem_toArray, List.getElem_cons_zero, List.getElem_cons_succ, List.setIfInBounds_toArray, List.set_cons_zero, List.set_cons_succ]
            refine wpAnyH_take (i := 9) (v := .agg #[.slice Ai b.items.length ci, .slice (A29) (r29).length (c29)]) rfl (by kernel_rfl) (by kernel_rfl) (by kernel_rfl) (fun _ _ _ h => h) (Or.inl ⟨by rfl, fun w' hw' => ?_⟩) S29.bel ?_
            · go_simp
            simp only [Act.put, List.getElem_toArray, List.getElem_cons_zero, List.getElem_cons_succ, List.setIfInBounds_toArray, List.set_cons_zero, List.set_cons_succ]
            refine wpAnyH_ready (rs := [10]) (by kernel_rfl) (by simp) ?_
            refine AllReadyH.cons rfl (fun K30 hK30 => ?_) (AllReadyH.nil)
            go_simp
            refine hK30.out _ _ (S29.boxd rfl).bel (fun _ => ?_)
            clear hK30
            refine wpAnyH_abs (I := Sx 58 7 crtLs V (A29) (c29) (r29) (some W2.heap.size) q (some W29.heap.size)) (S29.boxd rfl) (fun W31 S31 => ?_)
            try simp only [Act.put, List.getElem_toArray, List.getElem_cons_zero, List.getElem_cons_succ, List.setIfInBounds_toArray, List.set_cons_zero, List.set_cons_succ]
            refine wpAnyH_ready (rs := [11]) (by kernel_rfl) (by simp) ?_
            refine AllReadyH.cons rfl (fun K32 hK32 => ?_) (AllReadyH.nil)
            obtain rfl : r29 = rr := by rw [HRR.out, ← HR29.out, ← HR27.out]
            obtain ⟨_, _, _, z0, z1, f0, f1⟩ := S31.bxc _ rfl
            have lz := lt_of_cell z0
            go_simp
            have hfin := S31.fin (.slice Ai b.items.length ci) (.slice (A29) (r29).length (c29))
            refine hK32.out _ _ hfin.2.2.2 (fun _ => ?_)
            clear hK32 z0 z1 f0 f1 lz
            refine wpAnyH_done (by kernel_rfl) ?_ _
            exact ⟨_, ⟨_, A29, c29, .slice (some ⟨V.heap.size, 0, none⟩) 0 0, .slice A27 r27.length c27, .slice (some ⟨W2.heap.size, 0, none⟩) 1 1, rfl, hfin⟩, by simp only [outFrame, List.foldl_cons, List.foldl_nil, Act.put, List.setIfInBounds_toArray, List.set_cons_zero, List.set_cons_succ]⟩
          · go_simp
            refine hK28.out _ _ (S27.boxd rfl).bel (fun _ => ?_)
            clear hK28
            refine wpAnyH_abs (I := Sx 58 7 crtLs V (A27) (c27) (r27) (some W2.heap.size) q (some W27.heap.size)) (S27.boxd rfl) (fun W34 S34 => ?_)
            try simp only [Act.put, List.getElem_toArray, List.getElem_cons_zero, List.getElem_cons_succ, List.setIfInBounds_toArray, List.set_cons_zero, List.set_cons_succ]
            refine wpAnyH_ready (rs := [8]) (by kernel_rfl) (by simp) ?_
            refine AllReadyH.cons rfl (fun K35 hK35 => ?_) (AllReadyH.nil)
            refine step_app (by rfl) _ _ 23 (by rfl) S34 (by rfl) (some ⟨W2.heap.size, 0, none⟩) 1 ([q]) (by rfl) (fun e => by cases e) (S34.src1) und23e hi0 hz0 hz1 hz2 rfl (by omega) (fun _ => rfl) crtLs_one (by omega) (by simp; omega) ?_
            intro A36 c36 W36 S36
            generalize hr36 : r27 ++ [q] = r36 at S36 ⊢
            have HR36 := Lib.hid hr36
            clear hr36
            have hl36 : r36.length ≤ 0 + b.certs.length + [q].length := by have := congrArg List.length HR36.out; simp at this; simp; omega
            simp only [List.length_singleton] at hl36
            refine hK35.out _ _ S36.bel (fun _ => ?_)
            clear hK35
            try simp only [Act.put, List.getElem_toArray, List.getElem_cons_zero, List.getElem_cons_succ, List.setIfInBounds_toArray, List.set_cons_zero, List.set_cons_succ]
            refine wpAnyH_take (i := 9) (v := .agg #[.slice Ai b.items.length ci, .slice (A36) (r36).length (c36)]) rfl (by kernel_rfl) (by kernel_rfl) (by kernel_rfl) (fun _ _ _ h => h) (Or.inl ⟨by rfl, fun w' hw' => ?_⟩) S36.bel ?_
            · go_simp
            simp only [Act.put, List.getElem_toArray, List.getElem_cons_zero, List.getElem_cons_succ, List.setIfInBounds_toArray, List.set_cons_zero, List.set_cons_succ]
            refine wpAnyH_ready (rs := [11]) (by kernel_rfl) (by simp) ?_
            refine AllReadyH.cons rfl (fun K37 hK37 => ?_) (AllReadyH.nil)
            obtain rfl : r36 = rr := by rw [HRR.out, ← HR36.out, ← HR27.out]
            obtain ⟨_, _, _, z0, z1, f0, f1⟩ := S36.bxc _ rfl
            have lz := lt_of_cell z0
            go_simp
            have hfin := S36.fin (.slice Ai b.items.length ci) (.slice (A36) (r36).length (c36))
            refine hK37.out _ _ hfin.2.2.2 (fun _ => ?_)
            clear hK37 z0 z1 f0 f1 lz
            refine wpAnyH_done (by kernel_rfl) ?_ _
            exact ⟨_, ⟨_, A36, c36, .slice (some ⟨V.heap.size, 0, none⟩) 0 0, .slice A27 r27.length c27, .slice (some ⟨W2.heap.size, 0, none⟩) 1 1, rfl, hfin⟩, by simp only [outFrame, List.foldl_cons, List.foldl_nil, Act.put, List.setIfInBounds_toArray, List.set_cons_zero, List.set_cons_succ]⟩
        · go_simp
          refine hK26.out _ _ (S25.boxd rfl).bel (fun _ => ?_)
          clear hK26
          refine wpAnyH_abs (I := Sx 58 7 crtLs V (some ⟨V.heap.size, 0, none⟩) (0) ([]) (some W2.heap.size) q (some W25.heap.size)) (S25.boxd rfl) (fun W39 S39 => ?_)
          try simp only [Act.put, List.getElem_toArray, List.getElem_cons_zero, List.getElem_cons_succ, List.setIfInBounds_toArray, List.set_cons_zero, List.set_cons_succ]
          refine wpAnyH_ready (rs := [5]) (by kernel_rfl) (by simp) ?_
          refine AllReadyH.cons rfl (fun K40 hK40 => ?_) (AllReadyH.nil)
          refine step_app (by rfl) _ _ 23 (by rfl) S39 (by rfl) Ac cc (b.certs) (by rfl) HAC.out (HSRC.out _ S39.bel) und23e hi0 hz0 hz1 hz2 rfl (by omega) (fun _ => rfl) crtLs_one (by omega) (by simp; omega) ?_
          intro A41 c41 W41 S41
          generalize hr41 : [] ++ b.certs = r41 at S41 ⊢
          have HR41 := Lib.hid hr41
          clear hr41
          have hl41 : r41.length ≤ 0 + b.certs.length := by have := congrArg List.length HR41.out; simp at this; simp; omega
          refine hK40.out _ _ S41.bel (fun _ => ?_)
          clear hK40
          try simp only [Act.put, List.getElem_toArray, List.getElem_cons_zero, List.getElem_cons_succ, List.setIfInBounds_toArray, List.set_cons_zero, List.set_cons_succ]
          refine wpAnyH_ready (rs := [8]) (by kernel_rfl) (by simp) ?_
          refine AllReadyH.cons rfl (fun K42 hK42 => ?_) (AllReadyH.nil)
          refine step_app (by rfl) _ _ 23 (by rfl) S41 (by rfl) (some ⟨W2.heap.size, 0, none⟩) 1 ([q]) (by rfl) (fun e => by cases e) (S41.src1) und23e hi0 hz0 hz1 hz2 rfl (by omega) (fun _ => rfl) crtLs_one (by omega) (by simp; omega) ?_
          intro A43 c43 W43 S43
          generalize hr43 : r41 ++ [q] = r43 at S43 ⊢
          have HR43 := Lib.hid hr43
          clear hr43
          have hl43 : r43.length ≤ 0 + b.certs.length + [q].length := by have := congrArg List.length HR43.out; simp at this; simp; omega
          simp only [List.length_singleton] at hl43
          refine hK42.out _ _ S43.bel (fun _ => ?_)
          clear hK42
          try simp only [Act.put, List.getElem_toArray, List.getElem_cons_zero, List.getElem_cons_succ, List.setIfInBounds_toArray, List.set_cons_zero, List.set_cons_succ]
          refine wpAnyH_take (i := 9) (v := .agg #[.slice Ai b.items.length ci, .slice (A43) (r43).length (c43)]) rfl (by kernel_rfl) (by kernel_rfl) (by kernel_rfl) (fun _ _ _ h => h) (Or.inl ⟨by rfl, fun w' hw' => ?_⟩) S43.bel ?_
          · go_simp
          simp only [Act.put, List.getElem_toArray, List.getElem_cons_zero, List.getElem_cons_succ, List.setIfInBounds_toArray, List.set_cons_zero, List.set_cons_succ]
          refine wpAnyH_ready (rs := [11]) (by kernel_rfl) (by simp) ?_
          refine AllReadyH.cons rfl (fun K44 hK44 => ?_) (AllReadyH.nil)
          obtain rfl : r43 = rr := by rw [HRR.out, ← HR43.out, ← HR41.out]
          obtain ⟨_, _, _, z0, z1, f0, f1⟩ := S43.bxc _ rfl
          have lz := lt_of_cell z0
          go_simp
          have hfin := S43.fin (.slice Ai b.items.length ci) (.slice (A43) (r43).length (c43))
          refine hK44.out _ _ hfin.2.2.2 (fun _ => ?_)
          clear hK44 z0 z1 f0 f1 lz
          refine wpAnyH_done (by kernel_rfl) ?_ _
          exact ⟨_, ⟨_, A43, c43, .slice (some ⟨V.heap.size, 0, none⟩) 0 0, .slice A41 r41.length c41, .slice (some ⟨W2.heap.size, 0, none⟩) 1 1, rfl, hfin⟩, by simp only [outFrame, List.foldl_cons, List.foldl_nil, Act.put, List.setIfInBounds_toArray, List.set_cons_zero, List.set_cons_succ]⟩
      · go_simp
        refine hK3.out _ _ (S2.boxd rfl).bel (fun _ => ?_)
        clear hK3
        refine wpAnyH_abs (I := Sx 58 7 crtLs V (some ⟨V.heap.size, 0, none⟩) (0) ([]) (none) q (some W2.heap.size)) (S2.boxd rfl) (fun W46 S46 => ?_)
        try simp only [Act.put, List.getElem_toArray, List.getElem_cons_zero, List.getElem_cons_succ, List.setIfInBounds_toArray, List.set_cons_zero, List.set_cons_succ]
        refine wpAnyH_ready (rs := [5, 7]) (by kernel_rfl) (by simp) ?_
        refine AllReadyH.cons rfl (fun K47 hK47 => ?_) (AllReadyH.cons rfl (fun K47 hK47 => ?_) (AllReadyH.nil))
        · refine step_app (by rfl) _ _ 23 (by rfl) S46 (by rfl) Ac cc (b.certs) (by rfl) HAC.out (HSRC.out _ S46.bel) und23e hi0 hz0 hz1 hz2 rfl (by omega) (fun _ => rfl) crtLs_one (by omega) (by simp; omega) ?_
          intro A48 c48 W48 S48
          generalize hr48 : [] ++ b.certs = r48 at S48 ⊢
          have HR48 := Lib.hid hr48
          clear hr48
          have hl48 : r48.length ≤ 0 + b.certs.length := by have := congrArg List.length HR48.out; simp at this; simp; omega
          refine hK47.out _ _ S48.bel (fun _ => ?_)
          clear hK47
          try simp only [Act.put, List.getElem_toArray, List.getElem_cons_zero, List.getElem_cons_succ, List.setIfInBounds_toArray, List.set_cons_zero, List.set_cons_succ]
          refine wpAnyH_ready (rs := [7]) (by kernel_rfl) (by simp) ?_
          refine AllReadyH.cons rfl (fun K49 hK49 => ?_) (AllReadyH.nil)
          go_simp
          refine hK49.out _ _ (S48.elem rfl rfl).bel (fun _ => ?_)
          clear hK49
          refine wpAnyH_abs (I := Sx 58 7 crtLs V (A48) (c48) (r48) (some W48.heap.size) q (some W2.heap.size)) (S48.elem rfl rfl) (fun W50 S50 => ?_)
          try simp only [Act.put, List.getElem_toArray, List.getElem_cons_zero, List.getElem_cons_succ, List.setIfInBounds_toArray, List.set_cons_zero, List.set_cons_succ]
          refine wpAnyH_ready (rs := [8]) (by kernel_rfl) (by simp) ?_
          refine AllReadyH.cons rfl (fun K51 hK51 => ?_) (AllReadyH.nil)
          refine step_app (by rfl) _ _ 23 (by rfl) S50 (by rfl) (some ⟨W48.heap.size, 0, none⟩) 1 ([q]) (by rfl) (fun e => by cases e) (S50.src1) und23e hi0 hz0 hz1 hz2 rfl (by omega) (fun _ => rfl) crtLs_one (by omega) (by simp; omega) ?_
          intro A52 c52 W52 S52
          generalize hr52 : r48 ++ [q] = r52 at S52 ⊢
          have HR52 := Lib.hid hr52
          clear hr52
          have hl52 : r52.length ≤ 0 + b.certs.length + [q].length := by have := congrArg List.length HR52.out; simp at this; simp; omega
          simp only [List.length_singleton] at hl52
          refine hK51.out _ _ S52.bel (fun _ => ?_)
          clear hK51
          try simp only [Act.put, List.getElem_toArray, List.getElem_cons_zero, List.getElem_cons_succ, List.setIfInBounds_toArray, List.set_cons_zero, List.set_cons_succ]
          refine wpAnyH_take (i := 9) (v := .agg #[.slice Ai b.items.length ci, .slice (A52) (r52).length (c52)]) rfl (by kernel_rfl) (by kernel_rfl) (by kernel_rfl) (fun _ _ _ h => h) (Or.inl ⟨by rfl, fun w' hw' => ?_⟩) S52.bel ?_
          · go_simp
          simp only [Act.put, List.getElem_toArray, List.getElem_cons_zero, List.getElem_cons_succ, List.setIfInBounds_toArray, List.set_cons_zero, List.set_cons_succ]
          refine wpAnyH_ready (rs := [11]) (by kernel_rfl) (by simp) ?_
          refine AllReadyH.cons rfl (fun K53 hK53 => ?_) (AllReadyH.nil)
          obtain rfl : r52 = rr := by rw [HRR.out, ← HR52.out, ← HR48.out]
          obtain ⟨_, _, _, z0, z1, f0, f1⟩ := S52.bxc _ rfl
          have lz := lt_of_cell z0
          go_simp
          have hfin := S52.fin (.slice Ai b.items.length ci) (.slice (A52) (r52).length (c52))
          refine hK53.out _ _ hfin.2.2.2 (fun _ => ?_)
          clear hK53 z0 z1 f0 f1 lz
          refine wpAnyH_done (by kernel_rfl) ?_ _
          exact ⟨_, ⟨_, A52, c52, .slice (some ⟨V.heap.size, 0, none⟩) 0 0, .slice A48 r48.length c48, .slice (some ⟨W48.heap.size, 0, none⟩) 1 1, rfl, hfin⟩, by simp only [outFrame, List.foldl_cons, List.foldl_nil, Act.put, List.setIfInBounds_toArray, List.set_cons_zero, List.set_cons_succ]⟩
        · go_simp
          refine hK47.out _ _ (S46.elem rfl rfl).bel (fun _ => ?_)
          clear hK47
          refine wpAnyH_abs (I := Sx 58 7 crtLs V (some ⟨V.heap.size, 0, none⟩) (0) ([]) (some W46.heap.size) q (some W2.heap.size)) (S46.elem rfl rfl) (fun W55 S55 => ?_)
          try simp only [Act.put, List.getElem_toArray, List.getElem_cons_zero, List.getElem_cons_succ, List.setIfInBounds_toArray, List.set_cons_zero, List.set_cons_succ]
          refine wpAnyH_ready (rs := [5]) (by kernel_rfl) (by simp) ?_
          refine AllReadyH.cons rfl (fun K56 hK56 => ?_) (AllReadyH.nil)
          refine step_app (by rfl) _ _ 23 (by rfl) S55 (by rfl) Ac cc (b.certs) (by rfl) HAC.out (HSRC.out _ S55.bel) und23e hi0 hz0 hz1 hz2 rfl (by omega) (fun _ => rfl) crtLs_one (by omega) (by simp; omega) ?_
          intro A57 c57 W57 S57
          generalize hr57 : [] ++ b.certs = r57 at S57 ⊢
          have HR57 := Lib.hid hr57
          clear hr57
          have hl57 : r57.length ≤ 0 + b.certs.length := by have := congrArg List.length HR57.out; simp at this; simp; omega
          refine hK56.out _ _ S57.bel (fun _ => ?_)
          clear hK56
          try simp only [Act.put, List.getElem_toArray, List.getElem_cons_zero, List.getElem_cons_succ, List.setIfInBounds_toArray, List.set_cons_zero, List.set_cons_succ]
          refine wpAnyH_ready (rs := [8]) (by kernel_rfl) (by simp) ?_
          refine AllReadyH.cons rfl (fun K58 hK58 => ?_) (AllReadyH.nil)
          refine step_app (by rfl) _ _ 23 (by rfl) S57 (by rfl) (some ⟨W46.heap.size, 0, none⟩) 1 ([q]) (by rfl) (fun e => by cases e) (S57.src1) und23e hi0 hz0 hz1 hz2 rfl (by omega) (fun _ => rfl) crtLs_one (by omega) (by simp; omega) ?_
          intro A59 c59 W59 S59
          generalize hr59 : r57 ++ [q] = r59 at S59 ⊢
          have HR59 := Lib.hid hr59
          clear hr59
          have hl59 : r59.length ≤ 0 + b.certs.length + [q].length := by have := congrArg List.length HR59.out; simp at this; simp; omega
          simp only [List.length_singleton] at hl59
          refine hK58.out _ _ S59.bel (fun _ => ?_)
          clear hK58
          try simp only [Act.put, List.getElem_toArray, List.getElem_cons_zero, List.getElem_cons_succ, List.setIfInBounds_toArray, List.set_cons_zero, List.set_cons_succ]
          refine wpAnyH_take (i := 9) (v := .agg #[.slice Ai b.items.length ci, .slice (A59) (r59).length (c59)]) rfl (by kernel_rfl) (by kernel_rfl) (by kernel_rfl) (fun _ _ _ h => h) (Or.inl ⟨by rfl, fun w' hw' => ?_⟩) S59.bel ?_
          · go_simp
          simp only [Act.put, List.getElem_toArray, List.getElem_cons_zero, List.getElem_cons_succ, List.setIfInBounds_toArray, List.set_cons_zero, List.set_cons_succ]
          refine wpAnyH_ready (rs := [11]) (by kernel_rfl) (by simp) ?_
          refine AllReadyH.cons rfl (fun K60 hK60 => ?_) (AllReadyH.nil)
          obtain rfl : r59 = rr := by rw [HRR.out, ← HR59.out, ← HR57.out]
          obtain ⟨_, _, _, z0, z1, f0, f1⟩ := S59.bxc _ rfl
          have lz := lt_of_cell z0
          go_simp
          have hfin := S59.fin (.slice Ai b.items.length ci) (.slice (A59) (r59).length (c59))
          refine hK60.out _ _ hfin.2.2.2 (fun _ => ?_)
          clear hK60 z0 z1 f0 f1 lz
          refine wpAnyH_done (by kernel_rfl) ?_ _
          exact ⟨_, ⟨_, A59, c59, .slice (some ⟨V.heap.size, 0, none⟩) 0 0, .slice A57 r57.length c57, .slice (some ⟨W46.heap.size, 0, none⟩) 1 1, rfl, hfin⟩, by simp only [outFrame, List.foldl_cons, List.foldl_nil, Act.put, List.setIfInBounds_toArray, List.set_cons_zero, List.set_cons_succ]⟩
    · go_simp
      refine hK1.out _ _ (S0.elem rfl rfl).bel (fun _ => ?_)
      clear hK1
      refine wpAnyH_abs (I := Sx 58 7 crtLs V (none) (0) ([]) (some V.heap.size) q (none)) (S0.elem rfl rfl) (fun W62 S62 => ?_)
      try simp only [Act.put, List.getElem_toArray, List.getElem_cons_zero, List.getElem_cons_succ, List.setIfInBounds_toArray, List.set_cons_zero, List.set_cons_succ]
      refine wpAnyH_ready (rs := [2, 10]) (by kernel_rfl) (by simp) ?_
      refine AllReadyH.cons rfl (fun K63 hK63 => ?_) (AllReadyH.cons rfl (fun K63 hK63 => ?_) (AllReadyH.nil))
      · go_simp
        refine hK63.out _ _ (S62.made rfl).bel (fun _ => ?_)
        clear hK63
        refine wpAnyH_abs (I := Sx 58 7 crtLs V (some ⟨W62.heap.size, 0, none⟩) (0) ([]) (some V.heap.size) q (none)) (S62.made rfl) (fun W64 S64 => ?_)
        try simp only [Act.put, List.getElem_toArray, List.getElem_cons_zero, List.getElem_cons_succ, List.setIfInBounds_toArray, List.set_cons_zero, List.set_cons_succ]
        refine wpAnyH_ready (rs := [5, 10]) (by kernel_rfl) (by simp) ?_
        refine AllReadyH.cons rfl (fun K65 hK65 => ?_) (AllReadyH.cons rfl (fun K65 hK65 => ?_) (AllReadyH.nil))
        · refine step_app (by rfl) _ _ 23 (by rfl) S64 (by rfl) Ac cc (b.certs) (by rfl) HAC.out (HSRC.out _ S64.bel) und23e hi0 hz0 hz1 hz2 rfl (by omega) (fun _ => rfl) crtLs_one (by omega) (by simp; omega) ?_
          intro A66 c66 W66 S66
          generalize hr66 : [] ++ b.certs = r66 at S66 ⊢
          have HR66 := Lib.hid hr66
          clear hr66
          have hl66 : r66.length ≤ 0 + b.certs.length := by have := congrArg List.length HR66.out; simp at this; simp; omega
          refine hK65.out _ _ S66.bel (fun _ => ?_)
          clear hK65
          try simp only [Act.put, List.getElem_toArray, List.getElem_cons_zero, List.getElem_cons_succ, List.setIfInBounds_toArray, List.set_cons_zero, List.set_cons_succ]
          refine wpAnyH_ready (rs := [8, 10]) (by kernel_rfl) (by simp) ?_
          refine AllReadyH.cons rfl (fun K67 hK67 => ?_) (AllReadyH.cons rfl (fun K67 hK67 => ?_) (AllReadyH.nil))
          · refine step_app (by rfl) _ _ 23 (by rfl) S66 (by rfl) (some ⟨V.heap.size, 0, none⟩) 1 ([q]) (by rfl) (fun e => by cases e) (S66.src1) und23e hi0 hz0 hz1 hz2 rfl (by omega) (fun _ => rfl) crtLs_one (by omega) (by simp; omega) ?_
            intro A68 c68 W68 S68
            generalize hr68 : r66 ++ [q] = r68 at S68 ⊢
            have HR68 := Lib.hid hr68
            clear hr68
            have hl68 : r68.length ≤ 0 + b.certs.length + [q].length := by have := congrArg List.length HR68.out; simp at this; simp; omega
            simp only [List.length_singleton] at hl68
            refine hK67.out _ _ S68.bel (fun _ => ?_)
            clear hK67
            try simp only [Act.put, List.getElem_toArray, List.getElem_cons_zero, List.getElem_cons_succ, List.setIfInBounds_toArray, List.set_cons_zero, List.set_cons_succ]
            refine wpAnyH_take (i := 9) (v := .agg #[.slice Ai b.items.length ci, .slice (A68) (r68).length (c68)]) rfl (by kernel_rfl) (by kernel_rfl) (by kernel_rfl) (fun _ _ _ h => h) (Or.inl ⟨by rfl, fun w' hw' => ?_⟩) S68.bel ?_
            · go_simp
            simp only [Act.put, List.getElem_toArray, List.getElem_cons_zero, List.getElem_cons_succ, List.setIfInBounds_toArray, List.set_cons_zero, List.set_cons_succ]
            refine wpAnyH_ready (rs := [10]) (by kernel_rfl) (by simp) ?_
            refine AllReadyH.cons rfl (fun K69 hK69 => ?_) (AllReadyH.nil)
            go_simp
            refine hK69.out _ _ (S68.boxd rfl).bel (fun _ => ?_)
            clear hK69
            refine wpAnyH_abs (I := Sx 58 7 crtLs V (A68) (c68) (r68) (some V.heap.size) q (some W68.heap.size)) (S68.boxd rfl) (fun W70 S70 => ?_)
            try simp only [Act.put, List.getElem_toArray, List.getElem_cons_zero, List.getElem_cons_succ, List.setIfInBounds_toArray, List.set_cons_zero, List.set_cons_succ]
            refine wpAnyH_ready (rs := [11]) (by kernel_rfl) (by simp) ?_
            refine AllReadyH.cons rfl (fun K71 hK71 => ?_) (AllReadyH.nil)
            obtain rfl : r68 = rr := by rw [HRR.out, ← HR68.out, ← HR66.out]
            obtain ⟨_, _, _, z0, z1, f0, f1⟩ := S70.bxc _ rfl
            have lz := lt_of_cell z0
            go_simp
            have hfin := S70.fin (.slice Ai b.items.length ci) (.slice (A68) (r68).length (c68))
            refine hK71.out _ _ hfin.2.2.2 (fun _ => ?_)
            clear hK71 z0 z1 f0 f1 lz
            refine wpAnyH_done (by kernel_rfl) ?_ _
            exact ⟨_, ⟨_, A68, c68, .slice (some ⟨W62.heap.size, 0, none⟩) 0 0, .slice A66 r66.length c66, .slice (some ⟨V.heap.size, 0, none⟩) 1 1, rfl, hfin⟩, by simp only [outFrame, List.foldl_cons, List.foldl_nil, Act.put, List.setIfInBounds_toArray, List.set_cons_zero, List.set_cons_succ]⟩
          · go_simp
            refine hK67.out _ _ (S66.boxd rfl).bel (fun _ => ?_)
            clear hK67
            refine wpAnyH_abs (I := Sx 58 7 crtLs V (A66) (c66) (r66) (some V.heap.size) q (some W66.heap.size)) (S66.boxd rfl) (fun W73 S73 => ?_)
            try simp only [Act.put, List.getElem_toArray, List.getElem_cons_zero, List.getElem_cons_succ, List.setIfInBounds_toArray, List.set_cons_zero, List.set_cons_succ]
            refine wpAnyH_ready (rs := [8]) (by kernel_rfl) (by simp) ?_
            refine AllReadyH.cons rfl (fun K74 hK74 => ?_) (AllReadyH.nil)
            refine step_app (by rfl) _ _ 23 (by rfl) S73 (by rfl) (some ⟨V.heap.size, 0, none⟩) 1 ([q]) (by rfl) (fun e => by cases e) (S73.src1) und23e hi0 hz0 hz1 hz2 rfl (by omega) (fun _ => rfl) crtLs_one (by omega) (by simp; omega) ?_
            intro A75 c75 W75 S75
            generalize hr75 : r66 ++ [q] = r75 at S75 ⊢
            have HR75 := Lib.hid hr75
            clear hr75
            have hl75 : r75.length ≤ 0 + b.certs.length + [q].length := by have := congrArg List.length HR75.out; simp at this; simp; omega
            simp only [List.length_singleton] at hl75
            refine hK74.out _ _ S75.bel (fun _ => ?_)
            clear hK74
            try simp only [Act.put, List.getElem_toArray, List.getElem_cons_zero, List.getElem_cons_succ, List.setIfInBounds_toArray, List.set_cons_zero, List.set_cons_succ]
            refine wpAnyH_take (i := 9) (v := .agg #[.slice Ai b.items.length ci, .slice (A75) (r75).length (c75)]) rfl (by kernel_rfl) (by kernel_rfl) (by kernel_rfl) (fun _ _ _ h => h) (Or.inl ⟨by rfl, fun w' hw' => ?_⟩) S75.bel ?_
            · go_simp
            simp only [Act.put, List.getElem_toArray, List.getElem_cons_zero, List.getElem_cons_succ, List.setIfInBounds_toArray, List.set_cons_zero, List.set_cons_succ]
            refine wpAnyH_ready (rs := [11]) (by kernel_rfl) (by simp) ?_
            refine AllReadyH.cons rfl (fun K76 hK76 => ?_) (AllReadyH.nil)
            obtain rfl : r75 = rr := by rw [HRR.out, ← HR75.out, ← HR66.out]
            obtain ⟨_, _, _, z0, z1, f0, f1⟩ := S75.bxc _ rfl
            have lz := lt_of_cell z0
            go_simp
            have hfin := S75.fin (.slice Ai b.items.length ci) (.slice (A75) (r75).length (c75))
            refine hK76.out _ _ hfin.2.2.2 (fun _ => ?_)
            clear hK76 z0 z1 f0 f1 lz
            refine wpAnyH_done (by kernel_rfl) ?_ _
            exact ⟨_, ⟨_, A75, c75, .slice (some ⟨W62.heap.size, 0, none⟩) 0 0, .slice A66 r66.length c66, .slice (some ⟨V.heap.size, 0, none⟩) 1 1, rfl, hfin⟩, by simp only [outFrame, List.foldl_cons, List.foldl_nil, Act.put, List.setIfInBounds_toArray, List.set_cons_zero, List.set_cons_succ]⟩
        · go_simp
          refine hK65.out _ _ (S64.boxd rfl).bel (fun _ => ?_)
          clear hK65
          refine wpAnyH_abs (I := Sx 58 7 crtLs V (some ⟨W62.heap.size, 0, none⟩) (0) ([]) (some V.heap.size) q (some W64.heap.size)) (S64.boxd rfl) (fun W78 S78 => ?_)
          try simp only [Act.put, List.getElem_toArray, List.getElem_cons_zero, List.getElem_cons_succ, List.setIfInBounds_toArray, List.set_cons_zero, List.set_cons_succ]
          refine wpAnyH_ready (rs := [5]) (by kernel_rfl) (by simp) ?_
          refine AllReadyH.cons rfl (fun K79 hK79 => ?_) (AllReadyH.nil)
          refine step_app (by rfl) _ _ 23 (by rfl) S78 (by rfl) Ac cc (b.certs) (by rfl) HAC.out (HSRC.out _ S78.bel) und23e hi0 hz0 hz1 hz2 rfl (by omega) (fun _ => rfl) crtLs_one (by omega) (by simp; omega) ?_
          intro A80 c80 W80 S80
          generalize hr80 : [] ++ b.certs = r80 at S80 ⊢
          have HR80 := Lib.hid hr80
          clear hr80
          have hl80 : r80.length ≤ 0 + b.certs.length := by have := congrArg List.length HR80.out; simp at this; simp; omega
          refine hK79.out _ _ S80.bel (fun _ => ?_)
          clear hK79
          try simp only [Act.put, List.getElem_toArray, List.getElem_cons_zero, List.getElem_cons_succ, List.setIfInBounds_toArray, List.set_cons_zero, List.set_cons_succ]
          refine wpAnyH_ready (rs := [8]) (by kernel_rfl) (by simp) ?_
          refine AllReadyH.cons rfl (fun K81 hK81 => ?_) (AllReadyH.nil)
          refine step_app (by rfl) _ _ 23 (by rfl) S80 (by rfl) (some ⟨V.heap.size, 0, none⟩) 1 ([q]) (by rfl) (fun e => by cases e) (S80.src1) und23e hi0 hz0 hz1 hz2 rfl (by omega) (fun _ => rfl) crtLs_one (by omega) (by simp; omega) ?_
          intro A82 c82 W82 S82
          generalize hr82 : r80 ++ [q] = r82 at S82 ⊢
          have HR82 := Lib.hid hr82
          clear hr82
          have hl82 : r82.length ≤ 0 + b.certs.length + [q].length := by have := congrArg List.length HR82.out; simp at this; simp; omega
          simp only [List.length_singleton] at hl82
          refine hK81.out _ _ S82.bel (fun _ => ?_)
          clear hK81
          try simp only [Act.put, List.getElem_toArray, List.getElem_cons_zero, List.getElem_cons_succ, List.setIfInBounds_toArray, List.set_cons_zero, List.set_cons_succ]
          refine wpAnyH_take (i := 9) (v := .agg #[.slice Ai b.items.length ci, .slice (A82) (r82).length (c82)]) rfl (by kernel_rfl) (by kernel_rfl) (by kernel_rfl) (fun _ _ _ h => h) (Or.inl ⟨by rfl, fun w' hw' => ?_⟩) S82.bel ?_
          · go_simp
          simp only [Act.put, List.getElem_toArray, List.getElem_cons_zero, List.getElem_cons_succ, List.setIfInBounds_toArray, List.set_cons_zero, List.set_cons_succ]
          refine wpAnyH_ready (rs := [11]) (by kernel_rfl) (by simp) ?_
          refine AllReadyH.cons rfl (fun K83 hK83 => ?_) (AllReadyH.nil)
          obtain rfl : r82 = rr := by rw [HRR.out, ← HR82.out, ← HR80.out]
          obtain ⟨_, _, _, z0, z1, f0, f1⟩ := S82.bxc _ rfl
          have lz := lt_of_cell z0
          go_simp
          have hfin := S82.fin (.slice Ai b.items.length ci) (.slice (A82) (r82).length (c82))
          refine hK83.out _ _ hfin.2.2.2 (fun _ => ?_)
          clear hK83 z0 z1 f0 f1 lz
          refine wpAnyH_done (by kernel_rfl) ?_ _
          exact ⟨_, ⟨_, A82, c82, .slice (some ⟨W62.heap.size, 0, none⟩) 0 0, .slice A80 r80.length c80, .slice (some ⟨V.heap.size, 0, none⟩) 1 1, rfl, hfin⟩, by simp only [outFrame, List.foldl_cons, List.foldl_nil, Act.put, List.setIfInBounds_toArray, List.set_cons_zero, List.set_cons_succ]⟩
      · go_simp
        refine hK63.out _ _ (S62.boxd rfl).bel (fun _ => ?_)
        clear hK63
        refine wpAnyH_abs (I := Sx 58 7 crtLs V (none) (0) ([]) (some V.heap.size) q (some W62.heap.size)) (S62.boxd rfl) (fun W85 S85 => ?_)
        try simp only [Act.put, List.getElem_toArray, List.getElem_cons_zero, List.getElem_cons_succ, List.setIfInBounds_toArray, List.set_cons_zero, List.set_cons_succ]
        refine wpAnyH_ready (rs := [2]) (by kernel_rfl) (by simp) ?_
        refine AllReadyH.cons rfl (fun K86 hK86 => ?_) (AllReadyH.nil)
        go_simp
        refine hK86.out _ _ (S85.made rfl).bel (fun _ => ?_)
        clear hK86
        refine wpAnyH_abs (I := Sx 58 7 crtLs V (some ⟨W85.heap.size, 0, none⟩) (0) ([]) (some V.heap.size) q (some W62.heap.size)) (S85.made rfl) (fun W87 S87 => ?_)
        try simp only [Act.put, List.getElem_toArray, List.getElem_cons_zero, List.getElem_cons_succ, List.setIfInBounds_toArray, List.set_cons_zero, List.set_cons_succ]
        refine wpAnyH_ready (rs := [5]) (by kernel_rfl) (by simp) ?_
        refine AllReadyH.cons rfl (fun K88 hK88 => ?_) (AllReadyH.nil)
        refine step_app (by rfl) _ _ 23 (by rfl) S87 (by rfl) Ac cc (b.certs) (by rfl) HAC.out (HSRC.out _ S87.bel) und23e hi0 hz0 hz1 hz2 rfl (by omega) (fun _ => rfl) crtLs_one (by omega) (by simp; omega) ?_
        intro A89 c89 W89 S89
        generalize hr89 : [] ++ b.certs = r89 at S89 ⊢
        have HR89 := Lib.hid hr89
        clear hr89
        have hl89 : r89.length ≤ 0 + b.certs.length := by have := congrArg List.length HR89.out; simp at this; simp; omega
        refine hK88.out _ _ S89.bel (fun _ => ?_)
        clear hK88
        try simp only [Act.put, List.getElem_toArray, List.getElem_cons_zero, List.getElem_cons_succ, List.setIfInBounds_toArray, List.set_cons_zero, List.set_cons_succ]
        refine wpAnyH_ready (rs := [8]) (by kernel_rfl) (by simp) ?_
        refine AllReadyH.cons rfl (fun K90 hK90 => ?_) (AllReadyH.nil)
        refine step_app (by rfl) _ _ 23 (by rfl) S89 (by rfl) (some ⟨V.heap.size, 0, none⟩) 1 ([q]) (by rfl) (fun e => by cases e) (S89.src1) und23e hi0 hz0 hz1 hz2 rfl (by omega) (fun _ => rfl) crtLs_one (by omega) (by simp; omega) ?_
        intro A91 c91 W91 S91
        generalize hr91 : r89 ++ [q] = r91 at S91 ⊢
        have HR91 := Lib.hid hr91
        clear hr91
        have hl91 : r91.length ≤ 0 + b.certs.length + [q].length := by have := congrArg List.length HR91.out; simp at this; simp; omega
        simp only [List.length_singleton] at hl91
        refine hK90.out _ _ S91.bel (fun _ => ?_)
        clear hK90
        try simp only [Act.put, List.getElem_toArray, List.getElem_cons_zero, List.getElem_cons_succ, List.setIfInBounds_toArray, List.set_cons_zero, List.set_cons_succ]
        refine wpAnyH_take (i := 9) (v := .agg #[.slice Ai b.items.length ci, .slice (A91) (r91).length (c91)]) rfl (by kernel_rfl) (by kernel_rfl) (by kernel_rfl) (fun _ _ _ h => h) (Or.inl ⟨by rfl, fun w' hw' => ?_⟩) S91.bel ?_
        · go_simp
        simp only [Act.put, List.getElem_toArray, List.getElem_cons_zero, List.getElem_cons_succ, List.setIfInBounds_toArray, List.set_cons_zero, List.set_cons_succ]
        refine wpAnyH_ready (rs := [11]) (by kernel_rfl) (by simp) ?_
        refine AllReadyH.cons rfl (fun K92 hK92 => ?_) (AllReadyH.nil)
        obtain rfl : r91 = rr := by rw [HRR.out, ← HR91.out, ← HR89.out]
        obtain ⟨_, _, _, z0, z1, f0, f1⟩ := S91.bxc _ rfl
        have lz := lt_of_cell z0
        go_simp
        have hfin := S91.fin (.slice Ai b.items.length ci) (.slice (A91) (r91).length (c91))
        refine hK92.out _ _ hfin.2.2.2 (fun _ => ?_)
        clear hK92 z0 z1 f0 f1 lz
        refine wpAnyH_done (by kernel_rfl) ?_ _
        exact ⟨_, ⟨_, A91, c91, .slice (some ⟨W85.heap.size, 0, none⟩) 0 0, .slice A89 r89.length c89, .slice (some ⟨V.heap.size, 0, none⟩) 1 1, rfl, hfin⟩, by simp only [outFrame, List.foldl_cons, List.foldl_nil, Act.put, List.setIfInBounds_toArray, List.set_cons_zero, List.set_cons_succ]⟩
    · go_simp
      refine hK1.out _ _ (S0.boxd rfl).bel (fun _ => ?_)
      clear hK1
      refine wpAnyH_abs (I := Sx 58 7 crtLs V (none) (0) ([]) (none) q (some V.heap.size)) (S0.boxd rfl) (fun W94 S94 => ?_)
      try simp only [Act.put, List.getElem_toArray, List.getElem_cons_zero, List.getElem_cons_succ, List.setIfInBounds_toArray, List.set_cons_zero, List.set_cons_succ]
      refine wpAnyH_ready (rs := [2, 7]) (by kernel_rfl) (by simp) ?_
      refine AllReadyH.cons rfl (fun K95 hK95 => ?_) (AllReadyH.cons rfl (fun K95 hK95 => ?_) (AllReadyH.nil))
      · go_simp
        refine hK95.out _ _ (S94.made rfl).bel (fun _ => ?_)
        clear hK95
        refine wpAnyH_abs (I := Sx 58 7 crtLs V (some ⟨W94.heap.size, 0, none⟩) (0) ([]) (none) q (some V.heap.size)) (S94.made rfl) (fun W96 S96 => ?_)
        try simp only [Act.put, List.getElem_toArray, List.getElem_cons_zero, List.getElem_cons_succ, List.setIfInBounds_toArray, List.set_cons_zero, List.set_cons_succ]
        refine wpAnyH_ready (rs := [5, 7]) (by kernel_rfl) (by simp) ?_
        refine AllReadyH.cons rfl (fun K97 hK97 => ?_) (AllReadyH.cons rfl (fun K97 hK97 => ?_) (AllReadyH.nil))
        · refine step_app (by rfl) _ _ 23 (by rfl) S96 (by rfl) Ac cc (b.certs) (by rfl) HAC.out (HSRC.out _ S96.bel) und23e hi0 hz0 hz1 hz2 rfl (by omega) (fun _ => rfl) crtLs_one (by omega) (by simp; omega) ?_
          intro A98 c98 W98 S98
          generalize hr98 : [] ++ b.certs = r98 at S98 ⊢
          have HR98 := Lib.hid hr98
          clear hr98
          have hl98 : r98.length ≤ 0 + b.certs.length := by have := congrArg List.length HR98.out; simp at this; simp; omega
          refine hK97.out _ _ S98.bel (fun _ => ?_)
          clear hK97
          try simp only [Act.put, List.getElem_toArray, List.getElem_cons_zero, List.getElem_cons_succ, List.setIfInBounds_toArray, List.set_cons_zero, List.set_cons_succ]
          refine wpAnyH_ready (rs := [7]) (by kernel_rfl) (by simp) ?_
          refine AllReadyH.cons rfl (fun K99 hK99 => ?_) (AllReadyH.nil)
          go_simp
          refine hK99.out _ _ (S98.elem rfl rfl).bel (fun _ => ?_)
          clear hK99
          refine wpAnyH_abs (I := Sx 58 7 crtLs V (A98) (c98) (r98) (some W98.heap.size) q (some V.heap.size)) (S98.elem rfl rfl) (fun W100 S100 => ?_)
          try simp only [Act.put, List.getElem_toArray, List.getElem_cons_zero, List.getElem_cons_succ, List.setIfInBounds_toArray, List.set_cons_zero, List.set_cons_succ]
          refine wpAnyH_ready (rs := [8]) (by kernel_rfl) (by simp) ?_
          refine AllReadyH.cons rfl (fun K101 hK101 => ?_) (AllReadyH.nil)
          refine step_app (by rfl) _ _ 23 (by rfl) S100 (by rfl) (some ⟨W98.heap.size, 0, none⟩) 1 ([q]) (by rfl) (fun e => by cases e) (S100.src1) und23e hi0 hz0 hz1 hz2 rfl (by omega) (fun _ => rfl) crtLs_one (by omega) (by simp; omega) ?_
          intro A102 c102 W102 S102
          generalize hr102 : r98 ++ [q] = r102 at S102 ⊢
          have HR102 := Lib.hid hr102
          clear hr102
          have hl102 : r102.length ≤ 0 + b.certs.length + [q].length := by have := congrArg List.length HR102.out; simp at this; simp; omega
          simp only [List.length_singleton] at hl102
          refine hK101.out _ _ S102.bel (fun _ => ?_)
          clear hK101
          try simp only [Act.put, List.getElem_toArray, List.getElem_cons_zero, List.getElem_cons_succ, List.setIfInBounds_toArray, List.set_cons_zero, List.set_cons_succ]
          refine wpAnyH_take (i := 9) (v := .agg #[.slice Ai b.items.length ci, .slice (A102) (r102).length (c102)]) rfl (by kernel_rfl) (by kernel_rfl) (by kernel_rfl) (fun _ _ _ h => h) (Or.inl ⟨by rfl, fun w' hw' => ?_⟩) S102.bel ?_
          · go_simp
          simp only [Act.put, List.getElem_toArray, List.getElem_cons_zero, List.getElem_cons_succ, List.setIfInBounds_toArray, List.set_cons_zero, List.set_cons_succ]
          refine wpAnyH_ready (rs := [11]) (by kernel_rfl) (by simp) ?_
          refine AllReadyH.cons rfl (fun K103 hK103 => ?_) (AllReadyH.nil)
          obtain rfl : r102 = rr := by rw [HRR.out, ← HR102.out, ← HR98.out]
          obtain ⟨_, _, _, z0, z1, f0, f1⟩ := S102.bxc _ rfl
          have lz := lt_of_cell z0
          go_simp
          have hfin := S102.fin (.slice Ai b.items.length ci) (.slice (A102) (r102).length (c102))
          refine hK103.out _ _ hfin.2.2.2 (fun _ => ?_)
          clear hK103 z0 z1 f0 f1 lz
          refine wpAnyH_done (by kernel_rfl) ?_ _
          exact ⟨_, ⟨_, A102, c102, .slice (some ⟨W94.heap.size, 0, none⟩) 0 0, .slice A98 r98.length c98, .slice (some ⟨W98.heap.size, 0, none⟩) 1 1, rfl, hfin⟩, by simp only [outFrame, List.foldl_cons, List.foldl_nil, Act.put, List.setIfInBounds_toArray, List.set_cons_zero, List.set_cons_succ]⟩
        · go_simp
          refine hK97.out _ _ (S96.elem rfl rfl).bel (fun _ => ?_)
          clear hK97
          refine wpAnyH_abs (I := Sx 58 7 crtLs V (some ⟨W94.heap.size, 0, none⟩) (0) ([]) (some W96.heap.size) q (some V.heap.size)) (S96.elem rfl rfl) (fun W105 S105 => ?_)
          try simp only [Act.put, List.getElem_toArray, List.getElem_cons_zero, List.getElem_cons_succ, List.setIfInBounds_toArray, List.set_cons_zero, List.set_cons_succ]
          refine wpAnyH_ready (rs := [5]) (by kernel_rfl) (by simp) ?_
          refine AllReadyH.cons rfl (fun K106 hK106 => ?_) (AllReadyH.nil)
          refine step_app (by rfl) _ _ 23 (by rfl) S105 (by rfl) Ac cc (b.certs) (by rfl) HAC.out (HSRC.out _ S105.bel) und23e hi0 hz0 hz1 hz2 rfl (by omega) (fun _ => rfl) crtLs_one (by omega) (by simp; omega) ?_
          intro A107 c107 W107 S107
          generalize hr107 : [] ++ b.certs = r107 at S107 ⊢
          have HR107 := Lib.hid hr107
          clear hr107
          have hl107 : r107.length ≤ 0 + b.certs.length := by have := congrArg List.length HR107.out; simp at this; simp; omega
          refine hK106.out _ _ S107.bel (fun _ => ?_)
          clear hK106
          try simp only [Act.put, List.getElem_toArray, List.getElem_cons_zero, List.getElem_cons_succ, List.setIfInBounds_toArray, List.set_cons_zero, List.set_cons_succ]
          refine wpAnyH_ready (rs := [8]) (by kernel_rfl) (by simp) ?_
          refine AllReadyH.cons rfl (fun K108 hK108 => ?_) (AllReadyH.nil)
          refine step_app (by rfl) _ _ 23 (by rfl) S107 (by rfl) (some ⟨W96.heap.size, 0, none⟩) 1 ([q]) (by rfl) (fun e => by cases e) (S107.src1) und23e hi0 hz0 hz1 hz2 rfl (by omega) (fun _ => rfl) crtLs_one (by omega) (by simp; omega) ?_
          intro A109 c109 W109 S109
          generalize hr109 : r107 ++ [q] = r109 at S109 ⊢
          have HR109 := Lib.hid hr109
          clear hr109
          have hl109 : r109.length ≤ 0 + b.certs.length + [q].length := by have := congrArg List.length HR109.out; simp at this; simp; omega
          simp only [List.length_singleton] at hl109
          refine hK108.out _ _ S109.bel (fun _ => ?_)
          clear hK108
          try simp only [Act.put, List.getElem_toArray, List.getElem_cons_zero, List.getElem_cons_succ, List.setIfInBounds_toArray, List.set_cons_zero, List.set_cons_succ]
          refine wpAnyH_take (i := 9) (v := .agg #[.slice Ai b.items.length ci, .slice (A109) (r109).length (c109)]) rfl (by kernel_rfl) (by kernel_rfl) (by kernel_rfl) (fun _ _ _ h => h) (Or.inl ⟨by rfl, fun w' hw' => ?_⟩) S109.bel ?_
          · go_simp
          simp only [Act.put, List.getElem_toArray, List.getElem_cons_zero, List.getElem_cons_succ, List.setIfInBounds_toArray, List.set_cons_zero, List.set_cons_succ]
          refine wpAnyH_ready (rs := [11]) (by kernel_rfl) (by simp) ?_
          refine AllReadyH.cons rfl (fun K110 hK110 => ?_) (AllReadyH.nil)
          obtain rfl : r109 = rr := by rw [HRR.out, ← HR109.out, ← HR107.out]
          obtain ⟨_, _, _, z0, z1, f0, f1⟩ := S109.bxc _ rfl
          have lz := lt_of_cell z0
          go_simp
          have hfin := S109.fin (.slice Ai b.items.length ci) (.slice (A109) (r109).length (c109))
          refine hK110.out _ _ hfin.2.2.2 (fun _ => ?_)
          clear hK110 z0 z1 f0 f1 lz
          refine wpAnyH_done (by kernel_rfl) ?_ _
          exact ⟨_, ⟨_, A109, c109, .slice (some ⟨W94.heap.size, 0, none⟩) 0 0, .slice A107 r107.length c107, .slice (some ⟨W96.heap.size, 0, none⟩) 1 1, rfl, hfin⟩, by simp only [outFrame, List.foldl_cons, List.foldl_nil, Act.put, List.setIfInBounds_toArray, List.set_cons_zero, List.set_cons_succ]⟩
      · go_simp
        refine hK95.out _ _ (S94.elem rfl rfl).bel (fun _ => ?_)
        clear hK95
        refine wpAnyH_abs (I := Sx 58 7 crtLs V (none) (0) ([]) (some W94.heap.size) q (some V.heap.size)) (S94.elem rfl rfl) (fun W112 S112 => ?_)
        try simp only [Act.put, List.getElem_toArray, List.getElem_cons_zero, List.getElem_cons_succ, List.setIfInBounds_toArray, List.set_cons_zero, List.set_cons_succ]
        refine wpAnyH_ready (rs := [2]) (by kernel_rfl) (by simp) ?_
        refine AllReadyH.cons rfl (fun K113 hK113 => ?_) (AllReadyH.nil)
        go_simp
        refine hK113.out _ _ (S112.made rfl).bel (fun _ => ?_)
        clear hK113
        refine wpAnyH_abs (I := Sx 58 7 crtLs V (some ⟨W112.heap.size, 0, none⟩) (0) ([]) (some W94.heap.size) q (some V.heap.size)) (S112.made rfl) (fun W114 S114 => ?_)
        try simp only [Act.put, List.getElem_toArray, List.getElem_cons_zero, List.getElem_cons_succ, List.setIfInBounds_toArray, List.set_cons_zero, List.set_cons_succ]
        refine wpAnyH_ready (rs := [5]) (by kernel_rfl) (by simp) ?_
        refine AllReadyH.cons rfl (fun K115 hK115 => ?_) (AllReadyH.nil)
        refine step_app (by rfl) _ _ 23 (by rfl) S114 (by rfl) Ac cc (b.certs) (by rfl) HAC.out (HSRC.out _ S114.bel) und23e hi0 hz0 hz1 hz2 rfl (by omega) (fun _ => rfl) crtLs_one (by omega) (by simp; omega) ?_
        intro A116 c116 W116 S116
        generalize hr116 : [] ++ b.certs = r116 at S116 ⊢
        have HR116 := Lib.hid hr116
        clear hr116
        have hl116 : r116.length ≤ 0 + b.certs.length := by have := congrArg List.length HR116.out; simp at this; simp; omega
        refine hK115.out _ _ S116.bel (fun _ => ?_)
        clear hK115
        try simp only [Act.put, List.getElem_toArray, List.getElem_cons_zero, List.getElem_cons_succ, List.setIfInBounds_toArray, List.set_cons_zero, List.set_cons_succ]
        refine wpAnyH_ready (rs := [8]) (by kernel_rfl) (by simp) ?_
        refine AllReadyH.cons rfl (fun K117 hK117 => ?_) (AllReadyH.nil)
        refine step_app (by rfl) _ _ 23 (by rfl) S116 (by rfl) (some ⟨W94.heap.size, 0, none⟩) 1 ([q]) (by rfl) (fun e => by cases e) (S116.src1) und23e hi0 hz0 hz1 hz2 rfl (by omega) (fun _ => rfl) crtLs_one (by omega) (by simp; omega) ?_
        intro A118 c118 W118 S118
        generalize hr118 : r116 ++ [q] = r118 at S118 ⊢
        have HR118 := Lib.hid hr118
        clear hr118
        have hl118 : r118.length ≤ 0 + b.certs.length + [q].length := by have := congrArg List.length HR118.out; simp at this; simp; omega
        simp only [List.length_singleton] at hl118
        refine hK117.out _ _ S118.bel (fun _ => ?_)
        clear hK117
        try simp only [Act.put, List.getElem_toArray, List.getElem_cons_zero, List.getElem_cons_succ, List.setIfInBounds_toArray, List.set_cons_zero, List.set_cons_succ]
        refine wpAnyH_take (i := 9) (v := .agg #[.slice Ai b.items.length ci, .slice (A118) (r118).length (c118)]) rfl (by kernel_rfl) (by kernel_rfl) (by kernel_rfl) (fun _ _ _ h => h) (Or.inl ⟨by rfl, fun w' hw' => ?_⟩) S118.bel ?_
        · go_simp
        simp only [Act.put, List.getElem_toArray, List.getElem_cons_zero, List.getElem_cons_succ, List.setIfInBounds_toArray, List.set_cons_zero, List.set_cons_succ]
        refine wpAnyH_ready (rs := [11]) (by kernel_rfl) (by simp) ?_
        refine AllReadyH.cons rfl (fun K119 hK119 => ?_) (AllReadyH.nil)
        obtain rfl : r118 = rr := by rw [HRR.out, ← HR118.out, ← HR116.out]
        obtain ⟨_, _, _, z0, z1, f0, f1⟩ := S118.bxc _ rfl
        have lz := lt_of_cell z0
        go_simp
        have hfin := S118.fin (.slice Ai b.items.length ci) (.slice (A118) (r118).length (c118))
        refine hK119.out _ _ hfin.2.2.2 (fun _ => ?_)
        clear hK119 z0 z1 f0 f1 lz
        refine wpAnyH_done (by kernel_rfl) ?_ _
        exact ⟨_, ⟨_, A118, c118, .slice (some ⟨W112.heap.size, 0, none⟩) 0 0, .slice A116 r116.length c116, .slice (some ⟨W94.heap.size, 0, none⟩) 1 1, rfl, hfin⟩, by simp only [outFrame, List.foldl_cons, List.foldl_nil, Act.put, List.setIfInBounds_toArray, List.set_cons_zero, List.set_cons_succ]⟩
  case after =>
    rintro l W_0 ⟨g, A, c, v23, v26, v28, rfl, g0, g1, hcr, hb1⟩
    obtain ⟨x, hxi, hxr⟩ : ∃ x : Bk, x.items = b.items ∧ x.certs = rr := ⟨⟨b.items, rr⟩, rfl, rfl⟩
    subst hxr
    have hbw := HC0.out.bel.trans (hb1.mono HC0.out.bel.size)
    have HVB := Lib.hid hbw
    have HA0 := Lib.hid (HA.out.below hbw)
    have HX0 := Lib.hid (show bookAt (· < W_0.heap.size) W_0 Ai A x from ⟨by rw [hxi]; exact (HA.out.below hbw).1, hcr⟩)
    have HS_0 := Lib.hid (((((show St W_0 [] W_0 from ⟨Below.refl _ _, fun p hp => by cases hp⟩).add g1).add (show W_0.cell? ⟨g, 0, none⟩ = some (.slice Ai x.items.length ci) by rw [hxi]; exact g0)).add (cell_on hb1 HC0.out.a1)).add (cell_on hb1 HC0.out.a0))
    have HXI := Lib.hid hxi
    have hxl : x.items.length ≤ 9223372036854775807 := by rw [hxi]; exact h1
    have hxcl : x.certs.length ≤ 9223372036854775807 := by rw [HRR.out]; simp; omega
    have hbcl : b.certs.length ≤ 9223372036854775807 := by omega
    clear hbw hcr g0 g1 hb1 hxi HC0 HLD HSRC HAC
    simp only [outFrame, List.foldl_cons, List.foldl_nil, Act.put, List.setIfInBounds_toArray, List.set_cons_zero, List.set_cons_succ]
    have a0 := HS_0.out.cell _ (.head _)
    have a1 := HS_0.out.cell _ (.tail _ (.head _))
    have x0 := HS_0.out.cell _ (.tail _ (.tail _ (.head _)))
    have x1 := HS_0.out.cell _ (.tail _ (.tail _ (.tail _ (.head _))))
    have lv_W_0 := lt_of_cell a0
    have l_a0 := lt_of_cell a0
    have l_a1 := lt_of_cell a1
    have l_x0 := lt_of_cell x0
    have l_x1 := lt_of_cell x1
    go_wp2_with fail
    refine (c32 Ai Ac ci cc b W_0 (HA0.out.below HS_0.out.bel) (by omega) (by omega)).mono ?_
    rintro e W_x ⟨rfl, y, rfl⟩
    have HS_2 := Lib.hid (HS_0.out.on (over_below _ y))
    clear a0 a1 x0 x1 l_a0 l_a1 l_x0 l_x1 lv_W_0
    clear HS_0 
    generalize over W_0 y = W_1 at *
    have a0 := HS_2.out.cell _ (.head _)
    have a1 := HS_2.out.cell _ (.tail _ (.head _))
    have x0 := HS_2.out.cell _ (.tail _ (.tail _ (.head _)))
    have x1 := HS_2.out.cell _ (.tail _ (.tail _ (.tail _ (.head _))))
    have lv_W_1 := lt_of_cell a0
    have l_a0 := lt_of_cell a0
    have l_a1 := lt_of_cell a1
    have l_x0 := lt_of_cell x0
    have l_x1 := lt_of_cell x1
    cases hfb : (fault b == 0)
    · go_wp2_with fail
      refine (c18 _).mono ?_
      rintro e w2 ⟨rfl, y, rfl⟩
      go_wp2_with fail
      go_ret
      exact ⟨rfl, below_over (HVB.out.trans ((HS_2.out.bel.trans ((over_below _ _).mono HS_2.out.bel.size)).mono HVB.out.size))⟩
    · have HVb := Lib.hid ((fault_iff b).1 (by simpa using hfb))
      clear hfb
      have hilb := HVb.out.il
      have hclb := HVb.out.cl
      go_wp2_with fail
      refine (c32 Ai A ci c x W_1 (HX0.out.below HS_2.out.bel) (by omega) (by omega)).mono ?_
      rintro e W_x ⟨rfl, y, rfl⟩
      have HS_4 := Lib.hid (HS_2.out.on (over_below _ y))
      clear a0 a1 x0 x1 l_a0 l_a1 l_x0 l_x1 lv_W_1
      clear HS_2 
      generalize over W_1 y = W_3 at *
      have a0 := HS_4.out.cell _ (.head _)
      have a1 := HS_4.out.cell _ (.tail _ (.head _))
      have x0 := HS_4.out.cell _ (.tail _ (.tail _ (.head _)))
      have x1 := HS_4.out.cell _ (.tail _ (.tail _ (.tail _ (.head _))))
      have lv_W_3 := lt_of_cell a0
      have l_a0 := lt_of_cell a0
      have l_a1 := lt_of_cell a1
      have l_x0 := lt_of_cell x0
      have l_x1 := lt_of_cell x1
      cases hfx : (fault x == 0)
      · go_wp2_with fail
        refine (c18 _).mono ?_
        rintro e w2 ⟨rfl, y, rfl⟩
        go_wp2_with fail
        go_ret
        exact ⟨rfl, below_over (HVB.out.trans ((HS_4.out.bel.trans ((over_below _ _).mono HS_4.out.bel.size)).mono HVB.out.size))⟩
      · have HVx := Lib.hid ((fault_iff x).1 (by simpa using hfx))
        clear hfx
        have hilx := HVx.out.il
        have hclx := HVx.out.cl
        by_cases hi0 : b.items.length = 0
        · have hz : ((b.items.length : Int) == 0) = true := by simp [hi0]
          go_wp2_with fail
          refine (c18 _).mono ?_
          rintro e w2 ⟨rfl, y, rfl⟩
          go_wp2_with fail
          go_ret
          exact ⟨rfl, below_over (HVB.out.trans ((HS_4.out.bel.trans ((over_below _ _).mono HS_4.out.bel.size)).mono HVB.out.size))⟩
        · have hz : ((b.items.length : Int) == 0) = false := beq_eq_false_iff_ne.2 (by omega)
          have hnz : (b.items.length : Int) ≠ 0 := by omega
          have hK0 : 0 ≤ (wrap64 it).tmod (b.items.length : Int) ∧ (wrap64 it).tmod (b.items.length : Int) < b.items.length := tmod_in h3 (by omega)
          have hD0 : 0 ≤ (wrap64 dy).tmod 1001 ∧ (wrap64 dy).tmod 1001 < 1001 := tmod_in16 h4
          obtain ⟨hK1, hK2⟩ := hK0
          obtain ⟨hD1, hD2⟩ := hD0
          go_wp2_with fail
          generalize (wrap64 it).tmod (b.items.length : Int) = K at *
          generalize (wrap64 dy).tmod 1001 = D at *
          have HSB := Lib.hid (sub_of_mem HVb.out HVx.out HXI.out.symm (fun c hc => by rw [HRR.out]; simp [hc]))
          have HFb := Lib.hid ((fault_iff b).2 HVb.out)
          have HFx := Lib.hid ((fault_iff x).2 HVx.out)
          clear hz hnz
          refine (c20 Ai Ac ci cc b W_3 (HA0.out.below HS_4.out.bel) (by omega) (by omega)).mono ?_
          rintro e W_x ⟨I_5, i_5, C_5, j_5, rfl, hB, y, rfl⟩
          have HB_5 := Lib.hid hB
          clear hB
          have HS_7 := Lib.hid (HS_4.out.on (over_below _ y))
          clear a0 a1 x0 x1 l_a0 l_a1 l_x0 l_x1 lv_W_3
          clear HS_4 
          generalize over W_3 y = W_6 at *
          have a0 := HS_7.out.cell _ (.head _)
          have a1 := HS_7.out.cell _ (.tail _ (.head _))
          have x0 := HS_7.out.cell _ (.tail _ (.tail _ (.head _)))
          have x1 := HS_7.out.cell _ (.tail _ (.tail _ (.tail _ (.head _))))
          have lv_W_6 := lt_of_cell a0
          have l_a0 := lt_of_cell a0
          have l_a1 := lt_of_cell a1
          have l_x0 := lt_of_cell x0
          have l_x1 := lt_of_cell x1
          go_wp2_with fail
          refine Calls.mono (f := 34) (c34u I_5 C_5 i_5 j_5 b W_6 HB_5.out (by omega) (by omega)) ?_
          rintro e W_x ⟨B_8, d_8, rfl, hn, y, he⟩
          have hb : Below W_6.heap.size W_6 W_x := by rw [he]; exact over_below _ _
          rw [HFb.out]
          have HN_9 := Lib.hid (hn.mono (T := (· < W_x.heap.size)) fun j hj => hj.2)
          clear HB_5 hn he
          have HS_11 := Lib.hid (HS_7.out.on (hb))
          clear a0 a1 x0 x1 l_a0 l_a1 l_x0 l_x1 lv_W_6
          clear HS_7 
          clear hb y
          generalize W_x = W_10 at *
          have a0 := HS_11.out.cell _ (.head _)
          have a1 := HS_11.out.cell _ (.tail _ (.head _))
          have x0 := HS_11.out.cell _ (.tail _ (.tail _ (.head _)))
          have x1 := HS_11.out.cell _ (.tail _ (.tail _ (.tail _ (.head _))))
          have lv_W_10 := lt_of_cell a0
          have l_a0 := lt_of_cell a0
          have l_a1 := lt_of_cell a1
          have l_x0 := lt_of_cell x0
          have l_x1 := lt_of_cell x1
          go_wp2_with fail
          refine (c20 Ai A ci c x W_10 (HX0.out.below HS_11.out.bel) (by omega) (by omega)).mono ?_
          rintro e W_x ⟨I_12, i_12, C_12, j_12, rfl, hB, y, rfl⟩
          have HB_12 := Lib.hid hB
          clear hB
          have HS_14 := Lib.hid (HS_11.out.on (over_below _ y))
          have HN_15 := Lib.hid (HN_9.out.below (over_below _ y))
          clear a0 a1 x0 x1 l_a0 l_a1 l_x0 l_x1 lv_W_10
          clear HS_11 HN_9
          generalize over W_10 y = W_13 at *
          have a0 := HS_14.out.cell _ (.head _)
          have a1 := HS_14.out.cell _ (.tail _ (.head _))
          have x0 := HS_14.out.cell _ (.tail _ (.tail _ (.head _)))
          have x1 := HS_14.out.cell _ (.tail _ (.tail _ (.tail _ (.head _))))
          have lv_W_13 := lt_of_cell a0
          have l_a0 := lt_of_cell a0
          have l_a1 := lt_of_cell a1
          have l_x0 := lt_of_cell x0
          have l_x1 := lt_of_cell x1
          go_wp2_with fail
          refine Calls.mono (f := 34) (c34u I_12 C_12 i_12 j_12 x W_13 HB_12.out (by omega) (by omega)) ?_
          rintro e W_x ⟨B_16, d_16, rfl, hn, y, he⟩
          have hb : Below W_13.heap.size W_13 W_x := by rw [he]; exact over_below _ _
          rw [HFx.out]
          have HN_17 := Lib.hid (hn.mono (T := (· < W_x.heap.size)) fun j hj => hj.2)
          clear HB_12 hn he
          have HS_19 := Lib.hid (HS_14.out.on (hb))
          have HN_20 := Lib.hid (HN_15.out.below (hb))
          clear a0 a1 x0 x1 l_a0 l_a1 l_x0 l_x1 lv_W_13
          clear HS_14 HN_15
          clear hb y
          generalize W_x = W_18 at *
          have a0 := HS_19.out.cell _ (.head _)
          have a1 := HS_19.out.cell _ (.tail _ (.head _))
          have x0 := HS_19.out.cell _ (.tail _ (.tail _ (.head _)))
          have x1 := HS_19.out.cell _ (.tail _ (.tail _ (.tail _ (.head _))))
          have lv_W_18 := lt_of_cell a0
          have l_a0 := lt_of_cell a0
          have l_a1 := lt_of_cell a1
          have l_x0 := lt_of_cell x0
          have l_x1 := lt_of_cell x1
          go_wp2_with fail
          have hlb := heldRes_len hclb
          have hlx := heldRes_len hclx
          have HSUB := Lib.hid (show ∀ n, n ∈ heldRes b → n ∈ heldRes x from fun n hn => by
            unfold heldRes at hn ⊢
            rw [if_pos HFb.out] at hn; rw [if_pos HFx.out]
            rw [mem_heldL0] at hn ⊢
            exact HSB.out.held HVb.out n hn)
          go_loop [16] (fun t => ∃ i : Nat, i ≤ (heldRes b).length ∧ t = .int .i64 i) (fun t => (heldRes b).length - (intOf t).toNat)
          case atStart => exact ⟨0, Nat.zero_le _, rfl⟩
          case round =>
            obtain ⟨i, hi, rfl⟩ := hrel
            by_cases hlt : i < (heldRes b).length
            · obtain ⟨n, hn⟩ : ∃ n, (heldRes b)[i]? = some n := ⟨(heldRes b)[i], by simp [hlt]⟩
              obtain ⟨An, Ao, eA, hSA, hns⟩ := HN_20.out (by omega)
              have g0 := hns i n hn
              have hix := fun c => @idx26 B_8 An Ao (heldRes b).length c eA i hlt
              have hc25 := c25 (cn := d_16) n HN_17.out (by omega)
              rw [decide_eq_true (HSUB.out n (List.mem_of_getElem? hn))] at hc25
              have HC25 := Lib.hid hc25
              have lg := lt_of_cell g0
              clear hn hns eA hc25
              go_wp2_with fail
              refine HC25.out.mono ?_
              rintro e W_x ⟨rfl, rfl⟩
              go_wp2_with fail
              go_round
              case rel => exact ⟨i + 1, by omega, by go_num⟩
              case measure => simp [intOf]; omega
            · have hie : ¬ (i : Int) < ((heldRes b).length : Int) := by omega
              go_wp2_with fail
              clear hie hlt hi
              refine (c20 Ai Ac ci cc b W_18 (HA0.out.below HS_19.out.bel) (by omega) (by omega)).mono ?_
              rintro e W_x ⟨I_21, i_21, C_21, j_21, rfl, hB, y, rfl⟩
              have HB_21 := Lib.hid hB
              clear hB
              have HS_23 := Lib.hid (HS_19.out.on (over_below _ y))
              clear a0 a1 x0 x1 l_a0 l_a1 l_x0 l_x1 lv_W_18
              clear HS_19 
              generalize over W_18 y = W_22 at *
              have a0 := HS_23.out.cell _ (.head _)
              have a1 := HS_23.out.cell _ (.tail _ (.head _))
              have x0 := HS_23.out.cell _ (.tail _ (.tail _ (.head _)))
              have x1 := HS_23.out.cell _ (.tail _ (.tail _ (.tail _ (.head _))))
              have lv_W_22 := lt_of_cell a0
              have l_a0 := lt_of_cell a0
              have l_a1 := lt_of_cell a1
              have l_x0 := lt_of_cell x0
              have l_x1 := lt_of_cell x1
              go_wp2_with fail
              refine (c27 I_21 C_21 i_21 j_21 b K D W_22 HB_21.out (by omega) (by omega)).mono ?_
              rintro e W_x ⟨rfl, y, rfl⟩
              clear HB_21
              have HS_25 := Lib.hid (HS_23.out.on (over_below _ y))
              clear a0 a1 x0 x1 l_a0 l_a1 l_x0 l_x1 lv_W_22
              clear HS_23 
              generalize over W_22 y = W_24 at *
              have a0 := HS_25.out.cell _ (.head _)
              have a1 := HS_25.out.cell _ (.tail _ (.head _))
              have x0 := HS_25.out.cell _ (.tail _ (.tail _ (.head _)))
              have x1 := HS_25.out.cell _ (.tail _ (.tail _ (.tail _ (.head _))))
              have lv_W_24 := lt_of_cell a0
              have l_a0 := lt_of_cell a0
              have l_a1 := lt_of_cell a1
              have l_x0 := lt_of_cell x0
              have l_x1 := lt_of_cell x1
              unfold rngV
              go_wp2_with fail
              have hal : Below W_24.heap.size W_24 (W_24.alloc (.cells #[.int .i64 (spanRes b K D).lo, .int .i64 (spanRes b K D).hi] 45)) := (Below.refl _ _).alloc (Nat.le_refl _) _
              have HS_26 := Lib.hid (((HS_25.out.on hal).add (b := W_24.heap.size) (o := 1) (v := .int .i64 (spanRes b K D).hi) (by simp [go_sem])).add (b := W_24.heap.size) (o := 0) (v := .int .i64 (spanRes b K D).lo) (by simp [go_sem]))
              clear a0 a1 x0 x1 l_a0 l_a1 l_x0 l_x1 lv_W_24
              clear hal HS_25 
              generalize W_24.alloc (.cells #[.int .i64 (spanRes b K D).lo, .int .i64 (spanRes b K D).hi] 45) = W_27 at *
              generalize W_24.heap.size = Rr at *
              have r0 := HS_26.out.cell _ (.head _)
              have r1 := HS_26.out.cell _ (.tail _ (.head _))
              have a0 := HS_26.out.cell _ (.tail _ (.tail _ (.head _)))
              have a1 := HS_26.out.cell _ (.tail _ (.tail _ (.tail _ (.head _))))
              have x0 := HS_26.out.cell _ (.tail _ (.tail _ (.tail _ (.tail _ (.head _)))))
              have x1 := HS_26.out.cell _ (.tail _ (.tail _ (.tail _ (.tail _ (.tail _ (.head _))))))
              have lv_W_27 := lt_of_cell r0
              have l_r0 := lt_of_cell r0
              have l_r1 := lt_of_cell r1
              have l_a0 := lt_of_cell a0
              have l_a1 := lt_of_cell a1
              have l_x0 := lt_of_cell x0
              have l_x1 := lt_of_cell x1
              refine (c20 Ai A ci c x W_27 (HX0.out.below HS_26.out.bel) (by omega) (by omega)).mono ?_
              rintro e W_x ⟨I_28, i_28, C_28, j_28, rfl, hB, y, rfl⟩
              have HB_28 := Lib.hid hB
              clear hB
              have HS_30 := Lib.hid (HS_26.out.on (over_below _ y))
              clear r0 r1 a0 a1 x0 x1 l_r0 l_r1 l_a0 l_a1 l_x0 l_x1 lv_W_27
              clear HS_26 
              generalize over W_27 y = W_29 at *
              have r0 := HS_30.out.cell _ (.head _)
              have r1 := HS_30.out.cell _ (.tail _ (.head _))
              have a0 := HS_30.out.cell _ (.tail _ (.tail _ (.head _)))
              have a1 := HS_30.out.cell _ (.tail _ (.tail _ (.tail _ (.head _))))
              have x0 := HS_30.out.cell _ (.tail _ (.tail _ (.tail _ (.tail _ (.head _)))))
              have x1 := HS_30.out.cell _ (.tail _ (.tail _ (.tail _ (.tail _ (.tail _ (.head _))))))
              have lv_W_29 := lt_of_cell r0
              have l_r0 := lt_of_cell r0
              have l_r1 := lt_of_cell r1
              have l_a0 := lt_of_cell a0
              have l_a1 := lt_of_cell a1
              have l_x0 := lt_of_cell x0
              have l_x1 := lt_of_cell x1
              go_wp2_with fail
              refine (c27 I_28 C_28 i_28 j_28 x K D W_29 HB_28.out (by omega) (by omega)).mono ?_
              rintro e W_x ⟨rfl, y, rfl⟩
              clear HB_28
              have HS_32 := Lib.hid (HS_30.out.on (over_below _ y))
              clear r0 r1 a0 a1 x0 x1 l_r0 l_r1 l_a0 l_a1 l_x0 l_x1 lv_W_29
              clear HS_30 
              generalize over W_29 y = W_31 at *
              have r0 := HS_32.out.cell _ (.head _)
              have r1 := HS_32.out.cell _ (.tail _ (.head _))
              have a0 := HS_32.out.cell _ (.tail _ (.tail _ (.head _)))
              have a1 := HS_32.out.cell _ (.tail _ (.tail _ (.tail _ (.head _))))
              have x0 := HS_32.out.cell _ (.tail _ (.tail _ (.tail _ (.tail _ (.head _)))))
              have x1 := HS_32.out.cell _ (.tail _ (.tail _ (.tail _ (.tail _ (.tail _ (.head _))))))
              have lv_W_31 := lt_of_cell r0
              have l_r0 := lt_of_cell r0
              have l_r1 := lt_of_cell r1
              have l_a0 := lt_of_cell a0
              have l_a1 := lt_of_cell a1
              have l_x0 := lt_of_cell x0
              have l_x1 := lt_of_cell x1
              unfold rngV
              simp only at r0 r1
              have hms := more_span HVb.out HVx.out HSB.out hK1 hK2 hD1 (by omega)
              generalize spanRes b K D = r at *
              generalize spanRes x K D = s at *
              generalize spanErr b K D = f at *
              generalize spanErr x K D = f2 at *
              rcases hms with ⟨rfl, rfl⟩ | ⟨rfl, rfl | rfl | rfl⟩ | ⟨rfl, rfl | ⟨rfl, hm1, hm2⟩⟩
              all_goals
                go_wp2_with fail
                refine (c18 _).mono ?_
                rintro e w2 ⟨rfl, y, rfl⟩
                go_wp2_with fail
                go_ret
                have hal : Below W_31.heap.size W_31 (W_31.alloc (.cells #[.int .i64 s.lo, .int .i64 s.hi] 45)) := (Below.refl _ _).alloc (Nat.le_refl _) _
                exact ⟨rfl, below_over (HVB.out.trans ((HS_32.out.bel.trans ((hal.trans ((over_below _ _).mono hal.size)).mono HS_32.out.bel.size)).mono HVB.out.size))⟩
end Go.Proofs.Ytmcnpfjichbijaa

