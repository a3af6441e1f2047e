/- The book that the words write. -/
import Derived.Test.YtmcnpfjichbijaaL29
set_option linter.unusedSimpArgs false
set_option linter.unusedVariables false
namespace Go.Proofs.Ytmcnpfjichbijaa
open Go Go.Proofs Go.RowKit Go.Shelf


/-- A certificate as the words write it. -/
def writC (b : Bk) (ws : List Int) (c : Crt) : Crt :=
  { c with diff := ⟨trueAt b c.item c.day ws - trueAt b c.by_ c.day ws - wordAt ws c.num % 9, trueAt b c.item c.day ws - trueAt b c.by_ c.day ws + wordAt ws (c.num + 1) % 9⟩ }
def writB (b : Bk) (ws : List Int) : Bk := ⟨b.items, b.certs.map (writC b ws)⟩

theorem cert_parts (c : Crt) : ∃ n i y d v l h, c = ⟨n, i, y, d, v, ⟨l, h⟩⟩ := by
  obtain ⟨n, i, y, d, v, ⟨l, h⟩⟩ := c
  exact ⟨n, i, y, d, v, l, h, rfl⟩

set_option maxRecDepth 100000 in
set_option maxHeartbeats 4000000 in
theorem c43 (Ai Ac Aw : Option Addr) (ci cc cw : Nat) (b : Bk) (ws : List Int) (v : Vb b) (hok : wordsOk ws) (w : World) (hA : bookAt (· < w.heap.size) w Ai Ac b) (hw : wordsAt (· < w.heap.size) w Aw ws) :
    Calls Try.prog 43 #[.agg #[.slice Ai b.items.length ci, .slice Ac b.certs.length cc], .slice Aw ws.length cw] w fun e w' =>
      ∃ A c, e = .returned (.tuple #[.agg #[.slice Ai b.items.length ci, .slice A b.certs.length c], .bool (fault (writB b ws) == 0)]) ∧ certsAt (· < w'.heap.size) w' A (writB b ws).certs ∧ ∃ x, w' = over w x := by
  have HA := Lib.hid hA
  have HW := Lib.hid hw
  have HV := Lib.hid v
  have HOK := Lib.hid hok
  have hil := v.il
  have hcl := v.cl
  clear hA hw v hok
  go_enter Try.func43, Try.ntmps43
  go_wp2_with fail
  have hbv : Below w.heap.size w (((w.alloc (.cells #[.slice Ai b.items.length ci, .slice Ac b.certs.length cc] 25)).alloc (.cells #[.slice none 0 0, .slice none 0 0] 25)).alloc (.cells #[.slice Ai b.items.length ci, .slice none 0 0] 25)) := by repeat' (first | exact Below.refl _ _ | (refine below_ov ?_ ?_) | (refine Below.alloc ?_ ?_ _) | (refine below_drewN' ?_ _) | (refine Below.drew ?_) | (refine below_set ?_ _ _ ?_) | (simp; done) | (simp; omega) | omega)
  have hcl2 : Cl w (.slice Ai b.items.length ci) (.slice Ac b.certs.length cc) (((w.alloc (.cells #[.slice Ai b.items.length ci, .slice Ac b.certs.length cc] 25)).alloc (.cells #[.slice none 0 0, .slice none 0 0] 25)).alloc (.cells #[.slice Ai b.items.length ci, .slice none 0 0] 25)) := ⟨hbv, by simp [go_sem], by simp [go_sem]⟩
  have HC2 := Lib.hid hcl2
  have HR := Lib.hid (show (((w.alloc (.cells #[.slice Ai b.items.length ci, .slice Ac b.certs.length cc] 25)).alloc (.cells #[.slice none 0 0, .slice none 0 0] 25)).alloc (.cells #[.slice Ai b.items.length ci, .slice none 0 0] 25)).cell? ⟨w.heap.size + 1, 0, none⟩ = some (.slice none 0 0) ∧ (((w.alloc (.cells #[.slice Ai b.items.length ci, .slice Ac b.certs.length cc] 25)).alloc (.cells #[.slice none 0 0, .slice none 0 0] 25)).alloc (.cells #[.slice Ai b.items.length ci, .slice none 0 0] 25)).cell? ⟨w.heap.size + 1, 1, none⟩ = some (.slice none 0 0) ∧ (∀ j, (((w.alloc (.cells #[.slice Ai b.items.length ci, .slice Ac b.certs.length cc] 25)).alloc (.cells #[.slice none 0 0, .slice none 0 0] 25)).alloc (.cells #[.slice Ai b.items.length ci, .slice none 0 0] 25)).frozen? ⟨w.heap.size + 1, j, none⟩ = false) from ⟨by simp [go_sem], by simp [go_sem], fun j => by simp [go_sem]⟩)
  have HP0 := Lib.hid (show ApS (((w.alloc (.cells #[.slice Ai b.items.length ci, .slice Ac b.certs.length cc] 25)).alloc (.cells #[.slice none 0 0, .slice none 0 0] 25)).alloc (.cells #[.slice Ai b.items.length ci, .slice none 0 0] 25)) (w.heap.size + 1 + 1) (.slice Ai b.items.length ci) (.slice none 0 0) 0 (((b.certs.take 0).map (writC b ws)).flatMap crtLs) (((w.alloc (.cells #[.slice Ai b.items.length ci, .slice Ac b.certs.length cc] 25)).alloc (.cells #[.slice none 0 0, .slice none 0 0] 25)).alloc (.cells #[.slice Ai b.items.length ci, .slice none 0 0] 25)) from
    ⟨Below.refl _ _, by simp, by simp [go_sem], by simp [go_sem], fun j => by simp [go_sem], World.ownsRow_nil _ _ _ _⟩)
  have hX : w.heap.size + 1 < w.heap.size + 1 + 1 := by omega
  clear hbv hcl2
  generalize ((w.alloc (.cells #[.slice Ai b.items.length ci, .slice Ac b.certs.length cc] 25)).alloc (.cells #[.slice none 0 0, .slice none 0 0] 25)).alloc (.cells #[.slice Ai b.items.length ci, .slice none 0 0] 25) = V at *
  generalize w.heap.size + 1 + 1 = X at *
  go_loopw [7] (fun t wr => ∃ (i : Nat) (v : Value), i ≤ b.certs.length ∧ t = .int .i64 i ∧ ApS V X (.slice Ai b.items.length ci) v i (((b.certs.take i).map (writC b ws)).flatMap crtLs) wr) (fun t _ => b.certs.length - (intOf t).toNat)
  case atStart => exact ⟨0, _, Nat.zero_le _, rfl, HP0.out⟩
  case round =>
    obtain ⟨i, v, hi, rfl, hS⟩ := hrel
    have HS := Lib.hid hS
    have kv : Keep (fun j => j < X) V wr := Keep.of_below hS.bel fun _ h _ => h
    have d0 := kv.cell HC2.out.a0 (by omega)
    have d1 := kv.cell HC2.out.a1 (by omega)
    have lX := hS.lt
    have lw := lt_of_cell d0
    have hbw : Below w.heap.size w wr := HC2.out.bel.trans (hS.bel.mono (by omega))
    by_cases hlt : i < b.certs.length
    · obtain ⟨q, hq⟩ : ∃ q, b.certs[i]? = some q := ⟨b.certs[i], by simp [hlt]⟩
      obtain ⟨An, Ao, eA, hSA, hns⟩ := (HA.out.below hbw).2 (by omega)
      obtain ⟨g0, g1, g2, g3, g4, g5, g6⟩ := hns i q hq
      have lg := lt_of_cell g0
      have hix := fun c => @idx23 Ac An Ao b.certs.length c eA i hlt
      have hsn : ((b.certs.take (i + 1)).map (writC b ws)).flatMap crtLs = ((b.certs.take i).map (writC b ws)).flatMap crtLs ++ crtLs (writC b ws q) := by
        rw [List.take_add_one, hq, List.map_append, List.flatMap_append]; simp
      have hlen : (((b.certs.take i).map (writC b ws)).flatMap crtLs).length = i * 7 := by rw [row_length (n := 7) fun _ => rfl]; simp; omega
      have HSN := Lib.hid hsn
      have hcv := (crtOk_iff b q).1 (HV.out.ct q (List.mem_of_getElem? hq))
      obtain ⟨j1, hj1⟩ := Int.eq_ofNat_of_zero_le hcv.i1
      obtain ⟨j2, hj2⟩ := Int.eq_ofNat_of_zero_le hcv.b1
      have hj1l : j1 < b.items.length := by have := hcv.i2; omega
      have hj2l : j2 < b.items.length := by have := hcv.b2; omega
      have n1 := hcv.n1
      have n2 := hcv.n2
      have hT1 := trueAt_big HV.out (ws := ws) q.item q.day hcv.i1 hcv.i2
      have hT2 := trueAt_big HV.out (ws := ws) q.by_ q.day hcv.b1 hcv.b2
      have hU1 := wordAt_in HOK.out q.num
      have hU2 := wordAt_in HOK.out (q.num + 1)
      have hcA : ∀ W, Below wr.heap.size wr W → Calls Try.prog 44 #[.agg #[.slice Ai b.items.length ci, .slice Ac b.certs.length cc], .int .i64 q.item, .int .i64 q.day, .slice Aw ws.length cw] W fun e w' => e = .returned (.int .i64 (trueAt b q.item q.day ws)) ∧ ∃ x, w' = over W x := fun W hb => by
        have hb2 := hbw.trans (hb.mono hbw.size)
        rw [hj1]
        exact c44 Ai Ac Aw ci cc cw b HV.out.it ws j1 q.day W (HA.out.below hb2).1 (HW.out.below hb2) HOK.out hj1l hil hcv.d1 hcv.d2
      have hcB : ∀ W, Below wr.heap.size wr W → Calls Try.prog 44 #[.agg #[.slice Ai b.items.length ci, .slice Ac b.certs.length cc], .int .i64 q.by_, .int .i64 q.day, .slice Aw ws.length cw] W fun e w' => e = .returned (.int .i64 (trueAt b q.by_ q.day ws)) ∧ ∃ x, w' = over W x := fun W hb => by
        have hb2 := hbw.trans (hb.mono hbw.size)
        rw [hj2]
        exact c44 Ai Ac Aw ci cc cw b HV.out.it ws j2 q.day W (HA.out.below hb2).1 (HW.out.below hb2) HOK.out hj2l hil hcv.d1 hcv.d2
      have hcD : ∀ W, Below wr.heap.size wr W → Calls Try.prog 73 #[.slice Aw ws.length cw, .int .i64 q.num] W (fun e w' => e = .returned (.int .i64 (wordAt ws q.num)) ∧ w' = W) ∧ Calls Try.prog 73 #[.slice Aw ws.length cw, .int .i64 (q.num + 1)] W (fun e w' => e = .returned (.int .i64 (wordAt ws (q.num + 1))) ∧ w' = W) := fun W hb => by
        have hb2 := hbw.trans (hb.mono hbw.size)
        exact ⟨c73 Aw cw ws _ W (HW.out.below hb2) HOK.out (by omega), c73 Aw cw ws _ W (HW.out.below hb2) HOK.out (by omega)⟩
      have hwr : writC b ws q = ⟨q.num, q.item, q.by_, q.day, q.valid, ⟨trueAt b q.item q.day ws - trueAt b q.by_ q.day ws - wordAt ws q.num % 9, trueAt b q.item q.day ws - trueAt b q.by_ q.day ws + wordAt ws (q.num + 1) % 9⟩⟩ := rfl
      have HWR := Lib.hid hwr
      have hal : Below wr.heap.size wr (wr.alloc (.cells #[.int .i64 q.num, .int .i64 q.item, .int .i64 q.by_, .int .i64 q.day, .int .i64 q.valid, .int .i64 q.diff.lo, .int .i64 q.diff.hi] 58)) := (Below.refl _ _).alloc (Nat.le_refl _) _
      have hQC : ∀ t, t < 7 → (wr.alloc (.cells #[.int .i64 q.num, .int .i64 q.item, .int .i64 q.by_, .int .i64 q.day, .int .i64 q.valid, .int .i64 q.diff.lo, .int .i64 q.diff.hi] 58)).cell? ⟨wr.heap.size, t, none⟩ = (crtLs q)[t]? := fun t ht => by
        rcases t with _ | _ | _ | _ | _ | _ | _ | t <;> first | (simp [go_sem, crtLs]; done) | omega
      have hQF : ∀ t, (wr.alloc (.cells #[.int .i64 q.num, .int .i64 q.item, .int .i64 q.by_, .int .i64 q.day, .int .i64 q.valid, .int .i64 q.diff.lo, .int .i64 q.diff.hi] 58)).frozen? ⟨wr.heap.size, t, none⟩ = false := fun t => by simp [go_sem]
      have HAL := Lib.hid hal
      have HQC := Lib.hid hQC
      have HQF := Lib.hid hQF
      have HCA := Lib.hid hcA
      have HCB := Lib.hid hcB
      have HCD := Lib.hid hcD
      clear hS kv hq eA hns hsn hcv hj1 hj2 hcA hcB hcD hwr hal hQC hQF hSA hbw
      generalize ((b.certs.take i).map (writC b ws)).flatMap crtLs = row at *
      generalize wordAt ws q.num = U1 at *
      generalize wordAt ws (q.num + 1) = U2 at *
      obtain ⟨u1, q1, q2⟩ := tmod_c (k := 9) hU1.1 (by omega)
      obtain ⟨u2, q3, q4⟩ := tmod_c (k := 9) hU2.1 (by omega)
      generalize U1 % 9 = r1 at *
      generalize U2 % 9 = r2 at *
      generalize trueAt b q.item q.day ws = T1 at *
      generalize trueAt b q.by_ q.day ws = T2 at *
      obtain ⟨a1, a2⟩ := hT1
      obtain ⟨a3, a4⟩ := hT2
      go_wp2_with fail
      have e0 := cell_on HAL.out d0
      have e1 := cell_on HAL.out d1
      clear d0 d1
      generalize wr.alloc (.cells #[.int .i64 q.num, .int .i64 q.item, .int .i64 q.by_, .int .i64 q.day, .int .i64 q.valid, .int .i64 q.diff.lo, .int .i64 q.diff.hi] 58) = W1 at *
      have p0 : W1.cell? ⟨wr.heap.size, 0, none⟩ = some (.int .i64 q.num) := HQC.out 0 (by omega)
      have p1 : W1.cell? ⟨wr.heap.size, 1, none⟩ = some (.int .i64 q.item) := HQC.out 1 (by omega)
      have p2 : W1.cell? ⟨wr.heap.size, 2, none⟩ = some (.int .i64 q.by_) := HQC.out 2 (by omega)
      have p3 : W1.cell? ⟨wr.heap.size, 3, none⟩ = some (.int .i64 q.day) := HQC.out 3 (by omega)
      have lq := lt_of_cell p0
      have le0 := lt_of_cell e0
      have HZA := Lib.hid (fun z => HCA.out (over W1 z) (HAL.out.trans ((over_below W1 z).mono HAL.out.size)))
      have HZB := Lib.hid (fun z => HCB.out (over W1 z) (HAL.out.trans ((over_below W1 z).mono HAL.out.size)))
      have HZD := Lib.hid (fun z => (HCD.out (over W1 z) (HAL.out.trans ((over_below W1 z).mono HAL.out.size))).1)
      have HZE := Lib.hid (fun z => (HCD.out (over W1 z) (HAL.out.trans ((over_below W1 z).mono HAL.out.size))).2)
      clear HCA HCB HCD
      refine wp_region_over (by kernel_rfl) (by kernel_rfl) ?_
      repeat (go_big_quiet_step (first | with_reducible exact calls_over_of (HZA.out _) | with_reducible exact calls_over_of (HZB.out _)))
      refine wpQuiet_nil ?_
      rintro w' ⟨z, rfl⟩
      go_wp2_with fail
      refine wp_region_over2_tail 17 (by kernel_rfl) (by kernel_rfl) ?_
      dsimp only [List.take, List.drop]
      repeat (go_big_quiet_step (first | with_reducible exact calls_over_same (HZD.out _) | with_reducible exact calls_over_same (HZE.out _)))
      refine wpQuiet_nil ?_
      rintro w' ⟨z2, rfl⟩
      clear HZA HZB HZD HZE
      have c0 := cell_ov (x := z2) p0
      have c1 := cell_ov (x := z2) p1
      have c2 := cell_ov (x := z2) p2
      have c3 := cell_ov (x := z2) p3
      have c4 : (over W1 z2).cell? ⟨wr.heap.size, 4, none⟩ = some (.int .i64 q.valid) := cell_ov (x := z2) (HQC.out 4 (by omega))
      have c5 : (over W1 z2).cell? ⟨wr.heap.size, 5, none⟩ = some (.int .i64 q.diff.lo) := cell_ov (x := z2) (HQC.out 5 (by omega))
      have c6 : (over W1 z2).cell? ⟨wr.heap.size, 6, none⟩ = some (.int .i64 q.diff.hi) := cell_ov (x := z2) (HQC.out 6 (by omega))
      have f5 : (over W1 z2).frozen? ⟨wr.heap.size, 5, none⟩ = false := by rw [over_frozen _ _ _ _ lq]; exact HQF.out 5
      have f6 : (over W1 z2).frozen? ⟨wr.heap.size, 6, none⟩ = false := by rw [over_frozen _ _ _ _ lq]; exact HQF.out 6
      have hb2 : Below wr.heap.size wr (over W1 z2) := HAL.out.trans ((over_below W1 z2).mono HAL.out.size)
      have HB2 := Lib.hid hb2
      have l2 := lt_of_cell c0
      clear e0 e1 p0 p1 p2 p3 lq le0 hb2 HAL HQC HQF
      generalize over W1 z2 = W2 at *
      have HS3 := Lib.hid (HS.out.on (W' := ((W2.setCell ⟨wr.heap.size, 5, none⟩ (.int .i64 (T1 - T2 - r1))).setCell ⟨wr.heap.size, 6, none⟩ (.int .i64 (T1 - T2 + r2)))) (below_set (below_set HB2.out _ _ (Nat.le_refl _)) _ _ (Nat.le_refl _)))
      have e1 := HS3.out.x1
      have xf := HS3.out.xf 1
      have lX3 := HS3.out.lt
      obtain ⟨i0, hj0, hz0, hz1, hz2⟩ := info_parts info58
      have HI0 := Lib.hid (And.intro hj0 (And.intro hz0 (And.intro hz1 hz2)))
      have hne : ¬ X = wr.heap.size := by omega
      have x1b := HS.out.on HB2.out
      have x1c := x1b.x1
      clear hj0 hz0 hz1 hz2 x1b
      go_wp2_with (at_builtin; refine wpList_append_own _ rfl _ _ 23 rfl (X + 1) 58 i0 (.agg #[.int .i64 0, .int .i64 0, .int .i64 0, .int .i64 0, .int .i64 0, .int .i64 0, .int .i64 0]) 7 56 und23e HI0.out.1 HI0.out.2.1 HI0.out.2.2.1 HI0.out.2.2.2 rfl (by decide) v i _ rfl (HS3.out.own.alloc _) ⟨W2.heap.size, 0, none⟩ 1 1 [.int .i64 q.num, .int .i64 q.item, .int .i64 q.by_, .int .i64 q.day, .int .i64 q.valid, .int .i64 (T1 - T2 - r1), .int .i64 (T1 - T2 + r2)] rfl rfl ?news ?one ?h63 ?hb ?base ?_)
      case news => exact fun k u hk => by rw [add0, World.cell?_alloc_at _ _ _ _ (by simp)]; simpa using hk
      case one => intro u hu; simp at hu; rcases hu with rfl | rfl | rfl | rfl | rfl | rfl | rfl <;> rfl
      case h63 => simp only [maxLen]; omega
      case hb => omega
      case base => simp; omega
      intro v' w1 hown hgr _
      obtain ⟨A', c', e⟩ : ∃ A' c', v' = .slice A' (i + 1) c' := by
        rcases hown.2 with ⟨h1, h2⟩ | ⟨g, cap, cur, h1, _⟩
        · omega
        · exact ⟨_, _, h1⟩
      subst e
      have hal2 : Below (((W2.setCell ⟨wr.heap.size, 5, none⟩ (.int .i64 (T1 - T2 - r1))).setCell ⟨wr.heap.size, 6, none⟩ (.int .i64 (T1 - T2 + r2)))).heap.size ((W2.setCell ⟨wr.heap.size, 5, none⟩ (.int .i64 (T1 - T2 - r1))).setCell ⟨wr.heap.size, 6, none⟩ (.int .i64 (T1 - T2 + r2))) (((W2.setCell ⟨wr.heap.size, 5, none⟩ (.int .i64 (T1 - T2 - r1))).setCell ⟨wr.heap.size, 6, none⟩ (.int .i64 (T1 - T2 + r2))).alloc (.cells #[.int .i64 q.num, .int .i64 q.item, .int .i64 q.by_, .int .i64 q.day, .int .i64 q.valid, .int .i64 (T1 - T2 - r1), .int .i64 (T1 - T2 + r2)] 58)) := (Below.refl _ _).alloc (Nat.le_refl _) _
      have hA9 := HS3.out.on hal2
      obtain ⟨y0, y1, yf⟩ := hA9.box hgr
      have yf1 := yf 1
      have lp := lt_of_cell y1
      have HMR := Lib.hid (hA9.more hown hgr)
      clear hown hgr yf y0 hA9 hal2 HS3
      go_wp2_with fail
      go_roundw
      case rel => exact ⟨i + 1, _, by omega, by go_num, by rw [HSN.out, HWR.out]; exact HMR.out⟩
      case measure => simp [intOf]; omega
    · have hie : i = b.certs.length := by omega
      subst hie
      rw [List.take_length] at HS hS
      obtain ⟨x, hx⟩ : ∃ x, x = writB b ws := ⟨_, rfl⟩
      have hxi : x.items = b.items := by rw [hx]; rfl
      have hxl : x.certs.length = b.certs.length := by rw [hx]; simp [writB]
      have hS' : ApS V X (.slice Ai b.items.length ci) v x.certs.length (x.certs.flatMap crtLs) wr := by rw [hxl, hx]; exact hS
      obtain ⟨Ax, cx, rfl, hxc⟩ := hS'.certs
      have hx0 := hS'.x0
      have hx1 := hS'.x1
      have kr := kv
      have r0 := kr.cell HR.out.1 hX
      have r1 := kr.cell HR.out.2.1 hX
      have rf : ∀ j, wr.frozen? ⟨w.heap.size + 1, j, none⟩ = false := fun j => by rw [World.frozen?_of_block (w := V) (kr.block _ hX (lt_of_cell HR.out.1))]; exact HR.out.2.2 j
      have HIT := Lib.hid (show itemsAt (· < w.heap.size) wr Ai x.items by rw [hxi]; exact HA.out.1.keep (Keep.of_below hbw fun _ h _ => h))
      have HCR := Lib.hid hxc
      have HBW := Lib.hid hbw
      have HXE := Lib.hid hx
      have HXL := Lib.hid hxl
      have hxil : x.items.length ≤ 8 := by rw [hxi]; exact hil
      have hxcl : x.certs.length ≤ 24 := by omega
      have h45 : ∀ W, Keep (fun j => j ≠ w.heap.size + 1) wr W → Calls Try.prog 45 #[.agg #[.slice Ai b.items.length ci, .slice Ax x.certs.length cx]] W fun e w' => e = .returned (.int .i64 (fault x)) ∧ ∃ y, w' = over W y := fun W hk => by
        have := c45a Ai Ax ci cx x W ⟨(HIT.out.keep (hk.mono fun j hj => by omega)).mono fun j hj => by have := hk.size; omega, (HCR.out.keep (hk.mono fun j hj => by omega)).mono fun j hj => by have := hk.size; omega⟩ (by omega) (by omega)
        rwa [hxi] at this
      have H45 := Lib.hid h45
      have lx := lt_of_cell hx0
      clear hS hS' hxc hbw HS kv kr hlt hi HP0 HC2 HR hx h45 hxl
      go_wp2_with fail
      refine wp_region_held_drew (S := fun w' => Keep (fun j => j ≠ w.heap.size + 1) wr w') (by kernel_rfl) (Keep.drew _ _) (fun S0 => ?_)
      have HLD := Lib.hid (show ∀ w', Keep (fun j => j ≠ w.heap.size + 1) wr w' → w'.cell? ⟨X, 0, none⟩ = some (.slice Ai b.items.length ci) ∧ w'.cell? ⟨X, 1, none⟩ = some (.slice Ax x.certs.length cx) from fun w' hk => ⟨hk.cell hx0 (by omega), hk.cell hx1 (by omega)⟩)
      refine wpAnyH_take (i := 0) (v := .agg #[.slice Ai b.items.length ci, .slice Ax x.certs.length cx]) rfl (by kernel_rfl) (by kernel_rfl) (by kernel_rfl) (fun _ _ _ h => h) (Or.inl ⟨by rfl, fun w' hw' => ?_⟩) S0 ?_
      · obtain ⟨_, _⟩ := HLD.out w' hw'; go_simp
      simp only [Act.put, List.getElem_toArray, List.getElem_cons_zero, List.getElem_cons_succ, List.setIfInBounds_toArray, List.set_cons_zero, List.set_cons_succ]
      refine wpAnyH_take (i := 1) (v := .agg #[.slice Ai b.items.length ci, .slice Ax x.certs.length cx]) rfl (by kernel_rfl) (by kernel_rfl) (by kernel_rfl) (fun _ _ _ h => h) (Or.inl ⟨by rfl, fun w' hw' => ?_⟩) S0 ?_
      · obtain ⟨_, _⟩ := HLD.out w' hw'; go_simp
      simp only [Act.put, List.getElem_toArray, List.getElem_cons_zero, List.getElem_cons_succ, List.setIfInBounds_toArray, List.set_cons_zero, List.set_cons_succ]
      refine wpAnyH_ready (rs := [2]) (by kernel_rfl) (by simp) ?_
      refine AllReadyH.cons rfl (fun K hK => ?_) AllReadyH.nil
      go_simp
      refine (H45.out _ S0).mono ?_
      rintro e V2 ⟨rfl, y, rfl⟩
      have S1 : Keep (fun j => j ≠ w.heap.size + 1) wr (over wr.drew y) := S0.trans (Keep.over _ _ _)
      have lr := lt_of_cell r0
      have z0 : (over wr.drew y).cell? ⟨w.heap.size + 1, 0, none⟩ = some (.slice none 0 0) := cell_ov (x := y) (W := wr.drew) r0
      have z1 : (over wr.drew y).cell? ⟨w.heap.size + 1, 1, none⟩ = some (.slice none 0 0) := cell_ov (x := y) (W := wr.drew) r1
      have zf : ∀ j, (over wr.drew y).frozen? ⟨w.heap.size + 1, j, none⟩ = false := fun j => by rw [over_frozen wr.drew y _ _ lr]; exact rf j
      have hbo : Below w.heap.size w (over wr.drew y) := HBW.out.trans (((Below.refl wr.heap.size wr).drew.trans (over_below wr.drew y)).mono HBW.out.size)
      have HBO := Lib.hid hbo
      have lz := lt_of_cell z0
      have zf0 := zf 0
      have zf1 := zf 1
      clear r0 r1 rf zf hbo
      refine hK.out _ _ S1 (fun _ => ?_)
      clear hK S0
      generalize over wr.drew y = V1 at *
      refine wpAnyH_take (i := 3) (v := .bool (fault x == 0)) rfl (by kernel_rfl) (by kernel_rfl) (by kernel_rfl) (fun _ _ _ h => h) (Or.inl ⟨by rfl, fun w' hw' => ?_⟩) S1 ?_
      · go_simp
      simp only [Act.put, List.getElem_toArray, List.getElem_cons_zero, List.getElem_cons_succ, List.setIfInBounds_toArray, List.set_cons_zero, List.set_cons_succ]
      refine wpAnyH_ready (rs := [4]) (by kernel_rfl) (by simp) ?_
      refine AllReadyH.cons rfl (fun K2 hK2 => ?_) AllReadyH.nil
      go_simp
      have S2 : Keep (fun j => j ≠ w.heap.size + 1) wr ((V1.setCell ⟨w.heap.size + 1, 0, none⟩ (.slice Ai b.items.length ci)).setCell ⟨w.heap.size + 1, 1, none⟩ (.slice Ax x.certs.length cx)) := (S1.trans (Keep.setCell _ _ _ (fun h => h rfl))).trans (Keep.setCell _ _ _ (fun h => h rfl))
      refine hK2.out _ _ S2 (fun _ => ?_)
      clear hK2
      refine wpAnyH_take (i := 5) (v := .bool (fault x == 0)) rfl (by kernel_rfl) (by kernel_rfl) (by kernel_rfl) (fun _ _ _ h => h) (Or.inl ⟨by rfl, fun w' hw' => ?_⟩) S2 ?_
      · go_simp
      simp only [Act.put, List.getElem_toArray, List.getElem_cons_zero, List.getElem_cons_succ, List.setIfInBounds_toArray, List.set_cons_zero, List.set_cons_succ]
      refine wpAnyH_done (by kernel_rfl) ?_ _
      have k0 : ((V1.setCell ⟨w.heap.size + 1, 0, none⟩ (.slice Ai b.items.length ci)).setCell ⟨w.heap.size + 1, 1, none⟩ (.slice Ax x.certs.length cx)).cell? ⟨w.heap.size + 1, 0, none⟩ = some (.slice Ai b.items.length ci) := by
        rw [World.cell?_setCell_other _ _ _ _ (by simp)]; exact World.cell?_setCell_same' _ _ _ (by rw [z0]; rfl)
      have k1 : ((V1.setCell ⟨w.heap.size + 1, 0, none⟩ (.slice Ai b.items.length ci)).setCell ⟨w.heap.size + 1, 1, none⟩ (.slice Ax x.certs.length cx)).cell? ⟨w.heap.size + 1, 1, none⟩ = some (.slice Ax x.certs.length cx) :=
        World.cell?_setCell_same' _ _ _ (by rw [World.cell?_setCell_other _ _ _ _ (by simp), z1]; rfl)
      have HB3 := Lib.hid (below_set (below_set HBO.out ⟨w.heap.size + 1, 0, none⟩ (.slice Ai b.items.length ci) (Nat.le_succ _)) ⟨w.heap.size + 1, 1, none⟩ (.slice Ax x.certs.length cx) (Nat.le_succ _))
      have HC3 := Lib.hid (HCR.out.keep (S2.mono fun j hj => by omega))
      have hs3 := S2.size
      clear HBO H45 HLD S1
      generalize ((V1.setCell ⟨w.heap.size + 1, 0, none⟩ (.slice Ai b.items.length ci)).setCell ⟨w.heap.size + 1, 1, none⟩ (.slice Ax x.certs.length cx)) = W9 at *
      go_wp2_with fail
      have hld : (loadVar 25 ⟨w.heap.size + 1, 0, none⟩).run Try.prog W9 = .ok (.agg #[.slice Ai b.items.length ci, .slice Ax x.certs.length cx]) W9 := by go_simp
      refine bodyPost_ret (ret_cell2 (g := w.heap.size + 1) (v := .agg #[.slice Ai b.items.length ci, .slice Ax x.certs.length cx]) (u := .bool (fault x == 0)) rfl _ rfl rfl hld) rfl ⟨Ax, cx, ?_, ?_, below_over HB3.out⟩
      · rw [HXE.out]; simp [writB]
      · rw [← HXE.out]; exact HC3.out.mono fun j hj => by omega
end Go.Proofs.Ytmcnpfjichbijaa

