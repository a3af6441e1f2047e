/- ChainMoved, walked. -/
import Derived.Test.YtmcnpfjichbijaaL23
set_option linter.unusedSimpArgs false
set_option linter.unusedVariables false
namespace Go.Proofs.Ytmcnpfjichbijaa
open Go Go.Proofs Go.RowKit Go.Shelf


def movedB (b : Bk) (a : Int) : Bk := ⟨b.items.map (moveI a), b.certs⟩
theorem movedB_moved (b : Bk) (a : Int) : Moved b (movedB b a) a := ⟨rfl, rfl⟩

theorem moved_best {b x : Bk} {a : Int} (vb : Vb b) (vx : Vb x) (m : Moved b x a) (i d : Int) : bestRes x i d = bestRes b i d := by
  unfold bestRes
  rw [m.ask vb vx, m.best]
theorem moved_ask {b x : Bk} {a : Int} (vb : Vb b) (vx : Vb x) (m : Moved b x a) (i d : Int) : askErr x i d = askErr b i d := by rw [m.ask vb vx]
theorem moved_span {b x : Bk} {a : Int} (vb : Vb b) (vx : Vb x) (m : Moved b x a) (i d : Int) : spanErr x i d = spanErr b i d := by rw [m.spanErr vb vx]
theorem moved_res {b x : Bk} {a : Int} (vb : Vb b) (vx : Vb x) (m : Moved b x a) {i d : Int} (h : spanErr b i d = 0) : spanRes x i d = ⟨(spanRes b i d).lo + a, (spanRes b i d).hi + a⟩ := by
  have hx : spanErr x i d = 0 := by rw [moved_span vb vx m]; exact h
  have ha : askErr b i d = 0 := by
    by_cases ha : askErr b i d = 0
    · exact ha
    · rw [spanErr_ask ha] at h; exact absurd h ha
  unfold spanRes
  rw [if_pos h, if_pos hx, m.at vb vx (askErr_reach ha).2.2.2.2.2]
  rfl
theorem moved_se {b x : Bk} {a : Int} (vb : Vb b) (vx : Vb x) (m : Moved b x a) : susErr x = susErr b := m.susErr vb vx
theorem moved_sr {b x : Bk} {a : Int} (vb : Vb b) (vx : Vb x) (m : Moved b x a) : susRes x = susRes b := by
  unfold susRes
  rw [m.susErr vb vx, m.suspects vb vx]
theorem spanRes_in {b : Bk} (vb : Vb b) (i d : Int) (h : spanErr b i d = 0) : In (spanRes b i d) 4398046511104 := by
  have ha : askErr b i d = 0 := by
    by_cases ha : askErr b i d = 0
    · exact ha
    · rw [spanErr_ask ha] at h; exact absurd h ha
  obtain ⟨_, h0, h1, h2, h3, _⟩ := askErr_reach ha
  have hn : (numsOf b).length ≤ 24 := by rw [numsOf_length]; exact Nat.le_trans (firsts_length _) vb.cl
  have := spanBy_in vb (held0 b) (f := spansOf b) (item := i) (day := d) (below := 1000) (k := 2199023255552) h0 h1 (by omega) (fun n => spansOf_in vb hn n)
  unfold spanRes
  rw [if_pos h]
  unfold spanAt
  unfold In at *
  omega

set_option maxRecDepth 100000 in
set_option maxHeartbeats 4000000 in
theorem c14 (Ai Ac : Option Addr) (ci cc : Nat) (b : Bk) (by_ it dy : Int) (w : World) (hA : bookAt (· < w.heap.size) w Ai Ac b)
    (h1 : b.items.length ≤ 9223372036854775807) (h2 : b.certs.length ≤ 9223372036854775807) (h5 : (Lit.int .i16 by_).wf = true) (h3 : (Lit.int .u8 it).wf = true) (h4 : (Lit.int .u16 dy).wf = true) :
    Calls Try.prog 14 #[.agg #[.slice Ai b.items.length ci, .slice Ac b.certs.length cc], .int .i16 by_, .int .u8 it, .int .u16 dy] w fun e w' => e = .returned (.bool true) ∧ ∃ x, w' = over w x := by
  have HA := Lib.hid hA
  have hby : -32768 ≤ by_ ∧ by_ ≤ 32767 := by
    simp [Lit.wf, IntKind.min, IntKind.max, IntKind.bits, IntKind.signed] at h5
    omega
  obtain ⟨hby1, hby2⟩ := hby
  clear hA h5
  go_enter Try.func14, Try.ntmps14
  go_wp2_with fail
  have hCl : Cl w (.slice Ai b.items.length ci) (.slice Ac b.certs.length cc) (w.alloc (.cells #[.slice Ai b.items.length ci, .slice Ac b.certs.length cc] 25)) := ⟨by repeat' (first | exact Below.refl _ _ | (refine below_ov ?_ ?_) | (refine Below.alloc ?_ ?_ _) | (refine below_drewN' ?_ _) | (refine Below.drew ?_) | (refine below_set ?_ _ _ ?_) | (simp; done) | (simp; omega) | omega), by simp [go_sem], by simp [go_sem]⟩
  refine (c32 Ai Ac ci cc b _ (HA.out.alloc _) h1 h2).mono ?_
  rintro e w1 ⟨rfl, x, rfl⟩
  have HC1 := Lib.hid (hCl.onx (x := x))
  clear hCl
  generalize over _ x = W1 at *
  have c0 := HC1.out.a0
  have c1 := HC1.out.a1
  have lw := lt_of_cell c0
  cases hf : (fault b == 0)
  · go_wp2_with fail
    refine (c18 _).mono ?_
    rintro e w2 ⟨rfl, y, rfl⟩
    go_wp2_with fail
    go_ret
    exact ⟨rfl, below_over (HC1.out.onx.bel)⟩
  · have hv : Vb b := (fault_iff b).1 (by simpa using hf)
    have HV := Lib.hid hv
    have hil := hv.il
    have hcl := hv.cl
    clear hv hf
    by_cases hi0 : b.items.length = 0
    · have hz : ((b.items.length : Int) == 0) = true := by simp [hi0]
      go_wp2_with fail
      refine (c18 _).mono ?_
      rintro e w2 ⟨rfl, y, rfl⟩
      go_wp2_with fail
      go_ret
      exact ⟨rfl, below_over (HC1.out.onx.bel)⟩
    · have hz : ((b.items.length : Int) == 0) = false := beq_eq_false_iff_ne.2 (by omega)
      have hnz : (b.items.length : Int) ≠ 0 := by omega
      go_wp2_with fail
      generalize (wrap64 it).tmod (b.items.length : Int) = K
      generalize (wrap64 dy).tmod 1001 = D
      have hal : Below W1.heap.size W1 (W1.alloc (.cells #[.slice none 0 0, .slice Ac b.certs.length cc] 25)) := (Below.refl _ _).alloc (Nat.le_refl _) _
      have HC2 := Lib.hid (HC1.out.on hal)
      have HP0 := Lib.hid (show ApI (W1.alloc (.cells #[.slice none 0 0, .slice Ac b.certs.length cc] 25)) W1.heap.size (.slice Ac b.certs.length cc) (.slice none 0 0) 0 [] (W1.alloc (.cells #[.slice none 0 0, .slice Ac b.certs.length cc] 25)) from
        ⟨Below.refl _ _, by simp, by simp [go_sem], by simp [go_sem], fun j => by simp [go_sem], World.ownsRow_nil _ _ _ _⟩)
      have hX : w.heap.size < W1.heap.size := lw
      clear hal HC1 c0 c1 lw hz hnz
      generalize W1.alloc (.cells #[.slice none 0 0, .slice Ac b.certs.length cc] 25) = V at *
      generalize W1.heap.size = X at *
      go_loopw [12] (fun t wr => ∃ (i : Nat) (v : Value), i ≤ b.items.length ∧ t = .int .i64 i ∧ ApI V X (.slice Ac b.certs.length cc) v i (((b.items.take i).map (moveI by_)).flatMap itmCs) wr) (fun t _ => b.items.length - (intOf t).toNat)
      case atStart => exact ⟨0, _, Nat.zero_le _, rfl, HP0.out⟩
      case round =>
        obtain ⟨i, v, hi, rfl, hS⟩ := hrel
        have HS := Lib.hid hS
        have kv : Keep (fun j => j < X) V wr := Keep.of_below hS.bel fun _ h _ => h
        have d0 := kv.cell HC2.out.a0 hX
        have d1 := kv.cell HC2.out.a1 hX
        have lX := hS.lt
        have lw := lt_of_cell d0
        by_cases hlt : i < b.items.length
        · obtain ⟨q, hq⟩ : ∃ q, b.items[i]? = some q := ⟨b.items[i], by simp [hlt]⟩
          have hin : itemsAt (· < w.heap.size) wr Ai b.items := (HA.out.1.keep (Keep.of_below HC2.out.bel fun _ h _ => h)).keep (kv.mono fun j hj => by omega)
          obtain ⟨An, Ao, eA, hSA, hns⟩ := hin (by omega)
          obtain ⟨g0, g1, g2, g3⟩ := hns i q hq
          have lg := lt_of_cell g0
          have hix := fun c => @idx22 Ai An Ao b.items.length c eA i hlt
          have hsn : ((b.items.take (i + 1)).map (moveI by_)).flatMap itmCs = ((b.items.take i).map (moveI by_)).flatMap itmCs ++ itmCs (moveI by_ q) := by
            rw [List.take_add_one, hq, List.map_append, List.flatMap_append]; simp
          have hlen : (((b.items.take i).map (moveI by_)).flatMap itmCs).length = i * 4 := by rw [row_length (n := 4) fun _ => rfl]; simp; omega
          have hok := (itmOk_iff q).1 (HV.out.it q (List.mem_of_getElem? hq))
          have o1 := hok.l1
          have o2 := hok.l2
          have o3 := hok.l3
          have HSN := Lib.hid hsn
          obtain ⟨i0, hj0, hz0, hz1, hz2⟩ := info_parts info83
          have HI0 := Lib.hid (And.intro hj0 (And.intro hz0 (And.intro hz1 hz2)))
          clear hS kv hq eA hns hin hSA hsn hok hj0 hz0 hz1 hz2
          generalize ((b.items.take i).map (moveI by_)).flatMap itmCs = row at *
          obtain ⟨dr, sd, ⟨vl, vh⟩⟩ := q
          cases sd
          · have e : moveI by_ ⟨dr, false, ⟨vl, vh⟩⟩ = ⟨dr, false, ⟨vl, vh⟩⟩ := rfl
            rw [e] at HSN
            clear e
            simp only at g0 g1 g2 g3 o1 o2 o3
            have hb9 : Below wr.heap.size wr (wr.alloc (.cells #[.int .i64 dr, .bool false, .int .i64 vl, .int .i64 vh] 83)) := (Below.refl _ _).alloc (Nat.le_refl _) _
            have HS9 := Lib.hid (HS.out.on hb9)
            have x0 := HS.out.x0
            clear hb9
            go_wp2_with (at_builtin; refine wpList_append_own _ rfl _ _ 22 rfl (X + 1) 83 i0 (.agg #[.int .i64 0, .bool false, .int .i64 0, .int .i64 0]) 4 32 und22e HI0.out.1 HI0.out.2.1 HI0.out.2.2.1 HI0.out.2.2.2 rfl (by decide) v i _ rfl (HS9.out.own.alloc _) ⟨wr.heap.size + 1, 0, none⟩ 1 1 (itmCs ⟨dr, false, ⟨vl, vh⟩⟩) rfl rfl ?news ?one ?h63 ?hb ?base ?_)
            case news => exact news4 _ _ _ _ (by simp)
            case one => intro u hu; simp [itmCs] at hu; rcases hu with rfl | rfl | rfl | rfl <;> rfl
            case h63 => simp only [maxLen]; omega
            case hb => omega
            case base => simp; omega
            intro v' w1 hown hgr _
            obtain ⟨A', c', e⟩ : ∃ A' c', v' = .slice A' (i + 1) c' := by
              rcases hown.2 with ⟨h1, h2⟩ | ⟨g, cap, cur, h1, _⟩
              · omega
              · exact ⟨_, _, h1⟩
            subst e
            have hal2 : Below (wr.alloc (.cells #[.int .i64 dr, .bool false, .int .i64 vl, .int .i64 vh] 83)).heap.size (wr.alloc (.cells #[.int .i64 dr, .bool false, .int .i64 vl, .int .i64 vh] 83)) ((wr.alloc (.cells #[.int .i64 dr, .bool false, .int .i64 vl, .int .i64 vh] 83)).alloc (.cells #[.int .i64 dr, .bool false, .int .i64 vl, .int .i64 vh] 83)) := (Below.refl _ _).alloc (Nat.le_refl _) _
            have hA9 := HS9.out.on hal2
            obtain ⟨p0, p1, pf⟩ := hA9.box hgr
            have pf0 := pf 0
            have lp := lt_of_cell p0
            have HMR := Lib.hid (hA9.more hown hgr)
            clear hown hgr pf p1 hA9 hal2 HS9
            go_wp2_with fail
            go_roundw
            case rel => exact ⟨i + 1, _, by omega, by go_num, by rw [HSN.out]; exact HMR.out⟩
            case measure => simp [intOf]; omega
          · have e : moveI by_ ⟨dr, true, ⟨vl, vh⟩⟩ = ⟨dr, true, ⟨vl + by_, vh + by_⟩⟩ := rfl
            rw [e] at HSN
            clear e
            simp only at g0 g1 g2 g3 o1 o2 o3
            have hb9 : Below wr.heap.size wr (wr.alloc (.cells #[.int .i64 dr, .bool true, .int .i64 (vl + by_), .int .i64 (vh + by_)] 83)) := (Below.refl _ _).alloc (Nat.le_refl _) _
            have HS9 := Lib.hid (HS.out.on hb9)
            have x0 := HS.out.x0
            clear hb9
            go_wp2_with (at_builtin; refine wpList_append_own _ rfl _ _ 22 rfl (X + 1) 83 i0 (.agg #[.int .i64 0, .bool false, .int .i64 0, .int .i64 0]) 4 32 und22e HI0.out.1 HI0.out.2.1 HI0.out.2.2.1 HI0.out.2.2.2 rfl (by decide) v i _ rfl (HS9.out.own.alloc _) ⟨wr.heap.size + 1, 0, none⟩ 1 1 (itmCs ⟨dr, true, ⟨vl + by_, vh + by_⟩⟩) rfl rfl ?news ?one ?h63 ?hb ?base ?_)
            case news => exact news4 _ _ _ _ (by simp)
            case one => intro u hu; simp [itmCs] at hu; rcases hu with rfl | rfl | rfl | rfl <;> rfl
            case h63 => simp only [maxLen]; omega
            case hb => omega
            case base => simp; omega
            intro v' w1 hown hgr _
            obtain ⟨A', c', e⟩ : ∃ A' c', v' = .slice A' (i + 1) c' := by
              rcases hown.2 with ⟨h1, h2⟩ | ⟨g, cap, cur, h1, _⟩
              · omega
              · exact ⟨_, _, h1⟩
            subst e
            have hal2 : Below (wr.alloc (.cells #[.int .i64 dr, .bool true, .int .i64 (vl + by_), .int .i64 (vh + by_)] 83)).heap.size (wr.alloc (.cells #[.int .i64 dr, .bool true, .int .i64 (vl + by_), .int .i64 (vh + by_)] 83)) ((wr.alloc (.cells #[.int .i64 dr, .bool true, .int .i64 (vl + by_), .int .i64 (vh + by_)] 83)).alloc (.cells #[.int .i64 dr, .bool true, .int .i64 (vl + by_), .int .i64 (vh + by_)] 83)) := (Below.refl _ _).alloc (Nat.le_refl _) _
            have hA9 := HS9.out.on hal2
            obtain ⟨p0, p1, pf⟩ := hA9.box hgr
            have pf0 := pf 0
            have lp := lt_of_cell p0
            have HMR := Lib.hid (hA9.more hown hgr)
            clear hown hgr pf p1 hA9 hal2 HS9
            go_wp2_with fail
            go_roundw
            case rel => exact ⟨i + 1, _, by omega, by go_num, by rw [HSN.out]; exact HMR.out⟩
            case measure => simp [intOf]; omega
        · have hie : i = b.items.length := by omega
          subst hie
          rw [List.take_length] at HS hS
          obtain ⟨x, hx⟩ : ∃ x, x = movedB b by_ := ⟨_, rfl⟩
          have hxi : x.items.length = b.items.length := by rw [hx]; simp [movedB]
          have hxc : x.certs = b.certs := by rw [hx]; rfl
          have hS' : ApI V X (.slice Ac x.certs.length cc) v x.items.length (x.items.flatMap itmCs) wr := by rw [hxi, hxc, hx]; exact hS
          obtain ⟨Ax, cx, rfl, hxit⟩ := hS'.items
          have hbw := HC2.out.bel.trans (hS.bel.mono (show w.heap.size ≤ X by omega))
          have hx0 := hS'.x0
          have hx1 := hS'.x1
          have HVB := Lib.hid hbw
          have HA0 := Lib.hid (HA.out.below hbw)
          have hxb : bookAt (· < wr.heap.size) wr Ax Ac x := ⟨hxit.mono fun j hj => hj.2, by rw [hxc]; exact (HA.out.below hbw).2⟩
          have HX0 := Lib.hid hxb
          have HS_0 := Lib.hid (((((show St wr [] wr from ⟨Below.refl _ _, fun p hp => by cases hp⟩).add hx1).add hx0).add d1).add d0)
          have hm := movedB_moved b by_
          rw [← hx] at hm
          have HM := Lib.hid hm
          have hxil : x.items.length ≤ 8 := by omega
          have hxcl : x.certs.length ≤ 24 := by rw [hxc]; exact hcl
          clear hS hS' hxit hbw hx0 hx1 hxb hm hx hxi hxc HS kv d0 d1 lX lw HC2 HP0 hlt hi hi0
          generalize wr = W_0 at *
          have a0 := HS_0.out.cell _ (.head _)
          have a1 := HS_0.out.cell _ (.tail _ (.head _))
          have x0 := HS_0.out.cell _ (.tail _ (.tail _ (.head _)))
          have x1 := HS_0.out.cell _ (.tail _ (.tail _ (.tail _ (.head _))))
          have lv_W_0 := lt_of_cell a0
          have l_a0 := lt_of_cell a0
          have l_a1 := lt_of_cell a1
          have l_x0 := lt_of_cell x0
          have l_x1 := lt_of_cell x1
          go_wp2_with fail
          refine (c45a Ax Ac cx cc x W_0 (HX0.out.below HS_0.out.bel) (by omega) (by omega)).mono ?_
          rintro e W_x ⟨rfl, y, rfl⟩
          have HS_2 := Lib.hid (HS_0.out.on (over_below _ y))
          clear a0 a1 x0 x1 l_a0 l_a1 l_x0 l_x1 lv_W_0
          clear HS_0 
          generalize over W_0 y = W_1 at *
          have a0 := HS_2.out.cell _ (.head _)
          have a1 := HS_2.out.cell _ (.tail _ (.head _))
          have x0 := HS_2.out.cell _ (.tail _ (.tail _ (.head _)))
          have x1 := HS_2.out.cell _ (.tail _ (.tail _ (.tail _ (.head _))))
          have lv_W_1 := lt_of_cell a0
          have l_a0 := lt_of_cell a0
          have l_a1 := lt_of_cell a1
          have l_x0 := lt_of_cell x0
          have l_x1 := lt_of_cell x1
          by_cases hfx : fault x = 0
          · have HVX := Lib.hid ((fault_iff x).1 hfx)
            rw [hfx]
            clear hfx
            go_wp2_with fail
            refine (c20 Ai Ac ci cc b W_1 (HA0.out.below HS_2.out.bel) (by omega) (by omega)).mono ?_
            rintro e W_x ⟨I_3, i_3, C_3, j_3, rfl, hB, y, rfl⟩
            have HB_3 := Lib.hid hB
            clear hB
            have HS_5 := Lib.hid (HS_2.out.on (over_below _ y))
            clear a0 a1 x0 x1 l_a0 l_a1 l_x0 l_x1 lv_W_1
            clear HS_2 
            generalize over W_1 y = W_4 at *
            have a0 := HS_5.out.cell _ (.head _)
            have a1 := HS_5.out.cell _ (.tail _ (.head _))
            have x0 := HS_5.out.cell _ (.tail _ (.tail _ (.head _)))
            have x1 := HS_5.out.cell _ (.tail _ (.tail _ (.tail _ (.head _))))
            have lv_W_4 := lt_of_cell a0
            have l_a0 := lt_of_cell a0
            have l_a1 := lt_of_cell a1
            have l_x0 := lt_of_cell x0
            have l_x1 := lt_of_cell x1
            go_wp2_with fail
            refine (c27 I_3 C_3 i_3 j_3 b K D W_4 HB_3.out (by omega) (by omega)).mono ?_
            rintro e W_x ⟨rfl, y, rfl⟩
            clear HB_3
            have HS_7 := Lib.hid (HS_5.out.on (over_below _ y))
            clear a0 a1 x0 x1 l_a0 l_a1 l_x0 l_x1 lv_W_4
            clear HS_5 
            generalize over W_4 y = W_6 at *
            have a0 := HS_7.out.cell _ (.head _)
            have a1 := HS_7.out.cell _ (.tail _ (.head _))
            have x0 := HS_7.out.cell _ (.tail _ (.tail _ (.head _)))
            have x1 := HS_7.out.cell _ (.tail _ (.tail _ (.tail _ (.head _))))
            have lv_W_6 := lt_of_cell a0
            have l_a0 := lt_of_cell a0
            have l_a1 := lt_of_cell a1
            have l_x0 := lt_of_cell x0
            have l_x1 := lt_of_cell x1
            unfold rngV
            go_wp2_with fail
            have hal : Below W_6.heap.size W_6 (W_6.alloc (.cells #[.int .i64 (spanRes b K D).lo, .int .i64 (spanRes b K D).hi] 45)) := (Below.refl _ _).alloc (Nat.le_refl _) _
            have HS_8 := Lib.hid (((HS_7.out.on hal).add (b := W_6.heap.size) (o := 1) (v := .int .i64 (spanRes b K D).hi) (by simp [go_sem])).add (b := W_6.heap.size) (o := 0) (v := .int .i64 (spanRes b K D).lo) (by simp [go_sem]))
            clear a0 a1 x0 x1 l_a0 l_a1 l_x0 l_x1 lv_W_6
            clear hal HS_7 
            generalize W_6.alloc (.cells #[.int .i64 (spanRes b K D).lo, .int .i64 (spanRes b K D).hi] 45) = W_9 at *
            generalize W_6.heap.size = Rr at *
            have r0 := HS_8.out.cell _ (.head _)
            have r1 := HS_8.out.cell _ (.tail _ (.head _))
            have a0 := HS_8.out.cell _ (.tail _ (.tail _ (.head _)))
            have a1 := HS_8.out.cell _ (.tail _ (.tail _ (.tail _ (.head _))))
            have x0 := HS_8.out.cell _ (.tail _ (.tail _ (.tail _ (.tail _ (.head _)))))
            have x1 := HS_8.out.cell _ (.tail _ (.tail _ (.tail _ (.tail _ (.tail _ (.head _))))))
            have lv_W_9 := lt_of_cell r0
            have l_r0 := lt_of_cell r0
            have l_r1 := lt_of_cell r1
            have l_a0 := lt_of_cell a0
            have l_a1 := lt_of_cell a1
            have l_x0 := lt_of_cell x0
            have l_x1 := lt_of_cell x1
            refine (c20 Ax Ac cx cc x W_9 (HX0.out.below HS_8.out.bel) (by omega) (by omega)).mono ?_
            rintro e W_x ⟨I_10, i_10, C_10, j_10, rfl, hB, y, rfl⟩
            have HB_10 := Lib.hid hB
            clear hB
            have HS_12 := Lib.hid (HS_8.out.on (over_below _ y))
            clear r0 r1 a0 a1 x0 x1 l_r0 l_r1 l_a0 l_a1 l_x0 l_x1 lv_W_9
            clear HS_8 
            generalize over W_9 y = W_11 at *
            have r0 := HS_12.out.cell _ (.head _)
            have r1 := HS_12.out.cell _ (.tail _ (.head _))
            have a0 := HS_12.out.cell _ (.tail _ (.tail _ (.head _)))
            have a1 := HS_12.out.cell _ (.tail _ (.tail _ (.tail _ (.head _))))
            have x0 := HS_12.out.cell _ (.tail _ (.tail _ (.tail _ (.tail _ (.head _)))))
            have x1 := HS_12.out.cell _ (.tail _ (.tail _ (.tail _ (.tail _ (.tail _ (.head _))))))
            have lv_W_11 := lt_of_cell r0
            have l_r0 := lt_of_cell r0
            have l_r1 := lt_of_cell r1
            have l_a0 := lt_of_cell a0
            have l_a1 := lt_of_cell a1
            have l_x0 := lt_of_cell x0
            have l_x1 := lt_of_cell x1
            go_wp2_with fail
            refine (c27 I_10 C_10 i_10 j_10 x K D W_11 HB_10.out (by omega) (by omega)).mono ?_
            rintro e W_x ⟨rfl, y, rfl⟩
            rw [moved_span HV.out HVX.out HM.out]
            clear HB_10
            have HS_14 := Lib.hid (HS_12.out.on (over_below _ y))
            clear r0 r1 a0 a1 x0 x1 l_r0 l_r1 l_a0 l_a1 l_x0 l_x1 lv_W_11
            clear HS_12 
            generalize over W_11 y = W_13 at *
            have r0 := HS_14.out.cell _ (.head _)
            have r1 := HS_14.out.cell _ (.tail _ (.head _))
            have a0 := HS_14.out.cell _ (.tail _ (.tail _ (.head _)))
            have a1 := HS_14.out.cell _ (.tail _ (.tail _ (.tail _ (.head _))))
            have x0 := HS_14.out.cell _ (.tail _ (.tail _ (.tail _ (.tail _ (.head _)))))
            have x1 := HS_14.out.cell _ (.tail _ (.tail _ (.tail _ (.tail _ (.tail _ (.head _))))))
            have lv_W_13 := lt_of_cell r0
            have l_r0 := lt_of_cell r0
            have l_r1 := lt_of_cell r1
            have l_a0 := lt_of_cell a0
            have l_a1 := lt_of_cell a1
            have l_x0 := lt_of_cell x0
            have l_x1 := lt_of_cell x1
            unfold rngV
            go_wp2_with fail
            have hal : Below W_13.heap.size W_13 (W_13.alloc (.cells #[.int .i64 (spanRes x K D).lo, .int .i64 (spanRes x K D).hi] 45)) := (Below.refl _ _).alloc (Nat.le_refl _) _
            have HS_15 := Lib.hid (((HS_14.out.on hal).add (b := W_13.heap.size) (o := 1) (v := .int .i64 (spanRes x K D).hi) (by simp [go_sem])).add (b := W_13.heap.size) (o := 0) (v := .int .i64 (spanRes x K D).lo) (by simp [go_sem]))
            clear r0 r1 a0 a1 x0 x1 l_r0 l_r1 l_a0 l_a1 l_x0 l_x1 lv_W_13
            clear hal HS_14 
            generalize W_13.alloc (.cells #[.int .i64 (spanRes x K D).lo, .int .i64 (spanRes x K D).hi] 45) = W_16 at *
            generalize W_13.heap.size = Rs at *
            have s0 := HS_15.out.cell _ (.head _)
            have s1 := HS_15.out.cell _ (.tail _ (.head _))
            have r0 := HS_15.out.cell _ (.tail _ (.tail _ (.head _)))
            have r1 := HS_15.out.cell _ (.tail _ (.tail _ (.tail _ (.head _))))
            have a0 := HS_15.out.cell _ (.tail _ (.tail _ (.tail _ (.tail _ (.head _)))))
            have a1 := HS_15.out.cell _ (.tail _ (.tail _ (.tail _ (.tail _ (.tail _ (.head _))))))
            have x0 := HS_15.out.cell _ (.tail _ (.tail _ (.tail _ (.tail _ (.tail _ (.tail _ (.head _)))))))
            have x1 := HS_15.out.cell _ (.tail _ (.tail _ (.tail _ (.tail _ (.tail _ (.tail _ (.tail _ (.head _))))))))
            have lv_W_16 := lt_of_cell s0
            have l_s0 := lt_of_cell s0
            have l_s1 := lt_of_cell s1
            have l_r0 := lt_of_cell r0
            have l_r1 := lt_of_cell r1
            have l_a0 := lt_of_cell a0
            have l_a1 := lt_of_cell a1
            have l_x0 := lt_of_cell x0
            have l_x1 := lt_of_cell x1
            refine (c20 Ai Ac ci cc b W_16 (HA0.out.below HS_15.out.bel) (by omega) (by omega)).mono ?_
            rintro e W_x ⟨I_17, i_17, C_17, j_17, rfl, hB, y, rfl⟩
            have HB_17 := Lib.hid hB
            clear hB
            have HS_19 := Lib.hid (HS_15.out.on (over_below _ y))
            clear s0 s1 r0 r1 a0 a1 x0 x1 l_s0 l_s1 l_r0 l_r1 l_a0 l_a1 l_x0 l_x1 lv_W_16
            clear HS_15 
            generalize over W_16 y = W_18 at *
            have s0 := HS_19.out.cell _ (.head _)
            have s1 := HS_19.out.cell _ (.tail _ (.head _))
            have r0 := HS_19.out.cell _ (.tail _ (.tail _ (.head _)))
            have r1 := HS_19.out.cell _ (.tail _ (.tail _ (.tail _ (.head _))))
            have a0 := HS_19.out.cell _ (.tail _ (.tail _ (.tail _ (.tail _ (.head _)))))
            have a1 := HS_19.out.cell _ (.tail _ (.tail _ (.tail _ (.tail _ (.tail _ (.head _))))))
            have x0 := HS_19.out.cell _ (.tail _ (.tail _ (.tail _ (.tail _ (.tail _ (.tail _ (.head _)))))))
            have x1 := HS_19.out.cell _ (.tail _ (.tail _ (.tail _ (.tail _ (.tail _ (.tail _ (.tail _ (.head _))))))))
            have lv_W_18 := lt_of_cell s0
            have l_s0 := lt_of_cell s0
            have l_s1 := lt_of_cell s1
            have l_r0 := lt_of_cell r0
            have l_r1 := lt_of_cell r1
            have l_a0 := lt_of_cell a0
            have l_a1 := lt_of_cell a1
            have l_x0 := lt_of_cell x0
            have l_x1 := lt_of_cell x1
            go_wp2_with fail
            refine Calls.mono (f := 38) (c38 I_17 C_17 i_17 j_17 b K D W_18 HB_17.out (by omega) (by omega)) ?_
            rintro e W_x ⟨B_20, d_20, rfl, hn, y, he⟩
            have hb : Below W_18.heap.size W_18 W_x := by rw [he]; exact over_below _ _
            have HN_21 := Lib.hid (hn.mono (T := (· < W_x.heap.size)) fun j hj => hj.2)
            clear HB_17 hn he
            have HS_23 := Lib.hid (HS_19.out.on (hb))
            clear s0 s1 r0 r1 a0 a1 x0 x1 l_s0 l_s1 l_r0 l_r1 l_a0 l_a1 l_x0 l_x1 lv_W_18
            clear HS_19 
            clear hb y
            generalize W_x = W_22 at *
            have s0 := HS_23.out.cell _ (.head _)
            have s1 := HS_23.out.cell _ (.tail _ (.head _))
            have r0 := HS_23.out.cell _ (.tail _ (.tail _ (.head _)))
            have r1 := HS_23.out.cell _ (.tail _ (.tail _ (.tail _ (.head _))))
            have a0 := HS_23.out.cell _ (.tail _ (.tail _ (.tail _ (.tail _ (.head _)))))
            have a1 := HS_23.out.cell _ (.tail _ (.tail _ (.tail _ (.tail _ (.tail _ (.head _))))))
            have x0 := HS_23.out.cell _ (.tail _ (.tail _ (.tail _ (.tail _ (.tail _ (.tail _ (.head _)))))))
            have x1 := HS_23.out.cell _ (.tail _ (.tail _ (.tail _ (.tail _ (.tail _ (.tail _ (.tail _ (.head _))))))))
            have lv_W_22 := lt_of_cell s0
            have l_s0 := lt_of_cell s0
            have l_s1 := lt_of_cell s1
            have l_r0 := lt_of_cell r0
            have l_r1 := lt_of_cell r1
            have l_a0 := lt_of_cell a0
            have l_a1 := lt_of_cell a1
            have l_x0 := lt_of_cell x0
            have l_x1 := lt_of_cell x1
            go_wp2_with fail
            refine (c20 Ax Ac cx cc x W_22 (HX0.out.below HS_23.out.bel) (by omega) (by omega)).mono ?_
            rintro e W_x ⟨I_24, i_24, C_24, j_24, rfl, hB, y, rfl⟩
            have HB_24 := Lib.hid hB
            clear hB
            have HS_26 := Lib.hid (HS_23.out.on (over_below _ y))
            have HN_27 := Lib.hid (HN_21.out.below (over_below _ y))
            clear s0 s1 r0 r1 a0 a1 x0 x1 l_s0 l_s1 l_r0 l_r1 l_a0 l_a1 l_x0 l_x1 lv_W_22
            clear HS_23 HN_21
            generalize over W_22 y = W_25 at *
            have s0 := HS_26.out.cell _ (.head _)
            have s1 := HS_26.out.cell _ (.tail _ (.head _))
            have r0 := HS_26.out.cell _ (.tail _ (.tail _ (.head _)))
            have r1 := HS_26.out.cell _ (.tail _ (.tail _ (.tail _ (.head _))))
            have a0 := HS_26.out.cell _ (.tail _ (.tail _ (.tail _ (.tail _ (.head _)))))
            have a1 := HS_26.out.cell _ (.tail _ (.tail _ (.tail _ (.tail _ (.tail _ (.head _))))))
            have x0 := HS_26.out.cell _ (.tail _ (.tail _ (.tail _ (.tail _ (.tail _ (.tail _ (.head _)))))))
            have x1 := HS_26.out.cell _ (.tail _ (.tail _ (.tail _ (.tail _ (.tail _ (.tail _ (.tail _ (.head _))))))))
            have lv_W_25 := lt_of_cell s0
            have l_s0 := lt_of_cell s0
            have l_s1 := lt_of_cell s1
            have l_r0 := lt_of_cell r0
            have l_r1 := lt_of_cell r1
            have l_a0 := lt_of_cell a0
            have l_a1 := lt_of_cell a1
            have l_x0 := lt_of_cell x0
            have l_x1 := lt_of_cell x1
            go_wp2_with fail
            refine Calls.mono (f := 38) (c38 I_24 C_24 i_24 j_24 x K D W_25 HB_24.out (by omega) (by omega)) ?_
            rintro e W_x ⟨B_28, d_28, rfl, hn, y, he⟩
            have hb : Below W_25.heap.size W_25 W_x := by rw [he]; exact over_below _ _
            rw [moved_best HV.out HVX.out HM.out] at hn
            rw [moved_best HV.out HVX.out HM.out]
            rw [moved_ask HV.out HVX.out HM.out]
            have HN_29 := Lib.hid (hn.mono (T := (· < W_x.heap.size)) fun j hj => hj.2)
            clear HB_24 hn he
            have HS_31 := Lib.hid (HS_26.out.on (hb))
            have HN_32 := Lib.hid (HN_27.out.below (hb))
            clear s0 s1 r0 r1 a0 a1 x0 x1 l_s0 l_s1 l_r0 l_r1 l_a0 l_a1 l_x0 l_x1 lv_W_25
            clear HS_26 HN_27
            clear hb y
            generalize W_x = W_30 at *
            have s0 := HS_31.out.cell _ (.head _)
            have s1 := HS_31.out.cell _ (.tail _ (.head _))
            have r0 := HS_31.out.cell _ (.tail _ (.tail _ (.head _)))
            have r1 := HS_31.out.cell _ (.tail _ (.tail _ (.tail _ (.head _))))
            have a0 := HS_31.out.cell _ (.tail _ (.tail _ (.tail _ (.tail _ (.head _)))))
            have a1 := HS_31.out.cell _ (.tail _ (.tail _ (.tail _ (.tail _ (.tail _ (.head _))))))
            have x0 := HS_31.out.cell _ (.tail _ (.tail _ (.tail _ (.tail _ (.tail _ (.tail _ (.head _)))))))
            have x1 := HS_31.out.cell _ (.tail _ (.tail _ (.tail _ (.tail _ (.tail _ (.tail _ (.tail _ (.head _))))))))
            have lv_W_30 := lt_of_cell s0
            have l_s0 := lt_of_cell s0
            have l_s1 := lt_of_cell s1
            have l_r0 := lt_of_cell r0
            have l_r1 := lt_of_cell r1
            have l_a0 := lt_of_cell a0
            have l_a1 := lt_of_cell a1
            have l_x0 := lt_of_cell x0
            have l_x1 := lt_of_cell x1
            go_wp2_with fail
            refine (c20 Ai Ac ci cc b W_30 (HA0.out.below HS_31.out.bel) (by omega) (by omega)).mono ?_
            rintro e W_x ⟨I_33, i_33, C_33, j_33, rfl, hB, y, rfl⟩
            have HB_33 := Lib.hid hB
            clear hB
            have HS_35 := Lib.hid (HS_31.out.on (over_below _ y))
            have HN_36 := Lib.hid (HN_32.out.below (over_below _ y))
            have HN_37 := Lib.hid (HN_29.out.below (over_below _ y))
            clear s0 s1 r0 r1 a0 a1 x0 x1 l_s0 l_s1 l_r0 l_r1 l_a0 l_a1 l_x0 l_x1 lv_W_30
            clear HS_31 HN_32 HN_29
            generalize over W_30 y = W_34 at *
            have s0 := HS_35.out.cell _ (.head _)
            have s1 := HS_35.out.cell _ (.tail _ (.head _))
            have r0 := HS_35.out.cell _ (.tail _ (.tail _ (.head _)))
            have r1 := HS_35.out.cell _ (.tail _ (.tail _ (.tail _ (.head _))))
            have a0 := HS_35.out.cell _ (.tail _ (.tail _ (.tail _ (.tail _ (.head _)))))
            have a1 := HS_35.out.cell _ (.tail _ (.tail _ (.tail _ (.tail _ (.tail _ (.head _))))))
            have x0 := HS_35.out.cell _ (.tail _ (.tail _ (.tail _ (.tail _ (.tail _ (.tail _ (.head _)))))))
            have x1 := HS_35.out.cell _ (.tail _ (.tail _ (.tail _ (.tail _ (.tail _ (.tail _ (.tail _ (.head _))))))))
            have lv_W_34 := lt_of_cell s0
            have l_s0 := lt_of_cell s0
            have l_s1 := lt_of_cell s1
            have l_r0 := lt_of_cell r0
            have l_r1 := lt_of_cell r1
            have l_a0 := lt_of_cell a0
            have l_a1 := lt_of_cell a1
            have l_x0 := lt_of_cell x0
            have l_x1 := lt_of_cell x1
            go_wp2_with fail
            refine Calls.mono (f := 41) (c41u I_33 C_33 i_33 j_33 b W_34 HB_33.out (by omega) (by omega)) ?_
            rintro e W_x ⟨B_38, d_38, rfl, hn, y, he⟩
            have hb : Below W_34.heap.size W_34 W_x := by rw [he]; exact over_below _ _
            have HN_39 := Lib.hid (hn.mono (T := (· < W_x.heap.size)) fun j hj => hj.2)
            clear HB_33 hn he
            have HS_41 := Lib.hid (HS_35.out.on (hb))
            have HN_42 := Lib.hid (HN_36.out.below (hb))
            have HN_43 := Lib.hid (HN_37.out.below (hb))
            clear s0 s1 r0 r1 a0 a1 x0 x1 l_s0 l_s1 l_r0 l_r1 l_a0 l_a1 l_x0 l_x1 lv_W_34
            clear HS_35 HN_36 HN_37
            clear hb y
            generalize W_x = W_40 at *
            have s0 := HS_41.out.cell _ (.head _)
            have s1 := HS_41.out.cell _ (.tail _ (.head _))
            have r0 := HS_41.out.cell _ (.tail _ (.tail _ (.head _)))
            have r1 := HS_41.out.cell _ (.tail _ (.tail _ (.tail _ (.head _))))
            have a0 := HS_41.out.cell _ (.tail _ (.tail _ (.tail _ (.tail _ (.head _)))))
            have a1 := HS_41.out.cell _ (.tail _ (.tail _ (.tail _ (.tail _ (.tail _ (.head _))))))
            have x0 := HS_41.out.cell _ (.tail _ (.tail _ (.tail _ (.tail _ (.tail _ (.tail _ (.head _)))))))
            have x1 := HS_41.out.cell _ (.tail _ (.tail _ (.tail _ (.tail _ (.tail _ (.tail _ (.tail _ (.head _))))))))
            have lv_W_40 := lt_of_cell s0
            have l_s0 := lt_of_cell s0
            have l_s1 := lt_of_cell s1
            have l_r0 := lt_of_cell r0
            have l_r1 := lt_of_cell r1
            have l_a0 := lt_of_cell a0
            have l_a1 := lt_of_cell a1
            have l_x0 := lt_of_cell x0
            have l_x1 := lt_of_cell x1
            go_wp2_with fail
            refine (c20 Ax Ac cx cc x W_40 (HX0.out.below HS_41.out.bel) (by omega) (by omega)).mono ?_
            rintro e W_x ⟨I_44, i_44, C_44, j_44, rfl, hB, y, rfl⟩
            have HB_44 := Lib.hid hB
            clear hB
            have HS_46 := Lib.hid (HS_41.out.on (over_below _ y))
            have HN_47 := Lib.hid (HN_42.out.below (over_below _ y))
            have HN_48 := Lib.hid (HN_43.out.below (over_below _ y))
            have HN_49 := Lib.hid (HN_39.out.below (over_below _ y))
            clear s0 s1 r0 r1 a0 a1 x0 x1 l_s0 l_s1 l_r0 l_r1 l_a0 l_a1 l_x0 l_x1 lv_W_40
            clear HS_41 HN_42 HN_43 HN_39
            generalize over W_40 y = W_45 at *
            have s0 := HS_46.out.cell _ (.head _)
            have s1 := HS_46.out.cell _ (.tail _ (.head _))
            have r0 := HS_46.out.cell _ (.tail _ (.tail _ (.head _)))
            have r1 := HS_46.out.cell _ (.tail _ (.tail _ (.tail _ (.head _))))
            have a0 := HS_46.out.cell _ (.tail _ (.tail _ (.tail _ (.tail _ (.head _)))))
            have a1 := HS_46.out.cell _ (.tail _ (.tail _ (.tail _ (.tail _ (.tail _ (.head _))))))
            have x0 := HS_46.out.cell _ (.tail _ (.tail _ (.tail _ (.tail _ (.tail _ (.tail _ (.head _)))))))
            have x1 := HS_46.out.cell _ (.tail _ (.tail _ (.tail _ (.tail _ (.tail _ (.tail _ (.tail _ (.head _))))))))
            have lv_W_45 := lt_of_cell s0
            have l_s0 := lt_of_cell s0
            have l_s1 := lt_of_cell s1
            have l_r0 := lt_of_cell r0
            have l_r1 := lt_of_cell r1
            have l_a0 := lt_of_cell a0
            have l_a1 := lt_of_cell a1
            have l_x0 := lt_of_cell x0
            have l_x1 := lt_of_cell x1
            go_wp2_with fail
            refine Calls.mono (f := 41) (c41u I_44 C_44 i_44 j_44 x W_45 HB_44.out (by omega) (by omega)) ?_
            rintro e W_x ⟨B_50, d_50, rfl, hn, y, he⟩
            have hb : Below W_45.heap.size W_45 W_x := by rw [he]; exact over_below _ _
            rw [moved_sr HV.out HVX.out HM.out] at hn
            rw [moved_sr HV.out HVX.out HM.out]
            rw [moved_se HV.out HVX.out HM.out]
            have HN_51 := Lib.hid (hn.mono (T := (· < W_x.heap.size)) fun j hj => hj.2)
            clear HB_44 hn he
            have HS_53 := Lib.hid (HS_46.out.on (hb))
            have HN_54 := Lib.hid (HN_47.out.below (hb))
            have HN_55 := Lib.hid (HN_48.out.below (hb))
            have HN_56 := Lib.hid (HN_49.out.below (hb))
            clear s0 s1 r0 r1 a0 a1 x0 x1 l_s0 l_s1 l_r0 l_r1 l_a0 l_a1 l_x0 l_x1 lv_W_45
            clear HS_46 HN_47 HN_48 HN_49
            clear hb y
            generalize W_x = W_52 at *
            have s0 := HS_53.out.cell _ (.head _)
            have s1 := HS_53.out.cell _ (.tail _ (.head _))
            have r0 := HS_53.out.cell _ (.tail _ (.tail _ (.head _)))
            have r1 := HS_53.out.cell _ (.tail _ (.tail _ (.tail _ (.head _))))
            have a0 := HS_53.out.cell _ (.tail _ (.tail _ (.tail _ (.tail _ (.head _)))))
            have a1 := HS_53.out.cell _ (.tail _ (.tail _ (.tail _ (.tail _ (.tail _ (.head _))))))
            have x0 := HS_53.out.cell _ (.tail _ (.tail _ (.tail _ (.tail _ (.tail _ (.tail _ (.head _)))))))
            have x1 := HS_53.out.cell _ (.tail _ (.tail _ (.tail _ (.tail _ (.tail _ (.tail _ (.tail _ (.head _))))))))
            have lv_W_52 := lt_of_cell s0
            have l_s0 := lt_of_cell s0
            have l_s1 := lt_of_cell s1
            have l_r0 := lt_of_cell r0
            have l_r1 := lt_of_cell r1
            have l_a0 := lt_of_cell a0
            have l_a1 := lt_of_cell a1
            have l_x0 := lt_of_cell x0
            have l_x1 := lt_of_cell x1
            simp only at s0 s1 r0 r1
            have hbl : (bestRes b K D).length ≤ 24 := bestRes_len hcl K D
            have hsl : (susRes b).length ≤ 24 := susRes_len hcl
            have hc1 := fun (W : World) (hW : Below W_52.heap.size W_52 W) => c26 (ca := d_20) (cb := d_28) (HN_54.out.below hW) (HN_55.out.below hW) (by omega) (by omega)
            have hc2 := fun (W : World) (hW : Below W_52.heap.size W_52 W) => c26 (ca := d_38) (cb := d_50) (HN_56.out.below hW) (HN_51.out.below hW) (by omega) (by omega)
            simp only [decide_true] at hc1 hc2
            have HQ1 := Lib.hid hc1
            have HQ2 := Lib.hid hc2
            have HBW := Lib.hid (HVB.out.trans (HS_53.out.bel.mono HVB.out.size))
            clear hc1 hc2 HN_54 HN_55 HN_56 HN_51
            by_cases h0 : spanErr b K D = 0
            · have hres := moved_res HV.out HVX.out HM.out h0
              rw [hres] at s0 s1
              obtain ⟨b1, b2, b3, b4⟩ := spanRes_in HV.out K D h0
              rw [h0]
              clear hres h0
              generalize spanRes b K D = r at *
              generalize spanRes x K D = s at *
              generalize bestRes b K D = L1 at *
              generalize susRes b = L2 at *
              generalize askErr b K D = g1 at *
              generalize susErr b = g2 at *
              go_wp2_with fail
              refine (HQ1.out _ (Below.refl _ _)).mono ?_
              rintro e W_x ⟨rfl, n1, rfl⟩
              have HD1 := Lib.hid (below_drewN' (Below.refl W_52.heap.size W_52) n1)
              generalize W_52.drewN n1 = W_y at *
              go_wp2_with fail
              refine (HQ2.out _ HD1.out).mono ?_
              rintro e W_x ⟨rfl, n2, rfl⟩
              have HD2 := Lib.hid (HD1.out.trans (below_drewN' (Below.refl _ _) n2 |>.mono HD1.out.size))
              generalize W_y.drewN n2 = W_z at *
              go_wp2_with fail
              refine (c18 _).mono ?_
              rintro e w2 ⟨rfl, y, rfl⟩
              go_wp2_with fail
              go_ret
              exact ⟨rfl, below_over (HBW.out.trans ((HD2.out.trans ((over_below _ _).mono HD2.out.size)).mono HBW.out.size))⟩
            · have hfn : (spanErr b K D != 0) = true := by simp [h0]
              generalize spanRes b K D = r at *
              generalize spanRes x K D = s at *
              generalize bestRes b K D = L1 at *
              generalize susRes b = L2 at *
              generalize askErr b K D = g1 at *
              generalize susErr b = g2 at *
              generalize spanErr b K D = g3 at *
              clear h0
              go_wp2_with fail
              refine (HQ1.out _ (Below.refl _ _)).mono ?_
              rintro e W_x ⟨rfl, n1, rfl⟩
              have HD1 := Lib.hid (below_drewN' (Below.refl W_52.heap.size W_52) n1)
              generalize W_52.drewN n1 = W_y at *
              go_wp2_with fail
              refine (HQ2.out _ HD1.out).mono ?_
              rintro e W_x ⟨rfl, n2, rfl⟩
              have HD2 := Lib.hid (HD1.out.trans (below_drewN' (Below.refl _ _) n2 |>.mono HD1.out.size))
              generalize W_y.drewN n2 = W_z at *
              go_wp2_with fail
              refine (c18 _).mono ?_
              rintro e w2 ⟨rfl, y, rfl⟩
              go_wp2_with fail
              go_ret
              exact ⟨rfl, below_over (HBW.out.trans ((HD2.out.trans ((over_below _ _).mono HD2.out.size)).mono HBW.out.size))⟩
          · have hfn : ((fault x : Int) != 0) = true := by simp [hfx]
            generalize fault x = g at *
            clear hfx
            go_wp2_with fail
            refine (c18 _).mono ?_
            rintro e w2 ⟨rfl, y, rfl⟩
            go_wp2_with fail
            go_ret
            exact ⟨rfl, below_over (HVB.out.trans ((HS_2.out.bel.trans ((over_below _ _).mono HS_2.out.bel.size)).mono HVB.out.size))⟩
end Go.Proofs.Ytmcnpfjichbijaa

