/- ChainHolds, walked. -/
import Derived.Test.YtmcnpfjichbijaaL8
set_option linter.unusedSimpArgs false
set_option linter.unusedVariables false
namespace Go.Proofs.Ytmcnpfjichbijaa
open Go Go.Proofs Go.RowKit Go.Shelf


set_option maxRecDepth 100000 in
set_option maxHeartbeats 4000000 in
theorem c9 (Ai Ac Ab : Option Addr) (ci cc cb : Nat) (b : Bk) (l : List Int) (w : World) (hA : bookAt (· < w.heap.size) w Ai Ac b) (hB : numsAt (· < w.heap.size) w Ab l) (hAb : Ab = none → cb = 0)
    (h1 : b.items.length ≤ 9223372036854775807) (h2 : b.certs.length ≤ 9223372036854775807) :
    Calls Try.prog 9 #[.agg #[.slice Ai b.items.length ci, .slice Ac b.certs.length cc], .slice Ab l.length cb] w fun e w' => e = .returned (.bool true) ∧ ∃ x, w' = over w x := by
  have HA := Lib.hid hA
  have HBS := Lib.hid hB
  clear hA hB
  go_enter Try.func9, Try.ntmps9
  go_wp2_with fail
  have hCl : Cl w (.slice Ai b.items.length ci) (.slice Ac b.certs.length cc) (w.alloc (.cells #[.slice Ai b.items.length ci, .slice Ac b.certs.length cc] 25)) := ⟨by repeat' (first | exact Below.refl _ _ | (refine below_ov ?_ ?_) | (refine Below.alloc ?_ ?_ _) | (refine below_drewN' ?_ _) | (refine Below.drew ?_) | (refine below_set ?_ _ _ ?_) | (simp; done) | (simp; omega) | omega), by simp [go_sem], by simp [go_sem]⟩
  refine (c17 Ai Ac ci cc b.items.length b.certs.length _ h1 h2).mono ?_
  rintro e w1 ⟨rfl, x, rfl⟩
  have HC1 := Lib.hid (hCl.onx (x := x))
  clear hCl
  generalize over _ x = W1 at *
  have c0 := HC1.out.a0
  have c1 := HC1.out.a1
  have lw := lt_of_cell c0
  by_cases hth : (decide (b.items.length ≤ 10) && decide (b.certs.length ≤ 28)) = true
  · rw [hth]
    simp at hth
    by_cases hll : (l.length : Int) ≤ 30
    · have hd : decide ((30 : Int) < l.length) = false := by simp; omega
      have HA1 := Lib.hid (HA.out.below HC1.out.bel)
      go_wp2_with fail
      refine (c20 Ai Ac ci cc b W1 HA1.out (by omega) (by omega)).mono ?_
      rintro e W2 ⟨Ai2, ci2, Ac2, cc2, rfl, hA2, x2, e2⟩
      have hb2 : Below W1.heap.size W1 W2 := by rw [e2]; exact over_below _ _
      have HC2 := Lib.hid (HC1.out.on hb2)
      have HA2 := Lib.hid hA2
      clear hA2 e2 x2 hb2 HA1 c0 c1 lw HC1
      go_wp2_with fail
      refine (c40 Ai2 Ac2 ci2 cc2 b W2 HA2.out (by omega) (by omega)).mono ?_
      rintro e W3 ⟨rfl, x3, rfl⟩
      have HC3 := Lib.hid (HC2.out.onx (x := x3))
      clear HC2 HA2
      generalize over W2 x3 = W3 at *
      have HA3 := Lib.hid (HA.out.below HC3.out.bel)
      have c0 := HC3.out.a0
      have c1 := HC3.out.a1
      have lw := lt_of_cell c0
      go_wp2_with fail
      refine (c20 Ai Ac ci cc b W3 HA3.out (by omega) (by omega)).mono ?_
      rintro e W4 ⟨Ai4, ci4, Ac4, cc4, rfl, hA4, x4, e4⟩
      have hb4 : Below W3.heap.size W3 W4 := by rw [e4]; exact over_below _ _
      have HC4 := Lib.hid (HC3.out.on hb4)
      have HA4 := Lib.hid hA4
      clear hA4 e4 x4 hb4 HA3 c0 c1 lw HC3
      have HB4 := Lib.hid (HBS.out.below HC4.out.bel)
      go_wp2_with fail
      refine (c21 HB4.out (by omega) hAb).mono ?_
      rintro e W5 ⟨A5, c5, rfl, hn5, x5, e5⟩
      have hb5 : Below W4.heap.size W4 W5 := by rw [e5]; exact over_below _ _
      have HC5 := Lib.hid (HC4.out.on hb5)
      have HA5 := Lib.hid (HA4.out.below hb5)
      have HN5 := Lib.hid hn5
      clear hn5 e5 x5 hb5 HA4 HB4 HC4
      go_wp2_with fail
      refine (c34 Ai4 Ac4 A5 ci4 cc4 c5 b l W5 HA5.out (HN5.out.mono fun j hj => hj.2) (by omega) (by omega) (by omega)).mono ?_
      rintro e W6 (⟨he, rfl, x6, e6⟩ | ⟨he, A6, c6, rfl, hn6, x6, e6⟩)
      · have hb6 : Below W5.heap.size W5 W6 := by rw [e6]; exact over_below _ _
        have HC6 := Lib.hid (HC5.out.on hb6)
        have HA6 := Lib.hid (HA.out.below HC6.out.bel)
        have HB6 := Lib.hid (HBS.out.below HC6.out.bel)
        have c0 := HC6.out.a0
        have c1 := HC6.out.a1
        have lw := lt_of_cell c0
        clear e6 x6 hb6 HC5 HA5 HN5
        by_cases hf : fault b = 0
        · have hE : errOf b l = 2 ∧ badOk l = false := by
            unfold errOf at he ⊢
            rw [if_neg (by omega)] at he ⊢
            cases hb : badOk l
            · exact ⟨rfl, rfl⟩
            · rw [hb] at he; simp at he
          obtain ⟨hE1, hE2⟩ := hE
          rw [hE1, hf]
          clear he
          go_wp2_with fail
          refine (c22 Ai Ac ci cc b W6 HA6.out (by omega) (by omega)).mono ?_
          rintro e W7 ⟨rfl, x7, rfl⟩
          rw [hf]
          clear hf
          have HC7 := Lib.hid (HC6.out.onx (x := x7))
          have HB7 := Lib.hid (HB6.out.below (over_below W6 x7))
          clear c0 c1 lw HA6 HB6 HC6
          generalize over W6 x7 = W7 at *
          go_wp2_with fail
          refine (c23 HB7.out (by omega)).mono ?_
          rintro e W8 ⟨rfl, x8, rfl⟩
          rw [hE2]
          go_wp2_with fail
          refine (c18 _).mono ?_
          rintro e W9 ⟨rfl, x9, rfl⟩
          go_wp2_with fail
          go_ret
          exact ⟨rfl, below_over (HC7.out.onx.bel)⟩
        · have hE : errOf b l = fault b := by unfold errOf; rw [if_pos hf]
          rw [hE]
          clear he hE
          have HK := Lib.hid (c22 Ai Ac ci cc b W6 HA6.out (by omega) (by omega))
          generalize fault b = f at *
          have e1 : (f == 0) = false := by simp [hf]
          have e2 : (f != 0) = true := by simp [hf]
          clear hf
          go_wp2_with fail
          refine HK.out.mono ?_
          rintro e W7 ⟨rfl, x7, rfl⟩
          go_wp2_with fail
          refine (c18 _).mono ?_
          rintro e W9 ⟨rfl, x9, rfl⟩
          go_wp2_with fail
          go_ret
          exact ⟨rfl, below_over (HC6.out.onx.bel)⟩
      · have hb6 : Below W5.heap.size W5 W6 := by rw [e6]; exact over_below _ _
        have HC6 := Lib.hid (HC5.out.on hb6)
        have HA6 := Lib.hid (HA.out.below HC6.out.bel)
        have HB6 := Lib.hid (HBS.out.below HC6.out.bel)
        have HN6 := Lib.hid (hn6.mono (T := (· < W6.heap.size)) fun j hj => hj.2)
        have c0 := HC6.out.a0
        have c1 := HC6.out.a1
        have lw := lt_of_cell c0
        have hf : fault b = 0 ∧ badOk l = true := by
          unfold errOf at he
          by_cases hf : fault b = 0
          · rw [if_neg (by omega)] at he
            cases hb : badOk l
            · rw [hb] at he; simp at he
            · exact ⟨hf, rfl⟩
          · rw [if_pos hf] at he; exact absurd he hf
        obtain ⟨hf1, hf2⟩ := hf
        clear e6 x6 hb6 HC5 HA5 HN5 hn6 he
        have HF1 := Lib.hid hf1
        rw [show (numsOf b).filter (holds b fun n => decide (n ∈ l)) = heldL b l from rfl] at HN6 ⊢
        rw [hf1]
        have hv := (fault_iff b).1 hf1
        have hr := refTo_all hv l
        have hrl := refTo_length b l 999
        rw [hr] at hrl
        go_wp2_with fail
        refine (c22 Ai Ac ci cc b W6 HA6.out (by omega) (by omega)).mono ?_
        rintro e W7 ⟨rfl, x7, rfl⟩
        rw [hf1]
        clear hf1
        have HC7 := Lib.hid (HC6.out.onx (x := x7))
        have HB7 := Lib.hid (HB6.out.below (over_below W6 x7))
        have HN7 := Lib.hid (HN6.out.below (over_below W6 x7))
        clear c0 c1 lw HA6 HB6 HC6 HN6
        generalize over W6 x7 = W7 at *
        go_wp2_with fail
        refine (c23 HB7.out (by omega)).mono ?_
        rintro e W8 ⟨rfl, x8, rfl⟩
        rw [hf2]
        clear hf2
        have HC8 := Lib.hid (HC7.out.onx (x := x8))
        have HA8 := Lib.hid (HA.out.below HC8.out.bel)
        have HB8 := Lib.hid (HB7.out.below (over_below W7 x8))
        have HN8 := Lib.hid (HN7.out.below (over_below W7 x8))
        clear HC7 HB7 HN7
        generalize over W7 x8 = W8 at *
        have c0 := HC8.out.a0
        have c1 := HC8.out.a1
        have lw := lt_of_cell c0
        have hc24 := c24 Ai Ac Ab ci cc cb b l W8 HA8.out.1 HA8.out.2 HB8.out (by omega) (by omega) (by omega) (fun c hc => vb_by hv hc) (fun c hc => vb_day hv hc)
        rw [hr] at hc24
        have HC24 := Lib.hid hc24
        clear hc24 hv hr
        generalize heldL b l = L at *
        go_wp2_with fail
        refine HC24.out.mono ?_
        rintro e W9 ⟨A9, c9, rfl, hn9, x9, e9⟩
        have hb9 : Below W8.heap.size W8 W9 := by rw [e9]; exact over_below _ _
        have hc26 := c26 (ca := c6) (cb := c9) (HN8.out.below hb9) hn9 (by omega) (by omega)
        rw [decide_eq_true (rfl : L = L)] at hc26
        have HC26 := Lib.hid hc26
        have HC9 := Lib.hid (HC8.out.on hb9)
        clear hc26 hn9 e9 x9 hb9
        go_wp2_with fail
        refine HC26.out.mono ?_
        rintro e w8 ⟨rfl, nd, rfl⟩
        go_wp2_with fail
        refine (c18 _).mono ?_
        rintro e w9 ⟨rfl, y, rfl⟩
        go_wp2_with fail
        go_ret
        refine ⟨rfl, below_over ?_⟩
        exact (below_drewN' HC9.out.bel nd).trans ((over_below _ y).mono (by show w.heap.size ≤ W9.heap.size; exact HC9.out.bel.size))
    · go_wp2_with fail
      refine (c18 _).mono ?_
      rintro e w2 ⟨rfl, y, rfl⟩
      go_wp2_with fail
      go_ret
      exact ⟨rfl, below_over (HC1.out.onx.bel)⟩
  · rw [Bool.not_eq_true] at hth
    rw [hth]
    go_wp2_with fail
    refine (c18 _).mono ?_
    rintro e w2 ⟨rfl, y, rfl⟩
    go_wp2_with fail
    go_ret
    exact ⟨rfl, below_over (HC1.out.onx.bel)⟩
end Go.Proofs.Ytmcnpfjichbijaa

