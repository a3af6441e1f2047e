/- ChainSuspects, walked. -/
import Derived.Test.YtmcnpfjichbijaaL21
set_option linter.unusedSimpArgs false
set_option linter.unusedVariables false
namespace Go.Proofs.Ytmcnpfjichbijaa
open Go Go.Proofs Go.RowKit Go.Shelf


def susP (b : Bk) (n : Int) : Bool := decide (n ∈ numsOf b) && !contra (dropC b n)
theorem susP_all {b : Bk} (v : Vb b) : upTo (susP b) 999 = suspects b := suspects_upTo v
theorem upTo_yes {P : Int → Bool} {k : Nat} (h : P ((k : Int) + 1) = true) : upTo P (k + 1) = upTo P k ++ [(k : Int) + 1] := by
  show (if P ((k : Int) + 1) then _ else _) = _
  rw [if_pos h]
theorem upTo_no {P : Int → Bool} {k : Nat} (h : P ((k : Int) + 1) = false) : upTo P (k + 1) = upTo P k := by
  show (if P ((k : Int) + 1) then _ else _) = _
  rw [if_neg (by rw [h]; simp)]

/-- A list of ints that grows behind a world. -/
structure GrS (V : World) (A : Option Addr) (c : Nat) (L : List Int) (W : World) : Prop where
  bel : Below V.heap.size V W
  own : W.ownsRow V.heap.size 3 1 (.slice A L.length c) L.length (L.map (Value.int .i64))
theorem GrS.on {V : World} {A : Option Addr} {c : Nat} {L : List Int} {W W' : World} (h : GrS V A c L W) (hb : Below W.heap.size W W') : GrS V A c L W' := ⟨h.bel.trans (hb.mono h.bel.size), own_below h.own hb⟩
theorem GrS.more {V : World} {A A' : Option Addr} {c c' : Nat} {L : List Int} {n : Int} {W W1 : World} (h : GrS V A c L W) (hg : (W.alloc (.cells #[.int .i64 n] 3)).grownBy W1 (Value.slice A L.length c).ownBlock)
    (hown : W1.ownsRow V.heap.size 3 1 (.slice A' (L.length + 1) c') (L.length + 1) (L.map (Value.int .i64) ++ [.int .i64 n])) : GrS V A' c' (L ++ [n]) W1 :=
  ⟨(h.bel.alloc h.bel.size _).grown hg (by have := h.bel.size; simp; omega) (fun k hk => (h.own.lt _ hk).1), by simpa using hown⟩

set_option maxRecDepth 100000 in
set_option maxHeartbeats 4000000 in
theorem c10 (Ai Ac : Option Addr) (ci cc : Nat) (b : Bk) (w : World) (hA : bookAt (· < w.heap.size) w Ai Ac b)
    (h1 : b.items.length ≤ 9223372036854775807) (h2 : b.certs.length ≤ 9223372036854775807) :
    Calls Try.prog 10 #[.agg #[.slice Ai b.items.length ci, .slice Ac b.certs.length cc]] w fun e w' => e = .returned (.bool true) ∧ ∃ x, w' = over w x := by
  have HA := Lib.hid hA
  clear hA
  go_enter Try.func10, Try.ntmps10
  go_wp2_with fail
  have hCl : Cl w (.slice Ai b.items.length ci) (.slice Ac b.certs.length cc) (w.alloc (.cells #[.slice Ai b.items.length ci, .slice Ac b.certs.length cc] 25)) := ⟨by repeat' (first | exact Below.refl _ _ | (refine below_ov ?_ ?_) | (refine Below.alloc ?_ ?_ _) | (refine below_drewN' ?_ _) | (refine Below.drew ?_) | (refine below_set ?_ _ _ ?_) | (simp; done) | (simp; omega) | omega), by simp [go_sem], by simp [go_sem]⟩
  refine (c17 Ai Ac ci cc b.items.length b.certs.length _ h1 h2).mono ?_
  rintro e W1 ⟨rfl, x, rfl⟩
  have HC1 := Lib.hid (hCl.onx (x := x))
  clear hCl
  generalize over _ x = W1 at *
  have c0 := HC1.out.a0
  have c1 := HC1.out.a1
  have lw := lt_of_cell c0
  by_cases hth : (decide (b.items.length ≤ 10) && decide (b.certs.length ≤ 28)) = true
  · rw [hth]
    simp at hth
    go_wp2_with fail
    refine (c20 Ai Ac ci cc b W1 (HA.out.below HC1.out.bel) (by omega) (by omega)).mono ?_
    rintro e W2 ⟨Ai2, ci2, Ac2, cc2, rfl, hA2, x2, rfl⟩
    have HC2 := Lib.hid (HC1.out.onx (x := x2))
    have HA2 := Lib.hid hA2
    clear hA2 HC1 c0 c1 lw
    generalize over W1 x2 = W2 at *
    have c0 := HC2.out.a0
    have c1 := HC2.out.a1
    have lw := lt_of_cell c0
    go_wp2_with fail
    refine Calls.mono (f := 41) (c41 Ai2 Ac2 ci2 cc2 b W2 HA2.out (by omega) (by omega)) ?_
    rintro e W3 (⟨h0, rfl, x3, rfl⟩ | ⟨h0, A3, d3, rfl, hn3, x3, e3⟩)
    · have HC3 := Lib.hid (HC2.out.onx (x := x3))
      clear HC2 HA2 c0 c1 lw
      generalize over W2 x3 = W3 at *
      have c0 := HC3.out.a0
      have c1 := HC3.out.a1
      have lw := lt_of_cell c0
      have H0 := Lib.hid h0
      clear h0
      go_wp2_with fail
      refine (c22 Ai Ac ci cc b W3 (HA.out.below HC3.out.bel) (by omega) (by omega)).mono ?_
      rintro e W4 ⟨rfl, x4, rfl⟩
      have HC4 := Lib.hid (HC3.out.onx (x := x4))
      clear HC3 c0 c1 lw
      generalize over W3 x4 = W4 at *
      have c0 := HC4.out.a0
      have c1 := HC4.out.a1
      have lw := lt_of_cell c0
      by_cases hf : fault b = 0
      · have HV := Lib.hid ((fault_iff b).1 hf)
        have hcn : contra b = false := by
          cases h : contra b
          · rfl
          · exact absurd (by unfold susErr; rw [if_neg (by omega), if_pos h]) H0.out
        have hse : susErr b = 7 := by unfold susErr; rw [if_neg (by omega), if_neg (by rw [hcn]; simp)]
        rw [hf, hse]
        have HCN := Lib.hid hcn
        clear hf hse hcn H0
        go_wp2_with fail
        refine (c29 Ai Ac ci cc b W4 (HA.out.below HC4.out.bel) HV.out).mono ?_
        rintro e W5 ⟨rfl, x5, rfl⟩
        rw [HCN.out]
        have HC5 := Lib.hid (HC4.out.onx (x := x5))
        clear HC4 c0 c1 lw
        generalize over W4 x5 = W5 at *
        go_wp2_with fail
        refine (c18 _).mono ?_
        rintro e w2 ⟨rfl, y, rfl⟩
        go_wp2_with fail
        go_ret
        exact ⟨rfl, below_over (HC5.out.onx.bel)⟩
      · have hse : susErr b = fault b := by unfold susErr; rw [if_pos hf]
        have hz : (fault b == 0) = false := beq_eq_false_iff_ne.2 hf
        have hz2 : (fault b != 0) = true := by simp [hf]
        rw [hse]
        clear hse H0
        generalize fault b = g at *
        clear hf
        go_wp2_with fail
        refine (c18 _).mono ?_
        rintro e w2 ⟨rfl, y, rfl⟩
        go_wp2_with fail
        go_ret
        exact ⟨rfl, below_over (HC4.out.onx.bel)⟩
    · have hb3 : Below W2.heap.size W2 W3 := by rw [e3]; exact over_below _ _
      have HC3 := Lib.hid (HC2.out.on hb3)
      have HN3 := Lib.hid (hn3.mono (T := (· < W3.heap.size)) fun j hj => hj.2)
      have hf : fault b = 0 := by
        by_cases hf : fault b = 0
        · exact hf
        · unfold susErr at h0; rw [if_pos hf] at h0; exact h0
      have hcn : contra b = true := by
        cases h : contra b
        · unfold susErr at h0; rw [if_neg (by omega), if_neg (by rw [h]; simp)] at h0; cases h0
        · rfl
      have HV := Lib.hid ((fault_iff b).1 hf)
      have HCN := Lib.hid hcn
      have HF := Lib.hid hf
      have hsl : (suspects b).length ≤ 999 := by rw [← susP_all HV.out]; exact upTo_len _ _
      clear HC2 HA2 c0 c1 lw h0 hn3 e3 x3 hb3 hcn hf
      have c0 := HC3.out.a0
      have c1 := HC3.out.a1
      have lw := lt_of_cell c0
      go_wp2_with fail
      refine (c22 Ai Ac ci cc b W3 (HA.out.below HC3.out.bel) (by omega) (by omega)).mono ?_
      rintro e W4 ⟨rfl, x4, rfl⟩
      rw [HF.out]
      have HC4 := Lib.hid (HC3.out.onx (x := x4))
      have HN4 := Lib.hid (HN3.out.below (over_below W3 x4))
      clear HC3 HN3 c0 c1 lw
      generalize over W3 x4 = W4 at *
      have c0 := HC4.out.a0
      have c1 := HC4.out.a1
      have lw := lt_of_cell c0
      go_wp2_with fail
      refine (c29 Ai Ac ci cc b W4 (HA.out.below HC4.out.bel) HV.out).mono ?_
      rintro e W5 ⟨rfl, x5, rfl⟩
      rw [HCN.out]
      have HC5 := Lib.hid (HC4.out.onx (x := x5))
      have HN5 := Lib.hid (HN4.out.below (over_below W4 x5))
      clear HC4 HN4 c0 c1 lw
      generalize over W4 x5 = W5 at *
      go_wp2_with fail
      go_loopw [6, 7] (fun s t wr => ∃ (k : Nat) (A : Option Addr) (c : Nat), k ≤ 999 ∧ t = .int .i64 ((k : Int) + 1) ∧ s = .slice A (upTo (susP b) k).length c ∧ GrS W5 A c (upTo (susP b) k) wr) (fun _ t _ => 1000 - (intOf t).toNat)
      case atStart => exact ⟨0, none, 0, by omega, rfl, rfl, Below.refl _ _, World.ownsRow_nil _ _ _ _⟩
      case round =>
        obtain ⟨k, A, c, hk, rfl, rfl, hS⟩ := hrel
        have HS := Lib.hid hS
        have HC6 := Lib.hid (HC5.out.on hS.bel)
        have HN6 := Lib.hid (HN5.out.below hS.bel)
        clear hS
        have c0 := HC6.out.a0
        have c1 := HC6.out.a1
        have lw := lt_of_cell c0
        by_cases hlt : k < 999
        · have hle : (k : Int) + 1 ≤ 999 := by omega
          go_wp2_with fail
          refine (c36 Ai Ac ci cc b ((k : Int) + 1) wr (HA.out.below HC6.out.bel).2 (by omega)).mono ?_
          rintro e W7 ⟨rfl, x7, rfl⟩
          have HS7 := Lib.hid (HS.out.on (over_below wr x7))
          have HC7 := Lib.hid (HC6.out.onx (x := x7))
          clear HS HC6 HN6 c0 c1 lw
          generalize over wr x7 = W7 at *
          have c0 := HC7.out.a0
          have c1 := HC7.out.a1
          have lw := lt_of_cell c0
          unfold crtV
          cases hin : decide ((k : Int) + 1 ∈ numsOf b)
          · have HP := Lib.hid (upTo_no (P := susP b) (k := k) (by unfold susP; rw [hin]; rfl))
            clear hin
            go_wp2_with fail
            go_roundw
            case rel => exact ⟨k + 1, A, c, by omega, by go_num, by rw [HP.out], by rw [HP.out]; exact HS7.out.on ((Below.refl _ _).alloc (Nat.le_refl _) _)⟩
            case measure => simp [intOf]; omega
          · have HI := Lib.hid hin
            clear hin
            go_wp2_with fail
            have hb8 : Below W7.heap.size W7 (W7.alloc (.cells #[.int .i64 (getC b (↑k + 1)).num, .int .i64 (getC b (↑k + 1)).item, .int .i64 (getC b (↑k + 1)).by_, .int .i64 (getC b (↑k + 1)).day, .int .i64 (getC b (↑k + 1)).valid, .int .i64 (getC b (↑k + 1)).diff.lo, .int .i64 (getC b (↑k + 1)).diff.hi] 58)) := (Below.refl _ _).alloc (Nat.le_refl _) _
            have HS8 := Lib.hid (HS7.out.on hb8)
            have HC8 := Lib.hid (HC7.out.on hb8)
            clear HS7 HC7 c0 c1 lw hb8
            generalize World.alloc W7 _ = W8 at *
            refine Calls.mono (f := 42) (c42 Ai Ac ci cc b ((k : Int) + 1) W8 (HA.out.below HC8.out.bel).2 (by omega)) ?_
            rintro e W9 ⟨A9, c9, rfl, hc9, x9, e9⟩
            have hb9 : Below W8.heap.size W8 W9 := by rw [e9]; exact over_below _ _
            have HS9 := Lib.hid (HS8.out.on hb9)
            have HC9 := Lib.hid (HC8.out.on hb9)
            have HB9 := Lib.hid (show bookAt (· < W9.heap.size) W9 Ai A9 (dropC b ((k : Int) + 1)) from ⟨(HA.out.below HC9.out.bel).1, hc9⟩)
            clear HS8 HC8 hb9 hc9 e9 x9
            go_wp2_with fail
            refine Calls.mono (f := 29) (c29 Ai A9 ci c9 (dropC b ((k : Int) + 1)) W9 HB9.out (dropC_vb HV.out _)) ?_
            rintro e W10 ⟨rfl, x10, rfl⟩
            have HS10 := Lib.hid (HS9.out.on (over_below W9 x10))
            clear HS9 HB9
            generalize over W9 x10 = W10 at *
            cases hcd : contra (dropC b ((k : Int) + 1))
            · have HP := Lib.hid (upTo_yes (P := susP b) (k := k) (by unfold susP; rw [HI.out, hcd]; rfl))
              have hul := upTo_len (susP b) k
              clear hcd
              obtain ⟨i0, hi0, hz0, hz1, hz2⟩ := info3o
              have HI0 := Lib.hid (And.intro hi0 (And.intro hz0 (And.intro hz1 hz2)))
              clear hi0 hz0 hz1 hz2
              have hsz := HS10.out.bel.size
              go_wp2_with (at_builtin; refine wpList_append_own _ rfl _ _ 26 rfl W5.heap.size 3 i0 (.int .i64 0) 1 8 und26 HI0.out.1 HI0.out.2.1 HI0.out.2.2.1 HI0.out.2.2.2 rfl (by decide) (.slice A (upTo (susP b) k).length c) (upTo (susP b) k).length _ rfl (HS10.out.own.alloc _) ⟨W10.heap.size, 0, none⟩ 1 1 [.int .i64 ((k : Int) + 1)] rfl rfl (cell_one_new _ _ _) ?one ?h63 ?hb ?base ?_)
              case one => intro u hu; simp at hu; rw [hu]; rfl
              case h63 => simp only [maxLen]; omega
              case hb => omega
              case base => simp; omega
              intro v' w1 hown hgr _
              obtain ⟨A', c', e⟩ : ∃ A' c', v' = .slice A' ((upTo (susP b) k).length + 1) c' := by
                rcases hown.2 with ⟨h1, h2⟩ | ⟨g, cap, cur, h1, _⟩
                · omega
                · exact ⟨_, _, h1⟩
              subst e
              have HMR := Lib.hid (HS10.out.more hgr hown)
              clear hown hgr
              go_wp2_with fail
              go_roundw
              case rel => exact ⟨k + 1, A', c', by omega, by go_num, by rw [HP.out]; simp, by rw [HP.out]; exact HMR.out⟩
              case measure => simp [intOf]; omega
            · have HP := Lib.hid (upTo_no (P := susP b) (k := k) (by unfold susP; rw [HI.out, hcd]; rfl))
              clear hcd
              go_wp2_with fail
              go_roundw
              case rel => exact ⟨k + 1, A, c, by omega, by go_num, by rw [HP.out], by rw [HP.out]; exact HS10.out⟩
              case measure => simp [intOf]; omega
        · have hke : k = 999 := by omega
          subst hke
          rw [susP_all HV.out] at HS ⊢
          have hle : ¬ ((999 : Nat) : Int) + 1 ≤ 999 := by omega
          have hc26 := c26 (ca := d3) (cb := c) HN6.out ((nums_of_own HS.out.own).mono (T := (· < wr.heap.size)) fun j hj => hj.2) (by omega) (by omega)
          rw [decide_eq_true (rfl : suspects b = suspects b)] at hc26
          have HC26 := Lib.hid hc26
          clear hc26
          go_wp2_with fail
          refine HC26.out.mono ?_
          rintro e W7 ⟨rfl, nd, rfl⟩
          have HC7 := Lib.hid (HC6.out.on (below_drewN' (Below.refl _ _) nd))
          clear HC6 HN6 HC26 c0 c1 lw
          generalize wr.drewN nd = W7 at *
          go_wp2_with fail
          refine (c18 _).mono ?_
          rintro e w2 ⟨rfl, y, rfl⟩
          go_wp2_with fail
          go_ret
          exact ⟨rfl, below_over (HC7.out.onx.bel)⟩
  · rw [Bool.not_eq_true] at hth
    rw [hth]
    go_wp2_with fail
    refine (c18 _).mono ?_
    rintro e w2 ⟨rfl, y, rfl⟩
    go_wp2_with fail
    go_ret
    exact ⟨rfl, below_over (HC1.out.onx.bel)⟩
end Go.Proofs.Ytmcnpfjichbijaa

