/- Suspects, walked. -/
import Derived.Test.YtmcnpfjichbijaaC23
import Derived.Test.YtmcnpfjichbijaaC20
import Derived.Test.YtmcnpfjichbijaaK1
set_option linter.unusedSimpArgs false
set_option linter.unusedVariables false
namespace Go.Proofs.Ytmcnpfjichbijaa
open Go Go.Proofs Go.RowKit Go.Shelf


theorem spansOf_in' {b : Bk} (v : Vb b) (h : (numsOf b).length ≤ 24) : ∀ n, In (spansOf b n) 2199023255552 := spansOf_in v h

set_option maxRecDepth 100000 in
set_option maxHeartbeats 1000000 in
theorem c72 (B : Nat) (n : Int) (c : Crt) (w : World) (hB : w.cell? ⟨B, 0, none⟩ = some (.int .i64 n)) :
    Calls Try.prog 72 #[crtV c, .pointer (some ⟨B, 0, none⟩)] w fun e w' => e = .returned (.bool (c.num == n)) ∧ ∃ x, w' = over w x := by
  have l := lt_of_cell hB
  unfold crtV
  cases hc : (c.num == n)
  all_goals
    go_enter Try.func72, Try.ntmps72
    go_wp2_with fail
    go_ret
    exact ⟨rfl, below_over (by repeat' (first | exact Below.refl _ _ | (refine below_ov ?_ ?_) | (refine Below.alloc ?_ ?_ _) | (refine below_drewN' ?_ _) | (refine Below.drew ?_) | (refine below_set ?_ _ _ ?_) | (simp; done) | (simp; omega) | omega))⟩

/-- The suspects among the first i. -/
def susU (b : Bk) (i : Nat) : List Int := ((numsOf b).take i).filter fun n => !contra (dropC b n)
theorem susU_succ (b : Bk) {i : Nat} {n : Int} (hn : (numsOf b)[i]? = some n) : susU b (i + 1) = if contra (dropC b n) then susU b i else susU b i ++ [n] := by
  unfold susU
  rw [List.take_add_one, hn, List.filter_append]
  cases h : contra (dropC b n) <;> simp [h]

/-- The loop's world. -/
structure SuS (w : World) (u1 u2 : Value) (b : Bk) (k : Wk) (B : Nat) (A : Option Addr) (c : Nat) (L : List Int) (W : World) : Prop where
  cl : Cl w u1 u2 W
  hB : w.heap.size < B
  hW : k.W < B
  at_ : k.At (· < B) W
  own : W.ownsRow B 3 1 (.slice A L.length c) L.length (L.map (Value.int .i64))

theorem SuS.lt {w : World} {u1 u2 : Value} {b : Bk} {k : Wk} {B : Nat} {A : Option Addr} {c : Nat} {L : List Int} {W : World} (h : SuS w u1 u2 b k B A c L W) (hs : B ≤ W.heap.size) : w.heap.size < W.heap.size := by have := h.hB; omega
theorem SuS.on {w : World} {u1 u2 : Value} {b : Bk} {k : Wk} {B : Nat} {A : Option Addr} {c : Nat} {L : List Int} {W W' : World} (h : SuS w u1 u2 b k B A c L W) (hs : B ≤ W.heap.size) (hb : Below W.heap.size W W') : SuS w u1 u2 b k B A c L W' :=
  ⟨h.cl.on hb, h.hB, h.hW, h.at_.keep (Keep.of_below hb fun j hj _ => by omega), own_below h.own hb⟩
theorem SuS.more {w : World} {u1 u2 : Value} {b : Bk} {k : Wk} {B : Nat} {A A' : Option Addr} {c c' : Nat} {L : List Int} {n : Int} {W W1 : World} (h : SuS w u1 u2 b k B A c L W) (hs : B ≤ W.heap.size) (hg : W.grownBy W1 (Value.slice A L.length c).ownBlock)
    (hown : W1.ownsRow B 3 1 (.slice A' (L ++ [n]).length c') (L ++ [n]).length ((L ++ [n]).map (Value.int .i64))) : SuS w u1 u2 b k B A' c' (L ++ [n]) W1 := by
  have hB := h.hB
  have kp : Keep (fun j => j < B) W W1 := Keep.grown hg fun r hr hl => by have := (h.own.lt r hr).1; omega
  exact ⟨⟨h.cl.bel.grown hg h.cl.bel.size (fun g hk => by have := (h.own.lt g hk).1; omega), kp.cell h.cl.a0 (by omega), kp.cell h.cl.a1 (by omega)⟩, hB, h.hW, h.at_.keep kp, hown⟩

set_option maxRecDepth 100000 in
set_option maxHeartbeats 1000000 in
theorem c41 (Ai Ac : Option Addr) (ci cc : Nat) (b : Bk) (w : World) (hA : bookAt (· < w.heap.size) w Ai Ac b) (hl : b.items.length ≤ 1000) (hl2 : b.certs.length ≤ 1000) :
    Calls Try.prog 41 #[.agg #[.slice Ai b.items.length ci, .slice Ac b.certs.length cc]] w (ListTo (susErr b) (suspects b) w) := by
  have HA := Lib.hid hA
  clear hA
  go_enter Try.func41, Try.ntmps41
  go_wp2_with fail
  have hCl : Cl w (.slice Ai b.items.length ci) (.slice Ac b.certs.length cc) (w.alloc (.cells #[.slice Ai b.items.length ci, .slice Ac b.certs.length cc] 35)) := ⟨by repeat' (first | exact Below.refl _ _ | (refine below_ov ?_ ?_) | (refine Below.alloc ?_ ?_ _) | (refine below_drewN' ?_ _) | (refine Below.drew ?_) | (refine below_set ?_ _ _ ?_) | (simp; done) | (simp; omega) | omega), by simp [go_sem], by simp [go_sem]⟩
  have HC0 := Lib.hid hCl
  have hbk := HA.out.alloc (.cells #[.slice Ai b.items.length ci, .slice Ac b.certs.length cc] 35)
  generalize World.alloc w _ = W0 at *
  refine Calls.mono (f := 69) (c69 Ai Ac ci cc b W0 hbk hl hl2) ?_
  rintro e W1 (⟨h0, rfl, x, rfl⟩ | ⟨h0, k, rfl, hm⟩)
  · have hne : ((fault b : Int) != 0) = true := by simp [h0]
    have H0 := Lib.hid h0
    clear h0 hbk
    go_wp2_with fail
    go_ret2
    exact .inl ⟨by unfold susErr; rw [if_pos H0.out]; exact H0.out, by unfold susErr; rw [if_pos H0.out]; rfl, below_over (HC0.out.onx.bel)⟩
  · have hv := (fault_iff b).1 h0
    have HV := Lib.hid hv
    have H0 := Lib.hid h0
    have HM := Lib.hid hm
    have HC1 := Lib.hid (HC0.out.on hm.bel)
    have hil := hv.il
    have hcl := hv.cl
    clear h0 hm hCl hbk hv
    go_wp2_with fail
    refine Calls.mono (f := 59) (c59 b k W0 W1 HV.out HM.out) ?_
    rintro e W2 ⟨G, H2, P, rfl, hS, hb2⟩
    have HS := Lib.hid hS
    have HC2 := Lib.hid (HC1.out.on hb2)
    have HB2 := Lib.hid hb2
    clear hS hb2
    go_wp2_with fail
    refine (c60 b k G H2 P W2 HS.out).mono ?_
    rintro e W3 ⟨rfl, x, rfl⟩
    have HC3 := Lib.hid (HC2.out.onx (x := x))
    have hat := (HM.out.at_.keep ((Keep.of_below HB2.out fun _ h _ => h).trans ((Keep.over _ W2 x).mono (S := fun _ => True) fun _ _ => trivial))).mono (T := (· < (over W2 x).heap.size)) fun j hj => by
      have := HB2.out.size; have : j < W1.heap.size := hj; show j < (over W2 x).heap.size; rw [over_size]; omega
    have HAT := Lib.hid hat
    have hnl : k.nums.length ≤ 24 := HM.out.ok.nl
    have hkn := HM.out.kn
    cases hcn : contra b
    · have HCN := Lib.hid hcn
      clear hat hnl hkn hcn
      generalize over W2 x = W3 at *
      go_wp2_with fail
      go_ret2
      have he : susErr b = 7 := by unfold susErr; rw [if_neg (by rw [H0.out]; simp), if_neg (by rw [HCN.out]; simp)]
      exact .inl ⟨by rw [he]; decide, by rw [he]; rfl, below_over HC3.out.bel⟩
    · have HCN := Lib.hid hcn
      clear hcn
      have c3 := hat.c3
      have lk := lt_of_cell c3
      have lw := lt_of_cell HC3.out.a0
      have HKN := Lib.hid hkn
      clear hat hkn HB2 HS HC1 HC2
      have hst : SuS w (.slice Ai b.items.length ci) (.slice Ac b.certs.length cc) b k (over W2 x).heap.size none 0 [] (over W2 x) :=
        ⟨HC3.out, lw, lk, HAT.out, World.ownsRow_nil _ _ _ _⟩
      have HST := Lib.hid hst
      clear hst HC3 HAT
      generalize over W2 x = W3 at *
      obtain ⟨B, hBe⟩ : ∃ B, B = W3.heap.size := ⟨_, rfl⟩
      rw [← hBe] at HST lw lk
      have hB : B ≤ W3.heap.size := by omega
      clear hBe
      go_wp2_with fail
      go_loopw [6, 31] (fun s t wr => ∃ (i : Nat) (A : Option Addr) (c : Nat), i ≤ k.nums.length ∧ t = .int .i64 i ∧ s = .slice A (susU b i).length c ∧ B ≤ wr.heap.size ∧ SuS w (.slice Ai b.items.length ci) (.slice Ac b.certs.length cc) b k B A c (susU b i) wr) (fun _ t _ => k.nums.length - (intOf t).toNat)
      case atStart => exact ⟨0, none, 0, Nat.zero_le _, rfl, rfl, hB, HST.out⟩
      case round =>
        obtain ⟨i, A, c, hi, rfl, rfl, hBs, hS⟩ := hrel
        have HS := Lib.hid hS
        have a0 := hS.cl.a0
        have a1 := hS.cl.a1
        have lw := hS.lt hBs
        by_cases hlt : i < k.nums.length
        · obtain ⟨n, hn⟩ : ∃ n, k.nums[i]? = some n := ⟨k.nums[i], by simp [hlt]⟩
          obtain ⟨An, Ao, eA, hSA, hns⟩ := hS.at_.ns (by omega)
          have g0 := hns i n hn
          have hix := fun c => @idx26 k.An An Ao k.nums.length c eA i hlt
          rw [HKN.out] at hn
          have HSU := Lib.hid (susU_succ b hn)
          have hnm := List.mem_of_getElem? hn
          have HNM := Lib.hid hnm
          have lg := lt_of_cell g0
          have hmf : ∀ (fn : Fn) (first cap : Array Value) (w : World), (Instr.makeFunc fn first cap).run Try.prog w = .ok (.func fn first cap) w := fun _ _ _ _ => rfl
          have hcp : 0 < b.certs.length := by
            obtain ⟨c, hc, _⟩ := (mem_numsOf b n).1 hnm
            exact List.length_pos_of_mem hc
          clear hn hns eA hS hnm
          go_wp2_with fail
          have hb4 : Below wr.heap.size wr ((wr.alloc (.cells #[.int .i64 n] 3)).alloc (.cells #[.slice Ai b.items.length ci, .slice Ac b.certs.length cc] 35)) := by repeat' (first | exact Below.refl _ _ | (refine below_ov ?_ ?_) | (refine Below.alloc ?_ ?_ _) | (refine below_drewN' ?_ _) | (refine Below.drew ?_) | (refine below_set ?_ _ _ ?_) | (simp; done) | (simp; omega) | omega)
          have n0 : ((wr.alloc (.cells #[.int .i64 n] 3)).alloc (.cells #[.slice Ai b.items.length ci, .slice Ac b.certs.length cc] 35)).cell? ⟨wr.heap.size, 0, none⟩ = some (.int .i64 n) := by simp [go_sem]
          have x0 : ((wr.alloc (.cells #[.int .i64 n] 3)).alloc (.cells #[.slice Ai b.items.length ci, .slice Ac b.certs.length cc] 35)).cell? ⟨wr.heap.size + 1, 0, none⟩ = some (.slice Ai b.items.length ci) := by simp [go_sem]
          have x1 : ((wr.alloc (.cells #[.int .i64 n] 3)).alloc (.cells #[.slice Ai b.items.length ci, .slice Ac b.certs.length cc] 35)).cell? ⟨wr.heap.size + 1, 1, none⟩ = some (.slice Ac b.certs.length cc) := by simp [go_sem]
          have xf : ((wr.alloc (.cells #[.int .i64 n] 3)).alloc (.cells #[.slice Ai b.items.length ci, .slice Ac b.certs.length cc] 35)).frozen? ⟨wr.heap.size + 1, 1, none⟩ = false := by simp [go_sem]
          have hs4 : ((wr.alloc (.cells #[.int .i64 n] 3)).alloc (.cells #[.slice Ai b.items.length ci, .slice Ac b.certs.length cc] 35)).heap.size = wr.heap.size + 2 := by simp
          clear a0 a1 lw g0 hix lg hSA
          generalize (wr.alloc (.cells #[.int .i64 n] 3)).alloc (.cells #[.slice Ai b.items.length ci, .slice Ac b.certs.length cc] 35) = W4 at *
          have hbk := (HA.out.below (HS.out.cl.bel.trans (hb4.mono HS.out.cl.bel.size))).2
          refine (c71 hbk hcp (by omega)).mono ?_
          rintro e W5 ⟨g, c5, rfl, own5, hb5⟩
          have hg := own5.lt g rfl
          have hgc : ∀ o, W5.frozen? ⟨g, o, none⟩ = false := fun o => own5.frozenAt o
          replace n0 := cell_on hb5 n0
          replace x0 := cell_on hb5 x0
          replace x1 := cell_on hb5 x1
          have xf5 : W5.frozen? ⟨wr.heap.size + 1, 1, none⟩ = false := by rw [World.frozen?_of_block (w := W4) (hb5.block _ (by show wr.heap.size + 1 < _; omega))]; exact xf
          have hb45 : Below wr.heap.size wr W5 := hb4.trans (hb5.mono (by omega))
          have N0 := Lib.hid n0
          have hc70 := c70 72 (enters_of Try.func72 (by kernel_rfl) rfl) #[.pointer (some ⟨wr.heap.size, 0, none⟩)] (fun q => q.num == n) g c5 W4.heap.size b.certs W5 own5 (by omega)
            (fun W q hq kp => c72 wr.heap.size n q W (kp.cell N0.out (by omega)))
          have HC70 := Lib.hid hc70
          have HB45 := Lib.hid hb45
          clear hc70 own5 hgc hbk hb4 hb5 hb45 xf n0
          go_wp2_with fail
          refine HC70.out.mono ?_
          rintro e W6 ⟨rfl, hk6, hce⟩
          have hne : wr.heap.size + 1 ≠ g := by omega
          have hne0 : wr.heap.size ≠ g := by omega
          replace n0 := hk6.cell N0.out hne0
          replace x0 := hk6.cell x0 hne
          replace x1 := hk6.cell x1 hne
          have hs6 := hk6.size
          have xf : W6.frozen? ⟨wr.heap.size + 1, 1, none⟩ = false := by rw [World.frozen?_of_block (w := W5) (hk6.block (wr.heap.size + 1) hne (by omega))]; exact xf5
          have lx := lt_of_cell x1
          have hb6 : Below wr.heap.size wr W6 := HB45.out.trans (hk6.below fun j hj => ⟨by omega, by omega⟩)
          have HX := Lib.hid (And.intro x0 (And.intro x1 n0))
          have HK6 := Lib.hid (And.intro hb6 hce)
          clear hk6 hce hb6 HC70 HB45 N0 xf5 n0
          go_wp2_with fail
          have hb7 : Below wr.heap.size wr (W6.setCell ⟨wr.heap.size + 1, 1, none⟩ (.slice (some ⟨g, 0, none⟩) (List.filter (fun x => !x.num == n) b.certs).length c5)) := below_set HK6.out.1 _ _ (by show wr.heap.size ≤ wr.heap.size + 1; omega)
          have kst : Keep (fun j => j ≠ wr.heap.size + 1) W6 (W6.setCell ⟨wr.heap.size + 1, 1, none⟩ (.slice (some ⟨g, 0, none⟩) (List.filter (fun x => !x.num == n) b.certs).length c5)) := Keep.setCell _ _ _ (fun h => h rfl)
          have n7 := kst.cell HX.out.2.2 (show wr.heap.size ≠ wr.heap.size + 1 by omega)
          have hbk : bookAt (· < (W6.setCell ⟨wr.heap.size + 1, 1, none⟩ (.slice (some ⟨g, 0, none⟩) (List.filter (fun x => !x.num == n) b.certs).length c5)).heap.size) (W6.setCell ⟨wr.heap.size + 1, 1, none⟩ (.slice (some ⟨g, 0, none⟩) (List.filter (fun x => !x.num == n) b.certs).length c5)) Ai (some ⟨g, 0, none⟩) (dropC b n) := by
            refine ⟨(HA.out.below (HS.out.cl.bel.trans (hb7.mono HS.out.cl.bel.size))).1, ?_⟩
            have hce : certsAt (fun j => j = g) W6 (some ⟨g, 0, none⟩) (dropC b n).certs := HK6.out.2
            refine (hce.keep (kst.mono fun j hj => by rw [hj]; omega)).mono fun j hj => ?_
            rw [hj]; simp; omega
          have HB7 := Lib.hid hb7
          have HBK := Lib.hid hbk
          clear hb7 kst hbk x0 x1 xf lx HX HK6
          generalize W6.setCell ⟨wr.heap.size + 1, 1, none⟩ _ = W7 at *
          have hvd := dropC_vb HV.out n
          have HVD := Lib.hid hvd
          have hfl : (dropC b n).certs.length ≤ 1000 := by have := hvd.cl; omega
          have hfi : (dropC b n).items.length ≤ 1000 := by have := hvd.il; omega
          clear hvd
          refine Calls.mono (f := 69) (c69 Ai (some ⟨g, 0, none⟩) ci c5 (dropC b n) W7 HBK.out hfi hfl) ?_
          rintro e W8 (⟨h9, _⟩ | ⟨h9, k2, rfl, hm8⟩)
          · exact absurd ((fault_iff _).2 HVD.out) h9
          have HM8 := Lib.hid hm8
          have HB8 := Lib.hid (HB7.out.trans (hm8.bel.mono HB7.out.size))
          replace n7 := cell_on hm8.bel n7
          clear h9 hm8 HBK HB7
          go_wp2_with fail
          refine Calls.mono (f := 59) (c59 (dropC b n) k2 W7 W8 HVD.out HM8.out) ?_
          rintro e W9 ⟨G9, H9, P9, rfl, hS9, hb9⟩
          have HS9 := Lib.hid hS9
          have HB9 := Lib.hid (HB8.out.trans (hb9.mono HB8.out.size))
          replace n7 := cell_on hb9 n7
          clear hS9 hb9 HM8 HB8
          go_wp2_with fail
          refine (c60 (dropC b n) k2 G9 H9 P9 W9 HS9.out).mono ?_
          rintro e W10 ⟨rfl, y, rfl⟩
          have hb10 := HB9.out.trans ((over_below W9 y).mono HB9.out.size)
          have HB10 := Lib.hid hb10
          have hs10 := hb10.size
          have HS10 := Lib.hid (HS.out.on hBs hb10)
          replace n7 := cell_ov (x := y) n7
          clear hb10 HS9 HB9
          generalize over W9 y = W10 at *
          have ln := lt_of_cell n7
          have hBs10 : B ≤ W10.heap.size := by omega
          cases hcd : contra (dropC b n)
          · have HM : Hid (susU b (i + 1) = susU b i ++ [n]) := Lib.hid (by rw [HSU.out, hcd]; rfl)
            clear hcd
            have hol : (susU b i).length ≤ 24 := Nat.le_trans (List.length_filter_le _ _) (by rw [List.length_take, ← HKN.out]; omega)
            obtain ⟨i0, hi0, hz0, hz1, hz2⟩ := info3o
            have HI0 := Lib.hid (And.intro hi0 (And.intro hz0 (And.intro hz1 hz2)))
            clear hi0 hz0 hz1 hz2
            go_wp2_with (at_builtin; refine wpList_append_own _ rfl _ _ 26 rfl B 3 i0 (.int .i64 0) 1 8 und26 HI0.out.1 HI0.out.2.1 HI0.out.2.2.1 HI0.out.2.2.2 rfl (by decide) (.slice A (susU b i).length c) (susU b i).length _ rfl (HS10.out.own.alloc _) ⟨W10.heap.size, 0, none⟩ 1 1 [.int .i64 n] rfl rfl (cell_one_new _ _ _) ?one ?h63 ?hb ?base ?_)
            case one => intro u hu; simp at hu; rw [hu]; rfl
            case h63 => simp only [maxLen]; omega
            case hb => omega
            case base => simp; omega
            intro v' w1 hown hgr _
            obtain ⟨A', c', e⟩ : ∃ A' c', v' = .slice A' ((susU b i).length + 1) c' := by
              rcases hown.2 with ⟨h1, h2⟩ | ⟨g, cap, cur, h1, _⟩
              · omega
              · exact ⟨_, _, h1⟩
            subst e
            have hal : Below W10.heap.size W10 (W10.alloc (.cells #[.int .i64 n] 3)) := (Below.refl _ _).alloc (Nat.le_refl _) _
            have HMR := Lib.hid ((HS10.out.on hBs10 hal).more (n := n) (A' := A') (c' := c') (by simp; omega) hgr (by simpa using hown))
            have hgs := hgr.size
            simp at hgs
            have hBs11 : B ≤ w1.heap.size := by omega
            clear hown hgr hal hgs
            go_wp2_with fail
            go_roundw
            case rel => exact ⟨i + 1, A', c', by omega, by go_num, by rw [HM.out]; simp, hBs11, by rw [HM.out]; exact HMR.out⟩
            case measure => simp [intOf]; omega
          · have HM : Hid (susU b (i + 1) = susU b i) := Lib.hid (by rw [HSU.out, hcd]; rfl)
            clear hcd
            go_wp2_with fail
            go_roundw
            case rel => exact ⟨i + 1, A, c, by omega, by go_num, by rw [HM.out], hBs10, by rw [HM.out]; exact HS10.out⟩
            case measure => simp [intOf]; omega
        · have hie : i = k.nums.length := by omega
          subst hie
          have he : susErr b = 0 := by unfold susErr; rw [if_neg (by rw [H0.out]; simp), if_pos HCN.out]
          have hs : susU b k.nums.length = suspects b := by unfold susU suspects; rw [HKN.out, List.take_length]
          have HE := Lib.hid (And.intro he hs)
          clear he hs hS
          go_wp2_with fail
          go_ret2
          rw [HE.out.1, ← HE.out.2]
          exact .inr ⟨rfl, A, c, rfl, (nums_of_own HS.out.own).mono fun j hj => ⟨by have := HS.out.hB; omega, hj.2⟩, below_over HS.out.cl.bel⟩
end Go.Proofs.Ytmcnpfjichbijaa

