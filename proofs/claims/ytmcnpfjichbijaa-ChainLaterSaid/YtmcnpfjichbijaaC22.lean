/- Contradictory books; the span of an item: walked. -/
import Derived.Test.YtmcnpfjichbijaaC21
set_option linter.unusedSimpArgs false
set_option linter.unusedVariables false
namespace Go.Proofs.Ytmcnpfjichbijaa
open Go Go.Proofs Go.RowKit Go.Shelf


/-- A certificate that holds has an empty span. -/
def badC (b : Bk) (n : Int) : Bool := held0 b n && decide ((spanBy b (held0 b) (spansOf b) (getC b n).item (getC b n).day 1000).hi < (spanBy b (held0 b) (spansOf b) (getC b n).item (getC b n).day 1000).lo)

theorem contra_any (b : Bk) : contra b = (numsOf b).any (badC b) := rfl

theorem spansOf_in {b : Bk} (v : Vb b) (hl : (numsOf b).length ≤ 24) (n : Int) : In (spansOf b n) 2199023255552 := by
  have := spU_in v (held0 b) (numsOf b).length (Nat.le_refl _) n
  rw [spU_all b _ (Nat.le_refl _)] at this
  unfold In at *
  omega

set_option maxRecDepth 100000 in
set_option maxHeartbeats 1000000 in
theorem c60 (b : Bk) (k : Wk) (G H P : Nat) (w : World) (A : SpAt b (held0 b) (spansOf b) k G H P (· < w.heap.size) w) :
    Calls Try.prog 60 #[.pointer (some ⟨G, 0, none⟩)] w fun e w' => e = .returned (.bool (contra b)) ∧ ∃ x, w' = over w x := by
  have HA := Lib.hid A
  have g0 := A.g0
  have c3 := A.at_.c3
  have lG := lt_of_cell g0
  have lW := lt_of_cell c3
  have hnl := A.ok.nl
  have hsp := spansOf_in A.v (by rw [← A.kn]; exact hnl)
  have HSP := Lib.hid hsp
  have hany : contra b = k.nums.any (badC b) := by rw [contra_any, A.kn]
  have HANY := Lib.hid hany
  clear A hsp hany
  go_enter Try.func60, Try.ntmps60
  go_wp2_with fail
  go_loopw [15] (fun t wr => ∃ i : Nat, i ≤ k.nums.length ∧ t = .int .i64 i ∧ (k.nums.take i).any (badC b) = false ∧ Below w.heap.size w wr) (fun t _ => k.nums.length - (intOf t).toNat)
  case atStart => exact ⟨0, Nat.zero_le _, rfl, by simp, Below.refl _ _⟩
  case round =>
    obtain ⟨i, hi, rfl, ht, hb⟩ := hrel
    have HT := Lib.hid ht
    have HB := Lib.hid hb
    have hA := HA.out.on hb
    have HA1 := Lib.hid hA
    have hsz := hb.size
    clear ht hb g0 c3
    by_cases hlt : i < k.nums.length
    · obtain ⟨q, hq⟩ : ∃ q, q = k.nums[i] := ⟨_, rfl⟩
      have hmem : q ∈ k.nums := by rw [hq]; exact List.getElem_mem hlt
      have htk := List.take_succ_eq_append_getElem hlt
      rw [← hq] at htk
      obtain ⟨Ab, Ao, eA, hSA, hns⟩ := hA.at_.ns (by omega)
      have hcell := hns i q (by simp [hlt, hq])
      have hix := fun c => @idx26 k.An Ab Ao k.nums.length c eA i hlt
      have hlk := run_lookup_map underlying96 underlying3 hA.at_.mp (zero90 wr) q false
      simp only [hmem, if_true, Option.getD_some, Bool.false_eq_true, if_false, crtV] at hlk
      have hmb : q ∈ numsOf b := by rw [← hA.kn]; exact hmem
      have hcq : k.cf q = getC b q := by rw [hA.kc]
      have hok := hA.v.ok hmb
      rw [← hcq] at hok
      have g0 := hA.g0
      have c2 := hA.at_.c2
      have l1 := lt_of_cell g0
      have l2 := lt_of_cell c2
      have l3 := lt_of_cell hcell
      have HT2 := Lib.hid htk
      have HM := Lib.hid hmem
      have HCQ := Lib.hid hcq
      have HOK := Lib.hid hok
      have hx := hA.ok.num q hmem
      have HX := Lib.hid hx
      clear hns eA hq htk hmem hcq hok hmb hA hx
      go_wp2_with fail
      generalize hW1 : World.alloc wr _ = W1
      have b1 : Below wr.heap.size wr W1 := by rw [← hW1]; repeat' (first | exact Below.refl _ _ | (refine below_ov ?_ ?_) | (refine Below.alloc ?_ ?_ _) | (refine below_drewN' ?_ _) | (refine Below.drew ?_) | (refine below_set ?_ _ _ ?_) | (simp; done) | (simp; omega) | omega)
      have s1 : W1.heap.size = wr.heap.size + 1 := by rw [← hW1]; simp
      have q0 : W1.cell? ⟨wr.heap.size, 0, none⟩ = some (.int .i64 (k.cf q).num) := by rw [← hW1]; simp [go_sem]
      have q1 : W1.cell? ⟨wr.heap.size, 1, none⟩ = some (.int .i64 (k.cf q).item) := by rw [← hW1]; simp [go_sem]
      have q2 : W1.cell? ⟨wr.heap.size, 2, none⟩ = some (.int .i64 (k.cf q).by_) := by rw [← hW1]; simp [go_sem]
      have q3 : W1.cell? ⟨wr.heap.size, 3, none⟩ = some (.int .i64 (k.cf q).day) := by rw [← hW1]; simp [go_sem]
      have q4 : W1.cell? ⟨wr.heap.size, 4, none⟩ = some (.int .i64 (k.cf q).valid) := by rw [← hW1]; simp [go_sem]
      have q5 : W1.cell? ⟨wr.heap.size, 5, none⟩ = some (.int .i64 (k.cf q).diff.lo) := by rw [← hW1]; simp [go_sem]
      have q6 : W1.cell? ⟨wr.heap.size, 6, none⟩ = some (.int .i64 (k.cf q).diff.hi) := by rw [← hW1]; simp [go_sem]
      clear hW1 g0 c2 hcell hlk hix
      have HA2 := Lib.hid (HA1.out.on b1)
      have HB1 := Lib.hid b1
      have lq : wr.heap.size < W1.heap.size := by omega
      clear s1
      have hc61 := c61 b (held0 b) (spansOf b) k G H P (k.cf q).item (k.cf q).day 1000 W1 HA2.out HOK.out.i1 HOK.out.i2 HOK.out.d1 HOK.out.d2 HSP.out
      have hbad : badC b q = (held0 b q && decide ((spanBy b (held0 b) (spansOf b) (k.cf q).item (k.cf q).day 1000).hi < (spanBy b (held0 b) (spansOf b) (k.cf q).item (k.cf q).day 1000).lo)) := by unfold badC; rw [HCQ.out]
      generalize spanBy b (held0 b) (spansOf b) (k.cf q).item (k.cf q).day 1000 = r at hc61 hbad
      simp only [rngV] at hc61
      have HC61 := Lib.hid hc61
      have HBAD := Lib.hid hbad
      clear hc61 hbad b1
      refine HC61.out.mono ?_
      rintro e w2 ⟨rfl, x, rfl⟩
      have lq2 : wr.heap.size < W1.heap.size + x.heap.size := by omega
      go_wp2_with fail
      generalize hW2 : World.alloc (over W1 x) _ = W2
      have kU : Keep (· < W1.heap.size) W1 W2 := by rw [← hW2]; exact (Keep.over _ _ _).trans (Keep.alloc _ _ _)
      have r0 : W2.cell? ⟨W1.heap.size + x.heap.size, 0, none⟩ = some (.int .i64 r.lo) := by rw [← hW2]; simp [go_sem]
      have r1 : W2.cell? ⟨W1.heap.size + x.heap.size, 1, none⟩ = some (.int .i64 r.hi) := by rw [← hW2]; simp [go_sem]
      clear hW2
      have b2 : Below W1.heap.size W1 W2 := kU.below fun j hj => ⟨hj, hj⟩
      have HA3 := Lib.hid (HA2.out.on b2)
      have HB2 := Lib.hid b2
      have lr := lt_of_cell r0
      have c85' := c85 G H k.nums (held0 b) (k.cf q) W2 HA3.out.g1 HA3.out.hm
      rw [show (decide ((k.cf q).num ∈ k.nums) && held0 b (k.cf q).num) = held0 b q from by rw [HX.out, decide_eq_true HM.out, Bool.true_and]] at c85'
      simp only [crtV] at c85'
      generalize held0 b q = hq at c85' HBAD
      have HC85 := Lib.hid c85'
      have hnx : badC b q = false → (k.nums.take (i + 1)).any (badC b) = false := fun h => by rw [HT2.out, List.any_append, HT.out]; simp [h]
      have hex : badC b q = true → contra b = true := fun h => by rw [HANY.out]; exact List.any_eq_true.2 ⟨q, HM.out, h⟩
      rw [HBAD.out] at hnx hex
      have HNX := Lib.hid hnx
      have HEX := Lib.hid hex
      have d0 := kU.cell q0 lq
      have d1 := kU.cell q1 lq
      have d2 := kU.cell q2 lq
      have d3 := kU.cell q3 lq
      have d4 := kU.cell q4 lq
      have d5 := kU.cell q5 lq
      have d6 := kU.cell q6 lq
      have ld := lt_of_cell d0
      have hbw : Below w.heap.size w W2 := (HB.out.trans (HB1.out.mono hsz)).trans (b2.mono (by omega))
      have HBW := Lib.hid hbw
      have hsw := hbw.size
      clear c85' hnx hex q0 q1 q2 q3 q4 q5 q6 kU b2 hbw
      cases hq
      · go_wp2_with (go_at_call 85; refine HC85.out.mono ?_; rintro e w' ⟨rfl, y, rfl⟩)
        go_roundw
        case rel => exact ⟨i + 1, by omega, by go_num, HNX.out rfl, below_ov HBW.out hsw⟩
        case measure => simp [intOf]; omega
      · cases hd : decide (r.hi < r.lo)
        · rw [hd] at HNX
          go_wp2_with (go_at_call 85; refine HC85.out.mono ?_; rintro e w' ⟨rfl, y, rfl⟩)
          go_roundw
          case rel => exact ⟨i + 1, by omega, by go_num, HNX.out rfl, below_ov HBW.out hsw⟩
          case measure => simp [intOf]; omega
        · rw [hd] at HEX
          go_wp2_with (go_at_call 85; refine HC85.out.mono ?_; rintro e w' ⟨rfl, y, rfl⟩)
          go_ret
          exact ⟨by rw [HEX.out rfl]; rfl, below_over (below_ov HBW.out hsw)⟩
    · go_wp2_with fail
      go_ret
      have := HT.out
      rw [List.take_of_length_le (by omega)] at this
      exact ⟨by rw [HANY.out, this]; rfl, below_over HB.out⟩

theorem ret45_2 {fn : Func} {p q : Tmp} {g : Nat} {lo hi : Int} {u : Value} {w : World} (h : fn.results = #[.cell p 45, .tmp q]) (tmps : Array Value) (hp : tmps.getD p undef = .pointer (some ⟨g, 0, none⟩)) (hq : tmps.getD q undef = u)
    (h0 : w.cell? ⟨g, 0, none⟩ = some (.int .i64 lo)) (h1 : w.cell? ⟨g, 1, none⟩ = some (.int .i64 hi)) :
    (results fn tmps).run Try.prog w = .ok (.tuple #[.agg #[.int .i64 lo, .int .i64 hi], u]) w := by
  have hp' : tmps[p]?.getD undef = .pointer (some ⟨g, 0, none⟩) := by simpa using hp
  have hq' : tmps[q]?.getD undef = u := by simpa using hq
  have hl : (loadVar 45 ⟨g, 0, none⟩).run Try.prog w = .ok (.agg #[.int .i64 lo, .int .i64 hi]) w := by
    simp [go_sem, h0, h1]
  simp [results, h, hp', hq', asAddr, hl]

/-- What asking for a span returns. -/
def spanRes (b : Bk) (item at_ : Int) : Rng := if spanErr b item at_ = 0 then spanAt b item at_ else ⟨0, 0⟩

theorem spanErr_ask {b : Bk} {i d : Int} (h : askErr b i d ≠ 0) : spanErr b i d = askErr b i d := by unfold spanErr; rw [if_pos h]
theorem spanErr_contra {b : Bk} {i d : Int} (h : askErr b i d = 0) (hc : contra b = true) : spanErr b i d = 9 := by unfold spanErr; rw [if_neg (by omega), if_pos hc]
theorem spanErr_ok {b : Bk} {i d : Int} (h : askErr b i d = 0) (hc : contra b = false) : spanErr b i d = 0 := by unfold spanErr; rw [if_neg (by omega), if_neg (by rw [hc]; simp)]
theorem spanRes_err {b : Bk} {i d : Int} (h : spanErr b i d ≠ 0) : spanRes b i d = ⟨0, 0⟩ := by unfold spanRes; rw [if_neg h]

set_option maxRecDepth 100000 in
set_option maxHeartbeats 1000000 in
theorem c27 (Ai Ac : Option Addr) (ci cc : Nat) (b : Bk) (item at_ : Int) (w : World) (hA : bookAt (· < w.heap.size) w Ai Ac b) (hl : b.items.length ≤ 1000) (hl2 : b.certs.length ≤ 1000) :
    Calls Try.prog 27 #[.agg #[.slice Ai b.items.length ci, .slice Ac b.certs.length cc], .int .i64 item, .int .i64 at_] w fun e w' =>
      e = .returned (.tuple #[rngV (spanRes b item at_), .int .i64 (spanErr b item at_)]) ∧ ∃ x, w' = over w x := by
  have hc : ∀ o1 o2, Calls Try.prog 58 #[.agg #[.slice Ai b.items.length ci, .slice Ac b.certs.length cc], .int .i64 item, .int .i64 at_] ((w.alloc o1).alloc o2) (AskTo b item at_ ((w.alloc o1).alloc o2)) := fun o1 o2 => by
    have k : Keep (· < w.heap.size) w ((w.alloc o1).alloc o2) := (Keep.alloc _ _ _).trans (Keep.alloc _ _ _)
    have hs : ((w.alloc o1).alloc o2).heap.size = w.heap.size + 1 + 1 := by simp
    exact c58 Ai Ac ci cc b item at_ _ ⟨(hA.1.keep k).mono fun j hj => by omega, (hA.2.keep k).mono fun j hj => by omega⟩ hl hl2
  have HC := Lib.hid hc
  clear hc hA
  go_enter Try.func27, Try.ntmps27
  go_wp2_with fail
  refine Calls.mono (f := 58) (HC.out _ _) ?_
  generalize hW1 : World.alloc (World.alloc w _) _ = W1
  have b1 : Below w.heap.size w W1 := by rw [← hW1]; repeat' (first | exact Below.refl _ _ | (refine below_ov ?_ ?_) | (refine Below.alloc ?_ ?_ _) | (refine below_drewN' ?_ _) | (refine Below.drew ?_) | (refine below_set ?_ _ _ ?_) | (simp; done) | (simp; omega) | omega)
  have s1 : W1.heap.size ≤ w.heap.size + 1 + 1 := by rw [← hW1]; simp
  have s2 : w.heap.size + 1 + 1 ≤ W1.heap.size := by rw [← hW1]; simp
  have r0 : RngAt W1 (w.heap.size + 1) ⟨0, 0⟩ := by rw [← hW1]; exact ⟨by simp [go_sem], by simp [go_sem], by simp [go_sem], by simp [go_sem]⟩
  have R0 := Lib.hid r0
  have B1 := Lib.hid b1
  have l1 : w.heap.size + 1 < W1.heap.size := by omega
  clear hW1 r0 b1
  rintro e w1 (⟨h0, rfl, x, rfl⟩ | ⟨h0, k, H, rfl, hm, hH, hs, hkH⟩)
  · have hne : ((askErr b item at_ : Int) != 0) = true := by simp [h0]
    have H0 := Lib.hid h0
    have r1 := R0.out.over (z := x)
    have t0 := r1.1
    have t1 := r1.2.1
    have f0 := r1.2.2.1
    have f1 := r1.2.2.2
    have R1 := Lib.hid r1
    have lx : w.heap.size + 1 < W1.heap.size + x.heap.size := by omega
    clear h0 r1
    go_wp2_with fail
    have he := spanErr_ask H0.out
    refine bodyPost_ret (ret45_2 (g := w.heap.size + 1) (u := .int .i64 (askErr b item at_)) (lo := 0) (hi := 0) rfl _ rfl rfl ?_ ?_) rfl ⟨by rw [he, spanRes_err (by rw [he]; exact H0.out)]; rfl, below_over ?_⟩
    · exact (R1.out.set 0 0).1
    · exact (R1.out.set 0 0).2.1
    · exact below_set (below_set (below_ov B1.out (by omega)) _ _ (by simp)) _ _ (by simp)
  · have hv : Vb b := (askErr_reach h0).1
    have hr := askErr_reach h0
    have HR := Lib.hid hr
    have H0 := Lib.hid h0
    have HM := Lib.hid hm
    have hb1 := hm.bel
    have HB1 := Lib.hid hb1
    have hs1 := hb1.size
    clear h0 hm hH hb1 hr
    go_wp2_with fail
    refine Calls.mono (f := 59) (c59 b k W1 w1 hv HM.out) ?_
    rintro e w2 ⟨G, H2, P, rfl, hS, hb2⟩
    have HS := Lib.hid hS
    have HB2 := Lib.hid hb2
    have hs2 := hb2.size
    clear hS hb2
    go_wp2_with fail
    refine (c60 b k G H2 P w2 HS.out).mono ?_
    rintro e w3 ⟨rfl, x, rfl⟩
    have kk : Keep (· < W1.heap.size) W1 (over w2 x) := ((Keep.of_below HB1.out fun _ h _ => h).trans (Keep.of_below HB2.out fun j h hl => by omega)).trans (Keep.over _ _ _)
    have r1 := R0.out.keep kk l1
    have hbw : Below w.heap.size w (over w2 x) := B1.out.trans (kk.below fun j hj => ⟨by omega, by omega⟩)
    have HBW := Lib.hid hbw
    have HK := Lib.hid kk
    have R1 := Lib.hid r1
    have lx : w.heap.size + 1 < w2.heap.size + x.heap.size := by omega
    clear kk hbw
    have t0 := r1.1
    have t1 := r1.2.1
    have f0 := r1.2.2.1
    have f1 := r1.2.2.2
    clear r1
    cases hcn : contra b
    · have HCN := Lib.hid hcn
      have hc61 := c61 b (held0 b) (spansOf b) k G H2 P item at_ 1000 (over w2 x) (HS.out.on (over_below _ _)) HR.out.2.1 HR.out.2.2.1 HR.out.2.2.2.1 HR.out.2.2.2.2.1 (spansOf_in hv (by rw [← HM.out.kn]; exact HM.out.ok.nl))
      have hval : spanRes b item at_ = spanBy b (held0 b) (spansOf b) item at_ 1000 := by unfold spanRes; rw [if_pos (spanErr_ok H0.out HCN.out)]; rfl
      generalize spanBy b (held0 b) (spansOf b) item at_ 1000 = r at hc61 hval
      simp only [rngV] at hc61
      have HC61 := Lib.hid hc61
      have HVAL := Lib.hid hval
      clear hc61 hval
      generalize over w2 x = w3 at *
      go_wp2_with fail
      refine HC61.out.mono ?_
      rintro e w4 ⟨rfl, y, rfl⟩
      have r2 := R1.out.over (z := y)
      have t2 := r2.1
      have t3 := r2.2.1
      have f2 := r2.2.2.1
      have f3 := r2.2.2.2
      have R2 := Lib.hid r2
      have ly := lt_of_cell r2.1
      have hsw := HBW.out.size
      have l3 := lt_of_cell R1.out.1
      clear r2
      go_wp2_with fail
      refine bodyPost_ret (ret45_2 (g := w.heap.size + 1) (u := .int .i64 0) (lo := r.lo) (hi := r.hi) rfl _ rfl rfl ?_ ?_) rfl ⟨by rw [HVAL.out, spanErr_ok H0.out HCN.out]; rfl, below_over ?_⟩
      · exact (R2.out.set r.lo r.hi).1
      · exact (R2.out.set r.lo r.hi).2.1
      · exact below_set (below_set (below_ov HBW.out hsw) _ _ (by simp)) _ _ (by simp)
    · have HCN := Lib.hid hcn
      generalize over w2 x = w3 at *
      have l3 := lt_of_cell R1.out.1
      go_wp2_with fail
      have he := spanErr_contra H0.out HCN.out
      refine bodyPost_ret (ret45_2 (g := w.heap.size + 1) (u := .int .i64 9) (lo := 0) (hi := 0) rfl _ rfl rfl ?_ ?_) rfl ⟨by rw [spanRes_err (by rw [he]; decide), he]; rfl, below_over ?_⟩
      · exact (R1.out.set 0 0).1
      · exact (R1.out.set 0 0).2.1
      · exact below_set (below_set HBW.out _ _ (by simp)) _ _ (by simp)
end Go.Proofs.Ytmcnpfjichbijaa

