/- The words, and the value that they make. -/
import Derived.Test.YtmcnpfjichbijaaL26
set_option linter.unusedSimpArgs false
set_option linter.unusedVariables false
namespace Go.Proofs.Ytmcnpfjichbijaa
open Go Go.Proofs Go.RowKit Go.Shelf


/-- A list of words, where it lies. -/
def wordsAt (S : Nat → Prop) (w : World) (A : Option Addr) (l : List Int) : Prop :=
  0 < l.length → ∃ b o, A = some ⟨b, o, none⟩ ∧ S b ∧ ∀ i n, l[i]? = some n → w.cell? ⟨b, o + i, none⟩ = some (.int .u16 n)
theorem wordsAt.keep {S : Nat → Prop} {w w' : World} {A : Option Addr} {l : List Int} (h : wordsAt S w A l) (k : Keep S w w') : wordsAt S w' A l := fun hl => by
  obtain ⟨b, o, e, hS, hc⟩ := h hl
  exact ⟨b, o, e, hS, fun i n hn => k.cell (hc i n hn) hS⟩
theorem wordsAt.below {w w' : World} {A : Option Addr} {l : List Int} (h : wordsAt (· < w.heap.size) w A l) (hb : Below w.heap.size w w') : wordsAt (· < w'.heap.size) w' A l := fun hl => by
  obtain ⟨b, o, e, hS, hc⟩ := h hl
  exact ⟨b, o, e, Nat.lt_of_lt_of_le hS hb.size, fun i n hn => cell_on hb (hc i n hn)⟩
theorem und72 : Try.prog.underlying 72 = some (.slice (Try.prog.elem 72)) := by kernel_rfl
theorem size72 (W : World) : (sizeOf (Try.prog.elem 72)).run Try.prog W = .ok 1 W := by kernel_rfl
theorem idx72 {A : Option Addr} {b o n c : Nat} (hA : A = some ⟨b, o, none⟩) {i : Nat} (hi : i < n) (W : World) :
    (Instr.indexAt 72 (.slice A n c) (.int .i64 i)).run Try.prog W = .ok (.pointer (some ⟨b, o + i, none⟩)) W := by
  have := run_indexAt_known und72 size72 (c := c) hA hi W
  rwa [Nat.mul_one] at this
def wordsOk (l : List Int) : Prop := l.length ≤ 9223372036854775807 ∧ ∀ n ∈ l, 0 ≤ n ∧ n ≤ 65535
theorem wordAt_in {ws : List Int} (h : wordsOk ws) (i : Int) : 0 ≤ wordAt ws i ∧ wordAt ws i ≤ 65535 := by
  unfold wordAt
  split
  · omega
  · rw [List.getD_eq_getElem?_getD]
    cases hq : ws[(i % ws.length).toNat]? with
    | none => simp
    | some n => exact h.2 n (List.mem_of_getElem? hq)

set_option maxRecDepth 100000 in
set_option maxHeartbeats 1000000 in
theorem c73 (Aw : Option Addr) (cw : Nat) (ws : List Int) (i : Int) (w : World) (hw : wordsAt (· < w.heap.size) w Aw ws) (hok : wordsOk ws) (h0 : 0 ≤ i) :
    Calls Try.prog 73 #[.slice Aw ws.length cw, .int .i64 i] w fun e w' => e = .returned (.int .i64 (wordAt ws i)) ∧ w' = w := by
  have hlen := hok.1
  by_cases hz : ws.length = 0
  · have e0 : wordAt ws i = 0 := by unfold wordAt; rw [if_pos (List.length_eq_zero_iff.1 hz)]
    rw [e0]
    have hz' : ((ws.length : Int) == 0) = true := by simp [hz]
    clear hok e0 hw
    go_enter Try.func73, Try.ntmps73
    go_wp2_with fail
    go_ret
    exact ⟨rfl, rfl⟩
  · have hz' : ((ws.length : Int) == 0) = false := beq_eq_false_iff_ne.2 (by omega)
    have hnz : (ws.length : Int) ≠ 0 := by omega
    obtain ⟨t, ht⟩ := Int.eq_ofNat_of_zero_le (Int.emod_nonneg i hnz)
    have htl : t < ws.length := by have := Int.emod_lt_of_pos i (show (0 : Int) < ws.length by omega); omega
    have htm : i.tmod (ws.length : Int) = (t : Int) := by rw [Int.tmod_eq_emod_of_nonneg h0]; exact ht
    obtain ⟨n, hn⟩ : ∃ n, ws[t]? = some n := ⟨ws[t], by simp [htl]⟩
    have e0 : wordAt ws i = n := by
      unfold wordAt
      rw [if_neg (by intro e; rw [e] at hz; exact hz rfl), ht, List.getD_eq_getElem?_getD, Int.toNat_natCast, hn]; rfl
    rw [e0]
    obtain ⟨n1, n2⟩ := hok.2 n (List.mem_of_getElem? hn)
    have hwn : wrap64 n = n := by unfold wrap64; omega
    obtain ⟨Bw, Ow, e, hS, hc⟩ := hw (by omega)
    have g0 := hc t n hn
    have lg := lt_of_cell g0
    have hix := fun c => @idx72 Aw Bw Ow ws.length c e t htl
    have HWN := Lib.hid hwn
    have HTM := Lib.hid htm
    clear hok e0 hw hc hn ht hwn htm
    go_enter Try.func73, Try.ntmps73
    have := HTM.out
    go_wp2_with fail
    go_ret
    exact ⟨rfl, rfl⟩

theorem tmod_c {x k : Int} (h : 0 ≤ x) (hk : 0 < k) : x.tmod k = x % k ∧ 0 ≤ x % k ∧ x % k < k :=
  ⟨Int.tmod_eq_emod_of_nonneg h, Int.emod_nonneg _ (by omega), Int.emod_lt_of_pos _ hk⟩

theorem wrap_lin {a d z : Int} (a0 : 0 ≤ a) (a1 : a < 900) (d0 : 0 ≤ d) (d1 : d ≤ 100) (z0 : -60 ≤ z) (z1 : z ≤ 60) : wrap64 (a + wrap64 (d * z)) = a + d * z := by
  have m1 := Int.mul_le_mul_of_nonneg_left z1 d0
  have m2 := Int.mul_le_mul_of_nonneg_left z0 d0
  generalize d * z = k at *
  have : wrap64 k = k := by unfold wrap64; omega
  rw [this]
  unfold wrap64; omega

set_option maxRecDepth 100000 in
set_option maxHeartbeats 4000000 in
theorem c44 (Ai Ac Aw : Option Addr) (ci cc cw : Nat) (b : Bk) (v : ∀ t ∈ b.items, itmOk t = true) (ws : List Int) (m : Nat) (day : Int) (w : World) (hA : itemsAt (· < w.heap.size) w Ai b.items) (hw : wordsAt (· < w.heap.size) w Aw ws) (hok : wordsOk ws)
    (hml : m < b.items.length) (hil : b.items.length ≤ 8) (h2 : 0 ≤ day) (h3 : day ≤ 1000) :
    Calls Try.prog 44 #[.agg #[.slice Ai b.items.length ci, .slice Ac b.certs.length cc], .int .i64 m, .int .i64 day, .slice Aw ws.length cw] w fun e w' => e = .returned (.int .i64 (trueAt b m day ws)) ∧ ∃ x, w' = over w x := by
  obtain ⟨Bi, Bo, eBi, hSI, hits⟩ := hA (by omega)
  obtain ⟨i1, i2, i3, i4⟩ := hits m b.items[m] (by simp [hml])
  have hix := fun c => @idx22 Ai Bi Bo b.items.length c eBi m hml
  have hstd : stdOf b (m : Int) = b.items[m].std := by unfold stdOf; simp [hml]
  have hitm : itmOf b (m : Int) = b.items[m] := by unfold itmOf; simp [hml]
  have hio := (itmOk_iff _).1 (v _ (List.getElem_mem hml))
  have hwi := wordAt_in hok (m : Int)
  have hc73 := fun (W : World) (hb : Below w.heap.size w W) => c73 Aw cw ws (m : Int) W (hw.below hb) hok (by omega)
  obtain ⟨R, hta⟩ : ∃ R, R = trueAt b m day ws := ⟨_, rfl⟩
  rw [← hta]
  unfold trueAt at hta
  rw [hstd, hitm] at hta
  have HTA := Lib.hid hta
  clear hta hstd hitm
  generalize b.items[m] = X at i1 i2 i3 i4 HTA hio
  obtain ⟨dr, sv, ⟨vl, vh⟩⟩ := X
  obtain ⟨d1, d2, l1, l2, l3, hzz⟩ := hio
  simp only at i1 i2 i3 i4 HTA d1 d2 l1 l2 l3
  have li := lt_of_cell i2
  have HC := Lib.hid hc73
  clear hits eBi hA v hc73 hzz hok hw
  generalize wordAt ws m = U at *
  obtain ⟨u1, u2⟩ := hwi
  go_enter Try.func44, Try.ntmps44
  go_wp2_with fail
  have hV : Below w.heap.size w (w.alloc (.cells #[.slice Ai b.items.length ci, .slice Ac b.certs.length cc] 25)) := by repeat' (first | exact Below.refl _ _ | (refine below_ov ?_ ?_) | (refine Below.alloc ?_ ?_ _) | (refine below_drewN' ?_ _) | (refine Below.drew ?_) | (refine below_set ?_ _ _ ?_) | (simp; done) | (simp; omega) | omega)
  have hV0 : (w.alloc (.cells #[.slice Ai b.items.length ci, .slice Ac b.certs.length cc] 25)).cell? ⟨w.heap.size, 0, none⟩ = some (.slice Ai b.items.length ci) := by simp [go_sem]
  have HV := Lib.hid hV
  have j1 := cell_on hV i1
  have j2 := cell_on hV i2
  have j3 := cell_on hV i3
  have j4 := cell_on hV i4
  clear i1 i2 i3 i4 li hV
  generalize w.alloc (.cells #[.slice Ai b.items.length ci, .slice Ac b.certs.length cc] 25) = V at *
  have HLD := Lib.hid (show ∀ w', Below V.heap.size V w' → w'.cell? ⟨w.heap.size, 0, none⟩ = some (.slice Ai b.items.length ci) ∧ w'.cell? ⟨Bi, Bo + m * 4, none⟩ = some (.int .i64 dr) ∧ w'.cell? ⟨Bi, Bo + m * 4 + 1, none⟩ = some (.bool sv) ∧ w'.cell? ⟨Bi, Bo + m * 4 + 2, none⟩ = some (.int .i64 vl) ∧ w'.cell? ⟨Bi, Bo + m * 4 + 3, none⟩ = some (.int .i64 vh) from fun w' hb =>
    ⟨cell_on hb hV0, cell_on hb j1, cell_on hb j2, cell_on hb j3, cell_on hb j4⟩)
  clear j1 j2 j3 j4 hV0
  refine region_cut (fun l W' => ∃ g, l = [(13, .pointer (some ⟨w.heap.size, 0, none⟩)), (14, .slice Ai b.items.length ci), (15, .int .i64 m), (16, .pointer (some ⟨Bi, Bo + m * 4, none⟩)), (17, .agg #[.int .i64 dr, .bool sv, .int .i64 vl, .int .i64 vh]), (18, .slice Aw ws.length cw), (19, .int .i64 m), (20, .int .i64 U), (9, .pointer (some ⟨g, 0, none⟩)), (10, .int .i64 U)] ∧
    W'.cell? ⟨g, 0, none⟩ = some (.int .i64 dr) ∧ W'.cell? ⟨g, 1, none⟩ = some (.bool sv) ∧ W'.cell? ⟨g, 2, none⟩ = some (.int .i64 vl) ∧ W'.cell? ⟨g, 3, none⟩ = some (.int .i64 vh) ∧ Below V.heap.size V W') ?region ?after
  case region =>
    refine wp_region_held_drew (S := fun w' => Below V.heap.size V w') (by kernel_rfl) (Below.drew (Below.refl _ _)) (fun S0 => ?_)
    refine wpAnyH_take (i := 0) (v := .pointer (some ⟨w.heap.size, 0, none⟩)) rfl (by kernel_rfl) (by kernel_rfl) (by kernel_rfl) (fun _ _ _ h => h) (Or.inl ⟨by rfl, fun w' hw' => ?_⟩) S0 ?_
    · go_simp
    simp only [Act.put, List.getElem_toArray, List.getElem_cons_zero, List.getElem_cons_succ, List.setIfInBounds_toArray, List.set_cons_zero, List.set_cons_succ]
    refine wpAnyH_take (i := 1) (v := .slice Ai b.items.length ci) rfl (by kernel_rfl) (by kernel_rfl) (by kernel_rfl) (fun _ _ _ h => h) (Or.inl ⟨by rfl, fun w' hw' => ?_⟩) S0 ?_
    · have := (HLD.out w' hw').1; go_simp
    simp only [Act.put, List.getElem_toArray, List.getElem_cons_zero, List.getElem_cons_succ, List.setIfInBounds_toArray, List.set_cons_zero, List.set_cons_succ]
    refine wpAnyH_take (i := 2) (v := .int .i64 m) rfl (by kernel_rfl) (by kernel_rfl) (by kernel_rfl) (fun _ _ _ h => h) (Or.inl ⟨by rfl, fun w' hw' => ?_⟩) S0 ?_
    · go_simp
    simp only [Act.put, List.getElem_toArray, List.getElem_cons_zero, List.getElem_cons_succ, List.setIfInBounds_toArray, List.set_cons_zero, List.set_cons_succ]
    refine wpAnyH_take (i := 3) (v := .pointer (some ⟨Bi, Bo + m * 4, none⟩)) rfl (by kernel_rfl) (by kernel_rfl) (by kernel_rfl) (fun _ _ _ h => h) (Or.inl ⟨by rfl, fun w' hw' => ?_⟩) S0 ?_
    · go_simp
    simp only [Act.put, List.getElem_toArray, List.getElem_cons_zero, List.getElem_cons_succ, List.setIfInBounds_toArray, List.set_cons_zero, List.set_cons_succ]
    refine wpAnyH_take (i := 4) (v := .agg #[.int .i64 dr, .bool sv, .int .i64 vl, .int .i64 vh]) rfl (by kernel_rfl) (by kernel_rfl) (by kernel_rfl) (fun _ _ _ h => h) (Or.inl ⟨by rfl, fun w' hw' => ?_⟩) S0 ?_
    · obtain ⟨_, e1, e2, e3, e4⟩ := HLD.out w' hw'; go_simp
    simp only [Act.put, List.getElem_toArray, List.getElem_cons_zero, List.getElem_cons_succ, List.setIfInBounds_toArray, List.set_cons_zero, List.set_cons_succ]
    refine wpAnyH_take (i := 5) (v := .slice Aw ws.length cw) rfl (by kernel_rfl) (by kernel_rfl) (by kernel_rfl) (fun _ _ _ h => h) (Or.inl ⟨by rfl, fun w' hw' => ?_⟩) S0 ?_
    · go_simp
    simp only [Act.put, List.getElem_toArray, List.getElem_cons_zero, List.getElem_cons_succ, List.setIfInBounds_toArray, List.set_cons_zero, List.set_cons_succ]
    refine wpAnyH_take (i := 6) (v := .int .i64 m) rfl (by kernel_rfl) (by kernel_rfl) (by kernel_rfl) (fun _ _ _ h => h) (Or.inl ⟨by rfl, fun w' hw' => ?_⟩) S0 ?_
    · go_simp
    simp only [Act.put, List.getElem_toArray, List.getElem_cons_zero, List.getElem_cons_succ, List.setIfInBounds_toArray, List.set_cons_zero, List.set_cons_succ]
    refine wpAnyH_ready (rs := [7, 8]) (by kernel_rfl) (by simp) ?_
    generalize V.drew = V1 at *
    refine AllReadyH.cons rfl (fun K hK => ?_) (AllReadyH.cons rfl (fun K hK => ?_) AllReadyH.nil)
    · go_simp
      refine (HC.out V1 (HV.out.trans (S0.mono HV.out.size))).mono ?_
      rintro e w' ⟨rfl, rfl⟩
      refine hK.out _ _ S0 (fun _ => ?_)
      clear hK
      refine wpAnyH_ready (rs := [8]) (by kernel_rfl) (by simp) ?_
      refine AllReadyH.cons rfl (fun K2 hK2 => ?_) AllReadyH.nil
      go_simp
      have b2 := S0.alloc S0.size (.cells #[.int .i64 0, .bool false, .int .i64 0, .int .i64 0] 83)
      refine hK2.out _ _ b2 (fun _ => ?_)
      clear hK2
      refine wpAnyH_ready (rs := [9]) (by kernel_rfl) (by simp) ?_
      refine AllReadyH.cons rfl (fun K3 hK3 => ?_) AllReadyH.nil
      go_simp
      have b3 := S0.alloc S0.size (.cells #[.int .i64 dr, .bool sv, .int .i64 vl, .int .i64 vh] 83)
      refine hK3.out _ _ b3 (fun _ => ?_)
      clear hK3
      refine wpAnyH_take (i := 10) (v := .int .i64 U) rfl (by kernel_rfl) (by kernel_rfl) (by kernel_rfl) (fun _ _ _ h => h) (Or.inl ⟨by rfl, fun w' hw' => ?_⟩) b3 ?_
      · go_simp
      simp only [Act.put, List.getElem_toArray, List.getElem_cons_zero, List.getElem_cons_succ, List.setIfInBounds_toArray, List.set_cons_zero, List.set_cons_succ]
      refine wpAnyH_done (by kernel_rfl) ?_ _
      exact ⟨_, ⟨w'.heap.size, rfl, by simp [go_sem], by simp [go_sem], by simp [go_sem], by simp [go_sem], b3⟩, by simp only [outFrame, List.foldl_cons, List.foldl_nil, Act.put, List.setIfInBounds_toArray, List.set_cons_zero, List.set_cons_succ]⟩
    · go_simp
      have b2 := S0.alloc S0.size (.cells #[.int .i64 0, .bool false, .int .i64 0, .int .i64 0] 83)
      refine hK.out _ _ b2 (fun _ => ?_)
      clear hK
      refine wpAnyH_ready (rs := [7]) (by kernel_rfl) (by simp) ?_
      refine AllReadyH.cons rfl (fun K2 hK2 => ?_) AllReadyH.nil
      go_simp
      refine (HC.out _ (HV.out.trans (b2.mono HV.out.size))).mono ?_
      rintro e w' ⟨rfl, rfl⟩
      refine hK2.out _ _ b2 (fun _ => ?_)
      clear hK2
      refine wpAnyH_ready (rs := [9]) (by kernel_rfl) (by simp) ?_
      refine AllReadyH.cons rfl (fun K3 hK3 => ?_) AllReadyH.nil
      go_simp
      have b3 := S0.alloc S0.size (.cells #[.int .i64 dr, .bool sv, .int .i64 vl, .int .i64 vh] 83)
      refine hK3.out _ _ b3 (fun _ => ?_)
      clear hK3
      refine wpAnyH_take (i := 10) (v := .int .i64 U) rfl (by kernel_rfl) (by kernel_rfl) (by kernel_rfl) (fun _ _ _ h => h) (Or.inl ⟨by rfl, fun w' hw' => ?_⟩) b3 ?_
      · go_simp
      simp only [Act.put, List.getElem_toArray, List.getElem_cons_zero, List.getElem_cons_succ, List.setIfInBounds_toArray, List.set_cons_zero, List.set_cons_succ]
      refine wpAnyH_done (by kernel_rfl) ?_ _
      exact ⟨_, ⟨V1.heap.size, rfl, by simp [go_sem], by simp [go_sem], by simp [go_sem], by simp [go_sem], b3⟩, by simp only [outFrame, List.foldl_cons, List.foldl_nil, Act.put, List.setIfInBounds_toArray, List.set_cons_zero, List.set_cons_succ]⟩
  case after =>
    rintro l W_0 ⟨g, rfl, g0, g1, g2, g3, hb1⟩
    have HB1 := Lib.hid (HV.out.trans (hb1.mono HV.out.size))
    have lg := lt_of_cell g0
    clear hb1 HLD HC HV
    simp only [outFrame, List.foldl_cons, List.foldl_nil, Act.put, List.setIfInBounds_toArray, List.set_cons_zero, List.set_cons_succ]
    cases sv
    · obtain ⟨t1, q1, q2⟩ := tmod_c (k := 60) u1 (by omega)
      obtain ⟨t2, q3, q4⟩ := tmod_c (k := 7) u1 (by omega)
      obtain ⟨t3, q5, q6⟩ := tmod_c (k := 2) u1 (by omega)
      obtain ⟨t4, q7, q8⟩ := tmod_c (k := 900) u1 (by omega)
      simp only [Bool.false_eq_true, if_false] at HTA
      generalize U % 60 = r1 at *
      generalize U % 7 = r2 at *
      generalize U % 2 = r3 at *
      generalize U % 900 = r4 at *
      obtain ⟨t5, q9, q10⟩ := tmod_c (x := day + r2) (k := 2 * (1 + r1)) (by omega) (by omega)
      generalize (day + r2) % (2 * (1 + r1)) = xx at *
      have hnz : 2 * (1 + r1) ≠ 0 := by omega
      have hnz2 : ¬ 2 * (1 + r1) = 0 := by omega
      by_cases hx : xx > 1 + r1
      · have hx' : 1 + r1 < xx := hx
        rw [if_pos hx] at HTA
        by_cases h0 : r3 = 0
        · subst h0
          simp only [if_true] at HTA
          have e := wrap_lin (z := -(2 * (1 + r1) - xx)) q7 q8 d1 d2 (by omega) (by omega)
          go_wp2_with fail
          go_ret
          exact ⟨by rw [HTA.out, ← e]; rfl, below_over HB1.out⟩
        · have h1 : r3 = 1 := by omega
          subst h1
          rw [if_neg (by omega)] at HTA
          have e := wrap_lin (z := 2 * (1 + r1) - xx) q7 q8 d1 d2 (by omega) (by omega)
          go_wp2_with fail
          go_ret
          exact ⟨by rw [HTA.out, ← e]; rfl, below_over HB1.out⟩
      · have hx' : ¬ 1 + r1 < xx := hx
        rw [if_neg hx] at HTA
        by_cases h0 : r3 = 0
        · subst h0
          simp only [if_true] at HTA
          have e := wrap_lin (z := -xx) q7 q8 d1 d2 (by omega) (by omega)
          go_wp2_with fail
          go_ret
          exact ⟨by rw [HTA.out, ← e]; rfl, below_over HB1.out⟩
        · have h1 : r3 = 1 := by omega
          subst h1
          rw [if_neg (by omega)] at HTA
          have e := wrap_lin (z := xx) q7 q8 d1 d2 (by omega) (by omega)
          go_wp2_with fail
          go_ret
          exact ⟨by rw [HTA.out, ← e]; rfl, below_over HB1.out⟩
    · have hsp : vh - vl + 1 ≠ 0 := by omega
      obtain ⟨t1, q1, q2⟩ := tmod_c (k := vh - vl + 1) u1 (by omega)
      simp only [if_true] at HTA
      generalize U % (vh - vl + 1) = rr at *
      go_wp2_with fail
      go_quiet (fail)
      go_wp2_with fail
      go_ret
      exact ⟨by rw [HTA.out]; rfl, below_over (below_drewN' HB1.out _)⟩
end Go.Proofs.Ytmcnpfjichbijaa

