/- ChainOrder, walked. -/
import Derived.Test.YtmcnpfjichbijaaL14
set_option linter.unusedSimpArgs false
set_option linter.unusedVariables false
namespace Go.Proofs.Ytmcnpfjichbijaa
open Go Go.Proofs Go.RowKit Go.Shelf


theorem run_drop23 (A : Option Addr) (Bc Co n c t : Nat) (hA : A = some ⟨Bc, Co, none⟩) (ht : t < n) (hn : n ≤ c) (W : World) :
    (Instr.slice 23 (.slice A n c) (some (.int .i64 t)) none none).run Try.prog W = .ok (.slice (some ⟨Bc, Co + t * 7, none⟩) (n - t) (c - t)) W := by
  subst hA
  rw [run_slice_l W 23 (some ⟨Bc, Co, none⟩) n c und23 .i64 t (by omega) (by omega), size23]
  have hct : ¬ c = t := by omega
  simp [Result.andThen, sliced, Addr.add, hct]
theorem run_take23 (A : Option Addr) (Bc Co n c t : Nat) (hA : A = some ⟨Bc, Co, none⟩) (ht : t ≤ c) (W : World) :
    (Instr.slice 23 (.slice A n c) none (some (.int .i64 t)) none).run Try.prog W = .ok (.slice (some ⟨Bc, Co, none⟩) t c) W := by
  subst hA
  rw [run_slice_h W 23 (some ⟨Bc, Co, none⟩) n c und23 .i64 t (by omega) (by omega), size23]
  simp [Result.andThen, sliced, Addr.add]

theorem wrap_eq (n : Int) : IntKind.i64.wrap n = wrap64 n := by
  simp [IntKind.wrap, IntKind.bits, IntKind.signed, wrap64]
  split <;> omega
theorem beq_of_zero {n : Nat} (h : n = 0) : ((n : Int) == 0) = true := by simp [h]
theorem same_hr {b x : Bk} (s : Same b x) (h : fault b = fault x) : heldRes x = heldRes b := by unfold heldRes; rw [s.heldL, h]
theorem same_best {b x : Bk} (s : Same b x) (h : fault b = fault x) {K D : Int} : bestRes x K D = bestRes b K D := by unfold bestRes; rw [s.askErr h, s.bestOf]
theorem same_sr {b x : Bk} (s : Same b x) (h : fault b = fault x) : susRes x = susRes b := by unfold susRes; rw [s.susErr h, s.suspects]
theorem same_res {b x : Bk} (s : Same b x) (h : fault b = fault x) (K D : Int) : spanRes x K D = spanRes b K D := by unfold spanRes; rw [s.spanErr h, s.spanAt]

theorem tmod_nat {it : Int} {n : Nat} (h : (Lit.int .u8 it).wf = true) (hn : 0 < n) : ∃ t : Nat, (wrap64 it).tmod (n : Int) = (t : Int) ∧ t < n := by
  obtain ⟨h1, h2⟩ := tmod_in (n := (n : Int)) h (by omega)
  exact ⟨((wrap64 it).tmod (n : Int)).toNat, by omega, by omega⟩

set_option maxRecDepth 100000 in
set_option maxHeartbeats 4000000 in
theorem c12 (Ai Ac : Option Addr) (ci cc : Nat) (b : Bk) (by_ tw it dy : Int) (w : World) (hA : bookAt (· < w.heap.size) w Ai Ac b)
    (h1 : b.items.length ≤ 9223372036854775807) (h2 : b.certs.length ≤ 9223372036854775807) (hcc : b.certs.length ≤ cc) (h3 : (Lit.int .u8 by_).wf = true) (h4 : (Lit.int .u8 tw).wf = true) (h5 : (Lit.int .u8 it).wf = true) (h6 : (Lit.int .u16 dy).wf = true) :
    Calls Try.prog 12 #[.agg #[.slice Ai b.items.length ci, .slice Ac b.certs.length cc], .int .u8 by_, .int .u8 tw, .int .u8 it, .int .u16 dy] w fun e w' => e = .returned (.bool true) ∧ ∃ x, w' = over w x := by
  have HA := Lib.hid hA
  clear hA
  go_enter Try.func12, Try.ntmps12
  go_wp2_with fail
  have hCl : Cl w (.slice Ai b.items.length ci) (.slice Ac b.certs.length cc) (w.alloc (.cells #[.slice Ai b.items.length ci, .slice Ac b.certs.length cc] 25)) := ⟨by repeat' (first | exact Below.refl _ _ | (refine below_ov ?_ ?_) | (refine Below.alloc ?_ ?_ _) | (refine below_drewN' ?_ _) | (refine Below.drew ?_) | (refine below_set ?_ _ _ ?_) | (simp; done) | (simp; omega) | omega), by simp [go_sem], by simp [go_sem]⟩
  refine (c32 Ai Ac ci cc b _ (HA.out.alloc _) h1 h2).mono ?_
  rintro e w1 ⟨rfl, x, rfl⟩
  have HC1 := Lib.hid (hCl.onx (x := x))
  clear hCl
  generalize over _ x = W1 at *
  have c0 := HC1.out.a0
  have c1 := HC1.out.a1
  have lw := lt_of_cell c0
  cases hf : (fault b == 0)
  · go_wp2_with fail
    refine (c18 _).mono ?_
    rintro e w2 ⟨rfl, y, rfl⟩
    go_wp2_with fail
    go_ret
    exact ⟨rfl, below_over (HC1.out.onx.bel)⟩
  · have hv : Vb b := (fault_iff b).1 (by simpa using hf)
    have HV := Lib.hid hv
    have hil := hv.il
    have hcl := hv.cl
    clear hv hf
    by_cases hx : b.certs.length = 0 ∨ 23 < b.certs.length ∨ b.items.length = 0
    · have hq : (((b.certs.length : Int) == 0) = true) ∨ (((b.certs.length : Int) == 0) = false ∧ (23 : Int) < (b.certs.length : Int)) ∨ (((b.certs.length : Int) == 0) = false ∧ ¬ (23 : Int) < (b.certs.length : Int) ∧ ((b.items.length : Int) == 0) = true) := by
        by_cases k1 : b.certs.length = 0
        · exact .inl (by simp [k1])
        · by_cases k2 : 23 < b.certs.length
          · exact .inr (.inl ⟨beq_eq_false_iff_ne.2 (by omega), by omega⟩)
          · exact .inr (.inr ⟨beq_eq_false_iff_ne.2 (by omega), by omega, beq_of_zero (by omega)⟩)
      clear hx
      rcases hq with q1 | ⟨q1, q2⟩ | ⟨q1, q2, q3⟩
      all_goals
        go_wp2_with fail
        refine (c18 _).mono ?_
        rintro e w2 ⟨rfl, y, rfl⟩
        go_wp2_with fail
        go_ret
        exact ⟨rfl, below_over (HC1.out.onx.bel)⟩
    · have z1 : ((b.certs.length : Int) == 0) = false := beq_eq_false_iff_ne.2 (by omega)
      have z2 : ¬ (23 : Int) < (b.certs.length : Int) := by omega
      have z3 : ((b.items.length : Int) == 0) = false := beq_eq_false_iff_ne.2 (by omega)
      have nz1 : (b.certs.length : Int) ≠ 0 := by omega
      have nz3 : (b.items.length : Int) ≠ 0 := by omega
      have hc23 : b.certs.length ≤ 23 := by omega
      obtain ⟨t, ht, htl⟩ := tmod_nat h3 (show 0 < b.certs.length by omega)
      obtain ⟨u, hu, hul⟩ := tmod_nat h4 (show 0 < b.certs.length by omega)
      have HT := Lib.hid ht
      have HU := Lib.hid hu
      have HNE := Lib.hid (show ¬ b.certs = [] from fun h => by rw [h] at htl; simp at htl)
      clear hx ht hu
      go_wp2_with fail
      refine wp_region_over (by kernel_rfl) (by kernel_rfl) ?_
      repeat (go_big_quiet_step (fail))
      refine wpQuiet_nil ?_
      rintro w' ⟨z, rfl⟩
      rw [HT.out]
      generalize (wrap64 it).tmod (b.items.length : Int) = K at *
      generalize (wrap64 dy).tmod 1001 = D at *
      have HC2 := Lib.hid (HC1.out.onx (x := z))
      clear HC1 c0 c1 lw
      generalize over W1 z = V at *
      obtain ⟨Bc, Co, eC, hSC, hcs⟩ := (HA.out.below HC2.out.bel).2 (by omega)
      obtain ⟨q, hq⟩ : ∃ q, b.certs[u]? = some q := ⟨b.certs[u], by simp [hul]⟩
      obtain ⟨L1, hL1⟩ : ∃ L, L = b.certs.drop t := ⟨_, rfl⟩
      obtain ⟨L2, hL2⟩ : ∃ L, L = b.certs.take t := ⟨_, rfl⟩
      obtain ⟨d1, hd1⟩ : ∃ d, d = cc - t := ⟨_, rfl⟩
      have hl1 : L1.length = b.certs.length - t := by rw [hL1]; simp
      have hl2 : L2.length = t := by rw [hL2]; simp; omega
      have HR1 := Lib.hid (show ∀ W, (Instr.slice 23 (.slice Ac b.certs.length cc) (some (.int .i64 t)) none none).run Try.prog W = .ok (.slice (some ⟨Bc, Co + t * 7, none⟩) L1.length d1) W from fun W => by
        rw [hl1, hd1]; exact run_drop23 Ac Bc Co _ cc t eC htl hcc W)
      have HR2 := Lib.hid (show ∀ W, (Instr.slice 23 (.slice Ac b.certs.length cc) none (some (.int .i64 t)) none).run Try.prog W = .ok (.slice (some ⟨Bc, Co, none⟩) L2.length cc) W from fun W => by
        have := run_take23 Ac Bc Co b.certs.length cc t eC (by omega) W
        rw [hl2]; exact this)
      have HIX := Lib.hid (show ∀ W, (Instr.indexAt 23 (.slice Ac b.certs.length cc) (.int .i64 u)).run Try.prog W = .ok (.pointer (some ⟨Bc, Co + u * 7, none⟩)) W from fun W => @idx23 Ac Bc Co b.certs.length cc eC u hul W)
      obtain ⟨q0, q1, q2, q3, q4, q5, q6⟩ := hcs u q hq
      have HLQ := Lib.hid (show ∀ w', Below V.heap.size V w' → w'.cell? ⟨Bc, Co + u * 7, none⟩ = some (.int .i64 q.num) ∧ w'.cell? ⟨Bc, Co + u * 7 + 1, none⟩ = some (.int .i64 q.item) ∧ w'.cell? ⟨Bc, Co + u * 7 + 2, none⟩ = some (.int .i64 q.by_) ∧ w'.cell? ⟨Bc, Co + u * 7 + 3, none⟩ = some (.int .i64 q.day) ∧ w'.cell? ⟨Bc, Co + u * 7 + 4, none⟩ = some (.int .i64 q.valid) ∧ w'.cell? ⟨Bc, Co + u * 7 + 5, none⟩ = some (.int .i64 q.diff.lo) ∧ w'.cell? ⟨Bc, Co + u * 7 + 6, none⟩ = some (.int .i64 q.diff.hi) from fun w' hb =>
        ⟨cell_on hb q0, cell_on hb q1, cell_on hb q2, cell_on hb q3, cell_on hb q4, cell_on hb q5, cell_on hb q6⟩)
      have HLD := Lib.hid (show ∀ w', Below V.heap.size V w' → w'.cell? ⟨w.heap.size, 0, none⟩ = some (.slice Ai b.items.length ci) ∧ w'.cell? ⟨w.heap.size, 1, none⟩ = some (.slice Ac b.certs.length cc) from fun w' hb => ⟨cell_on hb HC2.out.a0, cell_on hb HC2.out.a1⟩)
      have hrow : ∀ j v, (b.certs.flatMap crtLs)[j]? = some v → V.cell? ⟨Bc, Co + j, none⟩ = some v := fun j v hj => by
        obtain ⟨g, o, e', hS, hc⟩ := (HA.out.below HC2.out.bel).2.rows (by omega)
        rw [eC] at e'
        injection e' with e'
        cases e'
        exact hc j v hj
      have HS1 := Lib.hid (show ∀ w', Below V.heap.size V w' → ∀ ad, some (⟨Bc, Co + t * 7, none⟩ : Addr) = some ad → ∀ j v, (L1.flatMap crtLs)[j]? = some v → w'.cell? (ad.add j) = some v from fun w' hb ad e j v hj => by
        cases e
        have := hrow (t * 7 + j) v (by
          rw [← List.take_append_drop t b.certs, List.flatMap_append, List.getElem?_append_right (by rw [row_length (n := 7) fun _ => rfl]; simp; omega), row_length (n := 7) fun _ => rfl, ← hL1, ← hL2, hl2]
          rw [show t * 7 + j - t * 7 = j by omega]; exact hj)
        rw [show (⟨Bc, Co + t * 7, none⟩ : Addr).add j = ⟨Bc, Co + (t * 7 + j), none⟩ from by unfold Addr.add; split <;> simp_all; try omega]
        exact cell_on hb this)
      have HS2 := Lib.hid (show ∀ w', Below V.heap.size V w' → ∀ ad, some (⟨Bc, Co, none⟩ : Addr) = some ad → ∀ j v, (L2.flatMap crtLs)[j]? = some v → w'.cell? (ad.add j) = some v from fun w' hb ad e j v hj => by
        cases e
        have hlt := (List.getElem?_eq_some_iff.1 hj).1
        have := hrow j v (by
          rw [← List.take_append_drop t b.certs, List.flatMap_append, ← hL2, List.getElem?_append_left hlt]; exact hj)
        rw [show (⟨Bc, Co, none⟩ : Addr).add j = ⟨Bc, Co + j, none⟩ from by unfold Addr.add; split <;> simp_all]
        exact cell_on hb this)
      obtain ⟨rr, hrr⟩ : ∃ rr, rr = [] ++ L1 ++ L2 ++ [q] := ⟨_, rfl⟩
      have HRR := Lib.hid hrr
      have hrl : rr.length ≤ 24 := by rw [hrr]; simp; omega
      have HSM := Lib.hid (show ∀ c, c ∈ rr ↔ c ∈ b.certs from fun c => by
        have hqm := List.mem_of_getElem? hq
        rw [hrr, hL1, hL2]
        simp only [List.nil_append, List.mem_append, List.mem_singleton]
        constructor
        · rintro ((h | h) | rfl)
          · exact List.mem_of_mem_drop h
          · exact List.mem_of_mem_take h
          · exact hqm
        · intro h
          rw [← List.take_append_drop t b.certs] at h
          rcases List.mem_append.1 h with h | h
          · exact .inl (.inr h)
          · exact .inl (.inl h))
      have hl1' : L1.length ≤ 23 := by omega
      have hl2' : L2.length ≤ 23 := by omega
      clear hL1 hL2 hl1 hl2 hd1 hrr hq hrow eC hSC hcs q0 q1 q2 q3 q4 q5 q6 z1 z2 z3 nz1 nz3
      go_wp2_with fail
      refine region_cut (fun l W' => ∃ g A c v2 v7 v12 v23, l = [(68, .pointer (some ⟨w.heap.size, 0, none⟩)), (69, .slice Ai b.items.length ci), (70, v2), (71, .pointer (some ⟨w.heap.size, 1, none⟩)), (72, .slice Ac b.certs.length cc), (73, .int .i64 t), (74, .slice (some ⟨Bc, Co + t * 7, none⟩) L1.length d1), (75, v7), (76, .pointer (some ⟨w.heap.size, 1, none⟩)), (77, .slice Ac b.certs.length cc), (78, .int .i64 t), (79, .slice (some ⟨Bc, Co, none⟩) L2.length cc), (80, v12), (81, .pointer (some ⟨w.heap.size, 1, none⟩)), (82, .slice Ac b.certs.length cc), (83, .int .u8 tw), (84, .int .i64 (wrap64 tw)), (85, .pointer (some ⟨w.heap.size, 1, none⟩)), (86, .slice Ac b.certs.length cc), (87, .int .i64 b.certs.length), (88, .int .i64 u), (89, .pointer (some ⟨Bc, Co + u * 7, none⟩)), (90, .agg #[.int .i64 q.num, .int .i64 q.item, .int .i64 q.by_, .int .i64 q.day, .int .i64 q.valid, .int .i64 q.diff.lo, .int .i64 q.diff.hi]), (91, v23), (92, .slice A rr.length c), (93, .agg #[.slice Ai b.items.length ci, .slice A rr.length c]), (14, .pointer (some ⟨g, 0, none⟩))] ∧
        W'.cell? ⟨g, 0, none⟩ = some (.slice Ai b.items.length ci) ∧ W'.cell? ⟨g, 1, none⟩ = some (.slice A rr.length c) ∧ certsAt (· < W'.heap.size) W' A rr ∧ Below V.heap.size V W') ?region ?after
      case region =>
        obtain ⟨i0, hi0, hz0, hz1, hz2⟩ := info_parts info58
        refine wp_region_held_drew (S := fun w' => Below V.heap.size V w') (by kernel_rfl) (Below.drew (Below.refl _ _)) (fun _ => ?_)
        have S0 := Sx.start V 58 7 crtLs q
        refine wpAnyH_take (i := 0) (v := .pointer (some ⟨w.heap.size, 0, none⟩)) rfl (by kernel_rfl) (by kernel_rfl) (by kernel_rfl) (fun _ _ _ h => h) (Or.inl ⟨by rfl, fun w' hw' => ?_⟩) S0.bel ?_
        · go_simp
        simp only [Act.put, List.getElem_toArray, List.getElem_cons_zero, List.getElem_cons_succ, List.setIfInBounds_toArray, List.set_cons_zero, List.set_cons_succ]
        refine wpAnyH_take (i := 1) (v := .slice Ai b.items.length ci) rfl (by kernel_rfl) (by kernel_rfl) (by kernel_rfl) (fun _ _ _ h => h) (Or.inl ⟨by rfl, fun w' hw' => ?_⟩) S0.bel ?_
        · obtain ⟨e0, e1⟩ := HLD.out w' hw'; go_simp
        simp only [Act.put, List.getElem_toArray, List.getElem_cons_zero, List.getElem_cons_succ, List.setIfInBounds_toArray, List.set_cons_zero, List.set_cons_succ]
        refine wpAnyH_take (i := 3) (v := .pointer (some ⟨w.heap.size, 1, none⟩)) rfl (by kernel_rfl) (by kernel_rfl) (by kernel_rfl) (fun _ _ _ h => h) (Or.inl ⟨by rfl, fun w' hw' => ?_⟩) S0.bel ?_
        · go_simp
        simp only [Act.put, List.getElem_toArray, List.getElem_cons_zero, List.getElem_cons_succ, List.setIfInBounds_toArray, List.set_cons_zero, List.set_cons_succ]
        refine wpAnyH_take (i := 4) (v := .slice Ac b.certs.length cc) rfl (by kernel_rfl) (by kernel_rfl) (by kernel_rfl) (fun _ _ _ h => h) (Or.inl ⟨by rfl, fun w' hw' => ?_⟩) S0.bel ?_
        · obtain ⟨e0, e1⟩ := HLD.out w' hw'; go_simp
        simp only [Act.put, List.getElem_toArray, List.getElem_cons_zero, List.getElem_cons_succ, List.setIfInBounds_toArray, List.set_cons_zero, List.set_cons_succ]
        refine wpAnyH_take (i := 5) (v := .int .i64 t) rfl (by kernel_rfl) (by kernel_rfl) (by kernel_rfl) (fun _ _ _ h => h) (Or.inl ⟨by rfl, fun w' hw' => ?_⟩) S0.bel ?_
        · go_simp
        simp only [Act.put, List.getElem_toArray, List.getElem_cons_zero, List.getElem_cons_succ, List.setIfInBounds_toArray, List.set_cons_zero, List.set_cons_succ]
        refine wpAnyH_take (i := 6) (v := .slice (some ⟨Bc, Co + t * 7, none⟩) L1.length d1) rfl (by kernel_rfl) (by kernel_rfl) (by kernel_rfl) (fun _ _ _ h => h) (Or.inl ⟨by rfl, fun w' hw' => ?_⟩) S0.bel ?_
        · (have := HR1.out w'; go_simp)
        simp only [Act.put, List.getElem_toArray, List.getElem_cons_zero, List.getElem_cons_succ, List.setIfInBounds_toArray, List.set_cons_zero, List.set_cons_succ]
        refine wpAnyH_take (i := 8) (v := .pointer (some ⟨w.heap.size, 1, none⟩)) rfl (by kernel_rfl) (by kernel_rfl) (by kernel_rfl) (fun _ _ _ h => h) (Or.inl ⟨by rfl, fun w' hw' => ?_⟩) S0.bel ?_
        · go_simp
        simp only [Act.put, List.getElem_toArray, List.getElem_cons_zero, List.getElem_cons_succ, List.setIfInBounds_toArray, List.set_cons_zero, List.set_cons_succ]
        refine wpAnyH_take (i := 9) (v := .slice Ac b.certs.length cc) rfl (by kernel_rfl) (by kernel_rfl) (by kernel_rfl) (fun _ _ _ h => h) (Or.inl ⟨by rfl, fun w' hw' => ?_⟩) S0.bel ?_
        · obtain ⟨e0, e1⟩ := HLD.out w' hw'; go_simp
        simp only [Act.put, List.getElem_toArray, List.getElem_cons_zero, List.getElem_cons_succ, List.setIfInBounds_toArray, List.set_cons_zero, List.set_cons_succ]
        refine wpAnyH_take (i := 10) (v := .int .i64 t) rfl (by kernel_rfl) (by kernel_rfl) (by kernel_rfl) (fun _ _ _ h => h) (Or.inl ⟨by rfl, fun w' hw' => ?_⟩) S0.bel ?_
        · go_simp
        simp only [Act.put, List.getElem_toArray, List.getElem_cons_zero, List.getElem_cons_succ, List.setIfInBounds_toArray, List.set_cons_zero, List.set_cons_succ]
        refine wpAnyH_take (i := 11) (v := .slice (some ⟨Bc, Co, none⟩) L2.length cc) rfl (by kernel_rfl) (by kernel_rfl) (by kernel_rfl) (fun _ _ _ h => h) (Or.inl ⟨by rfl, fun w' hw' => ?_⟩) S0.bel ?_
        · (have := HR2.out w'; go_simp)
        simp only [Act.put, List.getElem_toArray, List.getElem_cons_zero, List.getElem_cons_succ, List.setIfInBounds_toArray, List.set_cons_zero, List.set_cons_succ]
        refine wpAnyH_take (i := 13) (v := .pointer (some ⟨w.heap.size, 1, none⟩)) rfl (by kernel_rfl) (by kernel_rfl) (by kernel_rfl) (fun _ _ _ h => h) (Or.inl ⟨by rfl, fun w' hw' => ?_⟩) S0.bel ?_
        · go_simp
        simp only [Act.put, List.getElem_toArray, List.getElem_cons_zero, List.getElem_cons_succ, List.setIfInBounds_toArray, List.set_cons_zero, List.set_cons_succ]
        refine wpAnyH_take (i := 14) (v := .slice Ac b.certs.length cc) rfl (by kernel_rfl) (by kernel_rfl) (by kernel_rfl) (fun _ _ _ h => h) (Or.inl ⟨by rfl, fun w' hw' => ?_⟩) S0.bel ?_
        · obtain ⟨e0, e1⟩ := HLD.out w' hw'; go_simp
        simp only [Act.put, List.getElem_toArray, List.getElem_cons_zero, List.getElem_cons_succ, List.setIfInBounds_toArray, List.set_cons_zero, List.set_cons_succ]
        refine wpAnyH_take (i := 15) (v := .int .u8 tw) rfl (by kernel_rfl) (by kernel_rfl) (by kernel_rfl) (fun _ _ _ h => h) (Or.inl ⟨by rfl, fun w' hw' => ?_⟩) S0.bel ?_
        · go_simp
        simp only [Act.put, List.getElem_toArray, List.getElem_cons_zero, List.getElem_cons_succ, List.setIfInBounds_toArray, List.set_cons_zero, List.set_cons_succ]
        refine wpAnyH_take (i := 16) (v := .int .i64 (wrap64 tw)) rfl (by kernel_rfl) (by kernel_rfl) (by kernel_rfl) (fun _ _ _ h => h) (Or.inl ⟨by rfl, fun w' hw' => ?_⟩) S0.bel ?_
        · (go_simp; exact wrap_eq tw)
        simp only [Act.put, List.getElem_toArray, List.getElem_cons_zero, List.getElem_cons_succ, List.setIfInBounds_toArray, List.set_cons_zero, List.set_cons_succ]
        refine wpAnyH_take (i := 17) (v := .pointer (some ⟨w.heap.size, 1, none⟩)) rfl (by kernel_rfl) (by kernel_rfl) (by kernel_rfl) (fun _ _ _ h => h) (Or.inl ⟨by rfl, fun w' hw' => ?_⟩) S0.bel ?_
        · go_simp
        simp only [Act.put, List.getElem_toArray, List.getElem_cons_zero, List.getElem_cons_succ, List.setIfInBounds_toArray, List.set_cons_zero, List.set_cons_succ]
        refine wpAnyH_take (i := 18) (v := .slice Ac b.certs.length cc) rfl (by kernel_rfl) (by kernel_rfl) (by kernel_rfl) (fun _ _ _ h => h) (Or.inl ⟨by rfl, fun w' hw' => ?_⟩) S0.bel ?_
        · obtain ⟨e0, e1⟩ := HLD.out w' hw'; go_simp
        simp only [Act.put, List.getElem_toArray, List.getElem_cons_zero, List.getElem_cons_succ, List.setIfInBounds_toArray, List.set_cons_zero, List.set_cons_succ]
        refine wpAnyH_take (i := 19) (v := .int .i64 b.certs.length) rfl (by kernel_rfl) (by kernel_rfl) (by kernel_rfl) (fun _ _ _ h => h) (Or.inl ⟨by rfl, fun w' hw' => ?_⟩) S0.bel ?_
        · go_simp
        simp only [Act.put, List.getElem_toArray, List.getElem_cons_zero, List.getElem_cons_succ, List.setIfInBounds_toArray, List.set_cons_zero, List.set_cons_succ]
        refine wpAnyH_take (i := 20) (v := .int .i64 u) rfl (by kernel_rfl) (by kernel_rfl) (by kernel_rfl) (fun _ _ _ h => h) (Or.inl ⟨by rfl, fun w' hw' => ?_⟩) S0.bel ?_
        · (have := HU.out; have := HNE.out; go_simp)
        simp only [Act.put, List.getElem_toArray, List.getElem_cons_zero, List.getElem_cons_succ, List.setIfInBounds_toArray, List.set_cons_zero, List.set_cons_succ]
        refine wpAnyH_take (i := 21) (v := .pointer (some ⟨Bc, Co + u * 7, none⟩)) rfl (by kernel_rfl) (by kernel_rfl) (by kernel_rfl) (fun _ _ _ h => h) (Or.inl ⟨by rfl, fun w' hw' => ?_⟩) S0.bel ?_
        · (have := HIX.out; go_simp)
        simp only [Act.put, List.getElem_toArray, List.getElem_cons_zero, List.getElem_cons_succ, List.setIfInBounds_toArray, List.set_cons_zero, List.set_cons_succ]
        refine wpAnyH_take (i := 22) (v := .agg #[.int .i64 q.num, .int .i64 q.item, .int .i64 q.by_, .int .i64 q.day, .int .i64 q.valid, .int .i64 q.diff.lo, .int .i64 q.diff.hi]) rfl (by kernel_rfl) (by kernel_rfl) (by kernel_rfl) (fun _ _ _ h => h) (Or.inl ⟨by rfl, fun w' hw' => ?_⟩) S0.bel ?_
        · obtain ⟨e0, e1, e2, e3, e4, e5, e6⟩ := HLQ.out w' hw'; go_simp
        simp only [Act.put, List.getElem_toArray, List.getElem_cons_zero, List.getElem_cons_succ, List.setIfInBounds_toArray, List.set_cons_zero, List.set_cons_succ]
        refine wpAnyH_ready (rs := [2, 23, 26]) (by kernel_rfl) (by simp) ?_
        refine AllReadyH.cons rfl (fun K1 hK1 => ?_) (AllReadyH.cons rfl (fun K1 hK1 => ?_) (AllReadyH.cons rfl (fun K1 hK1 => ?_) (AllReadyH.nil)))
        · go_simp
          refine hK1.out _ _ (S0.made rfl).bel (fun _ => ?_)
          clear hK1
          refine wpAnyH_abs (I := Sx 58 7 crtLs V (some ⟨V.heap.size, 0, none⟩) (0) ([]) (none) q (none)) (S0.made rfl) (fun W2 S2 => ?_)
          try simp only [Act.put, List.getElem_toArray, List.getElem_cons_zero, List.getElem_cons_succ, List.setIfInBounds_toArray, List.set_cons_zero, List.set_cons_succ]
          refine wpAnyH_ready (rs := [7, 23, 26]) (by kernel_rfl) (by simp) ?_
          refine AllReadyH.cons rfl (fun K3 hK3 => ?_) (AllReadyH.cons rfl (fun K3 hK3 => ?_) (AllReadyH.cons rfl (fun K3 hK3 => ?_) (AllReadyH.nil)))
          · refine step_app (by rfl) _ _ 23 (by rfl) S2 (by rfl) (some ⟨Bc, Co + t * 7, none⟩) d1 (L1) (by rfl) (fun e => by cases e) (HS1.out _ S2.bel) und23e hi0 hz0 hz1 hz2 rfl (by omega) (fun _ => rfl) crtLs_one (by omega) (by first | omega | (simp; omega)) ?_
            intro A4 c4 W4 S4
            generalize hr4 : [] ++ L1 = r4 at S4 ⊢
            have HR4 := Lib.hid hr4
            clear hr4
            have hl4 : r4.length ≤ 0 + L1.length := by have := congrArg List.length HR4.out; (try simp at this); (try simp); omega
            refine hK3.out _ _ S4.bel (fun _ => ?_)
            clear hK3
            try simp only [Act.put, List.getElem_toArray, List.getElem_cons_zero, List.getElem_cons_succ, List.setIfInBounds_toArray, List.set_cons_zero, List.set_cons_succ]
            refine wpAnyH_ready (rs := [12, 23, 26]) (by kernel_rfl) (by simp) ?_
            refine AllReadyH.cons rfl (fun K5 hK5 => ?_) (AllReadyH.cons rfl (fun K5 hK5 => ?_) (AllReadyH.cons rfl (fun K5 hK5 => ?_) (AllReadyH.nil)))
            · refine step_app (by rfl) _ _ 23 (by rfl) S4 (by rfl) (some ⟨Bc, Co, none⟩) cc (L2) (by rfl) (fun e => by cases e) (HS2.out _ S4.bel) und23e hi0 hz0 hz1 hz2 rfl (by omega) (fun _ => rfl) crtLs_one (by omega) (by first | omega | (simp; omega)) ?_
              intro A6 c6 W6 S6
              generalize hr6 : r4 ++ L2 = r6 at S6 ⊢
              have HR6 := Lib.hid hr6
              clear hr6
              have hl6 : r6.length ≤ 0 + L1.length + L2.length := by have := congrArg List.length HR6.out; (try simp at this); (try simp); omega
              refine hK5.out _ _ S6.bel (fun _ => ?_)
              clear hK5
              try simp only [Act.put, List.getElem_toArray, List.getElem_cons_zero, List.getElem_cons_succ, List.setIfInBounds_toArray, List.set_cons_zero, List.set_cons_succ]
              refine wpAnyH_ready (rs := [23, 26]) (by kernel_rfl) (by simp) ?_
              refine AllReadyH.cons rfl (fun K7 hK7 => ?_) (AllReadyH.cons rfl (fun K7 hK7 => ?_) (AllReadyH.nil))
              · go_simp
                refine hK7.out _ _ (S6.elem rfl rfl).bel (fun _ => ?_)
                clear hK7
                refine wpAnyH_abs (I := Sx 58 7 crtLs V (A6) (c6) (r6) (some W6.heap.size) q (none)) (S6.elem rfl rfl) (fun W8 S8 => ?_)
                try simp only [Act.put, List.getElem_toArray, List.getElem_cons_zero, List.getElem_cons_succ, List.setIfInBounds_toArray, List.set_cons_zero, List.set_cons_succ]
                refine wpAnyH_ready (rs := [24, 26]) (by kernel_rfl) (by simp) ?_
                refine AllReadyH.cons rfl (fun K9 hK9 => ?_) (AllReadyH.cons rfl (fun K9 hK9 => ?_) (AllReadyH.nil))
                · refine step_app (by rfl) _ _ 23 (by rfl) S8 (by rfl) (some ⟨W6.heap.size, 0, none⟩) 1 ([q]) (by rfl) (fun e => by cases e) (S8.src1) und23e hi0 hz0 hz1 hz2 rfl (by omega) (fun _ => rfl) crtLs_one (by omega) (by first | omega | (simp; omega)) ?_
                  intro A10 c10 W10 S10
                  generalize hr10 : r6 ++ [q] = r10 at S10 ⊢
                  have HR10 := Lib.hid hr10
                  clear hr10
                  have hl10 : r10.length ≤ 0 + L1.length + L2.length + [q].length := by have := congrArg List.length HR10.out; (try simp at this); (try simp); omega
                  simp only [List.length_singleton] at hl10
                  refine hK9.out _ _ S10.bel (fun _ => ?_)
                  clear hK9
                  try simp only [Act.put, List.getElem_toArray, List.getElem_cons_zero, List.getElem_cons_succ, List.setIfInBounds_toArray, List.set_cons_zero, List.set_cons_succ]
                  refine wpAnyH_take (i := 25) (v := .agg #[.slice Ai b.items.length ci, .slice (A10) (r10).length (c10)]) rfl (by kernel_rfl) (by kernel_rfl) (by kernel_rfl) (fun _ _ _ h => h) (Or.inl ⟨by rfl, fun w' hw' => ?_⟩) S10.bel ?_
                  · go_simp
                  simp only [Act.put, List.getElem_toArray, List.getElem_cons_zero, List.getElem_cons_succ, List.setIfInBounds_toArray, List.set_cons_zero, List.set_cons_succ]
                  refine wpAnyH_ready (rs := [26]) (by kernel_rfl) (by simp) ?_
                  refine AllReadyH.cons rfl (fun K11 hK11 => ?_) (AllReadyH.nil)
                  go_simp
                  refine hK11.out _ _ (S10.boxd rfl).bel (fun _ => ?_)
                  clear hK11
                  refine wpAnyH_abs (I := Sx 58 7 crtLs V (A10) (c10) (r10) (some W6.heap.size) q (some W10.heap.size)) (S10.boxd rfl) (fun W12 S12 => ?_)
                  try simp only [Act.put, List.getElem_toArray, List.getElem_cons_zero, List.getElem_cons_succ, List.setIfInBounds_toArray, List.set_cons_zero, List.set_cons_succ]
                  refine wpAnyH_ready (rs := [27]) (by kernel_rfl) (by simp) ?_
                  refine AllReadyH.cons rfl (fun K13 hK13 => ?_) (AllReadyH.nil)
                  obtain rfl : r10 = rr := by rw [HRR.out, ← HR10.out, ← HR6.out, ← HR4.out]
                  obtain ⟨_, _, _, z0, z1, f0, f1⟩ := S12.bxc _ rfl
                  have lz := lt_of_cell z0
                  go_simp
                  have hfin := S12.fin (.slice Ai b.items.length ci) (.slice (A10) (r10).length (c10))
                  refine hK13.out _ _ hfin.2.2.2 (fun _ => ?_)
                  clear hK13 z0 z1 f0 f1 lz
                  refine wpAnyH_done (by kernel_rfl) ?_ _
                  exact ⟨_, ⟨_, A10, c10, .slice (some ⟨V.heap.size, 0, none⟩) 0 0, .slice A4 r4.length c4, .slice A6 r6.length c6, .slice (some ⟨W6.heap.size, 0, none⟩) 1 1, rfl, hfin⟩, by simp only [outFrame, List.foldl_cons, List.foldl_nil, Act.put, List.setIfInBounds_toArray, List.set_cons_zero, List.set_cons_succ]⟩
                · go_simp
                  refine hK9.out _ _ (S8.boxd rfl).bel (fun _ => ?_)
                  clear hK9
                  refine wpAnyH_abs (I := Sx 58 7 crtLs V (A6) (c6) (r6) (some W6.heap.size) q (some W8.heap.size)) (S8.boxd rfl) (fun W15 S15 => ?_)
                  try simp only [Act.put, List.getElem_toArray, List.getElem_cons_zero, List.getElem_cons_succ, List.setIfInBounds_toArray, List.set_cons_zero, List.set_cons_succ]
                  refine wpAnyH_ready (rs := [24]) (by kernel_rfl) (by simp) ?_
                  refine AllReadyH.cons rfl (fun K16 hK16 => ?_) (AllReadyH.nil)
                  refine step_app (by rfl) _ _ 23 (by rfl) S15 (by rfl) (some ⟨W6.heap.size, 0, none⟩) 1 ([q]) (by rfl) (fun e => by cases e) (S15.src1) und23e hi0 hz0 hz1 hz2 rfl (by omega) (fun _ => rfl) crtLs_one (by omega) (by first | omega | (simp; omega)) ?_
                  intro A17 c17 W17 S17
                  generalize hr17 : r6 ++ [q] = r17 at S17 ⊢
                  have HR17 := Lib.hid hr17
                  clear hr17
                  have hl17 : r17.length ≤ 0 + L1.length + L2.length + [q].length := by have := congrArg List.length HR17.out; (try simp at this); (try simp); omega
                  simp only [List.length_singleton] at hl17
                  refine hK16.out _ _ S17.bel (fun _ => ?_)
                  clear hK16
                  try simp only [Act.put, List.getElem_toArray, List.getElem_cons_zero, List.getElem_cons_succ, List.setIfInBounds_toArray, List.set_cons_zero, List.set_cons_succ]
                  refine wpAnyH_take (i := 25) (v := .agg #[.slice Ai b.items.length ci, .slice (A17) (r17).length (c17)]) rfl (by kernel_rfl) (by kernel_rfl) (by kernel_rfl) (fun _ _ _ h => h) (Or.inl ⟨by rfl, fun w' hw' => ?_⟩) S17.bel ?_
                  · go_simp
                  simp only [Act.put, List.getElem_toArray, List.getElem_cons_zero, List.getElem_cons_succ, List.setIfInBounds_toArray, List.set_cons_zero, List.set_cons_succ]
                  refine wpAnyH_ready (rs := [27]) (by kernel_rfl) (by simp) ?_
                  refine AllReadyH.cons rfl (fun K18 hK18 => ?_) (AllReadyH.nil)
                  obtain rfl : r17 = rr := by rw [HRR.out, ← HR17.out, ← HR6.out, ← HR4.out]
                  obtain ⟨_, _, _, z0, z1, f0, f1⟩ := S17.bxc _ rfl
                  have lz := lt_of_cell z0
                  go_simp
                  have hfin := S17.fin (.slice Ai b.items.length ci) (.slice (A17) (r17).length (c17))
                  refine hK18.out _ _ hfin.2.2.2 (fun _ => ?_)
                  clear hK18 z0 z1 f0 f1 lz
                  refine wpAnyH_done (by kernel_rfl) ?_ _
                  exact ⟨_, ⟨_, A17, c17, .slice (some ⟨V.heap.size, 0, none⟩) 0 0, .slice A4 r4.length c4, .slice A6 r6.length c6, .slice (some ⟨W6.heap.size, 0, none⟩) 1 1, rfl, hfin⟩, by simp only [outFrame, List.foldl_cons, List.foldl_nil, Act.put, List.setIfInBounds_toArray, List.set_cons_zero, List.set_cons_succ]⟩
              · go_simp
                refine hK7.out _ _ (S6.boxd rfl).bel (fun _ => ?_)
                clear hK7
                refine wpAnyH_abs (I := Sx 58 7 crtLs V (A6) (c6) (r6) (none) q (some W6.heap.size)) (S6.boxd rfl) (fun W20 S20 => ?_)
                try simp only [Act.put, List.getElem_toArray, List.getElem_cons_zero, List.getElem_cons_succ, List.setIfInBounds_toArray, List.set_cons_zero, List.set_cons_succ]
                refine wpAnyH_ready (rs := [23]) (by kernel_rfl) (by simp) ?_
                refine AllReadyH.cons rfl (fun K21 hK21 => ?_) (AllReadyH.nil)
                go_simp
                refine hK21.out _ _ (S20.elem rfl rfl).bel (fun _ => ?_)
                clear hK21
                refine wpAnyH_abs (I := Sx 58 7 crtLs V (A6) (c6) (r6) (some W20.heap.size) q (some W6.heap.size)) (S20.elem rfl rfl) (fun W22 S22 => ?_)
                try simp only [Act.put, List.getElem_toArray, List.getElem_cons_zero, List.getElem_cons_succ, List.setIfInBounds_toArray, List.set_cons_zero, List.set_cons_succ]
                refine wpAnyH_ready (rs := [24]) (by kernel_rfl) (by simp) ?_
                refine AllReadyH.cons rfl (fun K23 hK23 => ?_) (AllReadyH.nil)
                refine step_app (by rfl) _ _ 23 (by rfl) S22 (by rfl) (some ⟨W20.heap.size, 0, none⟩) 1 ([q]) (by rfl) (fun e => by cases e) (S22.src1) und23e hi0 hz0 hz1 hz2 rfl (by omega) (fun _ => rfl) crtLs_one (by omega) (by first | omega | (simp; omega)) ?_
                intro A24 c24 W24 S24
                generalize hr24 : r6 ++ [q] = r24 at S24 ⊢
                have HR24 := Lib.hid hr24
                clear hr24
                have hl24 : r24.length ≤ 0 + L1.length + L2.length + [q].length := by have := congrArg List.length HR24.out; (try simp at this); (try simp); omega
                simp only [List.length_singleton] at hl24
                refine hK23.out _ _ S24.bel (fun _ => ?_)
                clear hK23
                try simp only [Act.put, List.getElem_toArray, List.getElem_cons_zero, List.getElem_cons_succ, List.setIfInBounds_toArray, List.set_cons_zero, List.set_cons_succ]
                refine wpAnyH_take (i := 25) (v := .agg #[.slice Ai b.items.length ci, .slice (A24) (r24).length (c24)]) rfl (by kernel_rfl) (by kernel_rfl) (by kernel_rfl) (fun _ _ _ h => h) (Or.inl ⟨by rfl, fun w' hw' => ?_⟩) S24.bel ?_
                · go_simp
                simp only [Act.put, List.getElem_toArray, List.getElem_cons_zero, List.getElem_cons_succ, List.setIfInBounds_toArray, List.set_cons_zero, List.set_cons_succ]
                refine wpAnyH_ready (rs := [27]) (by kernel_rfl) (by simp) ?_
                refine AllReadyH.cons rfl (fun K25 hK25 => ?_) (AllReadyH.nil)
                obtain rfl : r24 = rr := by rw [HRR.out, ← HR24.out, ← HR6.out, ← HR4.out]
                obtain ⟨_, _, _, z0, z1, f0, f1⟩ := S24.bxc _ rfl
                have lz := lt_of_cell z0
                go_simp
                have hfin := S24.fin (.slice Ai b.items.length ci) (.slice (A24) (r24).length (c24))
                refine hK25.out _ _ hfin.2.2.2 (fun _ => ?_)
                clear hK25 z0 z1 f0 f1 lz
                refine wpAnyH_done (by kernel_rfl) ?_ _
                exact ⟨_, ⟨_, A24, c24, .slice (some ⟨V.heap.size, 0, none⟩) 0 0, .slice A4 r4.length c4, .slice A6 r6.length c6, .slice (some ⟨W20.heap.size, 0, none⟩) 1 1, rfl, hfin⟩, by simp only [outFrame, List.foldl_cons, List.foldl_nil, Act.put, List.setIfInBounds_toArray, List.set_cons_zero, List.set_cons_succ]⟩
            · go_simp
              refine hK5.out _ _ (S4.elem rfl rfl).bel (fun _ => ?_)
              clear hK5
              refine wpAnyH_abs (I := Sx 58 7 crtLs V (A4) (c4) (r4) (some W4.heap.size) q (none)) (S4.elem rfl rfl) (fun W27 S27 => ?_)
              try simp only [Act.put, List.getElem_toArray, List.getElem_cons_zero, List.getElem_cons_succ, List.setIfInBounds_toArray, List.set_cons_zero, List.set_cons_succ]
              refine wpAnyH_ready (rs := [12, 26]) (by kernel_rfl) (by simp) ?_
              refine AllReadyH.cons rfl (fun K28 hK28 => ?_) (AllReadyH.cons rfl (fun K28 hK28 => ?_) (AllReadyH.nil))
              · refine step_app (by rfl) _ _ 23 (by rfl) S27 (by rfl) (some ⟨Bc, Co, none⟩) cc (L2) (by rfl) (fun e => by cases e) (HS2.out _ S27.bel) und23e hi0 hz0 hz1 hz2 rfl (by omega) (fun _ => rfl) crtLs_one (by omega) (by first | omega | (simp; omega)) ?_
                intro A29 c29 W29 S29
                generalize hr29 : r4 ++ L2 = r29 at S29 ⊢
                have HR29 := Lib.hid hr29
                clear hr29
                have hl29 : r29.length ≤ 0 + L1.length + L2.length := by have := congrArg List.length HR29.out; (try simp at this); (try simp); omega
                refine hK28.out _ _ S29.bel (fun _ => ?_)
                clear hK28
                try simp only [Act.put, List.getElem_toArray, List.getElem_cons_zero, List.getElem_cons_succ, List.setIfInBounds_toArray, List.set_cons_zero, List.set_cons_succ]
                refine wpAnyH_ready (rs := [24, 26]) (by kernel_rfl) (by simp) ?_
                refine AllReadyH.cons rfl (fun K30 hK30 => ?_) (AllReadyH.cons rfl (fun K30 hK30 => ?_) (AllReadyH.nil))
                · refine step_app (by rfl) _ _ 23 (by rfl) S29 (by rfl) (some ⟨W4.heap.size, 0, none⟩) 1 ([q]) (by rfl) (fun e => by cases e) (S29.src1) und23e hi0 hz0 hz1 hz2 rfl (by omega) (fun _ => rfl) crtLs_one (by omega) (by first | omega | (simp; omega)) ?_
                  intro A31 c31 W31 S31
                  generalize hr31 : r29 ++ [q] = r31 at S31 ⊢
                  have HR31 := Lib.hid hr31
                  clear hr31
                  have hl31 : r31.length ≤ 0 + L1.length + L2.length + [q].length := by have := congrArg List.length HR31.out; (try simp at this); (try simp); omega
                  simp only [List.length_singleton] at hl31
                  refine hK30.out _ _ S31.bel (fun _ => ?_)
                  clear hK30
                  try simp only [Act.put, List.getElem_toArray, List.getElem_cons_zero, List.getElem_cons_succ, List.setIfInBounds_toArray, List.set_cons_zero, List.set_cons_succ]
                  refine wpAnyH_take (i := 25) (v := .agg #[.slice Ai b.items.length ci, .slice (A31) (r31).length (c31)]) rfl (by kernel_rfl) (by kernel_rfl) (by kernel_rfl) (fun _ _ _ h => h) (Or.inl ⟨by rfl, fun w' hw' => ?_⟩) S31.bel ?_
                  · go_simp
                  simp only [Act.put, List.getElem_toArray, List.getElem_cons_zero, List.getElem_cons_succ, List.setIfInBounds_toArray, List.set_cons_zero, List.set_cons_succ]
                  refine wpAnyH_ready (rs := [26]) (by kernel_rfl) (by simp) ?_
                  refine AllReadyH.cons rfl (fun K32 hK32 => ?_) (AllReadyH.nil)
                  go_simp
                  refine hK32.out _ _ (S31.boxd rfl).bel (fun _ => ?_)
                  clear hK32
                  refine wpAnyH_abs (I := Sx 58 7 crtLs V (A31) (c31) (r31) (some W4.heap.size) q (some W31.heap.size)) (S31.boxd rfl) (fun W33 S33 => ?_)
                  try simp only [Act.put, List.getElem_toArray, List.getElem_cons_zero, List.getElem_cons_succ, List.setIfInBounds_toArray, List.set_cons_zero, List.set_cons_succ]
                  refine wpAnyH_ready (rs := [27]) (by kernel_rfl) (by simp) ?_
                  refine AllReadyH.cons rfl (fun K34 hK34 => ?_) (AllReadyH.nil)
                  obtain rfl : r31 = rr := by rw [HRR.out, ← HR31.out, ← HR29.out, ← HR4.out]
                  obtain ⟨_, _, _, z0, z1, f0, f1⟩ := S33.bxc _ rfl
                  have lz := lt_of_cell z0
                  go_simp
                  have hfin := S33.fin (.slice Ai b.items.length ci) (.slice (A31) (r31).length (c31))
                  refine hK34.out _ _ hfin.2.2.2 (fun _ => ?_)
                  clear hK34 z0 z1 f0 f1 lz
                  refine wpAnyH_done (by kernel_rfl) ?_ _
                  exact ⟨_, ⟨_, A31, c31, .slice (some ⟨V.heap.size, 0, none⟩) 0 0, .slice A4 r4.length c4, .slice A29 r29.length c29, .slice (some ⟨W4.heap.size, 0, none⟩) 1 1, rfl, hfin⟩, by simp only [outFrame, List.foldl_cons, List.foldl_nil, Act.put, List.setIfInBounds_toArray, List.set_cons_zero, List.set_cons_succ]⟩
                · go_simp
                  refine hK30.out _ _ (S29.boxd rfl).bel (fun _ => ?_)
                  clear hK30
                  refine wpAnyH_abs (I := Sx 58 7 crtLs V (A29) (c29) (r29) (some W4.heap.size) q (some W29.heap.size)) (S29.boxd rfl) (fun W36 S36 => ?_)
                  try simp only [Act.put, List.getElem_toArray, List.getElem_cons_zero, List.getElem_cons_succ, List.setIfInBounds_toArray, List.set_cons_zero, List.set_cons_succ]
                  refine wpAnyH_ready (rs := [24]) (by kernel_rfl) (by simp) ?_
                  refine AllReadyH.cons rfl (fun K37 hK37 => ?_) (AllReadyH.nil)
                  refine step_app (by rfl) _ _ 23 (by rfl) S36 (by rfl) (some ⟨W4.heap.size, 0, none⟩) 1 ([q]) (by rfl) (fun e => by cases e) (S36.src1) und23e hi0 hz0 hz1 hz2 rfl (by omega) (fun _ => rfl) crtLs_one (by omega) (by first | omega | (simp; omega)) ?_
                  intro A38 c38 W38 S38
                  generalize hr38 : r29 ++ [q] = r38 at S38 ⊢
                  have HR38 := Lib.hid hr38
                  clear hr38
                  have hl38 : r38.length ≤ 0 + L1.length + L2.length + [q].length := by have := congrArg List.length HR38.out; (try simp at this); (try simp); omega
                  simp only [List.length_singleton] at hl38
                  refine hK37.out _ _ S38.bel (fun _ => ?_)
                  clear hK37
                  try simp only [Act.put, List.getElem_toArray, List.getElem_cons_zero, List.getElem_cons_succ, List.setIfInBounds_toArray, List.set_cons_zero, List.set_cons_succ]
                  refine wpAnyH_take (i := 25) (v := .agg #[.slice Ai b.items.length ci, .slice (A38) (r38).length (c38)]) rfl (by kernel_rfl) (by kernel_rfl) (by kernel_rfl) (fun _ _ _ h => h) (Or.inl ⟨by rfl, fun w' hw' => ?_⟩) S38.bel ?_
                  · go_simp
                  simp only [Act.put, List.getElem_toArray, List.getElem_cons_zero, List.getElem_cons_succ, List.setIfInBounds_toArray, List.set_cons_zero, List.set_cons_succ]
                  refine wpAnyH_ready (rs := [27]) (by kernel_rfl) (by simp) ?_
                  refine AllReadyH.cons rfl (fun K39 hK39 => ?_) (AllReadyH.nil)
                  obtain rfl : r38 = rr := by rw [HRR.out, ← HR38.out, ← HR29.out, ← HR4.out]
                  obtain ⟨_, _, _, z0, z1, f0, f1⟩ := S38.bxc _ rfl
                  have lz := lt_of_cell z0
                  go_simp
                  have hfin := S38.fin (.slice Ai b.items.length ci) (.slice (A38) (r38).length (c38))
                  refine hK39.out _ _ hfin.2.2.2 (fun _ => ?_)
                  clear hK39 z0 z1 f0 f1 lz
                  refine wpAnyH_done (by kernel_rfl) ?_ _
                  exact ⟨_, ⟨_, A38, c38, .slice (some ⟨V.heap.size, 0, none⟩) 0 0, .slice A4 r4.length c4, .slice A29 r29.length c29, .slice (some ⟨W4.heap.size, 0, none⟩) 1 1, rfl, hfin⟩, by simp only [outFrame, List.foldl_cons, List.foldl_nil, Act.put, List.setIfInBounds_toArray, List.set_cons_zero, List.set_cons_succ]⟩
              · go_simp
                refine hK28.out _ _ (S27.boxd rfl).bel (fun _ => ?_)
                clear hK28
                refine wpAnyH_abs (I := Sx 58 7 crtLs V (A4) (c4) (r4) (some W4.heap.size) q (some W27.heap.size)) (S27.boxd rfl) (fun W41 S41 => ?_)
                try simp only [Act.put, List.getElem_toArray, List.getElem_cons_zero, List.getElem_cons_succ, List.setIfInBounds_toArray, List.set_cons_zero, List.set_cons_succ]
                refine wpAnyH_ready (rs := [12]) (by kernel_rfl) (by simp) ?_
                refine AllReadyH.cons rfl (fun K42 hK42 => ?_) (AllReadyH.nil)
                refine step_app (by rfl) _ _ 23 (by rfl) S41 (by rfl) (some ⟨Bc, Co, none⟩) cc (L2) (by rfl) (fun e => by cases e) (HS2.out _ S41.bel) und23e hi0 hz0 hz1 hz2 rfl (by omega) (fun _ => rfl) crtLs_one (by omega) (by first | omega | (simp; omega)) ?_
                intro A43 c43 W43 S43
                generalize hr43 : r4 ++ L2 = r43 at S43 ⊢
                have HR43 := Lib.hid hr43
                clear hr43
                have hl43 : r43.length ≤ 0 + L1.length + L2.length := by have := congrArg List.length HR43.out; (try simp at this); (try simp); omega
                refine hK42.out _ _ S43.bel (fun _ => ?_)
                clear hK42
                try simp only [Act.put, List.getElem_toArray, List.getElem_cons_zero, List.getElem_cons_succ, List.setIfInBounds_toArray, List.set_cons_zero, List.set_cons_succ]
                refine wpAnyH_ready (rs := [24]) (by kernel_rfl) (by simp) ?_
                refine AllReadyH.cons rfl (fun K44 hK44 => ?_) (AllReadyH.nil)
                refine step_app (by rfl) _ _ 23 (by rfl) S43 (by rfl) (some ⟨W4.heap.size, 0, none⟩) 1 ([q]) (by rfl) (fun e => by cases e) (S43.src1) und23e hi0 hz0 hz1 hz2 rfl (by omega) (fun _ => rfl) crtLs_one (by omega) (by first | omega | (simp; omega)) ?_
                intro A45 c45 W45 S45
                generalize hr45 : r43 ++ [q] = r45 at S45 ⊢
                have HR45 := Lib.hid hr45
                clear hr45
                have hl45 : r45.length ≤ 0 + L1.length + L2.length + [q].length := by have := congrArg List.length HR45.out; (try simp at this); (try simp); omega
                simp only [List.length_singleton] at hl45
                refine hK44.out _ _ S45.bel (fun _ => ?_)
                clear hK44
                try simp only [Act.put, List.getElem_toArray, List.getElem_cons_zero, List.getElem_cons_succ, List.setIfInBounds_toArray, List.set_cons_zero, List.set_cons_succ]
                refine wpAnyH_take (i := 25) (v := .agg #[.slice Ai b.items.length ci, .slice (A45) (r45).length (c45)]) rfl (by kernel_rfl) (by kernel_rfl) (by kernel_rfl) (fun _ _ _ h => h) (Or.inl ⟨by rfl, fun w' hw' => ?_⟩) S45.bel ?_
                · go_simp
                simp only [Act.put, List.getElem_toArray, List.getElem_cons_zero, List.getElem_cons_succ, List.setIfInBounds_toArray, List.set_cons_zero, List.set_cons_succ]
                refine wpAnyH_ready (rs := [27]) (by kernel_rfl) (by simp) ?_
                refine AllReadyH.cons rfl (fun K46 hK46 => ?_) (AllReadyH.nil)
                obtain rfl : r45 = rr := by rw [HRR.out, ← HR45.out, ← HR43.out, ← HR4.out]
                obtain ⟨_, _, _, z0, z1, f0, f1⟩ := S45.bxc _ rfl
                have lz := lt_of_cell z0
                go_simp
                have hfin := S45.fin (.slice Ai b.items.length ci) (.slice (A45) (r45).length (c45))
                refine hK46.out _ _ hfin.2.2.2 (fun _ => ?_)
                clear hK46 z0 z1 f0 f1 lz
                refine wpAnyH_done (by kernel_rfl) ?_ _
                exact ⟨_, ⟨_, A45, c45, .slice (some ⟨V.heap.size, 0, none⟩) 0 0, .slice A4 r4.length c4, .slice A43 r43.length c43, .slice (some ⟨W4.heap.size, 0, none⟩) 1 1, rfl, hfin⟩, by simp only [outFrame, List.foldl_cons, List.foldl_nil, Act.put, List.setIfInBounds_toArray, List.set_cons_zero, List.set_cons_succ]⟩
            · go_simp
              refine hK5.out _ _ (S4.boxd rfl).bel (fun _ => ?_)
              clear hK5
              refine wpAnyH_abs (I := Sx 58 7 crtLs V (A4) (c4) (r4) (none) q (some W4.heap.size)) (S4.boxd rfl) (fun W48 S48 => ?_)
              try simp only [Act.put, List.getElem_toArray, List.getElem_cons_zero, List.getElem_cons_succ, List.setIfInBounds_toArray, List.set_cons_zero, List.set_cons_succ]
              refine wpAnyH_ready (rs := [12, 23]) (by kernel_rfl) (by simp) ?_
              refine AllReadyH.cons rfl (fun K49 hK49 => ?_) (AllReadyH.cons rfl (fun K49 hK49 => ?_) (AllReadyH.nil))
              · refine step_app (by rfl) _ _ 23 (by rfl) S48 (by rfl) (some ⟨Bc, Co, none⟩) cc (L2) (by rfl) (fun e => by cases e) (HS2.out _ S48.bel) und23e hi0 hz0 hz1 hz2 rfl (by omega) (fun _ => rfl) crtLs_one (by omega) (by first | omega | (simp; omega)) ?_
                intro A50 c50 W50 S50
                generalize hr50 : r4 ++ L2 = r50 at S50 ⊢
                have HR50 := Lib.hid hr50
                clear hr50
                have hl50 : r50.length ≤ 0 + L1.length + L2.length := by have := congrArg List.length HR50.out; (try simp at this); (try simp); omega
                refine hK49.out _ _ S50.bel (fun _ => ?_)
                clear hK49
                try simp only [Act.put, List.getElem_toArray, List.getElem_cons_zero, List.getElem_cons_succ, List.setIfInBounds_toArray, List.set_cons_zero, List.set_cons_succ]
                refine wpAnyH_ready (rs := [23]) (by kernel_rfl) (by simp) ?_
                refine AllReadyH.cons rfl (fun K51 hK51 => ?_) (AllReadyH.nil)
                go_simp
                refine hK51.out _ _ (S50.elem rfl rfl).bel (fun _ => ?_)
                clear hK51
                refine wpAnyH_abs (I := Sx 58 7 crtLs V (A50) (c50) (r50) (some W50.heap.size) q (some W4.heap.size)) (S50.elem rfl rfl) (fun W52 S52 => ?_)
                try simp only [Act.put, List.getElem_toArray, List.getElem_cons_zero, List.getElem_cons_succ, List.setIfInBounds_toArray, List.set_cons_zero, List.set_cons_succ]
                refine wpAnyH_ready (rs := [24]) (by kernel_rfl) (by simp) ?_
                refine AllReadyH.cons rfl (fun K53 hK53 => ?_) (AllReadyH.nil)
                refine step_app (by rfl) _ _ 23 (by rfl) S52 (by rfl) (some ⟨W50.heap.size, 0, none⟩) 1 ([q]) (by rfl) (fun e => by cases e) (S52.src1) und23e hi0 hz0 hz1 hz2 rfl (by omega) (fun _ => rfl) crtLs_one (by omega) (by first | omega | (simp; omega)) ?_
                intro A54 c54 W54 S54
                generalize hr54 : r50 ++ [q] = r54 at S54 ⊢
                have HR54 := Lib.hid hr54
                clear hr54
                have hl54 : r54.length ≤ 0 + L1.length + L2.length + [q].length := by have := congrArg List.length HR54.out; (try simp at this); (try simp); omega
                simp only [List.length_singleton] at hl54
                refine hK53.out _ _ S54.bel (fun _ => ?_)
                clear hK53
                try simp only [Act.put, List.getElem_toArray, List.getElem_cons_zero, List.getElem_cons_succ, List.setIfInBounds_toArray, List.set_cons_zero, List.set_cons_succ]
                refine wpAnyH_take (i := 25) (v := .agg #[.slice Ai b.items.length ci, .slice (A54) (r54).length (c54)]) rfl (by kernel_rfl) (by kernel_rfl) (by kernel_rfl) (fun _ _ _ h => h) (Or.inl ⟨by rfl, fun w' hw' => ?_⟩) S54.bel ?_
                · go_simp
                simp only [Act.put, List.getElem_toArray, List.getElem_cons_zero, List.getElem_cons_succ, List.setIfInBounds_toArray, List.set_cons_zero, List.set_cons_succ]
                refine wpAnyH_ready (rs := [27]) (by kernel_rfl) (by simp) ?_
                refine AllReadyH.cons rfl (fun K55 hK55 => ?_) (AllReadyH.nil)
                obtain rfl : r54 = rr := by rw [HRR.out, ← HR54.out, ← HR50.out, ← HR4.out]
                obtain ⟨_, _, _, z0, z1, f0, f1⟩ := S54.bxc _ rfl
                have lz := lt_of_cell z0
                go_simp
                have hfin := S54.fin (.slice Ai b.items.length ci) (.slice (A54) (r54).length (c54))
                refine hK55.out _ _ hfin.2.2.2 (fun _ => ?_)
                clear hK55 z0 z1 f0 f1 lz
                refine wpAnyH_done (by kernel_rfl) ?_ _
                exact ⟨_, ⟨_, A54, c54, .slice (some ⟨V.heap.size, 0, none⟩) 0 0, .slice A4 r4.length c4, .slice A50 r50.length c50, .slice (some ⟨W50.heap.size, 0, none⟩) 1 1, rfl, hfin⟩, by simp only [outFrame, List.foldl_cons, List.foldl_nil, Act.put, List.setIfInBounds_toArray, List.set_cons_zero, List.set_cons_succ]⟩
              · go_simp
                refine hK49.out _ _ (S48.elem rfl rfl).bel (fun _ => ?_)
                clear hK49
                refine wpAnyH_abs (I := Sx 58 7 crtLs V (A4) (c4) (r4) (some W48.heap.size) q (some W4.heap.size)) (S48.elem rfl rfl) (fun W57 S57 => ?_)
                try simp only [Act.put, List.getElem_toArray, List.getElem_cons_zero, List.getElem_cons_succ, List.setIfInBounds_toArray, List.set_cons_zero, List.set_cons_succ]
                refine wpAnyH_ready (rs := [12]) (by kernel_rfl) (by simp) ?_
                refine AllReadyH.cons rfl (fun K58 hK58 => ?_) (AllReadyH.nil)
                refine step_app (by rfl) _ _ 23 (by rfl) S57 (by rfl) (some ⟨Bc, Co, none⟩) cc (L2) (by rfl) (fun e => by cases e) (HS2.out _ S57.bel) und23e hi0 hz0 hz1 hz2 rfl (by omega) (fun _ => rfl) crtLs_one (by omega) (by first | omega | (simp; omega)) ?_
                intro A59 c59 W59 S59
                generalize hr59 : r4 ++ L2 = r59 at S59 ⊢
                have HR59 := Lib.hid hr59
                clear hr59
                have hl59 : r59.length ≤ 0 + L1.length + L2.length := by have := congrArg List.length HR59.out; (try simp at this); (try simp); omega
                refine hK58.out _ _ S59.bel (fun _ => ?_)
                clear hK58
                try simp only [Act.put, List.getElem_toArray, List.getElem_cons_zero, List.getElem_cons_succ, List.setIfInBounds_toArray, List.set_cons_zero, List.set_cons_succ]
                refine wpAnyH_ready (rs := [24]) (by kernel_rfl) (by simp) ?_
                refine AllReadyH.cons rfl (fun K60 hK60 => ?_) (AllReadyH.nil)
                refine step_app (by rfl) _ _ 23 (by rfl) S59 (by rfl) (some ⟨W48.heap.size, 0, none⟩) 1 ([q]) (by rfl) (fun e => by cases e) (S59.src1) und23e hi0 hz0 hz1 hz2 rfl (by omega) (fun _ => rfl) crtLs_one (by omega) (by first | omega | (simp; omega)) ?_
                intro A61 c61 W61 S61
                generalize hr61 : r59 ++ [q] = r61 at S61 ⊢
                have HR61 := Lib.hid hr61
                clear hr61
                have hl61 : r61.length ≤ 0 + L1.length + L2.length + [q].length := by have := congrArg List.length HR61.out; (try simp at this); (try simp); omega
                simp only [List.length_singleton] at hl61
                refine hK60.out _ _ S61.bel (fun _ => ?_)
                clear hK60
                try simp only [Act.put, List.getElem_toArray, List.getElem_cons_zero, List.getElem_cons_succ, List.setIfInBounds_toArray, List.set_cons_zero, List.set_cons_succ]
                refine wpAnyH_take (i := 25) (v := .agg #[.slice Ai b.items.length ci, .slice (A61) (r61).length (c61)]) rfl (by kernel_rfl) (by kernel_rfl) (by kernel_rfl) (fun _ _ _ h => h) (Or.inl ⟨by rfl, fun w' hw' => ?_⟩) S61.bel ?_
                · go_simp
                simp only [Act.put, List.getElem_toArray, List.getElem_cons_zero, List.getElem_cons_succ, List.setIfInBounds_toArray, List.set_cons_zero, List.set_cons_succ]
                refine wpAnyH_ready (rs := [27]) (by kernel_rfl) (by simp) ?_
                refine AllReadyH.cons rfl (fun K62 hK62 => ?_) (AllReadyH.nil)
                obtain rfl : r61 = rr := by rw [HRR.out, ← HR61.out, ← HR59.out, ← HR4.out]
                obtain ⟨_, _, _, z0, z1, f0, f1⟩ := S61.bxc _ rfl
                have lz := lt_of_cell z0
                go_simp
                have hfin := S61.fin (.slice Ai b.items.length ci) (.slice (A61) (r61).length (c61))
                refine hK62.out _ _ hfin.2.2.2 (fun _ => ?_)
                clear hK62 z0 z1 f0 f1 lz
                refine wpAnyH_done (by kernel_rfl) ?_ _
                exact ⟨_, ⟨_, A61, c61, .slice (some ⟨V.heap.size, 0, none⟩) 0 0, .slice A4 r4.length c4, .slice A59 r59.length c59, .slice (some ⟨W48.heap.size, 0, none⟩) 1 1, rfl, hfin⟩, by simp only [outFrame, List.foldl_cons, List.foldl_nil, Act.put, List.setIfInBounds_toArray, List.set_cons_zero, List.set_cons_succ]⟩
          · go_simp
            refine hK3.out _ _ (S2.elem rfl rfl).bel (fun _ => ?_)
            clear hK3
            refine wpAnyH_abs (I := Sx 58 7 crtLs V (some ⟨V.heap.size, 0, none⟩) (0) ([]) (some W2.heap.size) q (none)) (S2.elem rfl rfl) (fun W64 S64 => ?_)
            try simp only [Act.put, List.getElem_toArray, List.getElem_cons_zero, List.getElem_cons_succ, List.setIfInBounds_toArray, List.set_cons_zero, List.set_cons_succ]
            refine wpAnyH_ready (rs := [7, 26]) (by kernel_rfl) (by simp) ?_
            refine AllReadyH.cons rfl (fun K65 hK65 => ?_) (AllReadyH.cons rfl (fun K65 hK65 => ?_) (AllReadyH.nil))
            · refine step_app (by rfl) _ _ 23 (by rfl) S64 (by rfl) (some ⟨Bc, Co + t * 7, none⟩) d1 (L1) (by rfl) (fun e => by cases e) (HS1.out _ S64.bel) und23e hi0 hz0 hz1 hz2 rfl (by omega) (fun _ => rfl) crtLs_one (by omega) (by first | omega | (simp; omega)) ?_
              intro A66 c66 W66 S66
              generalize hr66 : [] ++ L1 = r66 at S66 ⊢
              have HR66 := Lib.hid hr66
              clear hr66
              have hl66 : r66.length ≤ 0 + L1.length := by have := congrArg List.length HR66.out; (try simp at this); (try simp); omega
              refine hK65.out _ _ S66.bel (fun _ => ?_)
              clear hK65
              try simp only [Act.put, List.getElem_toArray, List.getElem_cons_zero, List.getElem_cons_succ, List.setIfInBounds_toArray, List.set_cons_zero, List.set_cons_succ]
              refine wpAnyH_ready (rs := [12, 26]) (by kernel_rfl) (by simp) ?_
              refine AllReadyH.cons rfl (fun K67 hK67 => ?_) (AllReadyH.cons rfl (fun K67 hK67 => ?_) (AllReadyH.nil))
              · refine step_app (by rfl) _ _ 23 (by rfl) S66 (by rfl) (some ⟨Bc, Co, none⟩) cc (L2) (by rfl) (fun e => by cases e) (HS2.out _ S66.bel) und23e hi0 hz0 hz1 hz2 rfl (by omega) (fun _ => rfl) crtLs_one (by omega) (by first | omega | (simp; omega)) ?_
                intro A68 c68 W68 S68
                generalize hr68 : r66 ++ L2 = r68 at S68 ⊢
                have HR68 := Lib.hid hr68
                clear hr68
                have hl68 : r68.length ≤ 0 + L1.length + L2.length := by have := congrArg List.length HR68.out; (try simp at this); (try simp); omega
                refine hK67.out _ _ S68.bel (fun _ => ?_)
                clear hK67
                try simp only [Act.put, List.getElem_toArray, List.getElem_cons_zero, List.getElem_cons_succ, List.setIfInBounds_toArray, List.set_cons_zero, List.set_cons_succ]
                refine wpAnyH_ready (rs := [24, 26]) (by kernel_rfl) (by simp) ?_
                refine AllReadyH.cons rfl (fun K69 hK69 => ?_) (AllReadyH.cons rfl (fun K69 hK69 => ?_) (AllReadyH.nil))
                · refine step_app (by rfl) _ _ 23 (by rfl) S68 (by rfl) (some ⟨W2.heap.size, 0, none⟩) 1 ([q]) (by rfl) (fun e => by cases e) (S68.src1) und23e hi0 hz0 hz1 hz2 rfl (by omega) (fun _ => rfl) crtLs_one (by omega) (by first | omega | (simp; omega)) ?_
                  intro A70 c70 W70 S70
                  generalize hr70 : r68 ++ [q] = r70 at S70 ⊢
                  have HR70 := Lib.hid hr70
                  clear hr70
                  have hl70 : r70.length ≤ 0 + L1.length + L2.length + [q].length := by have := congrArg List.length HR70.out; (try simp at this); (try simp); omega
                  simp only [List.length_singleton] at hl70
                  refine hK69.out _ _ S70.bel (fun _ => ?_)
                  clear hK69
                  try simp only [Act.put, List.getElem_toArray, List.getElem_cons_zero, List.getElem_cons_succ, List.setIfInBounds_toArray, List.set_cons_zero, List.set_cons_succ]
                  refine wpAnyH_take (i := 25) (v := .agg #[.slice Ai b.items.length ci, .slice (A70) (r70).length (c70)]) rfl (by kernel_rfl) (by kernel_rfl) (by kernel_rfl) (fun _ _ _ h => h) (Or.inl ⟨by rfl, fun w' hw' => ?_⟩) S70.bel ?_
                  · go_simp
                  simp only [Act.put, List.getElem_toArray, List.getElem_cons_zero, List.getElem_cons_succ, List.setIfInBounds_toArray, List.set_cons_zero, List.set_cons_succ]
                  refine wpAnyH_ready (rs := [26]) (by kernel_rfl) (by simp) ?_
                  refine AllReadyH.cons rfl (fun K71 hK71 => ?_) (AllReadyH.nil)
                  go_simp
                  refine hK71.out _ _ (S70.boxd rfl).bel (fun _ => ?_)
                  clear hK71
                  refine wpAnyH_abs (I := Sx 58 7 crtLs V (A70) (c70) (r70) (some W2.heap.size) q (some W70.heap.size)) (S70.boxd rfl) (fun W72 S72 => ?_)
                  try simp only [Act.put, List.getElem_toArray, List.getElem_cons_zero, List.getElem_cons_succ, List.setIfInBounds_toArray, List.set_cons_zero, List.set_cons_succ]
                  refine wpAnyH_ready (rs := [27]) (by kernel_rfl) (by simp) ?_
                  refine AllReadyH.cons rfl (fun K73 hK73 => ?_) (AllReadyH.nil)
                  obtain rfl : r70 = rr := by rw [HRR.out, ← HR70.out, ← HR68.out, ← HR66.out]
                  obtain ⟨_, _, _, z0, z1, f0, f1⟩ := S72.bxc _ rfl
                  have lz := lt_of_cell z0
                  go_simp
                  have hfin := S72.fin (.slice Ai b.items.length ci) (.slice (A70) (r70).length (c70))
                  refine hK73.out _ _ hfin.2.2.2 (fun _ => ?_)
                  clear hK73 z0 z1 f0 f1 lz
                  refine wpAnyH_done (by kernel_rfl) ?_ _
                  exact ⟨_, ⟨_, A70, c70, .slice (some ⟨V.heap.size, 0, none⟩) 0 0, .slice A66 r66.length c66, .slice A68 r68.length c68, .slice (some ⟨W2.heap.size, 0, none⟩) 1 1, rfl, hfin⟩, by simp only [outFrame, List.foldl_cons, List.foldl_nil, Act.put, List.setIfInBounds_toArray, List.set_cons_zero, List.set_cons_succ]⟩
                · go_simp
                  refine hK69.out _ _ (S68.boxd rfl).bel (fun _ => ?_)
                  clear hK69
                  refine wpAnyH_abs (I := Sx 58 7 crtLs V (A68) (c68) (r68) (some W2.heap.size) q (some W68.heap.size)) (S68.boxd rfl) (fun W75 S75 => ?_)
                  try simp only [Act.put, List.getElem_toArray, List.getElem_cons_zero, List.getElem_cons_succ, List.setIfInBounds_toArray, List.set_cons_zero, List.set_cons_succ]
                  refine wpAnyH_ready (rs := [24]) (by kernel_rfl) (by simp) ?_
                  refine AllReadyH.cons rfl (fun K76 hK76 => ?_) (AllReadyH.nil)
                  refine step_app (by rfl) _ _ 23 (by rfl) S75 (by rfl) (some ⟨W2.heap.size, 0, none⟩) 1 ([q]) (by rfl) (fun e => by cases e) (S75.src1) und23e hi0 hz0 hz1 hz2 rfl (by omega) (fun _ => rfl) crtLs_one (by omega) (by first | omega | (simp; omega)) ?_
                  intro A77 c77 W77 S77
                  generalize hr77 : r68 ++ [q] = r77 at S77 ⊢
                  have HR77 := Lib.hid hr77
                  clear hr77
                  have hl77 : r77.length ≤ 0 + L1.length + L2.length + [q].length := by have := congrArg List.length HR77.out; (try simp at this); (try simp); omega
                  simp only [List.length_singleton] at hl77
                  refine hK76.out _ _ S77.bel (fun _ => ?_)
                  clear hK76
                  try simp only [Act.put, List.getElem_toArray, List.getElem_cons_zero, List.getElem_cons_succ, List.setIfInBounds_toArray, List.set_cons_zero, List.set_cons_succ]
                  refine wpAnyH_take (i := 25) (v := .agg #[.slice Ai b.items.length ci, .slice (A77) (r77).length (c77)]) rfl (by kernel_rfl) (by kernel_rfl) (by kernel_rfl) (fun _ _ _ h => h) (Or.inl ⟨by rfl, fun w' hw' => ?_⟩) S77.bel ?_
                  · go_simp
                  simp only [Act.put, List.getElem_toArray, List.getElem_cons_zero, List.getElem_cons_succ, List.setIfInBounds_toArray, List.set_cons_zero, List.set_cons_succ]
                  refine wpAnyH_ready (rs := [27]) (by kernel_rfl) (by simp) ?_
                  refine AllReadyH.cons rfl (fun K78 hK78 => ?_) (AllReadyH.nil)
                  obtain rfl : r77 = rr := by rw [HRR.out, ← HR77.out, ← HR68.out, ← HR66.out]
                  obtain ⟨_, _, _, z0, z1, f0, f1⟩ := S77.bxc _ rfl
                  have lz := lt_of_cell z0
                  go_simp
                  have hfin := S77.fin (.slice Ai b.items.length ci) (.slice (A77) (r77).length (c77))
                  refine hK78.out _ _ hfin.2.2.2 (fun _ => ?_)
                  clear hK78 z0 z1 f0 f1 lz
                  refine wpAnyH_done (by kernel_rfl) ?_ _
                  exact ⟨_, ⟨_, A77, c77, .slice (some ⟨V.heap.size, 0, none⟩) 0 0, .slice A66 r66.length c66, .slice A68 r68.length c68, .slice (some ⟨W2.heap.size, 0, none⟩) 1 1, rfl, hfin⟩, by simp only [outFrame, List.foldl_cons, List.foldl_nil, Act.put, List.setIfInBounds_toArray, List.set_cons_zero, List.set_cons_succ]⟩
              · go_simp
                refine hK67.out _ _ (S66.boxd rfl).bel (fun _ => ?_)
                clear hK67
                refine wpAnyH_abs (I := Sx 58 7 crtLs V (A66) (c66) (r66) (some W2.heap.size) q (some W66.heap.size)) (S66.boxd rfl) (fun W80 S80 => ?_)
                try simp only [Act.put, List.getElem_toArray, List.getElem_cons_zero, List.getElem_cons_succ, List.setIfInBounds_toArray, List.set_cons_zero, List.set_cons_succ]
                refine wpAnyH_ready (rs := [12]) (by kernel_rfl) (by simp) ?_
                refine AllReadyH.cons rfl (fun K81 hK81 => ?_) (AllReadyH.nil)
                refine step_app (by rfl) _ _ 23 (by rfl) S80 (by rfl) (some ⟨Bc, Co, none⟩) cc (L2) (by rfl) (fun e => by cases e) (HS2.out _ S80.bel) und23e hi0 hz0 hz1 hz2 rfl (by omega) (fun _ => rfl) crtLs_one (by omega) (by first | omega | (simp; omega)) ?_
                intro A82 c82 W82 S82
                generalize hr82 : r66 ++ L2 = r82 at S82 ⊢
                have HR82 := Lib.hid hr82
                clear hr82
                have hl82 : r82.length ≤ 0 + L1.length + L2.length := by have := congrArg List.length HR82.out; (try simp at this); (try simp); omega
                refine hK81.out _ _ S82.bel (fun _ => ?_)
                clear hK81
                try simp only [Act.put, List.getElem_toArray, List.getElem_cons_zero, List.getElem_cons_succ, List.setIfInBounds_toArray, List.set_cons_zero, List.set_cons_succ]
                refine wpAnyH_ready (rs := [24]) (by kernel_rfl) (by simp) ?_
                refine AllReadyH.cons rfl (fun K83 hK83 => ?_) (AllReadyH.nil)
                refine step_app (by rfl) _ _ 23 (by rfl) S82 (by rfl) (some ⟨W2.heap.size, 0, none⟩) 1 ([q]) (by rfl) (fun e => by cases e) (S82.src1) und23e hi0 hz0 hz1 hz2 rfl (by omega) (fun _ => rfl) crtLs_one (by omega) (by first | omega | (simp; omega)) ?_
                intro A84 c84 W84 S84
                generalize hr84 : r82 ++ [q] = r84 at S84 ⊢
                have HR84 := Lib.hid hr84
                clear hr84
                have hl84 : r84.length ≤ 0 + L1.length + L2.length + [q].length := by have := congrArg List.length HR84.out; (try simp at this); (try simp); omega
                simp only [List.length_singleton] at hl84
                refine hK83.out _ _ S84.bel (fun _ => ?_)
                clear hK83
                try simp only [Act.put, List.getElem_toArray, List.getElem_cons_zero, List.getElem_cons_succ, List.setIfInBounds_toArray, List.set_cons_zero, List.set_cons_succ]
                refine wpAnyH_take (i := 25) (v := .agg #[.slice Ai b.items.length ci, .slice (A84) (r84).length (c84)]) rfl (by kernel_rfl) (by kernel_rfl) (by kernel_rfl) (fun _ _ _ h => h) (Or.inl ⟨by rfl, fun w' hw' => ?_⟩) S84.bel ?_
                · go_simp
                simp only [Act.put, List.getElem_toArray, List.getElem_cons_zero, List.getElem_cons_succ, List.setIfInBounds_toArray, List.set_cons_zero, List.set_cons_succ]
                refine wpAnyH_ready (rs := [27]) (by kernel_rfl) (by simp) ?_
                refine AllReadyH.cons rfl (fun K85 hK85 => ?_) (AllReadyH.nil)
                obtain rfl : r84 = rr := by rw [HRR.out, ← HR84.out, ← HR82.out, ← HR66.out]
                obtain ⟨_, _, _, z0, z1, f0, f1⟩ := S84.bxc _ rfl
                have lz := lt_of_cell z0
                go_simp
                have hfin := S84.fin (.slice Ai b.items.length ci) (.slice (A84) (r84).length (c84))
                refine hK85.out _ _ hfin.2.2.2 (fun _ => ?_)
                clear hK85 z0 z1 f0 f1 lz
                refine wpAnyH_done (by kernel_rfl) ?_ _
                exact ⟨_, ⟨_, A84, c84, .slice (some ⟨V.heap.size, 0, none⟩) 0 0, .slice A66 r66.length c66, .slice A82 r82.length c82, .slice (some ⟨W2.heap.size, 0, none⟩) 1 1, rfl, hfin⟩, by simp only [outFrame, List.foldl_cons, List.foldl_nil, Act.put, List.setIfInBounds_toArray, List.set_cons_zero, List.set_cons_succ]⟩
            · go_simp
              refine hK65.out _ _ (S64.boxd rfl).bel (fun _ => ?_)
              clear hK65
              refine wpAnyH_abs (I := Sx 58 7 crtLs V (some ⟨V.heap.size, 0, none⟩) (0) ([]) (some W2.heap.size) q (some W64.heap.size)) (S64.boxd rfl) (fun W87 S87 => ?_)
              try simp only [Act.put, List.getElem_toArray, List.getElem_cons_zero, List.getElem_cons_succ, List.setIfInBounds_toArray, List.set_cons_zero, List.set_cons_succ]
              refine wpAnyH_ready (rs := [7]) (by kernel_rfl) (by simp) ?_
              refine AllReadyH.cons rfl (fun K88 hK88 => ?_) (AllReadyH.nil)
              refine step_app (by rfl) _ _ 23 (by rfl) S87 (by rfl) (some ⟨Bc, Co + t * 7, none⟩) d1 (L1) (by rfl) (fun e => by cases e) (HS1.out _ S87.bel) und23e hi0 hz0 hz1 hz2 rfl (by omega) (fun _ => rfl) crtLs_one (by omega) (by first | omega | (simp; omega)) ?_
              intro A89 c89 W89 S89
              generalize hr89 : [] ++ L1 = r89 at S89 ⊢
              have HR89 := Lib.hid hr89
              clear hr89
              have hl89 : r89.length ≤ 0 + L1.length := by have := congrArg List.length HR89.out; (try simp at this); (try simp); omega
              refine hK88.out _ _ S89.bel (fun _ => ?_)
              clear hK88
              try simp only [Act.put, List.getElem_toArray, List.getElem_cons_zero, List.getElem_cons_succ, List.setIfInBounds_toArray, List.set_cons_zero, List.set_cons_succ]
              refine wpAnyH_ready (rs := [12]) (by kernel_rfl) (by simp) ?_
              refine AllReadyH.cons rfl (fun K90 hK90 => ?_) (AllReadyH.nil)
              refine step_app (by rfl) _ _ 23 (by rfl) S89 (by rfl) (some ⟨Bc, Co, none⟩) cc (L2) (by rfl) (fun e => by cases e) (HS2.out _ S89.bel) und23e hi0 hz0 hz1 hz2 rfl (by omega) (fun _ => rfl) crtLs_one (by omega) (by first | omega | (simp; omega)) ?_
              intro A91 c91 W91 S91
              generalize hr91 : r89 ++ L2 = r91 at S91 ⊢
              have HR91 := Lib.hid hr91
              clear hr91
              have hl91 : r91.length ≤ 0 + L1.length + L2.length := by have := congrArg List.length HR91.out; (try simp at this); (try simp); omega
              refine hK90.out _ _ S91.bel (fun _ => ?_)
              clear hK90
              try simp only [Act.put, List.getElem_toArray, List.getElem_cons_zero, List.getElem_cons_succ, List.setIfInBounds_toArray, List.set_cons_zero, List.set_cons_succ]
              refine wpAnyH_ready (rs := [24]) (by kernel_rfl) (by simp) ?_
              refine AllReadyH.cons rfl (fun K92 hK92 => ?_) (AllReadyH.nil)
              refine step_app (by rfl) _ _ 23 (by rfl) S91 (by rfl) (some ⟨W2.heap.size, 0, none⟩) 1 ([q]) (by rfl) (fun e => by cases e) (S91.src1) und23e hi0 hz0 hz1 hz2 rfl (by omega) (fun _ => rfl) crtLs_one (by omega) (by first | omega | (simp; omega)) ?_
              intro A93 c93 W93 S93
              generalize hr93 : r91 ++ [q] = r93 at S93 ⊢
              have HR93 := Lib.hid hr93
              clear hr93
              have hl93 : r93.length ≤ 0 + L1.length + L2.length + [q].length := by have := congrArg List.length HR93.out; (try simp at this); (try simp); omega
              simp only [List.length_singleton] at hl93
              refine hK92.out _ _ S93.bel (fun _ => ?_)
              clear hK92
              try simp only [Act.put, List.getElem_toArray, List.getElem_cons_zero, List.getElem_cons_succ, List.setIfInBounds_toArray, List.set_cons_zero, List.set_cons_succ]
              refine wpAnyH_take (i := 25) (v := .agg #[.slice Ai b.items.length ci, .slice (A93) (r93).length (c93)]) rfl (by kernel_rfl) (by kernel_rfl) (by kernel_rfl) (fun _ _ _ h => h) (Or.inl ⟨by rfl, fun w' hw' => ?_⟩) S93.bel ?_
              · go_simp
              simp only [Act.put, List.getElem_toArray, List.getElem_cons_zero, List.getElem_cons_succ, List.setIfInBounds_toArray, List.set_cons_zero, List.set_cons_succ]
              refine wpAnyH_ready (rs := [27]) (by kernel_rfl) (by simp) ?_
              refine AllReadyH.cons rfl (fun K94 hK94 => ?_) (AllReadyH.nil)
              obtain rfl : r93 = rr := by rw [HRR.out, ← HR93.out, ← HR91.out, ← HR89.out]
              obtain ⟨_, _, _, z0, z1, f0, f1⟩ := S93.bxc _ rfl
              have lz := lt_of_cell z0
              go_simp
              have hfin := S93.fin (.slice Ai b.items.length ci) (.slice (A93) (r93).length (c93))
              refine hK94.out _ _ hfin.2.2.2 (fun _ => ?_)
              clear hK94 z0 z1 f0 f1 lz
              refine wpAnyH_done (by kernel_rfl) ?_ _
              exact ⟨_, ⟨_, A93, c93, .slice (some ⟨V.heap.size, 0, none⟩) 0 0, .slice A89 r89.length c89, .slice A91 r91.length c91, .slice (some ⟨W2.heap.size, 0, none⟩) 1 1, rfl, hfin⟩, by simp only [outFrame, List.foldl_cons, List.foldl_nil, Act.put, List.setIfInBounds_toArray, List.set_cons_zero, List.set_cons_succ]⟩
          · go_simp
            refine hK3.out _ _ (S2.boxd rfl).bel (fun _ => ?_)
            clear hK3
            refine wpAnyH_abs (I := Sx 58 7 crtLs V (some ⟨V.heap.size, 0, none⟩) (0) ([]) (none) q (some W2.heap.size)) (S2.boxd rfl) (fun W96 S96 => ?_)
            try simp only [Act.put, List.getElem_toArray, List.getElem_cons_zero, List.getElem_cons_succ, List.setIfInBounds_toArray, List.set_cons_zero, List.set_cons_succ]
            refine wpAnyH_ready (rs := [7, 23]) (by kernel_rfl) (by simp) ?_
            refine AllReadyH.cons rfl (fun K97 hK97 => ?_) (AllReadyH.cons rfl (fun K97 hK97 => ?_) (AllReadyH.nil))
            · refine step_app (by rfl) _ _ 23 (by rfl) S96 (by rfl) (some ⟨Bc, Co + t * 7, none⟩) d1 (L1) (by rfl) (fun e => by cases e) (HS1.out _ S96.bel) und23e hi0 hz0 hz1 hz2 rfl (by omega) (fun _ => rfl) crtLs_one (by omega) (by first | omega | (simp; omega)) ?_
              intro A98 c98 W98 S98
              generalize hr98 : [] ++ L1 = r98 at S98 ⊢
              have HR98 := Lib.hid hr98
              clear hr98
              have hl98 : r98.length ≤ 0 + L1.length := by have := congrArg List.length HR98.out; (try simp at this); (try simp); omega
              refine hK97.out _ _ S98.bel (fun _ => ?_)
              clear hK97
              try simp only [Act.put, List.getElem_toArray, List.getElem_cons_zero, List.getElem_cons_succ, List.setIfInBounds_toArray, List.set_cons_zero, List.set_cons_succ]
              refine wpAnyH_ready (rs := [12, 23]) (by kernel_rfl) (by simp) ?_
              refine AllReadyH.cons rfl (fun K99 hK99 => ?_) (AllReadyH.cons rfl (fun K99 hK99 => ?_) (AllReadyH.nil))
              · refine step_app (by rfl) _ _ 23 (by rfl) S98 (by rfl) (some ⟨Bc, Co, none⟩) cc (L2) (by rfl) (fun e => by cases e) (HS2.out _ S98.bel) und23e hi0 hz0 hz1 hz2 rfl (by omega) (fun _ => rfl) crtLs_one (by omega) (by first | omega | (simp; omega)) ?_
                intro A100 c100 W100 S100
                generalize hr100 : r98 ++ L2 = r100 at S100 ⊢
                have HR100 := Lib.hid hr100
                clear hr100
                have hl100 : r100.length ≤ 0 + L1.length + L2.length := by have := congrArg List.length HR100.out; (try simp at this); (try simp); omega
                refine hK99.out _ _ S100.bel (fun _ => ?_)
                clear hK99
                try simp only [Act.put, List.getElem_toArray, List.getElem_cons_zero, List.getElem_cons_succ, List.setIfInBounds_toArray, List.set_cons_zero, List.set_cons_succ]
                refine wpAnyH_ready (rs := [23]) (by kernel_rfl) (by simp) ?_
                refine AllReadyH.cons rfl (fun K101 hK101 => ?_) (AllReadyH.nil)
                go_simp
                refine hK101.out _ _ (S100.elem rfl rfl).bel (fun _ => ?_)
                clear hK101
                refine wpAnyH_abs (I := Sx 58 7 crtLs V (A100) (c100) (r100) (some W100.heap.size) q (some W2.heap.size)) (S100.elem rfl rfl) (fun W102 S102 => ?_)
                try simp only [Act.put, List.getElem_toArray, List.getElem_cons_zero, List.getElem_cons_succ, List.setIfInBounds_toArray, List.set_cons_zero, List.set_cons_succ]
                refine wpAnyH_ready (rs := [24]) (by kernel_rfl) (by simp) ?_
                refine AllReadyH.cons rfl (fun K103 hK103 => ?_) (AllReadyH.nil)
                refine step_app (by rfl) _ _ 23 (by rfl) S102 (by rfl) (some ⟨W100.heap.size, 0, none⟩) 1 ([q]) (by rfl) (fun e => by cases e) (S102.src1) und23e hi0 hz0 hz1 hz2 rfl (by omega) (fun _ => rfl) crtLs_one (by omega) (by first | omega | (simp; omega)) ?_
                intro A104 c104 W104 S104
                generalize hr104 : r100 ++ [q] = r104 at S104 ⊢
                have HR104 := Lib.hid hr104
                clear hr104
                have hl104 : r104.length ≤ 0 + L1.length + L2.length + [q].length := by have := congrArg List.length HR104.out; (try simp at this); (try simp); omega
                simp only [List.length_singleton] at hl104
                refine hK103.out _ _ S104.bel (fun _ => ?_)
                clear hK103
                try simp only [Act.put, List.getElem_toArray, List.getElem_cons_zero, List.getElem_cons_succ, List.setIfInBounds_toArray, List.set_cons_zero, List.set_cons_succ]
                refine wpAnyH_take (i := 25) (v := .agg #[.slice Ai b.items.length ci, .slice (A104) (r104).length (c104)]) rfl (by kernel_rfl) (by kernel_rfl) (by kernel_rfl) (fun _ _ _ h => h) (Or.inl ⟨by rfl, fun w' hw' => ?_⟩) S104.bel ?_
                · go_simp
                simp only [Act.put, List.getElem_toArray, List.getElem_cons_zero, List.getElem_cons_succ, List.setIfInBounds_toArray, List.set_cons_zero, List.set_cons_succ]
                refine wpAnyH_ready (rs := [27]) (by kernel_rfl) (by simp) ?_
                refine AllReadyH.cons rfl (fun K105 hK105 => ?_) (AllReadyH.nil)
                obtain rfl : r104 = rr := by rw [HRR.out, ← HR104.out, ← HR100.out, ← HR98.out]
                obtain ⟨_, _, _, z0, z1, f0, f1⟩ := S104.bxc _ rfl
                have lz := lt_of_cell z0
                go_simp
                have hfin := S104.fin (.slice Ai b.items.length ci) (.slice (A104) (r104).length (c104))
                refine hK105.out _ _ hfin.2.2.2 (fun _ => ?_)
                clear hK105 z0 z1 f0 f1 lz
                refine wpAnyH_done (by kernel_rfl) ?_ _
                exact ⟨_, ⟨_, A104, c104, .slice (some ⟨V.heap.size, 0, none⟩) 0 0, .slice A98 r98.length c98, .slice A100 r100.length c100, .slice (some ⟨W100.heap.size, 0, none⟩) 1 1, rfl, hfin⟩, by simp only [outFrame, List.foldl_cons, List.foldl_nil, Act.put, List.setIfInBounds_toArray, List.set_cons_zero, List.set_cons_succ]⟩
              · go_simp
                refine hK99.out _ _ (S98.elem rfl rfl).bel (fun _ => ?_)
                clear hK99
                refine wpAnyH_abs (I := Sx 58 7 crtLs V (A98) (c98) (r98) (some W98.heap.size) q (some W2.heap.size)) (S98.elem rfl rfl) (fun W107 S107 => ?_)
                try simp only [Act.put, List.getElem_toArray, List.getElem_cons_zero, List.getElem_cons_succ, List.setIfInBounds_toArray, List.set_cons_zero, List.set_cons_succ]
                refine wpAnyH_ready (rs := [12]) (by kernel_rfl) (by simp) ?_
                refine AllReadyH.cons rfl (fun K108 hK108 => ?_) (AllReadyH.nil)
                refine step_app (by rfl) _ _ 23 (by rfl) S107 (by rfl) (some ⟨Bc, Co, none⟩) cc (L2) (by rfl) (fun e => by cases e) (HS2.out _ S107.bel) und23e hi0 hz0 hz1 hz2 rfl (by omega) (fun _ => rfl) crtLs_one (by omega) (by first | omega | (simp; omega)) ?_
                intro A109 c109 W109 S109
                generalize hr109 : r98 ++ L2 = r109 at S109 ⊢
                have HR109 := Lib.hid hr109
                clear hr109
                have hl109 : r109.length ≤ 0 + L1.length + L2.length := by have := congrArg List.length HR109.out; (try simp at this); (try simp); omega
                refine hK108.out _ _ S109.bel (fun _ => ?_)
                clear hK108
                try simp only [Act.put, List.getElem_toArray, List.getElem_cons_zero, List.getElem_cons_succ, List.setIfInBounds_toArray, List.set_cons_zero, List.set_cons_succ]
                refine wpAnyH_ready (rs := [24]) (by kernel_rfl) (by simp) ?_
                refine AllReadyH.cons rfl (fun K110 hK110 => ?_) (AllReadyH.nil)
                refine step_app (by rfl) _ _ 23 (by rfl) S109 (by rfl) (some ⟨W98.heap.size, 0, none⟩) 1 ([q]) (by rfl) (fun e => by cases e) (S109.src1) und23e hi0 hz0 hz1 hz2 rfl (by omega) (fun _ => rfl) crtLs_one (by omega) (by first | omega | (simp; omega)) ?_
                intro A111 c111 W111 S111
                generalize hr111 : r109 ++ [q] = r111 at S111 ⊢
                have HR111 := Lib.hid hr111
                clear hr111
                have hl111 : r111.length ≤ 0 + L1.length + L2.length + [q].length := by have := congrArg List.length HR111.out; (try simp at this); (try simp); omega
                simp only [List.length_singleton] at hl111
                refine hK110.out _ _ S111.bel (fun _ => ?_)
                clear hK110
                try simp only [Act.put, List.getElem_toArray, List.getElem_cons_zero, List.getElem_cons_succ, List.setIfInBounds_toArray, List.set_cons_zero, List.set_cons_succ]
                refine wpAnyH_take (i := 25) (v := .agg #[.slice Ai b.items.length ci, .slice (A111) (r111).length (c111)]) rfl (by kernel_rfl) (by kernel_rfl) (by kernel_rfl) (fun _ _ _ h => h) (Or.inl ⟨by rfl, fun w' hw' => ?_⟩) S111.bel ?_
                · go_simp
                simp only [Act.put, List.getElem_toArray, List.getElem_cons_zero, List.getElem_cons_succ, List.setIfInBounds_toArray, List.set_cons_zero, List.set_cons_succ]
                refine wpAnyH_ready (rs := [27]) (by kernel_rfl) (by simp) ?_
                refine AllReadyH.cons rfl (fun K112 hK112 => ?_) (AllReadyH.nil)
                obtain rfl : r111 = rr := by rw [HRR.out, ← HR111.out, ← HR109.out, ← HR98.out]
                obtain ⟨_, _, _, z0, z1, f0, f1⟩ := S111.bxc _ rfl
                have lz := lt_of_cell z0
                go_simp
                have hfin := S111.fin (.slice Ai b.items.length ci) (.slice (A111) (r111).length (c111))
                refine hK112.out _ _ hfin.2.2.2 (fun _ => ?_)
                clear hK112 z0 z1 f0 f1 lz
                refine wpAnyH_done (by kernel_rfl) ?_ _
                exact ⟨_, ⟨_, A111, c111, .slice (some ⟨V.heap.size, 0, none⟩) 0 0, .slice A98 r98.length c98, .slice A109 r109.length c109, .slice (some ⟨W98.heap.size, 0, none⟩) 1 1, rfl, hfin⟩, by simp only [outFrame, List.foldl_cons, List.foldl_nil, Act.put, List.setIfInBounds_toArray, List.set_cons_zero, List.set_cons_succ]⟩
            · go_simp
              refine hK97.out _ _ (S96.elem rfl rfl).bel (fun _ => ?_)
              clear hK97
              refine wpAnyH_abs (I := Sx 58 7 crtLs V (some ⟨V.heap.size, 0, none⟩) (0) ([]) (some W96.heap.size) q (some W2.heap.size)) (S96.elem rfl rfl) (fun W114 S114 => ?_)
              try simp only [Act.put, List.getElem_toArray, List.getElem_cons_zero, List.getElem_cons_succ, List.setIfInBounds_toArray, List.set_cons_zero, List.set_cons_succ]
              refine wpAnyH_ready (rs := [7]) (by kernel_rfl) (by simp) ?_
              refine AllReadyH.cons rfl (fun K115 hK115 => ?_) (AllReadyH.nil)
              refine step_app (by rfl) _ _ 23 (by rfl) S114 (by rfl) (some ⟨Bc, Co + t * 7, none⟩) d1 (L1) (by rfl) (fun e => by cases e) (HS1.out _ S114.bel) und23e hi0 hz0 hz1 hz2 rfl (by omega) (fun _ => rfl) crtLs_one (by omega) (by first | omega | (simp; omega)) ?_
              intro A116 c116 W116 S116
              generalize hr116 : [] ++ L1 = r116 at S116 ⊢
              have HR116 := Lib.hid hr116
              clear hr116
              have hl116 : r116.length ≤ 0 + L1.length := by have := congrArg List.length HR116.out; (try simp at this); (try simp); omega
              refine hK115.out _ _ S116.bel (fun _ => ?_)
              clear hK115
              try simp only [Act.put, List.getElem_toArray, List.getElem_cons_zero, List.getElem_cons_succ, List.setIfInBounds_toArray, List.set_cons_zero, List.set_cons_succ]
              refine wpAnyH_ready (rs := [12]) (by kernel_rfl) (by simp) ?_
              refine AllReadyH.cons rfl (fun K117 hK117 => ?_) (AllReadyH.nil)
              refine step_app (by rfl) _ _ 23 (by rfl) S116 (by rfl) (some ⟨Bc, Co, none⟩) cc (L2) (by rfl) (fun e => by cases e) (HS2.out _ S116.bel) und23e hi0 hz0 hz1 hz2 rfl (by omega) (fun _ => rfl) crtLs_one (by omega) (by first | omega | (simp; omega)) ?_
              intro A118 c118 W118 S118
              generalize hr118 : r116 ++ L2 = r118 at S118 ⊢
              have HR118 := Lib.hid hr118
              clear hr118
              have hl118 : r118.length ≤ 0 + L1.length + L2.length := by have := congrArg List.length HR118.out; (try simp at this); (try simp); omega
              refine hK117.out _ _ S118.bel (fun _ => ?_)
              clear hK117
              try simp only [Act.put, List.getElem_toArray, List.getElem_cons_zero, List.getElem_cons_succ, List.setIfInBounds_toArray, List.set_cons_zero, List.set_cons_succ]
              refine wpAnyH_ready (rs := [24]) (by kernel_rfl) (by simp) ?_
              refine AllReadyH.cons rfl (fun K119 hK119 => ?_) (AllReadyH.nil)
              refine step_app (by rfl) _ _ 23 (by rfl) S118 (by rfl) (some ⟨W96.heap.size, 0, none⟩) 1 ([q]) (by rfl) (fun e => by cases e) (S118.src1) und23e hi0 hz0 hz1 hz2 rfl (by omega) (fun _ => rfl) crtLs_one (by omega) (by first | omega | (simp; omega)) ?_
              intro A120 c120 W120 S120
              generalize hr120 : r118 ++ [q] = r120 at S120 ⊢
              have HR120 := Lib.hid hr120
              clear hr120
              have hl120 : r120.length ≤ 0 + L1.length + L2.length + [q].length := by have := congrArg List.length HR120.out; (try simp at this); (try simp); omega
              simp only [List.length_singleton] at hl120
              refine hK119.out _ _ S120.bel (fun _ => ?_)
              clear hK119
              try simp only [Act.put, List.getElem_toArray, List.getElem_cons_zero, List.getElem_cons_succ, List.setIfInBounds_toArray, List.set_cons_zero, List.set_cons_succ]
              refine wpAnyH_take (i := 25) (v := .agg #[.slice Ai b.items.length ci, .slice (A120) (r120).length (c120)]) rfl (by kernel_rfl) (by kernel_rfl) (by kernel_rfl) (fun _ _ _ h => h) (Or.inl ⟨by rfl, fun w' hw' => ?_⟩) S120.bel ?_
              · go_simp
              simp only [Act.put, List.getElem_toArray, List.getElem_cons_zero, List.getElem_cons_succ, List.setIfInBounds_toArray, List.set_cons_zero, List.set_cons_succ]
              refine wpAnyH_ready (rs := [27]) (by kernel_rfl) (by simp) ?_
              refine AllReadyH.cons rfl (fun K121 hK121 => ?_) (AllReadyH.nil)
              obtain rfl : r120 = rr := by rw [HRR.out, ← HR120.out, ← HR118.out, ← HR116.out]
              obtain ⟨_, _, _, z0, z1, f0, f1⟩ := S120.bxc _ rfl
              have lz := lt_of_cell z0
              go_simp
              have hfin := S120.fin (.slice Ai b.items.length ci) (.slice (A120) (r120).length (c120))
              refine hK121.out _ _ hfin.2.2.2 (fun _ => ?_)
              clear hK121 z0 z1 f0 f1 lz
              refine wpAnyH_done (by kernel_rfl) ?_ _
              exact ⟨_, ⟨_, A120, c120, .slice (some ⟨V.heap.size, 0, none⟩) 0 0, .slice A116 r116.length c116, .slice A118 r118.length c118, .slice (some ⟨W96.heap.size, 0, none⟩) 1 1, rfl, hfin⟩, by simp only [outFrame, List.foldl_cons, List.foldl_nil, Act.put, List.setIfInBounds_toArray, List.set_cons_zero, List.set_cons_succ]⟩
        · go_simp
          refine hK1.out _ _ (S0.elem rfl rfl).bel (fun _ => ?_)
          clear hK1
          refine wpAnyH_abs (I := Sx 58 7 crtLs V (none) (0) ([]) (some V.heap.size) q (none)) (S0.elem rfl rfl) (fun W123 S123 => ?_)
          try simp only [Act.put, List.getElem_toArray, List.getElem_cons_zero, List.getElem_cons_succ, List.setIfInBounds_toArray, List.set_cons_zero, List.set_cons_succ]
          refine wpAnyH_ready (rs := [2, 26]) (by kernel_rfl) (by simp) ?_
          refine AllReadyH.cons rfl (fun K124 hK124 => ?_) (AllReadyH.cons rfl (fun K124 hK124 => ?_) (AllReadyH.nil))
          · go_simp
            refine hK124.out _ _ (S123.made rfl).bel (fun _ => ?_)
            clear hK124
            refine wpAnyH_abs (I := Sx 58 7 crtLs V (some ⟨W123.heap.size, 0, none⟩) (0) ([]) (some V.heap.size) q (none)) (S123.made rfl) (fun W125 S125 => ?_)
            try simp only [Act.put, List.getElem_toArray, List.getElem_cons_zero, List.getElem_cons_succ, List.setIfInBounds_toArray, List.set_cons_zero, List.set_cons_succ]
            refine wpAnyH_ready (rs := [7, 26]) (by kernel_rfl) (by simp) ?_
            refine AllReadyH.cons rfl (fun K126 hK126 => ?_) (AllReadyH.cons rfl (fun K126 hK126 => ?_) (AllReadyH.nil))
            · refine step_app (by rfl) _ _ 23 (by rfl) S125 (by rfl) (some ⟨Bc, Co + t * 7, none⟩) d1 (L1) (by rfl) (fun e => by cases e) (HS1.out _ S125.bel) und23e hi0 hz0 hz1 hz2 rfl (by omega) (fun _ => rfl) crtLs_one (by omega) (by first | omega | (simp; omega)) ?_
              intro A127 c127 W127 S127
              generalize hr127 : [] ++ L1 = r127 at S127 ⊢
              have HR127 := Lib.hid hr127
              clear hr127
              have hl127 : r127.length ≤ 0 + L1.length := by have := congrArg List.length HR127.out; (try simp at this); (try simp); omega
              refine hK126.out _ _ S127.bel (fun _ => ?_)
              clear hK126
              try simp only [Act.put, List.getElem_toArray, List.getElem_cons_zero, List.getElem_cons_succ, List.setIfInBounds_toArray, List.set_cons_zero, List.set_cons_succ]
              refine wpAnyH_ready (rs := [12, 26]) (by kernel_rfl) (by simp) ?_
              refine AllReadyH.cons rfl (fun K128 hK128 => ?_) (AllReadyH.cons rfl (fun K128 hK128 => ?_) (AllReadyH.nil))
              · refine step_app (by rfl) _ _ 23 (by rfl) S127 (by rfl) (some ⟨Bc, Co, none⟩) cc (L2) (by rfl) (fun e => by cases e) (HS2.out _ S127.bel) und23e hi0 hz0 hz1 hz2 rfl (by omega) (fun _ => rfl) crtLs_one (by omega) (by first | omega | (simp; omega)) ?_
                intro A129 c129 W129 S129
                generalize hr129 : r127 ++ L2 = r129 at S129 ⊢
                have HR129 := Lib.hid hr129
                clear hr129
                have hl129 : r129.length ≤ 0 + L1.length + L2.length := by have := congrArg List.length HR129.out; (try simp at this); (try simp); omega
                refine hK128.out _ _ S129.bel (fun _ => ?_)
                clear hK128
                try simp only [Act.put, List.getElem_toArray, List.getElem_cons_zero, List.getElem_cons_succ, List.setIfInBounds_toArray, List.set_cons_zero, List.set_cons_succ]
                refine wpAnyH_ready (rs := [24, 26]) (by kernel_rfl) (by simp) ?_
                refine AllReadyH.cons rfl (fun K130 hK130 => ?_) (AllReadyH.cons rfl (fun K130 hK130 => ?_) (AllReadyH.nil))
                · refine step_app (by rfl) _ _ 23 (by rfl) S129 (by rfl) (some ⟨V.heap.size, 0, none⟩) 1 ([q]) (by rfl) (fun e => by cases e) (S129.src1) und23e hi0 hz0 hz1 hz2 rfl (by omega) (fun _ => rfl) crtLs_one (by omega) (by first | omega | (simp; omega)) ?_
                  intro A131 c131 W131 S131
                  generalize hr131 : r129 ++ [q] = r131 at S131 ⊢
                  have HR131 := Lib.hid hr131
                  clear hr131
                  have hl131 : r131.length ≤ 0 + L1.length + L2.length + [q].length := by have := congrArg List.length HR131.out; (try simp at this); (try simp); omega
                  simp only [List.length_singleton] at hl131
                  refine hK130.out _ _ S131.bel (fun _ => ?_)
                  clear hK130
                  try simp only [Act.put, List.getElem_toArray, List.getElem_cons_zero, List.getElem_cons_succ, List.setIfInBounds_toArray, List.set_cons_zero, List.set_cons_succ]
                  refine wpAnyH_take (i := 25) (v := .agg #[.slice Ai b.items.length ci, .slice (A131) (r131).length (c131)]) rfl (by kernel_rfl) (by kernel_rfl) (by kernel_rfl) (fun _ _ _ h => h) (Or.inl ⟨by rfl, fun w' hw' => ?_⟩) S131.bel ?_
                  · go_simp
                  simp only [Act.put, List.getElem_toArray, List.getElem_cons_zero, List.getElem_cons_succ, List.setIfInBounds_toArray, List.set_cons_zero, List.set_cons_succ]
                  refine wpAnyH_ready (rs := [26]) (by kernel_rfl) (by simp) ?_
                  refine AllReadyH.cons rfl (fun K132 hK132 => ?_) (AllReadyH.nil)
                  go_simp
                  refine hK132.out _ _ (S131.boxd rfl).bel (fun _ => ?_)
                  clear hK132
                  refine wpAnyH_abs (I := Sx 58 7 crtLs V (A131) (c131) (r131) (some V.heap.size) q (some W131.heap.size)) (S131.boxd rfl) (fun W133 S133 => ?_)
                  try simp only [Act.put, List.getElem_toArray, List.getElem_cons_zero, List.getElem_cons_succ, List.setIfInBounds_toArray, List.set_cons_zero, List.set_cons_succ]
                  refine wpAnyH_ready (rs := [27]) (by kernel_rfl) (by simp) ?_
                  refine AllReadyH.cons rfl (fun K134 hK134 => ?_) (AllReadyH.nil)
                  obtain rfl : r131 = rr := by rw [HRR.out, ← HR131.out, ← HR129.out, ← HR127.out]
                  obtain ⟨_, _, _, z0, z1, f0, f1⟩ := S133.bxc _ rfl
                  have lz := lt_of_cell z0
                  go_simp
                  have hfin := S133.fin (.slice Ai b.items.length ci) (.slice (A131) (r131).length (c131))
                  refine hK134.out _ _ hfin.2.2.2 (fun _ => ?_)
                  clear hK134 z0 z1 f0 f1 lz
                  refine wpAnyH_done (by kernel_rfl) ?_ _
                  exact ⟨_, ⟨_, A131, c131, .slice (some ⟨W123.heap.size, 0, none⟩) 0 0, .slice A127 r127.length c127, .slice A129 r129.length c129, .slice (some ⟨V.heap.size, 0, none⟩) 1 1, rfl, hfin⟩, by simp only [outFrame, List.foldl_cons, List.foldl_nil, Act.put, List.setIfInBounds_toArray, List.set_cons_zero, List.set_cons_succ]⟩
                · go_simp
                  refine hK130.out _ _ (S129.boxd rfl).bel (fun _ => ?_)
                  clear hK130
                  refine wpAnyH_abs (I := Sx 58 7 crtLs V (A129) (c129) (r129) (some V.heap.size) q (some W129.heap.size)) (S129.boxd rfl) (fun W136 S136 => ?_)
                  try simp only [Act.put, List.getElem_toArray, List.getElem_cons_zero, List.getElem_cons_succ, List.setIfInBounds_toArray, List.set_cons_zero, List.set_cons_succ]
                  refine wpAnyH_ready (rs := [24]) (by kernel_rfl) (by simp) ?_
                  refine AllReadyH.cons rfl (fun K137 hK137 => ?_) (AllReadyH.nil)
                  refine step_app (by rfl) _ _ 23 (by rfl) S136 (by rfl) (some ⟨V.heap.size, 0, none⟩) 1 ([q]) (by rfl) (fun e => by cases e) (S136.src1) und23e hi0 hz0 hz1 hz2 rfl (by omega) (fun _ => rfl) crtLs_one (by omega) (by first | omega | (simp; omega)) ?_
                  intro A138 c138 W138 S138
                  generalize hr138 : r129 ++ [q] = r138 at S138 ⊢
                  have HR138 := Lib.hid hr138
                  clear hr138
                  have hl138 : r138.length ≤ 0 + L1.length + L2.length + [q].length := by have := congrArg List.length HR138.out; (try simp at this); (try simp); omega
                  simp only [List.length_singleton] at hl138
                  refine hK137.out _ _ S138.bel (fun _ => ?_)
                  clear hK137
                  try simp only [Act.put, List.getElem_toArray, List.getElem_cons_zero, List.getElem_cons_succ, List.setIfInBounds_toArray, List.set_cons_zero, List.set_cons_succ]
                  refine wpAnyH_take (i := 25) (v := .agg #[.slice Ai b.items.length ci, .slice (A138) (r138).length (c138)]) rfl (by kernel_rfl) (by kernel_rfl) (by kernel_rfl) (fun _ _ _ h => h) (Or.inl ⟨by rfl, fun w' hw' => ?_⟩) S138.bel ?_
                  · go_simp
                  simp only [Act.put, List.getElem_toArray, List.getElem_cons_zero, List.getElem_cons_succ, List.setIfInBounds_toArray, List.set_cons_zero, List.set_cons_succ]
                  refine wpAnyH_ready (rs := [27]) (by kernel_rfl) (by simp) ?_
                  refine AllReadyH.cons rfl (fun K139 hK139 => ?_) (AllReadyH.nil)
                  obtain rfl : r138 = rr := by rw [HRR.out, ← HR138.out, ← HR129.out, ← HR127.out]
                  obtain ⟨_, _, _, z0, z1, f0, f1⟩ := S138.bxc _ rfl
                  have lz := lt_of_cell z0
                  go_simp
                  have hfin := S138.fin (.slice Ai b.items.length ci) (.slice (A138) (r138).length (c138))
                  refine hK139.out _ _ hfin.2.2.2 (fun _ => ?_)
                  clear hK139 z0 z1 f0 f1 lz
                  refine wpAnyH_done (by kernel_rfl) ?_ _
                  exact ⟨_, ⟨_, A138, c138, .slice (some ⟨W123.heap.size, 0, none⟩) 0 0, .slice A127 r127.length c127, .slice A129 r129.length c129, .slice (some ⟨V.heap.size, 0, none⟩) 1 1, rfl, hfin⟩, by simp only [outFrame, List.foldl_cons, List.foldl_nil, Act.put, List.setIfInBounds_toArray, List.set_cons_zero, List.set_cons_succ]⟩
              · go_simp
                refine hK128.out _ _ (S127.boxd rfl).bel (fun _ => ?_)
                clear hK128
                refine wpAnyH_abs (I := Sx 58 7 crtLs V (A127) (c127) (r127) (some V.heap.size) q (some W127.heap.size)) (S127.boxd rfl) (fun W141 S141 => ?_)
                try simp only [Act.put, List.getElem_toArray, List.getElem_cons_zero, List.getElem_cons_succ, List.setIfInBounds_toArray, List.set_cons_zero, List.set_cons_succ]
                refine wpAnyH_ready (rs := [12]) (by kernel_rfl) (by simp) ?_
                refine AllReadyH.cons rfl (fun K142 hK142 => ?_) (AllReadyH.nil)
                refine step_app (by rfl) _ _ 23 (by rfl) S141 (by rfl) (some ⟨Bc, Co, none⟩) cc (L2) (by rfl) (fun e => by cases e) (HS2.out _ S141.bel) und23e hi0 hz0 hz1 hz2 rfl (by omega) (fun _ => rfl) crtLs_one (by omega) (by first | omega | (simp; omega)) ?_
                intro A143 c143 W143 S143
                generalize hr143 : r127 ++ L2 = r143 at S143 ⊢
                have HR143 := Lib.hid hr143
                clear hr143
                have hl143 : r143.length ≤ 0 + L1.length + L2.length := by have := congrArg List.length HR143.out; (try simp at this); (try simp); omega
                refine hK142.out _ _ S143.bel (fun _ => ?_)
                clear hK142
                try simp only [Act.put, List.getElem_toArray, List.getElem_cons_zero, List.getElem_cons_succ, List.setIfInBounds_toArray, List.set_cons_zero, List.set_cons_succ]
                refine wpAnyH_ready (rs := [24]) (by kernel_rfl) (by simp) ?_
                refine AllReadyH.cons rfl (fun K144 hK144 => ?_) (AllReadyH.nil)
                refine step_app (by rfl) _ _ 23 (by rfl) S143 (by rfl) (some ⟨V.heap.size, 0, none⟩) 1 ([q]) (by rfl) (fun e => by cases e) (S143.src1) und23e hi0 hz0 hz1 hz2 rfl (by omega) (fun _ => rfl) crtLs_one (by omega) (by first | omega | (simp; omega)) ?_
                intro A145 c145 W145 S145
                generalize hr145 : r143 ++ [q] = r145 at S145 ⊢
                have HR145 := Lib.hid hr145
                clear hr145
                have hl145 : r145.length ≤ 0 + L1.length + L2.length + [q].length := by have := congrArg List.length HR145.out; (try simp at this); (try simp); omega
                simp only [List.length_singleton] at hl145
                refine hK144.out _ _ S145.bel (fun _ => ?_)
                clear hK144
                try simp only [Act.put, List.getElem_toArray, List.getElem_cons_zero, List.getElem_cons_succ, List.setIfInBounds_toArray, List.set_cons_zero, List.set_cons_succ]
                refine wpAnyH_take (i := 25) (v := .agg #[.slice Ai b.items.length ci, .slice (A145) (r145).length (c145)]) rfl (by kernel_rfl) (by kernel_rfl) (by kernel_rfl) (fun _ _ _ h => h) (Or.inl ⟨by rfl, fun w' hw' => ?_⟩) S145.bel ?_
                · go_simp
                simp only [Act.put, List.getElem_toArray, List.getElem_cons_zero, List.getElem_cons_succ, List.setIfInBounds_toArray, List.set_cons_zero, List.set_cons_succ]
                refine wpAnyH_ready (rs := [27]) (by kernel_rfl) (by simp) ?_
                refine AllReadyH.cons rfl (fun K146 hK146 => ?_) (AllReadyH.nil)
                obtain rfl : r145 = rr := by rw [HRR.out, ← HR145.out, ← HR143.out, ← HR127.out]
                obtain ⟨_, _, _, z0, z1, f0, f1⟩ := S145.bxc _ rfl
                have lz := lt_of_cell z0
                go_simp
                have hfin := S145.fin (.slice Ai b.items.length ci) (.slice (A145) (r145).length (c145))
                refine hK146.out _ _ hfin.2.2.2 (fun _ => ?_)
                clear hK146 z0 z1 f0 f1 lz
                refine wpAnyH_done (by kernel_rfl) ?_ _
                exact ⟨_, ⟨_, A145, c145, .slice (some ⟨W123.heap.size, 0, none⟩) 0 0, .slice A127 r127.length c127, .slice A143 r143.length c143, .slice (some ⟨V.heap.size, 0, none⟩) 1 1, rfl, hfin⟩, by simp only [outFrame, List.foldl_cons, List.foldl_nil, Act.put, List.setIfInBounds_toArray, List.set_cons_zero, List.set_cons_succ]⟩
            · go_simp
              refine hK126.out _ _ (S125.boxd rfl).bel (fun _ => ?_)
              clear hK126
              refine wpAnyH_abs (I := Sx 58 7 crtLs V (some ⟨W123.heap.size, 0, none⟩) (0) ([]) (some V.heap.size) q (some W125.heap.size)) (S125.boxd rfl) (fun W148 S148 => ?_)
              try simp only [Act.put, List.getElem_toArray, List.getElem_cons_zero, List.getElem_cons_succ, List.setIfInBounds_toArray, List.set_cons_zero, List.set_cons_succ]
              refine wpAnyH_ready (rs := [7]) (by kernel_rfl) (by simp) ?_
              refine AllReadyH.cons rfl (fun K149 hK149 => ?_) (AllReadyH.nil)
              refine step_app (by rfl) _ _ 23 (by rfl) S148 (by rfl) (some ⟨Bc, Co + t * 7, none⟩) d1 (L1) (by rfl) (fun e => by cases e) (HS1.out _ S148.bel) und23e hi0 hz0 hz1 hz2 rfl (by omega) (fun _ => rfl) crtLs_one (by omega) (by first | omega | (simp; omega)) ?_
              intro A150 c150 W150 S150
              generalize hr150 : [] ++ L1 = r150 at S150 ⊢
              have HR150 := Lib.hid hr150
              clear hr150
              have hl150 : r150.length ≤ 0 + L1.length := by have := congrArg List.length HR150.out; (try simp at this); (try simp); omega
              refine hK149.out _ _ S150.bel (fun _ => ?_)
              clear hK149
              try simp only [Act.put, List.getElem_toArray, List.getElem_cons_zero, List.getElem_cons_succ, List.setIfInBounds_toArray, List.set_cons_zero, List.set_cons_succ]
              refine wpAnyH_ready (rs := [12]) (by kernel_rfl) (by simp) ?_
              refine AllReadyH.cons rfl (fun K151 hK151 => ?_) (AllReadyH.nil)
              refine step_app (by rfl) _ _ 23 (by rfl) S150 (by rfl) (some ⟨Bc, Co, none⟩) cc (L2) (by rfl) (fun e => by cases e) (HS2.out _ S150.bel) und23e hi0 hz0 hz1 hz2 rfl (by omega) (fun _ => rfl) crtLs_one (by omega) (by first | omega | (simp; omega)) ?_
              intro A152 c152 W152 S152
              generalize hr152 : r150 ++ L2 = r152 at S152 ⊢
              have HR152 := Lib.hid hr152
              clear hr152
              have hl152 : r152.length ≤ 0 + L1.length + L2.length := by have := congrArg List.length HR152.out; (try simp at this); (try simp); omega
              refine hK151.out _ _ S152.bel (fun _ => ?_)
              clear hK151
              try simp only [Act.put, List.getElem_toArray, List.getElem_cons_zero, List.getElem_cons_succ, List.setIfInBounds_toArray, List.set_cons_zero, List.set_cons_succ]
              refine wpAnyH_ready (rs := [24]) (by kernel_rfl) (by simp) ?_
              refine AllReadyH.cons rfl (fun K153 hK153 => ?_) (AllReadyH.nil)
              refine step_app (by rfl) _ _ 23 (by rfl) S152 (by rfl) (some ⟨V.heap.size, 0, none⟩) 1 ([q]) (by rfl) (fun e => by cases e) (S152.src1) und23e hi0 hz0 hz1 hz2 rfl (by omega) (fun _ => rfl) crtLs_one (by omega) (by first | omega | (simp; omega)) ?_
              intro A154 c154 W154 S154
              generalize hr154 : r152 ++ [q] = r154 at S154 ⊢
              have HR154 := Lib.hid hr154
              clear hr154
              have hl154 : r154.length ≤ 0 + L1.length + L2.length + [q].length := by have := congrArg List.length HR154.out; (try simp at this); (try simp); omega
              simp only [List.length_singleton] at hl154
              refine hK153.out _ _ S154.bel (fun _ => ?_)
              clear hK153
              try simp only [Act.put, List.getElem_toArray, List.getElem_cons_zero, List.getElem_cons_succ, List.setIfInBounds_toArray, List.set_cons_zero, List.set_cons_succ]
              refine wpAnyH_take (i := 25) (v := .agg #[.slice Ai b.items.length ci, .slice (A154) (r154).length (c154)]) rfl (by kernel_rfl) (by kernel_rfl) (by kernel_rfl) (fun _ _ _ h => h) (Or.inl ⟨by rfl, fun w' hw' => ?_⟩) S154.bel ?_
              · go_simp
              simp only [Act.put, List.getElem_toArray, List.getElem_cons_zero, List.getElem_cons_succ, List.setIfInBounds_toArray, List.set_cons_zero, List.set_cons_succ]
              refine wpAnyH_ready (rs := [27]) (by kernel_rfl) (by simp) ?_
              refine AllReadyH.cons rfl (fun K155 hK155 => ?_) (AllReadyH.nil)
              obtain rfl : r154 = rr := by rw [HRR.out, ← HR154.out, ← HR152.out, ← HR150.out]
              obtain ⟨_, _, _, z0, z1, f0, f1⟩ := S154.bxc _ rfl
              have lz := lt_of_cell z0
              go_simp
              have hfin := S154.fin (.slice Ai b.items.length ci) (.slice (A154) (r154).length (c154))
              refine hK155.out _ _ hfin.2.2.2 (fun _ => ?_)
              clear hK155 z0 z1 f0 f1 lz
              refine wpAnyH_done (by kernel_rfl) ?_ _
              exact ⟨_, ⟨_, A154, c154, .slice (some ⟨W123.heap.size, 0, none⟩) 0 0, .slice A150 r150.length c150, .slice A152 r152.length c152, .slice (some ⟨V.heap.size, 0, none⟩) 1 1, rfl, hfin⟩, by simp only [outFrame, List.foldl_cons, List.foldl_nil, Act.put, List.setIfInBounds_toArray, List.set_cons_zero, List.set_cons_succ]⟩
          · go_simp
            refine hK124.out _ _ (S123.boxd rfl).bel (fun _ => ?_)
            clear hK124
            refine wpAnyH_abs (I := Sx 58 7 crtLs V (none) (0) ([]) (some V.heap.size) q (some W123.heap.size)) (S123.boxd rfl) (fun W157 S157 => ?_)
            try simp only [Act.put, List.getElem_toArray, List.getElem_cons_zero, List.getElem_cons_succ, List.setIfInBounds_toArray, List.set_cons_zero, List.set_cons_succ]
            refine wpAnyH_ready (rs := [2]) (by kernel_rfl) (by simp) ?_
            refine AllReadyH.cons rfl (fun K158 hK158 => ?_) (AllReadyH.nil)
            go_simp
            refine hK158.out _ _ (S157.made rfl).bel (fun _ => ?_)
            clear hK158
            refine wpAnyH_abs (I := Sx 58 7 crtLs V (some ⟨W157.heap.size, 0, none⟩) (0) ([]) (some V.heap.size) q (some W123.heap.size)) (S157.made rfl) (fun W159 S159 => ?_)
            try simp only [Act.put, List.getElem_toArray, List.getElem_cons_zero, List.getElem_cons_succ, List.setIfInBounds_toArray, List.set_cons_zero, List.set_cons_succ]
            refine wpAnyH_ready (rs := [7]) (by kernel_rfl) (by simp) ?_
            refine AllReadyH.cons rfl (fun K160 hK160 => ?_) (AllReadyH.nil)
            refine step_app (by rfl) _ _ 23 (by rfl) S159 (by rfl) (some ⟨Bc, Co + t * 7, none⟩) d1 (L1) (by rfl) (fun e => by cases e) (HS1.out _ S159.bel) und23e hi0 hz0 hz1 hz2 rfl (by omega) (fun _ => rfl) crtLs_one (by omega) (by first | omega | (simp; omega)) ?_
            intro A161 c161 W161 S161
            generalize hr161 : [] ++ L1 = r161 at S161 ⊢
            have HR161 := Lib.hid hr161
            clear hr161
            have hl161 : r161.length ≤ 0 + L1.length := by have := congrArg List.length HR161.out; (try simp at this); (try simp); omega
            refine hK160.out _ _ S161.bel (fun _ => ?_)
            clear hK160
            try simp only [Act.put, List.getElem_toArray, List.getElem_cons_zero, List.getElem_cons_succ, List.setIfInBounds_toArray, List.set_cons_zero, List.set_cons_succ]
            refine wpAnyH_ready (rs := [12]) (by kernel_rfl) (by simp) ?_
            refine AllReadyH.cons rfl (fun K162 hK162 => ?_) (AllReadyH.nil)
            refine step_app (by rfl) _ _ 23 (by rfl) S161 (by rfl) (some ⟨Bc, Co, none⟩) cc (L2) (by rfl) (fun e => by cases e) (HS2.out _ S161.bel) und23e hi0 hz0 hz1 hz2 rfl (by omega) (fun _ => rfl) crtLs_one (by omega) (by first | omega | (simp; omega)) ?_
            intro A163 c163 W163 S163
            generalize hr163 : r161 ++ L2 = r163 at S163 ⊢
            have HR163 := Lib.hid hr163
            clear hr163
            have hl163 : r163.length ≤ 0 + L1.length + L2.length := by have := congrArg List.length HR163.out; (try simp at this); (try simp); omega
            refine hK162.out _ _ S163.bel (fun _ => ?_)
            clear hK162
            try simp only [Act.put, List.getElem_toArray, List.getElem_cons_zero, List.getElem_cons_succ, List.setIfInBounds_toArray, List.set_cons_zero, List.set_cons_succ]
            refine wpAnyH_ready (rs := [24]) (by kernel_rfl) (by simp) ?_
            refine AllReadyH.cons rfl (fun K164 hK164 => ?_) (AllReadyH.nil)
            refine step_app (by rfl) _ _ 23 (by rfl) S163 (by rfl) (some ⟨V.heap.size, 0, none⟩) 1 ([q]) (by rfl) (fun e => by cases e) (S163.src1) und23e hi0 hz0 hz1 hz2 rfl (by omega) (fun _ => rfl) crtLs_one (by omega) (by first | omega | (simp; omega)) ?_
            intro A165 c165 W165 S165
            generalize hr165 : r163 ++ [q] = r165 at S165 ⊢
            have HR165 := Lib.hid hr165
            clear hr165
            have hl165 : r165.length ≤ 0 + L1.length + L2.length + [q].length := by have := congrArg List.length HR165.out; (try simp at this); (try simp); omega
            simp only [List.length_singleton] at hl165
            refine hK164.out _ _ S165.bel (fun _ => ?_)
            clear hK164
            try simp only [Act.put, List.getElem_toArray, List.getElem_cons_zero, List.getElem_cons_succ, List.setIfInBounds_toArray, List.set_cons_zero, List.set_cons_succ]
            refine wpAnyH_take (i := 25) (v := .agg #[.slice Ai b.items.length ci, .slice (A165) (r165).length (c165)]) rfl (by kernel_rfl) (by kernel_rfl) (by kernel_rfl) (fun _ _ _ h => h) (Or.inl ⟨by rfl, fun w' hw' => ?_⟩) S165.bel ?_
            · go_simp
            simp only [Act.put, List.getElem_toArray, List.getElem_cons_zero, List.getElem_cons_succ, List.setIfInBounds_toArray, List.set_cons_zero, List.set_cons_succ]
            refine wpAnyH_ready (rs := [27]) (by kernel_rfl) (by simp) ?_
            refine AllReadyH.cons rfl (fun K166 hK166 => ?_) (AllReadyH.nil)
            obtain rfl : r165 = rr := by rw [HRR.out, ← HR165.out, ← HR163.out, ← HR161.out]
            obtain ⟨_, _, _, z0, z1, f0, f1⟩ := S165.bxc _ rfl
            have lz := lt_of_cell z0
            go_simp
            have hfin := S165.fin (.slice Ai b.items.length ci) (.slice (A165) (r165).length (c165))
            refine hK166.out _ _ hfin.2.2.2 (fun _ => ?_)
            clear hK166 z0 z1 f0 f1 lz
            refine wpAnyH_done (by kernel_rfl) ?_ _
            exact ⟨_, ⟨_, A165, c165, .slice (some ⟨W157.heap.size, 0, none⟩) 0 0, .slice A161 r161.length c161, .slice A163 r163.length c163, .slice (some ⟨V.heap.size, 0, none⟩) 1 1, rfl, hfin⟩, by simp only [outFrame, List.foldl_cons, List.foldl_nil, Act.put, List.setIfInBounds_toArray, List.set_cons_zero, List.set_cons_succ]⟩
        · go_simp
          refine hK1.out _ _ (S0.boxd rfl).bel (fun _ => ?_)
          clear hK1
          refine wpAnyH_abs (I := Sx 58 7 crtLs V (none) (0) ([]) (none) q (some V.heap.size)) (S0.boxd rfl) (fun W168 S168 => ?_)
          try simp only [Act.put, List.getElem_toArray, List.getElem_cons_zero, List.getElem_cons_succ, List.setIfInBounds_toArray, List.set_cons_zero, List.set_cons_succ]
          refine wpAnyH_ready (rs := [2, 23]) (by kernel_rfl) (by simp) ?_
          refine AllReadyH.cons rfl (fun K169 hK169 => ?_) (AllReadyH.cons rfl (fun K169 hK169 => ?_) (AllReadyH.nil))
          · go_simp
            refine hK169.out _ _ (S168.made rfl).bel (fun _ => ?_)
            clear hK169
            refine wpAnyH_abs (I := Sx 58 7 crtLs V (some ⟨W168.heap.size, 0, none⟩) (0) ([]) (none) q (some V.heap.size)) (S168.made rfl) (fun W170 S170 => ?_)
            try simp only [Act.put, List.getElem_toArray, List.getElem_cons_zero, List.getElem_cons_succ, List.setIfInBounds_toArray, List.set_cons_zero, List.set_cons_succ]
            refine wpAnyH_ready (rs := [7, 23]) (by kernel_rfl) (by simp) ?_
            refine AllReadyH.cons rfl (fun K171 hK171 => ?_) (AllReadyH.cons rfl (fun K171 hK171 => ?_) (AllReadyH.nil))
            · refine step_app (by rfl) _ _ 23 (by rfl) S170 (by rfl) (some ⟨Bc, Co + t * 7, none⟩) d1 (L1) (by rfl) (fun e => by cases e) (HS1.out _ S170.bel) und23e hi0 hz0 hz1 hz2 rfl (by omega) (fun _ => rfl) crtLs_one (by omega) (by first | omega | (simp; omega)) ?_
              intro A172 c172 W172 S172
              generalize hr172 : [] ++ L1 = r172 at S172 ⊢
              have HR172 := Lib.hid hr172
              clear hr172
              have hl172 : r172.length ≤ 0 + L1.length := by have := congrArg List.length HR172.out; (try simp at this); (try simp); omega
              refine hK171.out _ _ S172.bel (fun _ => ?_)
              clear hK171
              try simp only [Act.put, List.getElem_toArray, List.getElem_cons_zero, List.getElem_cons_succ, List.setIfInBounds_toArray, List.set_cons_zero, List.set_cons_succ]
              refine wpAnyH_ready (rs := [12, 23]) (by kernel_rfl) (by simp) ?_
              refine AllReadyH.cons rfl (fun K173 hK173 => ?_) (AllReadyH.cons rfl (fun K173 hK173 => ?_) (AllReadyH.nil))
              · refine step_app (by rfl) _ _ 23 (by rfl) S172 (by rfl) (some ⟨Bc, Co, none⟩) cc (L2) (by rfl) (fun e => by cases e) (HS2.out _ S172.bel) und23e hi0 hz0 hz1 hz2 rfl (by omega) (fun _ => rfl) crtLs_one (by omega) (by first | omega | (simp; omega)) ?_
                intro A174 c174 W174 S174
                generalize hr174 : r172 ++ L2 = r174 at S174 ⊢
                have HR174 := Lib.hid hr174
                clear hr174
                have hl174 : r174.length ≤ 0 + L1.length + L2.length := by have := congrArg List.length HR174.out; (try simp at this); (try simp); omega
                refine hK173.out _ _ S174.bel (fun _ => ?_)
                clear hK173
                try simp only [Act.put, List.getElem_toArray, List.getElem_cons_zero, List.getElem_cons_succ, List.setIfInBounds_toArray, List.set_cons_zero, List.set_cons_succ]
                refine wpAnyH_ready (rs := [23]) (by kernel_rfl) (by simp) ?_
                refine AllReadyH.cons rfl (fun K175 hK175 => ?_) (AllReadyH.nil)
                go_simp
                refine hK175.out _ _ (S174.elem rfl rfl).bel (fun _ => ?_)
                clear hK175
                refine wpAnyH_abs (I := Sx 58 7 crtLs V (A174) (c174) (r174) (some W174.heap.size) q (some V.heap.size)) (S174.elem rfl rfl) (fun W176 S176 => ?_)
                try simp only [Act.put, List.getElem_toArray, List.getElem_cons_zero, List.getElem_cons_succ, List.setIfInBounds_toArray, List.set_cons_zero, List.set_cons_succ]
                refine wpAnyH_ready (rs := [24]) (by kernel_rfl) (by simp) ?_
                refine AllReadyH.cons rfl (fun K177 hK177 => ?_) (AllReadyH.nil)
                refine step_app (by rfl) _ _ 23 (by rfl) S176 (by rfl) (some ⟨W174.heap.size, 0, none⟩) 1 ([q]) (by rfl) (fun e => by cases e) (S176.src1) und23e hi0 hz0 hz1 hz2 rfl (by omega) (fun _ => rfl) crtLs_one (by omega) (by first | omega | (simp; omega)) ?_
                intro A178 c178 W178 S178
                generalize hr178 : r174 ++ [q] = r178 at S178 ⊢
                have HR178 := Lib.hid hr178
                clear hr178
                have hl178 : r178.length ≤ 0 + L1.length + L2.length + [q].length := by have := congrArg List.length HR178.out; (try simp at this); (try simp); omega
                simp only [List.length_singleton] at hl178
                refine hK177.out _ _ S178.bel (fun _ => ?_)
                clear hK177
                try simp only [Act.put, List.getElem_toArray, List.getElem_cons_zero, List.getElem_cons_succ, List.setIfInBounds_toArray, List.set_cons_zero, List.set_cons_succ]
                refine wpAnyH_take (i := 25) (v := .agg #[.slice Ai b.items.length ci, .slice (A178) (r178).length (c178)]) rfl (by kernel_rfl) (by kernel_rfl) (by kernel_rfl) (fun _ _ _ h => h) (Or.inl ⟨by rfl, fun w' hw' => ?_⟩) S178.bel ?_
                · go_simp
                simp only [Act.put, List.getElem_toArray, List.getElem_cons_zero, List.getElem_cons_succ, List.setIfInBounds_toArray, List.set_cons_zero, List.set_cons_succ]
                refine wpAnyH_ready (rs := [27]) (by kernel_rfl) (by simp) ?_
                refine AllReadyH.cons rfl (fun K179 hK179 => ?_) (AllReadyH.nil)
                obtain rfl : r178 = rr := by rw [HRR.out, ← HR178.out, ← HR174.out, ← HR172.out]
                obtain ⟨_, _, _, z0, z1, f0, f1⟩ := S178.bxc _ rfl
                have lz := lt_of_cell z0
                go_simp
                have hfin := S178.fin (.slice Ai b.items.length ci) (.slice (A178) (r178).length (c178))
                refine hK179.out _ _ hfin.2.2.2 (fun _ => ?_)
                clear hK179 z0 z1 f0 f1 lz
                refine wpAnyH_done (by kernel_rfl) ?_ _
                exact ⟨_, ⟨_, A178, c178, .slice (some ⟨W168.heap.size, 0, none⟩) 0 0, .slice A172 r172.length c172, .slice A174 r174.length c174, .slice (some ⟨W174.heap.size, 0, none⟩) 1 1, rfl, hfin⟩, by simp only [outFrame, List.foldl_cons, List.foldl_nil, Act.put, List.setIfInBounds_toArray, List.set_cons_zero, List.set_cons_succ]⟩
              · go_simp
                refine hK173.out _ _ (S172.elem rfl rfl).bel (fun _ => ?_)
                clear hK173
                refine wpAnyH_abs (I := Sx 58 7 crtLs V (A172) (c172) (r172) (some W172.heap.size) q (some V.heap.size)) (S172.elem rfl rfl) (fun W181 S181 => ?_)
                try simp only [Act.put, List.getElem_toArray, List.getElem_cons_zero, List.getElem_cons_succ, List.setIfInBounds_toArray, List.set_cons_zero, List.set_cons_succ]
                refine wpAnyH_ready (rs := [12]) (by kernel_rfl) (by simp) ?_
                refine AllReadyH.cons rfl (fun K182 hK182 => ?_) (AllReadyH.nil)
                refine step_app (by rfl) _ _ 23 (by rfl) S181 (by rfl) (some ⟨Bc, Co, none⟩) cc (L2) (by rfl) (fun e => by cases e) (HS2.out _ S181.bel) und23e hi0 hz0 hz1 hz2 rfl (by omega) (fun _ => rfl) crtLs_one (by omega) (by first | omega | (simp; omega)) ?_
                intro A183 c183 W183 S183
                generalize hr183 : r172 ++ L2 = r183 at S183 ⊢
                have HR183 := Lib.hid hr183
                clear hr183
                have hl183 : r183.length ≤ 0 + L1.length + L2.length := by have := congrArg List.length HR183.out; (try simp at this); (try simp); omega
                refine hK182.out _ _ S183.bel (fun _ => ?_)
                clear hK182
                try simp only [Act.put, List.getElem_toArray, List.getElem_cons_zero, List.getElem_cons_succ, List.setIfInBounds_toArray, List.set_cons_zero, List.set_cons_succ]
                refine wpAnyH_ready (rs := [24]) (by kernel_rfl) (by simp) ?_
                refine AllReadyH.cons rfl (fun K184 hK184 => ?_) (AllReadyH.nil)
                refine step_app (by rfl) _ _ 23 (by rfl) S183 (by rfl) (some ⟨W172.heap.size, 0, none⟩) 1 ([q]) (by rfl) (fun e => by cases e) (S183.src1) und23e hi0 hz0 hz1 hz2 rfl (by omega) (fun _ => rfl) crtLs_one (by omega) (by first | omega | (simp; omega)) ?_
                intro A185 c185 W185 S185
                generalize hr185 : r183 ++ [q] = r185 at S185 ⊢
                have HR185 := Lib.hid hr185
                clear hr185
                have hl185 : r185.length ≤ 0 + L1.length + L2.length + [q].length := by have := congrArg List.length HR185.out; (try simp at this); (try simp); omega
                simp only [List.length_singleton] at hl185
                refine hK184.out _ _ S185.bel (fun _ => ?_)
                clear hK184
                try simp only [Act.put, List.getElem_toArray, List.getElem_cons_zero, List.getElem_cons_succ, List.setIfInBounds_toArray, List.set_cons_zero, List.set_cons_succ]
                refine wpAnyH_take (i := 25) (v := .agg #[.slice Ai b.items.length ci, .slice (A185) (r185).length (c185)]) rfl (by kernel_rfl) (by kernel_rfl) (by kernel_rfl) (fun _ _ _ h => h) (Or.inl ⟨by rfl, fun w' hw' => ?_⟩) S185.bel ?_
                · go_simp
                simp only [Act.put, List.getElem_toArray, List.getElem_cons_zero, List.getElem_cons_succ, List.setIfInBounds_toArray, List.set_cons_zero, List.set_cons_succ]
                refine wpAnyH_ready (rs := [27]) (by kernel_rfl) (by simp) ?_
                refine AllReadyH.cons rfl (fun K186 hK186 => ?_) (AllReadyH.nil)
                obtain rfl : r185 = rr := by rw [HRR.out, ← HR185.out, ← HR183.out, ← HR172.out]
                obtain ⟨_, _, _, z0, z1, f0, f1⟩ := S185.bxc _ rfl
                have lz := lt_of_cell z0
                go_simp
                have hfin := S185.fin (.slice Ai b.items.length ci) (.slice (A185) (r185).length (c185))
                refine hK186.out _ _ hfin.2.2.2 (fun _ => ?_)
                clear hK186 z0 z1 f0 f1 lz
                refine wpAnyH_done (by kernel_rfl) ?_ _
                exact ⟨_, ⟨_, A185, c185, .slice (some ⟨W168.heap.size, 0, none⟩) 0 0, .slice A172 r172.length c172, .slice A183 r183.length c183, .slice (some ⟨W172.heap.size, 0, none⟩) 1 1, rfl, hfin⟩, by simp only [outFrame, List.foldl_cons, List.foldl_nil, Act.put, List.setIfInBounds_toArray, List.set_cons_zero, List.set_cons_succ]⟩
            · go_simp
              refine hK171.out _ _ (S170.elem rfl rfl).bel (fun _ => ?_)
              clear hK171
              refine wpAnyH_abs (I := Sx 58 7 crtLs V (some ⟨W168.heap.size, 0, none⟩) (0) ([]) (some W170.heap.size) q (some V.heap.size)) (S170.elem rfl rfl) (fun W188 S188 => ?_)
              try simp only [Act.put, List.getElem_toArray, List.getElem_cons_zero, List.getElem_cons_succ, List.setIfInBounds_toArray, List.set_cons_zero, List.set_cons_succ]
              refine wpAnyH_ready (rs := [7]) (by kernel_rfl) (by simp) ?_
              refine AllReadyH.cons rfl (fun K189 hK189 => ?_) (AllReadyH.nil)
              refine step_app (by rfl) _ _ 23 (by rfl) S188 (by rfl) (some ⟨Bc, Co + t * 7, none⟩) d1 (L1) (by rfl) (fun e => by cases e) (HS1.out _ S188.bel) und23e hi0 hz0 hz1 hz2 rfl (by omega) (fun _ => rfl) crtLs_one (by omega) (by first | omega | (simp; omega)) ?_
              intro A190 c190 W190 S190
              generalize hr190 : [] ++ L1 = r190 at S190 ⊢
              have HR190 := Lib.hid hr190
              clear hr190
              have hl190 : r190.length ≤ 0 + L1.length := by have := congrArg List.length HR190.out; (try simp at this); (try simp); omega
              refine hK189.out _ _ S190.bel (fun _ => ?_)
              clear hK189
              try simp only [Act.put, List.getElem_toArray, List.getElem_cons_zero, List.getElem_cons_succ, List.setIfInBounds_toArray, List.set_cons_zero, List.set_cons_succ]
              refine wpAnyH_ready (rs := [12]) (by kernel_rfl) (by simp) ?_
              refine AllReadyH.cons rfl (fun K191 hK191 => ?_) (AllReadyH.nil)
              refine step_app (by rfl) _ _ 23 (by rfl) S190 (by rfl) (some ⟨Bc, Co, none⟩) cc (L2) (by rfl) (fun e => by cases e) (HS2.out _ S190.bel) und23e hi0 hz0 hz1 hz2 rfl (by omega) (fun _ => rfl) crtLs_one (by omega) (by first | omega | (simp; omega)) ?_
              intro A192 c192 W192 S192
              generalize hr192 : r190 ++ L2 = r192 at S192 ⊢
              have HR192 := Lib.hid hr192
              clear hr192
              have hl192 : r192.length ≤ 0 + L1.length + L2.length := by have := congrArg List.length HR192.out; (try simp at this); (try simp); omega
              refine hK191.out _ _ S192.bel (fun _ => ?_)
              clear hK191
              try simp only [Act.put, List.getElem_toArray, List.getElem_cons_zero, List.getElem_cons_succ, List.setIfInBounds_toArray, List.set_cons_zero, List.set_cons_succ]
              refine wpAnyH_ready (rs := [24]) (by kernel_rfl) (by simp) ?_
              refine AllReadyH.cons rfl (fun K193 hK193 => ?_) (AllReadyH.nil)
              refine step_app (by rfl) _ _ 23 (by rfl) S192 (by rfl) (some ⟨W170.heap.size, 0, none⟩) 1 ([q]) (by rfl) (fun e => by cases e) (S192.src1) und23e hi0 hz0 hz1 hz2 rfl (by omega) (fun _ => rfl) crtLs_one (by omega) (by first | omega | (simp; omega)) ?_
              intro A194 c194 W194 S194
              generalize hr194 : r192 ++ [q] = r194 at S194 ⊢
              have HR194 := Lib.hid hr194
              clear hr194
              have hl194 : r194.length ≤ 0 + L1.length + L2.length + [q].length := by have := congrArg List.length HR194.out; (try simp at this); (try simp); omega
              simp only [List.length_singleton] at hl194
              refine hK193.out _ _ S194.bel (fun _ => ?_)
              clear hK193
              try simp only [Act.put, List.getElem_toArray, List.getElem_cons_zero, List.getElem_cons_succ, List.setIfInBounds_toArray, List.set_cons_zero, List.set_cons_succ]
              refine wpAnyH_take (i := 25) (v := .agg #[.slice Ai b.items.length ci, .slice (A194) (r194).length (c194)]) rfl (by kernel_rfl) (by kernel_rfl) (by kernel_rfl) (fun _ _ _ h => h) (Or.inl ⟨by rfl, fun w' hw' => ?_⟩) S194.bel ?_
              · go_simp
              simp only [Act.put, List.getElem_toArray, List.getElem_cons_zero, List.getElem_cons_succ, List.setIfInBounds_toArray, List.set_cons_zero, List.set_cons_succ]
              refine wpAnyH_ready (rs := [27]) (by kernel_rfl) (by simp) ?_
              refine AllReadyH.cons rfl (fun K195 hK195 => ?_) (AllReadyH.nil)
              obtain rfl : r194 = rr := by rw [HRR.out, ← HR194.out, ← HR192.out, ← HR190.out]
              obtain ⟨_, _, _, z0, z1, f0, f1⟩ := S194.bxc _ rfl
              have lz := lt_of_cell z0
              go_simp
              have hfin := S194.fin (.slice Ai b.items.length ci) (.slice (A194) (r194).length (c194))
              refine hK195.out _ _ hfin.2.2.2 (fun _ => ?_)
              clear hK195 z0 z1 f0 f1 lz
              refine wpAnyH_done (by kernel_rfl) ?_ _
              exact ⟨_, ⟨_, A194, c194, .slice (some ⟨W168.heap.size, 0, none⟩) 0 0, .slice A190 r190.length c190, .slice A192 r192.length c192, .slice (some ⟨W170.heap.size, 0, none⟩) 1 1, rfl, hfin⟩, by simp only [outFrame, List.foldl_cons, List.foldl_nil, Act.put, List.setIfInBounds_toArray, List.set_cons_zero, List.set_cons_succ]⟩
          · go_simp
            refine hK169.out _ _ (S168.elem rfl rfl).bel (fun _ => ?_)
            clear hK169
            refine wpAnyH_abs (I := Sx 58 7 crtLs V (none) (0) ([]) (some W168.heap.size) q (some V.heap.size)) (S168.elem rfl rfl) (fun W197 S197 => ?_)
            try simp only [Act.put, List.getElem_toArray, List.getElem_cons_zero, List.getElem_cons_succ, List.setIfInBounds_toArray, List.set_cons_zero, List.set_cons_succ]
            refine wpAnyH_ready (rs := [2]) (by kernel_rfl) (by simp) ?_
            refine AllReadyH.cons rfl (fun K198 hK198 => ?_) (AllReadyH.nil)
            go_simp
            refine hK198.out _ _ (S197.made rfl).bel (fun _ => ?_)
            clear hK198
            refine wpAnyH_abs (I := Sx 58 7 crtLs V (some ⟨W197.heap.size, 0, none⟩) (0) ([]) (some W168.heap.size) q (some V.heap.size)) (S197.made rfl) (fun W199 S199 => ?_)
            try simp only [Act.put, List.getElem_toArray, List.getElem_cons_zero, List.getElem_cons_succ, List.setIfInBounds_toArray, List.set_cons_zero, List.set_cons_succ]
            refine wpAnyH_ready (rs := [7]) (by kernel_rfl) (by simp) ?_
            refine AllReadyH.cons rfl (fun K200 hK200 => ?_) (AllReadyH.nil)
            refine step_app (by rfl) _ _ 23 (by rfl) S199 (by rfl) (some ⟨Bc, Co + t * 7, none⟩) d1 (L1) (by rfl) (fun e => by cases e) (HS1.out _ S199.bel) und23e hi0 hz0 hz1 hz2 rfl (by omega) (fun _ => rfl) crtLs_one (by omega) (by first | omega | (simp; omega)) ?_
            intro A201 c201 W201 S201
            generalize hr201 : [] ++ L1 = r201 at S201 ⊢
            have HR201 := Lib.hid hr201
            clear hr201
            have hl201 : r201.length ≤ 0 + L1.length := by have := congrArg List.length HR201.out; (try simp at this); (try simp); omega
            refine hK200.out _ _ S201.bel (fun _ => ?_)
            clear hK200
            try simp only [Act.put, List.getElem_toArray, List.getElem_cons_zero, List.getElem_cons_succ, List.setIfInBounds_toArray, List.set_cons_zero, List.set_cons_succ]
            refine wpAnyH_ready (rs := [12]) (by kernel_rfl) (by simp) ?_
            refine AllReadyH.cons rfl (fun K202 hK202 => ?_) (AllReadyH.nil)
            refine step_app (by rfl) _ _ 23 (by rfl) S201 (by rfl) (some ⟨Bc, Co, none⟩) cc (L2) (by rfl) (fun e => by cases e) (HS2.out _ S201.bel) und23e hi0 hz0 hz1 hz2 rfl (by omega) (fun _ => rfl) crtLs_one (by omega) (by first | omega | (simp; omega)) ?_
            intro A203 c203 W203 S203
            generalize hr203 : r201 ++ L2 = r203 at S203 ⊢
            have HR203 := Lib.hid hr203
            clear hr203
            have hl203 : r203.length ≤ 0 + L1.length + L2.length := by have := congrArg List.length HR203.out; (try simp at this); (try simp); omega
            refine hK202.out _ _ S203.bel (fun _ => ?_)
            clear hK202
            try simp only [Act.put, List.getElem_toArray, List.getElem_cons_zero, List.getElem_cons_succ, List.setIfInBounds_toArray, List.set_cons_zero, List.set_cons_succ]
            refine wpAnyH_ready (rs := [24]) (by kernel_rfl) (by simp) ?_
            refine AllReadyH.cons rfl (fun K204 hK204 => ?_) (AllReadyH.nil)
            refine step_app (by rfl) _ _ 23 (by rfl) S203 (by rfl) (some ⟨W168.heap.size, 0, none⟩) 1 ([q]) (by rfl) (fun e => by cases e) (S203.src1) und23e hi0 hz0 hz1 hz2 rfl (by omega) (fun _ => rfl) crtLs_one (by omega) (by first | omega | (simp; omega)) ?_
            intro A205 c205 W205 S205
            generalize hr205 : r203 ++ [q] = r205 at S205 ⊢
            have HR205 := Lib.hid hr205
            clear hr205
            have hl205 : r205.length ≤ 0 + L1.length + L2.length + [q].length := by have := congrArg List.length HR205.out; (try simp at this); (try simp); omega
            simp only [List.length_singleton] at hl205
            refine hK204.out _ _ S205.bel (fun _ => ?_)
            clear hK204
            try simp only [Act.put, List.getElem_toArray, List.getElem_cons_zero, List.getElem_cons_succ, List.setIfInBounds_toArray, List.set_cons_zero, List.set_cons_succ]
            refine wpAnyH_take (i := 25) (v := .agg #[.slice Ai b.items.length ci, .slice (A205) (r205).length (c205)]) rfl (by kernel_rfl) (by kernel_rfl) (by kernel_rfl) (fun _ _ _ h => h) (Or.inl ⟨by rfl, fun w' hw' => ?_⟩) S205.bel ?_
            · go_simp
            simp only [Act.put, List.getElem_toArray, List.getElem_cons_zero, List.getElem_cons_succ, List.setIfInBounds_toArray, List.set_cons_zero, List.set_cons_succ]
            refine wpAnyH_ready (rs := [27]) (by kernel_rfl) (by simp) ?_
            refine AllReadyH.cons rfl (fun K206 hK206 => ?_) (AllReadyH.nil)
            obtain rfl : r205 = rr := by rw [HRR.out, ← HR205.out, ← HR203.out, ← HR201.out]
            obtain ⟨_, _, _, z0, z1, f0, f1⟩ := S205.bxc _ rfl
            have lz := lt_of_cell z0
            go_simp
            have hfin := S205.fin (.slice Ai b.items.length ci) (.slice (A205) (r205).length (c205))
            refine hK206.out _ _ hfin.2.2.2 (fun _ => ?_)
            clear hK206 z0 z1 f0 f1 lz
            refine wpAnyH_done (by kernel_rfl) ?_ _
            exact ⟨_, ⟨_, A205, c205, .slice (some ⟨W197.heap.size, 0, none⟩) 0 0, .slice A201 r201.length c201, .slice A203 r203.length c203, .slice (some ⟨W168.heap.size, 0, none⟩) 1 1, rfl, hfin⟩, by simp only [outFrame, List.foldl_cons, List.foldl_nil, Act.put, List.setIfInBounds_toArray, List.set_cons_zero, List.set_cons_succ]⟩
      case after =>
        rintro l W_0 ⟨g, A, c, v2, v7, v12, v23, rfl, g0, g1, hcr, hb1⟩
        obtain ⟨x, hxi, hxr⟩ : ∃ x : Bk, x.items = b.items ∧ x.certs = rr := ⟨⟨b.items, rr⟩, rfl, rfl⟩
        subst hxr
        have hsm := same_of_mem HV.out hxi.symm (by omega) HSM.out
        have HSA := Lib.hid hsm.1
        have HVX := Lib.hid hsm.2
        have hbw := HC2.out.bel.trans (hb1.mono HC2.out.bel.size)
        have HVB := Lib.hid hbw
        have HA0 := Lib.hid (HA.out.below hbw)
        have HX0 := Lib.hid (show bookAt (· < W_0.heap.size) W_0 Ai A x from ⟨by rw [hxi]; exact (HA.out.below hbw).1, hcr⟩)
        have HS_0 := Lib.hid (((((show St W_0 [] W_0 from ⟨Below.refl _ _, fun p hp => by cases hp⟩).add g1).add (show W_0.cell? ⟨g, 0, none⟩ = some (.slice Ai x.items.length ci) by rw [hxi]; exact g0)).add (cell_on hb1 HC2.out.a1)).add (cell_on hb1 HC2.out.a0))
        have hxil : x.items.length ≤ 8 := by rw [hxi]; exact hil
        have HFb := Lib.hid ((fault_iff b).2 HV.out)
        have HFx := Lib.hid ((fault_iff x).2 HVX.out)
        have HE := Lib.hid (show fault b = fault x by rw [HFb.out, HFx.out])
        clear hsm hbw hcr g0 g1 hb1 hxi HC2 HLD HLQ HS1 HS2 HR1 HR2 HIX HRR HSM HT HU
        simp only [outFrame, List.foldl_cons, List.foldl_nil, Act.put, List.setIfInBounds_toArray, List.set_cons_zero, List.set_cons_succ]
        have a0 := HS_0.out.cell _ (.head _)
        have a1 := HS_0.out.cell _ (.tail _ (.head _))
        have x0 := HS_0.out.cell _ (.tail _ (.tail _ (.head _)))
        have x1 := HS_0.out.cell _ (.tail _ (.tail _ (.tail _ (.head _))))
        have lv_W_0 := lt_of_cell a0
        have l_a0 := lt_of_cell a0
        have l_a1 := lt_of_cell a1
        have l_x0 := lt_of_cell x0
        have l_x1 := lt_of_cell x1
        go_wp2_with fail
        refine (c20 Ai Ac ci cc b W_0 (HA0.out.below HS_0.out.bel) (by omega) (by omega)).mono ?_
        rintro e W_x ⟨I_1, i_1, C_1, j_1, rfl, hB, y, rfl⟩
        have HB_1 := Lib.hid hB
        clear hB
        have HS_3 := Lib.hid (HS_0.out.on (over_below _ y))
        clear a0 a1 x0 x1 l_a0 l_a1 l_x0 l_x1 lv_W_0
        clear HS_0 
        generalize over W_0 y = W_2 at *
        have a0 := HS_3.out.cell _ (.head _)
        have a1 := HS_3.out.cell _ (.tail _ (.head _))
        have x0 := HS_3.out.cell _ (.tail _ (.tail _ (.head _)))
        have x1 := HS_3.out.cell _ (.tail _ (.tail _ (.tail _ (.head _))))
        have lv_W_2 := lt_of_cell a0
        have l_a0 := lt_of_cell a0
        have l_a1 := lt_of_cell a1
        have l_x0 := lt_of_cell x0
        have l_x1 := lt_of_cell x1
        go_wp2_with fail
        refine Calls.mono (f := 34) (c34u I_1 C_1 i_1 j_1 b W_2 HB_1.out (by omega) (by omega)) ?_
        rintro e W_x ⟨B_4, d_4, rfl, hn, y, he⟩
        have hb : Below W_2.heap.size W_2 W_x := by rw [he]; exact over_below _ _
        rw [HFb.out]
        have HN_5 := Lib.hid (hn.mono (T := (· < W_x.heap.size)) fun j hj => hj.2)
        clear HB_1 hn he
        have HS_7 := Lib.hid (HS_3.out.on (hb))
        clear a0 a1 x0 x1 l_a0 l_a1 l_x0 l_x1 lv_W_2
        clear HS_3 
        clear hb y
        generalize W_x = W_6 at *
        have a0 := HS_7.out.cell _ (.head _)
        have a1 := HS_7.out.cell _ (.tail _ (.head _))
        have x0 := HS_7.out.cell _ (.tail _ (.tail _ (.head _)))
        have x1 := HS_7.out.cell _ (.tail _ (.tail _ (.tail _ (.head _))))
        have lv_W_6 := lt_of_cell a0
        have l_a0 := lt_of_cell a0
        have l_a1 := lt_of_cell a1
        have l_x0 := lt_of_cell x0
        have l_x1 := lt_of_cell x1
        go_wp2_with fail
        refine (c20 Ai A ci c x W_6 (HX0.out.below HS_7.out.bel) (by omega) (by omega)).mono ?_
        rintro e W_x ⟨I_8, i_8, C_8, j_8, rfl, hB, y, rfl⟩
        have HB_8 := Lib.hid hB
        clear hB
        have HS_10 := Lib.hid (HS_7.out.on (over_below _ y))
        have HN_11 := Lib.hid (HN_5.out.below (over_below _ y))
        clear a0 a1 x0 x1 l_a0 l_a1 l_x0 l_x1 lv_W_6
        clear HS_7 HN_5
        generalize over W_6 y = W_9 at *
        have a0 := HS_10.out.cell _ (.head _)
        have a1 := HS_10.out.cell _ (.tail _ (.head _))
        have x0 := HS_10.out.cell _ (.tail _ (.tail _ (.head _)))
        have x1 := HS_10.out.cell _ (.tail _ (.tail _ (.tail _ (.head _))))
        have lv_W_9 := lt_of_cell a0
        have l_a0 := lt_of_cell a0
        have l_a1 := lt_of_cell a1
        have l_x0 := lt_of_cell x0
        have l_x1 := lt_of_cell x1
        go_wp2_with fail
        refine Calls.mono (f := 34) (c34u I_8 C_8 i_8 j_8 x W_9 HB_8.out (by omega) (by omega)) ?_
        rintro e W_x ⟨B_12, d_12, rfl, hn, y, he⟩
        have hb : Below W_9.heap.size W_9 W_x := by rw [he]; exact over_below _ _
        rw [same_hr HSA.out HE.out] at hn
        rw [same_hr HSA.out HE.out]
        rw [HFx.out]
        have HN_13 := Lib.hid (hn.mono (T := (· < W_x.heap.size)) fun j hj => hj.2)
        clear HB_8 hn he
        have HS_15 := Lib.hid (HS_10.out.on (hb))
        have HN_16 := Lib.hid (HN_11.out.below (hb))
        clear a0 a1 x0 x1 l_a0 l_a1 l_x0 l_x1 lv_W_9
        clear HS_10 HN_11
        clear hb y
        generalize W_x = W_14 at *
        have a0 := HS_15.out.cell _ (.head _)
        have a1 := HS_15.out.cell _ (.tail _ (.head _))
        have x0 := HS_15.out.cell _ (.tail _ (.tail _ (.head _)))
        have x1 := HS_15.out.cell _ (.tail _ (.tail _ (.tail _ (.head _))))
        have lv_W_14 := lt_of_cell a0
        have l_a0 := lt_of_cell a0
        have l_a1 := lt_of_cell a1
        have l_x0 := lt_of_cell x0
        have l_x1 := lt_of_cell x1
        go_wp2_with fail
        refine (c20 Ai Ac ci cc b W_14 (HA0.out.below HS_15.out.bel) (by omega) (by omega)).mono ?_
        rintro e W_x ⟨I_17, i_17, C_17, j_17, rfl, hB, y, rfl⟩
        have HB_17 := Lib.hid hB
        clear hB
        have HS_19 := Lib.hid (HS_15.out.on (over_below _ y))
        have HN_20 := Lib.hid (HN_16.out.below (over_below _ y))
        have HN_21 := Lib.hid (HN_13.out.below (over_below _ y))
        clear a0 a1 x0 x1 l_a0 l_a1 l_x0 l_x1 lv_W_14
        clear HS_15 HN_16 HN_13
        generalize over W_14 y = W_18 at *
        have a0 := HS_19.out.cell _ (.head _)
        have a1 := HS_19.out.cell _ (.tail _ (.head _))
        have x0 := HS_19.out.cell _ (.tail _ (.tail _ (.head _)))
        have x1 := HS_19.out.cell _ (.tail _ (.tail _ (.tail _ (.head _))))
        have lv_W_18 := lt_of_cell a0
        have l_a0 := lt_of_cell a0
        have l_a1 := lt_of_cell a1
        have l_x0 := lt_of_cell x0
        have l_x1 := lt_of_cell x1
        go_wp2_with fail
        refine (c27 I_17 C_17 i_17 j_17 b K D W_18 HB_17.out (by omega) (by omega)).mono ?_
        rintro e W_x ⟨rfl, y, rfl⟩
        clear HB_17
        have HS_23 := Lib.hid (HS_19.out.on (over_below _ y))
        have HN_24 := Lib.hid (HN_20.out.below (over_below _ y))
        have HN_25 := Lib.hid (HN_21.out.below (over_below _ y))
        clear a0 a1 x0 x1 l_a0 l_a1 l_x0 l_x1 lv_W_18
        clear HS_19 HN_20 HN_21
        generalize over W_18 y = W_22 at *
        have a0 := HS_23.out.cell _ (.head _)
        have a1 := HS_23.out.cell _ (.tail _ (.head _))
        have x0 := HS_23.out.cell _ (.tail _ (.tail _ (.head _)))
        have x1 := HS_23.out.cell _ (.tail _ (.tail _ (.tail _ (.head _))))
        have lv_W_22 := lt_of_cell a0
        have l_a0 := lt_of_cell a0
        have l_a1 := lt_of_cell a1
        have l_x0 := lt_of_cell x0
        have l_x1 := lt_of_cell x1
        unfold rngV
        go_wp2_with fail
        have hal : Below W_22.heap.size W_22 (W_22.alloc (.cells #[.int .i64 (spanRes b K D).lo, .int .i64 (spanRes b K D).hi] 45)) := (Below.refl _ _).alloc (Nat.le_refl _) _
        have HS_26 := Lib.hid (((HS_23.out.on hal).add (b := W_22.heap.size) (o := 1) (v := .int .i64 (spanRes b K D).hi) (by simp [go_sem])).add (b := W_22.heap.size) (o := 0) (v := .int .i64 (spanRes b K D).lo) (by simp [go_sem]))
        have HN_27 := Lib.hid (HN_24.out.below hal)
        have HN_28 := Lib.hid (HN_25.out.below hal)
        clear a0 a1 x0 x1 l_a0 l_a1 l_x0 l_x1 lv_W_22
        clear hal HS_23 HN_24 HN_25
        generalize W_22.alloc (.cells #[.int .i64 (spanRes b K D).lo, .int .i64 (spanRes b K D).hi] 45) = W_29 at *
        generalize W_22.heap.size = Rr at *
        have r0 := HS_26.out.cell _ (.head _)
        have r1 := HS_26.out.cell _ (.tail _ (.head _))
        have a0 := HS_26.out.cell _ (.tail _ (.tail _ (.head _)))
        have a1 := HS_26.out.cell _ (.tail _ (.tail _ (.tail _ (.head _))))
        have x0 := HS_26.out.cell _ (.tail _ (.tail _ (.tail _ (.tail _ (.head _)))))
        have x1 := HS_26.out.cell _ (.tail _ (.tail _ (.tail _ (.tail _ (.tail _ (.head _))))))
        have lv_W_29 := lt_of_cell r0
        have l_r0 := lt_of_cell r0
        have l_r1 := lt_of_cell r1
        have l_a0 := lt_of_cell a0
        have l_a1 := lt_of_cell a1
        have l_x0 := lt_of_cell x0
        have l_x1 := lt_of_cell x1
        refine (c20 Ai A ci c x W_29 (HX0.out.below HS_26.out.bel) (by omega) (by omega)).mono ?_
        rintro e W_x ⟨I_30, i_30, C_30, j_30, rfl, hB, y, rfl⟩
        have HB_30 := Lib.hid hB
        clear hB
        have HS_32 := Lib.hid (HS_26.out.on (over_below _ y))
        have HN_33 := Lib.hid (HN_27.out.below (over_below _ y))
        have HN_34 := Lib.hid (HN_28.out.below (over_below _ y))
        clear r0 r1 a0 a1 x0 x1 l_r0 l_r1 l_a0 l_a1 l_x0 l_x1 lv_W_29
        clear HS_26 HN_27 HN_28
        generalize over W_29 y = W_31 at *
        have r0 := HS_32.out.cell _ (.head _)
        have r1 := HS_32.out.cell _ (.tail _ (.head _))
        have a0 := HS_32.out.cell _ (.tail _ (.tail _ (.head _)))
        have a1 := HS_32.out.cell _ (.tail _ (.tail _ (.tail _ (.head _))))
        have x0 := HS_32.out.cell _ (.tail _ (.tail _ (.tail _ (.tail _ (.head _)))))
        have x1 := HS_32.out.cell _ (.tail _ (.tail _ (.tail _ (.tail _ (.tail _ (.head _))))))
        have lv_W_31 := lt_of_cell r0
        have l_r0 := lt_of_cell r0
        have l_r1 := lt_of_cell r1
        have l_a0 := lt_of_cell a0
        have l_a1 := lt_of_cell a1
        have l_x0 := lt_of_cell x0
        have l_x1 := lt_of_cell x1
        go_wp2_with fail
        refine (c27 I_30 C_30 i_30 j_30 x K D W_31 HB_30.out (by omega) (by omega)).mono ?_
        rintro e W_x ⟨rfl, y, rfl⟩
        rw [← HSA.out.spanErr HE.out]
        clear HB_30
        have HS_36 := Lib.hid (HS_32.out.on (over_below _ y))
        have HN_37 := Lib.hid (HN_33.out.below (over_below _ y))
        have HN_38 := Lib.hid (HN_34.out.below (over_below _ y))
        clear r0 r1 a0 a1 x0 x1 l_r0 l_r1 l_a0 l_a1 l_x0 l_x1 lv_W_31
        clear HS_32 HN_33 HN_34
        generalize over W_31 y = W_35 at *
        have r0 := HS_36.out.cell _ (.head _)
        have r1 := HS_36.out.cell _ (.tail _ (.head _))
        have a0 := HS_36.out.cell _ (.tail _ (.tail _ (.head _)))
        have a1 := HS_36.out.cell _ (.tail _ (.tail _ (.tail _ (.head _))))
        have x0 := HS_36.out.cell _ (.tail _ (.tail _ (.tail _ (.tail _ (.head _)))))
        have x1 := HS_36.out.cell _ (.tail _ (.tail _ (.tail _ (.tail _ (.tail _ (.head _))))))
        have lv_W_35 := lt_of_cell r0
        have l_r0 := lt_of_cell r0
        have l_r1 := lt_of_cell r1
        have l_a0 := lt_of_cell a0
        have l_a1 := lt_of_cell a1
        have l_x0 := lt_of_cell x0
        have l_x1 := lt_of_cell x1
        unfold rngV
        go_wp2_with fail
        have hal : Below W_35.heap.size W_35 (W_35.alloc (.cells #[.int .i64 (spanRes x K D).lo, .int .i64 (spanRes x K D).hi] 45)) := (Below.refl _ _).alloc (Nat.le_refl _) _
        have HS_39 := Lib.hid (((HS_36.out.on hal).add (b := W_35.heap.size) (o := 1) (v := .int .i64 (spanRes x K D).hi) (by simp [go_sem])).add (b := W_35.heap.size) (o := 0) (v := .int .i64 (spanRes x K D).lo) (by simp [go_sem]))
        have HN_40 := Lib.hid (HN_37.out.below hal)
        have HN_41 := Lib.hid (HN_38.out.below hal)
        clear r0 r1 a0 a1 x0 x1 l_r0 l_r1 l_a0 l_a1 l_x0 l_x1 lv_W_35
        clear hal HS_36 HN_37 HN_38
        generalize W_35.alloc (.cells #[.int .i64 (spanRes x K D).lo, .int .i64 (spanRes x K D).hi] 45) = W_42 at *
        generalize W_35.heap.size = Rs at *
        have s0 := HS_39.out.cell _ (.head _)
        have s1 := HS_39.out.cell _ (.tail _ (.head _))
        have r0 := HS_39.out.cell _ (.tail _ (.tail _ (.head _)))
        have r1 := HS_39.out.cell _ (.tail _ (.tail _ (.tail _ (.head _))))
        have a0 := HS_39.out.cell _ (.tail _ (.tail _ (.tail _ (.tail _ (.head _)))))
        have a1 := HS_39.out.cell _ (.tail _ (.tail _ (.tail _ (.tail _ (.tail _ (.head _))))))
        have x0 := HS_39.out.cell _ (.tail _ (.tail _ (.tail _ (.tail _ (.tail _ (.tail _ (.head _)))))))
        have x1 := HS_39.out.cell _ (.tail _ (.tail _ (.tail _ (.tail _ (.tail _ (.tail _ (.tail _ (.head _))))))))
        have lv_W_42 := lt_of_cell s0
        have l_s0 := lt_of_cell s0
        have l_s1 := lt_of_cell s1
        have l_r0 := lt_of_cell r0
        have l_r1 := lt_of_cell r1
        have l_a0 := lt_of_cell a0
        have l_a1 := lt_of_cell a1
        have l_x0 := lt_of_cell x0
        have l_x1 := lt_of_cell x1
        refine (c20 Ai Ac ci cc b W_42 (HA0.out.below HS_39.out.bel) (by omega) (by omega)).mono ?_
        rintro e W_x ⟨I_43, i_43, C_43, j_43, rfl, hB, y, rfl⟩
        have HB_43 := Lib.hid hB
        clear hB
        have HS_45 := Lib.hid (HS_39.out.on (over_below _ y))
        have HN_46 := Lib.hid (HN_40.out.below (over_below _ y))
        have HN_47 := Lib.hid (HN_41.out.below (over_below _ y))
        clear s0 s1 r0 r1 a0 a1 x0 x1 l_s0 l_s1 l_r0 l_r1 l_a0 l_a1 l_x0 l_x1 lv_W_42
        clear HS_39 HN_40 HN_41
        generalize over W_42 y = W_44 at *
        have s0 := HS_45.out.cell _ (.head _)
        have s1 := HS_45.out.cell _ (.tail _ (.head _))
        have r0 := HS_45.out.cell _ (.tail _ (.tail _ (.head _)))
        have r1 := HS_45.out.cell _ (.tail _ (.tail _ (.tail _ (.head _))))
        have a0 := HS_45.out.cell _ (.tail _ (.tail _ (.tail _ (.tail _ (.head _)))))
        have a1 := HS_45.out.cell _ (.tail _ (.tail _ (.tail _ (.tail _ (.tail _ (.head _))))))
        have x0 := HS_45.out.cell _ (.tail _ (.tail _ (.tail _ (.tail _ (.tail _ (.tail _ (.head _)))))))
        have x1 := HS_45.out.cell _ (.tail _ (.tail _ (.tail _ (.tail _ (.tail _ (.tail _ (.tail _ (.head _))))))))
        have lv_W_44 := lt_of_cell s0
        have l_s0 := lt_of_cell s0
        have l_s1 := lt_of_cell s1
        have l_r0 := lt_of_cell r0
        have l_r1 := lt_of_cell r1
        have l_a0 := lt_of_cell a0
        have l_a1 := lt_of_cell a1
        have l_x0 := lt_of_cell x0
        have l_x1 := lt_of_cell x1
        go_wp2_with fail
        refine Calls.mono (f := 38) (c38 I_43 C_43 i_43 j_43 b K D W_44 HB_43.out (by omega) (by omega)) ?_
        rintro e W_x ⟨B_48, d_48, rfl, hn, y, he⟩
        have hb : Below W_44.heap.size W_44 W_x := by rw [he]; exact over_below _ _
        have HN_49 := Lib.hid (hn.mono (T := (· < W_x.heap.size)) fun j hj => hj.2)
        clear HB_43 hn he
        have HS_51 := Lib.hid (HS_45.out.on (hb))
        have HN_52 := Lib.hid (HN_46.out.below (hb))
        have HN_53 := Lib.hid (HN_47.out.below (hb))
        clear s0 s1 r0 r1 a0 a1 x0 x1 l_s0 l_s1 l_r0 l_r1 l_a0 l_a1 l_x0 l_x1 lv_W_44
        clear HS_45 HN_46 HN_47
        clear hb y
        generalize W_x = W_50 at *
        have s0 := HS_51.out.cell _ (.head _)
        have s1 := HS_51.out.cell _ (.tail _ (.head _))
        have r0 := HS_51.out.cell _ (.tail _ (.tail _ (.head _)))
        have r1 := HS_51.out.cell _ (.tail _ (.tail _ (.tail _ (.head _))))
        have a0 := HS_51.out.cell _ (.tail _ (.tail _ (.tail _ (.tail _ (.head _)))))
        have a1 := HS_51.out.cell _ (.tail _ (.tail _ (.tail _ (.tail _ (.tail _ (.head _))))))
        have x0 := HS_51.out.cell _ (.tail _ (.tail _ (.tail _ (.tail _ (.tail _ (.tail _ (.head _)))))))
        have x1 := HS_51.out.cell _ (.tail _ (.tail _ (.tail _ (.tail _ (.tail _ (.tail _ (.tail _ (.head _))))))))
        have lv_W_50 := lt_of_cell s0
        have l_s0 := lt_of_cell s0
        have l_s1 := lt_of_cell s1
        have l_r0 := lt_of_cell r0
        have l_r1 := lt_of_cell r1
        have l_a0 := lt_of_cell a0
        have l_a1 := lt_of_cell a1
        have l_x0 := lt_of_cell x0
        have l_x1 := lt_of_cell x1
        go_wp2_with fail
        refine (c20 Ai A ci c x W_50 (HX0.out.below HS_51.out.bel) (by omega) (by omega)).mono ?_
        rintro e W_x ⟨I_54, i_54, C_54, j_54, rfl, hB, y, rfl⟩
        have HB_54 := Lib.hid hB
        clear hB
        have HS_56 := Lib.hid (HS_51.out.on (over_below _ y))
        have HN_57 := Lib.hid (HN_52.out.below (over_below _ y))
        have HN_58 := Lib.hid (HN_53.out.below (over_below _ y))
        have HN_59 := Lib.hid (HN_49.out.below (over_below _ y))
        clear s0 s1 r0 r1 a0 a1 x0 x1 l_s0 l_s1 l_r0 l_r1 l_a0 l_a1 l_x0 l_x1 lv_W_50
        clear HS_51 HN_52 HN_53 HN_49
        generalize over W_50 y = W_55 at *
        have s0 := HS_56.out.cell _ (.head _)
        have s1 := HS_56.out.cell _ (.tail _ (.head _))
        have r0 := HS_56.out.cell _ (.tail _ (.tail _ (.head _)))
        have r1 := HS_56.out.cell _ (.tail _ (.tail _ (.tail _ (.head _))))
        have a0 := HS_56.out.cell _ (.tail _ (.tail _ (.tail _ (.tail _ (.head _)))))
        have a1 := HS_56.out.cell _ (.tail _ (.tail _ (.tail _ (.tail _ (.tail _ (.head _))))))
        have x0 := HS_56.out.cell _ (.tail _ (.tail _ (.tail _ (.tail _ (.tail _ (.tail _ (.head _)))))))
        have x1 := HS_56.out.cell _ (.tail _ (.tail _ (.tail _ (.tail _ (.tail _ (.tail _ (.tail _ (.head _))))))))
        have lv_W_55 := lt_of_cell s0
        have l_s0 := lt_of_cell s0
        have l_s1 := lt_of_cell s1
        have l_r0 := lt_of_cell r0
        have l_r1 := lt_of_cell r1
        have l_a0 := lt_of_cell a0
        have l_a1 := lt_of_cell a1
        have l_x0 := lt_of_cell x0
        have l_x1 := lt_of_cell x1
        go_wp2_with fail
        refine Calls.mono (f := 38) (c38 I_54 C_54 i_54 j_54 x K D W_55 HB_54.out (by omega) (by omega)) ?_
        rintro e W_x ⟨B_60, d_60, rfl, hn, y, he⟩
        have hb : Below W_55.heap.size W_55 W_x := by rw [he]; exact over_below _ _
        rw [same_best HSA.out HE.out] at hn
        rw [same_best HSA.out HE.out]
        rw [← HSA.out.askErr HE.out]
        have HN_61 := Lib.hid (hn.mono (T := (· < W_x.heap.size)) fun j hj => hj.2)
        clear HB_54 hn he
        have HS_63 := Lib.hid (HS_56.out.on (hb))
        have HN_64 := Lib.hid (HN_57.out.below (hb))
        have HN_65 := Lib.hid (HN_58.out.below (hb))
        have HN_66 := Lib.hid (HN_59.out.below (hb))
        clear s0 s1 r0 r1 a0 a1 x0 x1 l_s0 l_s1 l_r0 l_r1 l_a0 l_a1 l_x0 l_x1 lv_W_55
        clear HS_56 HN_57 HN_58 HN_59
        clear hb y
        generalize W_x = W_62 at *
        have s0 := HS_63.out.cell _ (.head _)
        have s1 := HS_63.out.cell _ (.tail _ (.head _))
        have r0 := HS_63.out.cell _ (.tail _ (.tail _ (.head _)))
        have r1 := HS_63.out.cell _ (.tail _ (.tail _ (.tail _ (.head _))))
        have a0 := HS_63.out.cell _ (.tail _ (.tail _ (.tail _ (.tail _ (.head _)))))
        have a1 := HS_63.out.cell _ (.tail _ (.tail _ (.tail _ (.tail _ (.tail _ (.head _))))))
        have x0 := HS_63.out.cell _ (.tail _ (.tail _ (.tail _ (.tail _ (.tail _ (.tail _ (.head _)))))))
        have x1 := HS_63.out.cell _ (.tail _ (.tail _ (.tail _ (.tail _ (.tail _ (.tail _ (.tail _ (.head _))))))))
        have lv_W_62 := lt_of_cell s0
        have l_s0 := lt_of_cell s0
        have l_s1 := lt_of_cell s1
        have l_r0 := lt_of_cell r0
        have l_r1 := lt_of_cell r1
        have l_a0 := lt_of_cell a0
        have l_a1 := lt_of_cell a1
        have l_x0 := lt_of_cell x0
        have l_x1 := lt_of_cell x1
        go_wp2_with fail
        refine (c20 Ai Ac ci cc b W_62 (HA0.out.below HS_63.out.bel) (by omega) (by omega)).mono ?_
        rintro e W_x ⟨I_67, i_67, C_67, j_67, rfl, hB, y, rfl⟩
        have HB_67 := Lib.hid hB
        clear hB
        have HS_69 := Lib.hid (HS_63.out.on (over_below _ y))
        have HN_70 := Lib.hid (HN_64.out.below (over_below _ y))
        have HN_71 := Lib.hid (HN_65.out.below (over_below _ y))
        have HN_72 := Lib.hid (HN_66.out.below (over_below _ y))
        have HN_73 := Lib.hid (HN_61.out.below (over_below _ y))
        clear s0 s1 r0 r1 a0 a1 x0 x1 l_s0 l_s1 l_r0 l_r1 l_a0 l_a1 l_x0 l_x1 lv_W_62
        clear HS_63 HN_64 HN_65 HN_66 HN_61
        generalize over W_62 y = W_68 at *
        have s0 := HS_69.out.cell _ (.head _)
        have s1 := HS_69.out.cell _ (.tail _ (.head _))
        have r0 := HS_69.out.cell _ (.tail _ (.tail _ (.head _)))
        have r1 := HS_69.out.cell _ (.tail _ (.tail _ (.tail _ (.head _))))
        have a0 := HS_69.out.cell _ (.tail _ (.tail _ (.tail _ (.tail _ (.head _)))))
        have a1 := HS_69.out.cell _ (.tail _ (.tail _ (.tail _ (.tail _ (.tail _ (.head _))))))
        have x0 := HS_69.out.cell _ (.tail _ (.tail _ (.tail _ (.tail _ (.tail _ (.tail _ (.head _)))))))
        have x1 := HS_69.out.cell _ (.tail _ (.tail _ (.tail _ (.tail _ (.tail _ (.tail _ (.tail _ (.head _))))))))
        have lv_W_68 := lt_of_cell s0
        have l_s0 := lt_of_cell s0
        have l_s1 := lt_of_cell s1
        have l_r0 := lt_of_cell r0
        have l_r1 := lt_of_cell r1
        have l_a0 := lt_of_cell a0
        have l_a1 := lt_of_cell a1
        have l_x0 := lt_of_cell x0
        have l_x1 := lt_of_cell x1
        go_wp2_with fail
        refine Calls.mono (f := 41) (c41u I_67 C_67 i_67 j_67 b W_68 HB_67.out (by omega) (by omega)) ?_
        rintro e W_x ⟨B_74, d_74, rfl, hn, y, he⟩
        have hb : Below W_68.heap.size W_68 W_x := by rw [he]; exact over_below _ _
        have HN_75 := Lib.hid (hn.mono (T := (· < W_x.heap.size)) fun j hj => hj.2)
        clear HB_67 hn he
        have HS_77 := Lib.hid (HS_69.out.on (hb))
        have HN_78 := Lib.hid (HN_70.out.below (hb))
        have HN_79 := Lib.hid (HN_71.out.below (hb))
        have HN_80 := Lib.hid (HN_72.out.below (hb))
        have HN_81 := Lib.hid (HN_73.out.below (hb))
        clear s0 s1 r0 r1 a0 a1 x0 x1 l_s0 l_s1 l_r0 l_r1 l_a0 l_a1 l_x0 l_x1 lv_W_68
        clear HS_69 HN_70 HN_71 HN_72 HN_73
        clear hb y
        generalize W_x = W_76 at *
        have s0 := HS_77.out.cell _ (.head _)
        have s1 := HS_77.out.cell _ (.tail _ (.head _))
        have r0 := HS_77.out.cell _ (.tail _ (.tail _ (.head _)))
        have r1 := HS_77.out.cell _ (.tail _ (.tail _ (.tail _ (.head _))))
        have a0 := HS_77.out.cell _ (.tail _ (.tail _ (.tail _ (.tail _ (.head _)))))
        have a1 := HS_77.out.cell _ (.tail _ (.tail _ (.tail _ (.tail _ (.tail _ (.head _))))))
        have x0 := HS_77.out.cell _ (.tail _ (.tail _ (.tail _ (.tail _ (.tail _ (.tail _ (.head _)))))))
        have x1 := HS_77.out.cell _ (.tail _ (.tail _ (.tail _ (.tail _ (.tail _ (.tail _ (.tail _ (.head _))))))))
        have lv_W_76 := lt_of_cell s0
        have l_s0 := lt_of_cell s0
        have l_s1 := lt_of_cell s1
        have l_r0 := lt_of_cell r0
        have l_r1 := lt_of_cell r1
        have l_a0 := lt_of_cell a0
        have l_a1 := lt_of_cell a1
        have l_x0 := lt_of_cell x0
        have l_x1 := lt_of_cell x1
        go_wp2_with fail
        refine (c20 Ai A ci c x W_76 (HX0.out.below HS_77.out.bel) (by omega) (by omega)).mono ?_
        rintro e W_x ⟨I_82, i_82, C_82, j_82, rfl, hB, y, rfl⟩
        have HB_82 := Lib.hid hB
        clear hB
        have HS_84 := Lib.hid (HS_77.out.on (over_below _ y))
        have HN_85 := Lib.hid (HN_78.out.below (over_below _ y))
        have HN_86 := Lib.hid (HN_79.out.below (over_below _ y))
        have HN_87 := Lib.hid (HN_80.out.below (over_below _ y))
        have HN_88 := Lib.hid (HN_81.out.below (over_below _ y))
        have HN_89 := Lib.hid (HN_75.out.below (over_below _ y))
        clear s0 s1 r0 r1 a0 a1 x0 x1 l_s0 l_s1 l_r0 l_r1 l_a0 l_a1 l_x0 l_x1 lv_W_76
        clear HS_77 HN_78 HN_79 HN_80 HN_81 HN_75
        generalize over W_76 y = W_83 at *
        have s0 := HS_84.out.cell _ (.head _)
        have s1 := HS_84.out.cell _ (.tail _ (.head _))
        have r0 := HS_84.out.cell _ (.tail _ (.tail _ (.head _)))
        have r1 := HS_84.out.cell _ (.tail _ (.tail _ (.tail _ (.head _))))
        have a0 := HS_84.out.cell _ (.tail _ (.tail _ (.tail _ (.tail _ (.head _)))))
        have a1 := HS_84.out.cell _ (.tail _ (.tail _ (.tail _ (.tail _ (.tail _ (.head _))))))
        have x0 := HS_84.out.cell _ (.tail _ (.tail _ (.tail _ (.tail _ (.tail _ (.tail _ (.head _)))))))
        have x1 := HS_84.out.cell _ (.tail _ (.tail _ (.tail _ (.tail _ (.tail _ (.tail _ (.tail _ (.head _))))))))
        have lv_W_83 := lt_of_cell s0
        have l_s0 := lt_of_cell s0
        have l_s1 := lt_of_cell s1
        have l_r0 := lt_of_cell r0
        have l_r1 := lt_of_cell r1
        have l_a0 := lt_of_cell a0
        have l_a1 := lt_of_cell a1
        have l_x0 := lt_of_cell x0
        have l_x1 := lt_of_cell x1
        go_wp2_with fail
        refine Calls.mono (f := 41) (c41u I_82 C_82 i_82 j_82 x W_83 HB_82.out (by omega) (by omega)) ?_
        rintro e W_x ⟨B_90, d_90, rfl, hn, y, he⟩
        have hb : Below W_83.heap.size W_83 W_x := by rw [he]; exact over_below _ _
        rw [same_sr HSA.out HE.out] at hn
        rw [same_sr HSA.out HE.out]
        rw [← HSA.out.susErr HE.out]
        have HN_91 := Lib.hid (hn.mono (T := (· < W_x.heap.size)) fun j hj => hj.2)
        clear HB_82 hn he
        have HS_93 := Lib.hid (HS_84.out.on (hb))
        have HN_94 := Lib.hid (HN_85.out.below (hb))
        have HN_95 := Lib.hid (HN_86.out.below (hb))
        have HN_96 := Lib.hid (HN_87.out.below (hb))
        have HN_97 := Lib.hid (HN_88.out.below (hb))
        have HN_98 := Lib.hid (HN_89.out.below (hb))
        clear s0 s1 r0 r1 a0 a1 x0 x1 l_s0 l_s1 l_r0 l_r1 l_a0 l_a1 l_x0 l_x1 lv_W_83
        clear HS_84 HN_85 HN_86 HN_87 HN_88 HN_89
        clear hb y
        generalize W_x = W_92 at *
        have s0 := HS_93.out.cell _ (.head _)
        have s1 := HS_93.out.cell _ (.tail _ (.head _))
        have r0 := HS_93.out.cell _ (.tail _ (.tail _ (.head _)))
        have r1 := HS_93.out.cell _ (.tail _ (.tail _ (.tail _ (.head _))))
        have a0 := HS_93.out.cell _ (.tail _ (.tail _ (.tail _ (.tail _ (.head _)))))
        have a1 := HS_93.out.cell _ (.tail _ (.tail _ (.tail _ (.tail _ (.tail _ (.head _))))))
        have x0 := HS_93.out.cell _ (.tail _ (.tail _ (.tail _ (.tail _ (.tail _ (.tail _ (.head _)))))))
        have x1 := HS_93.out.cell _ (.tail _ (.tail _ (.tail _ (.tail _ (.tail _ (.tail _ (.tail _ (.head _))))))))
        have lv_W_92 := lt_of_cell s0
        have l_s0 := lt_of_cell s0
        have l_s1 := lt_of_cell s1
        have l_r0 := lt_of_cell r0
        have l_r1 := lt_of_cell r1
        have l_a0 := lt_of_cell a0
        have l_a1 := lt_of_cell a1
        have l_x0 := lt_of_cell x0
        have l_x1 := lt_of_cell x1
        simp only at r0 r1
        have hbl : (bestRes b K D).length ≤ 24 := bestRes_len hcl K D
        have hsl : (susRes b).length ≤ 24 := susRes_len hcl
        have hhl : (heldRes b).length ≤ 24 := heldRes_len hcl
        have hc0 := fun (W : World) (hW : Below W_92.heap.size W_92 W) => c26 (ca := d_4) (cb := d_12) (HN_94.out.below hW) (HN_95.out.below hW) (by omega) (by omega)
        simp only [decide_true] at hc0
        have HQ0 := Lib.hid hc0
        have hc1 := fun (W : World) (hW : Below W_92.heap.size W_92 W) => c26 (ca := d_48) (cb := d_60) (HN_96.out.below hW) (HN_97.out.below hW) (by omega) (by omega)
        simp only [decide_true] at hc1
        have HQ1 := Lib.hid hc1
        have hc2 := fun (W : World) (hW : Below W_92.heap.size W_92 W) => c26 (ca := d_74) (cb := d_90) (HN_98.out.below hW) (HN_91.out.below hW) (by omega) (by omega)
        simp only [decide_true] at hc2
        have HQ2 := Lib.hid hc2
        have HBW := Lib.hid (HVB.out.trans (HS_93.out.bel.mono HVB.out.size))
        clear hc0 hc1 hc2 HN_94 HN_95 HN_96 HN_97 HN_98 HN_91
        rw [same_res HSA.out HE.out] at s0 s1
        generalize spanRes b K D = r at *
        generalize spanErr b K D = g3 at *
        generalize bestRes b K D = M1 at *
        generalize susRes b = M2 at *
        generalize heldRes b = M3 at *
        generalize askErr b K D = g1 at *
        generalize susErr b = g2 at *
        go_wp2_with fail
        refine (HQ0.out _ (Below.refl _ _)).mono ?_
        rintro e W_x ⟨rfl, n0, rfl⟩
        have HD0 : Hid (Below W_92.heap.size W_92 (W_92.drewN n0)) := Lib.hid (below_drewN' (Below.refl _ _) n0)
        replace r0 := cell_on HD0.out r0
        replace r1 := cell_on HD0.out r1
        replace s0 := cell_on HD0.out s0
        replace s1 := cell_on HD0.out s1
        generalize W_92.drewN n0 = W_y0 at *
        have lq_r0 := lt_of_cell r0
        have lq_s0 := lt_of_cell s0
        go_wp2_with fail
        refine (HQ1.out _ HD0.out).mono ?_
        rintro e W_x ⟨rfl, n1, rfl⟩
        have HD1 : Hid (Below W_92.heap.size W_92 (W_y0.drewN n1)) := Lib.hid (below_drewN' HD0.out n1)
        generalize W_y0.drewN n1 = W_y1 at *
        go_wp2_with fail
        refine (HQ2.out _ HD1.out).mono ?_
        rintro e W_x ⟨rfl, n2, rfl⟩
        have HD2 : Hid (Below W_92.heap.size W_92 (W_y1.drewN n2)) := Lib.hid (below_drewN' HD1.out n2)
        generalize W_y1.drewN n2 = W_y2 at *
        go_wp2_with fail
        refine (c18 _).mono ?_
        rintro e w2 ⟨rfl, y, rfl⟩
        go_wp2_with fail
        go_ret
        exact ⟨rfl, below_over (HBW.out.trans ((HD2.out.trans ((over_below _ _).mono HD2.out.size)).mono HBW.out.size))⟩
end Go.Proofs.Ytmcnpfjichbijaa

