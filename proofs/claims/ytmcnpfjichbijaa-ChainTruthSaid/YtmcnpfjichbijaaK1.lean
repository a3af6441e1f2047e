/- Is a book ready? -/
import Derived.Test.YtmcnpfjichbijaaL8
import Derived.Test.YtmcnpfjichbijaaT1

set_option linter.unusedSimpArgs false
set_option linter.unusedVariables false
namespace Go.Proofs.Ytmcnpfjichbijaa
open Go Go.Proofs Go.RowKit Go.Shelf


set_option maxRecDepth 100000 in
set_option maxHeartbeats 1000000 in
theorem c32 (Ai Ac : Option Addr) (ci cc : Nat) (b : Bk) (w : World) (hA : bookAt (· < w.heap.size) w Ai Ac b) (h1 : b.items.length ≤ 9223372036854775807) (h2 : b.certs.length ≤ 9223372036854775807) :
    Calls Try.prog 32 #[.agg #[.slice Ai b.items.length ci, .slice Ac b.certs.length cc]] w fun e w' => e = .returned (.bool (fault b == 0)) ∧ ∃ x, w' = over w x := by
  have HA := Lib.hid hA
  clear hA
  go_enter Try.func32, Try.ntmps32
  go_wp2_with fail
  have hCl : Cl w (.slice Ai b.items.length ci) (.slice Ac b.certs.length cc) (w.alloc (.cells #[.slice Ai b.items.length ci, .slice Ac b.certs.length cc] 25)) := ⟨by repeat' (first | exact Below.refl _ _ | (refine below_ov ?_ ?_) | (refine Below.alloc ?_ ?_ _) | (refine below_drewN' ?_ _) | (refine Below.drew ?_) | (refine below_set ?_ _ _ ?_) | (simp; done) | (simp; omega) | omega), by simp [go_sem], by simp [go_sem]⟩
  refine (c17 Ai Ac ci cc b.items.length b.certs.length _ h1 h2).mono ?_
  rintro e w1 ⟨rfl, x, rfl⟩
  have HC1 := Lib.hid (hCl.onx (x := x))
  clear hCl
  generalize over _ x = W1 at *
  have c0 := HC1.out.a0
  have c1 := HC1.out.a1
  have lw := lt_of_cell c0
  by_cases hth : (decide (b.items.length ≤ 10) && decide (b.certs.length ≤ 28)) = true
  · rw [hth]
    simp at hth
    have hc := Lib.hid (c45a Ai Ac ci cc b W1 (HA.out.below HC1.out.bel) (by omega) (by omega))
    go_wp2_with fail
    refine hc.out.mono ?_
    rintro e w2 ⟨rfl, y, rfl⟩
    go_wp2_with fail
    go_ret
    exact ⟨rfl, below_over (HC1.out.onx.bel)⟩
  · have hf : (fault b == 0) = false := by
      refine beq_eq_false_iff_ne.2 fun h => hth ?_
      have v := (fault_iff b).1 h
      have := v.il
      have := v.cl
      simp; omega
    rw [Bool.not_eq_true] at hth
    rw [hth]
    go_wp2_with fail
    go_ret
    exact ⟨by rw [hf]; rfl, below_over (HC1.out.bel)⟩
end Go.Proofs.Ytmcnpfjichbijaa


/- ChainLater, walked. -/
set_option linter.unusedSimpArgs false
set_option linter.unusedVariables false
namespace Go.Proofs.Ytmcnpfjichbijaa
open Go Go.Proofs Go.RowKit Go.Shelf


theorem info58 : (Try.prog.info? 58).map (fun i => (i.zero, i.size, i.bytes)) = some (some (.agg #[.int .i64 0, .int .i64 0, .int .i64 0, .int .i64 0, .int .i64 0, .int .i64 0, .int .i64 0]), 7, 56) := by kernel_rfl
theorem und23e : Try.prog.underlying 23 = some (.slice 58) := by kernel_rfl

def laterB (b : Bk) (d : Int) : Bk := ⟨b.items, b.certs.filter fun c => decide (c.day ≤ d)⟩

theorem askErr_later {b : Bk} (v : Vb b) (d item : Int) : askErr (laterB b d) item d = askErr b item d := by
  obtain ⟨vx, t⟩ := till_of (x := laterB b d) v rfl rfl
  unfold askErr
  rw [(fault_iff b).2 v, (fault_iff _).2 vx, t.reach v vx item]
  rfl
theorem bestRes_later {b : Bk} (v : Vb b) (d item : Int) : bestRes (laterB b d) item d = bestRes b item d := by
  obtain ⟨vx, t⟩ := till_of (x := laterB b d) v rfl rfl
  unfold bestRes
  rw [askErr_later v, t.best v vx item]
theorem span_later {b : Bk} (v : Vb b) (d item : Int) : (spanErr b item d = 9 ∧ (spanErr (laterB b d) item d = 0 ∨ spanErr (laterB b d) item d = 9)) ∨ (spanErr b item d ≠ 9 ∧ spanErr (laterB b d) item d = spanErr b item d ∧ spanRes (laterB b d) item d = spanRes b item d) := by
  obtain ⟨vx, t⟩ := till_of (x := laterB b d) v rfl rfl
  have ha := askErr_later v d item
  by_cases h0 : askErr b item d = 0
  · cases hb : contra b
    · have hx : contra (laterB b d) = false := by
        cases hx : contra (laterB b d)
        · rfl
        · rw [t.contra v vx hx] at hb; cases hb
      have e1 := spanErr_ok h0 hb
      have e2 := spanErr_ok (ha.trans h0) hx
      refine .inr ⟨by omega, by omega, ?_⟩
      unfold spanRes
      rw [e1, e2, if_pos rfl, if_pos rfl, t.at v vx (Int.le_refl _)]
    · refine .inl ⟨spanErr_contra h0 hb, ?_⟩
      cases hx : contra (laterB b d)
      · exact .inl (spanErr_ok (ha.trans h0) hx)
      · exact .inr (spanErr_contra (ha.trans h0) hx)
  · have e1 := spanErr_ask h0
    have e2 := spanErr_ask (show askErr (laterB b d) item d ≠ 0 by rw [ha]; exact h0)
    by_cases h9 : askErr b item d = 9
    · exact .inl ⟨by omega, .inr (by omega)⟩
    · refine .inr ⟨by omega, by omega, ?_⟩
      rw [spanRes_err (by omega), spanRes_err (by omega)]

theorem own_below {w w' : World} {base e s n : Nat} {v : Value} {xs : List Value} (h : w.ownsRow base e s v n xs) (hb : Below w.heap.size w w') : w'.ownsRow base e s v n xs := by
  refine ⟨h.1, ?_⟩
  rcases h.2 with h1 | ⟨g, cap, cur, h1, h2, h3, h4⟩
  · exact .inl h1
  · exact .inr ⟨g, cap, cur, h1, h2, by rw [hb.block g (Array.getElem?_eq_some_iff.1 h3).1]; exact h3, h4⟩

/-- The call's world: the argument's box, the new book's with its row. -/
structure LtS (w : World) (X : Nat) (u1 u2 u : Value) (v : Value) (k : Nat) (r : List Value) (W : World) : Prop where
  cl : Cl w u1 u2 W
  hX : w.heap.size < X
  x0 : W.cell? ⟨X, 0, none⟩ = some u
  x1 : W.cell? ⟨X, 1, none⟩ = some v
  xf : ∀ j, W.frozen? ⟨X, j, none⟩ = false
  own : W.ownsRow (X + 1) 58 7 v k r

variable {w : World} {X : Nat} {u1 u2 u : Value} {v : Value} {k : Nat} {r : List Value} {W : World}

theorem LtS.lt (h : LtS w X u1 u2 u v k r W) : X < W.heap.size := lt_of_cell h.x0
theorem LtS.on (h : LtS w X u1 u2 u v k r W) {W' : World} (hb : Below W.heap.size W W') : LtS w X u1 u2 u v k r W' :=
  have kp : Keep (· < W.heap.size) W W' := Keep.of_below hb fun _ h _ => h
  have l := h.lt
  ⟨h.cl.on hb, h.hX, kp.cell h.x0 l, kp.cell h.x1 l, fun j => by rw [World.frozen?_of_block (w := W) (kp.block X l l)]; exact h.xf j, own_below h.own hb⟩
theorem LtS.box (h : LtS w X u1 u2 u v k r W) {W1 : World} (hg : W.grownBy W1 v.ownBlock) :
    W1.cell? ⟨X, 0, none⟩ = some u ∧ W1.cell? ⟨X, 1, none⟩ = some v ∧ (∀ j, W1.frozen? ⟨X, j, none⟩ = false) := by
  have l := h.lt
  have kp : Keep (fun j => some j ≠ v.ownBlock) W W1 := Keep.grown hg fun r hr h => h hr.symm
  have hne : some X ≠ v.ownBlock := fun e => by have := (ownBlock_ge h.own e.symm).1; omega
  exact ⟨kp.cell h.x0 hne, kp.cell h.x1 hne, fun j => by rw [World.frozen?_of_block (w := W) (kp.block _ hne l)]; exact h.xf j⟩
theorem LtS.more (h : LtS w X u1 u2 u v k r W) {W1 : World} {v' : Value} {r' : List Value} (hown : W1.ownsRow (X + 1) 58 7 v' (k + 1) r') (hg : W.grownBy W1 v.ownBlock) : LtS w X u1 u2 u v' (k + 1) r' (W1.setCell ⟨X, 1, none⟩ v') := by
  have l := h.lt
  have hX := h.hX
  have kp : Keep (fun j => some j ≠ v.ownBlock) W W1 := Keep.grown hg fun r hr h => h hr.symm
  have hne : ∀ j, j ≤ X → some j ≠ v.ownBlock := fun j hj e => by have := (ownBlock_ge h.own e.symm).1; omega
  have hc : ∀ {b j v}, b ≤ X → b ≠ X ∨ j ≠ 1 → W.cell? ⟨b, j, none⟩ = some v → (W1.setCell ⟨X, 1, none⟩ v').cell? ⟨b, j, none⟩ = some v := fun {b j v} hb hj hv => by
    rw [World.cell?_setCell_other _ _ _ _ (by intro e; injection e with e1 e2; omega)]
    exact kp.cell hv (hne b hb)
  refine ⟨⟨?_, hc (by omega) (by omega) h.cl.a0, hc (by omega) (by omega) h.cl.a1⟩, hX, hc (by omega) (by omega) h.x0, ?_, fun j => ?_, ?_⟩
  · exact below_set (h.cl.bel.grown hg h.cl.bel.size (fun k hk => by have := (ownBlock_ge h.own hk).1; omega)) _ _ (by simp; omega)
  · exact World.cell?_setCell_same' _ _ _ (by rw [kp.cell h.x1 (hne _ (by omega))]; rfl)
  · rw [World.frozen?_setCell, World.frozen?_of_block (w := W) (kp.block X (hne X (by omega)) (by omega))]; exact h.xf j
  · exact ownsRow_setCell_below hown (a := ⟨X, 1, none⟩) (by simp) _

theorem LtS.certs {l : List Crt} (h : LtS w X u1 u2 u v l.length (l.flatMap crtLs) W) : ∃ A c, v = .slice A l.length c ∧ certsAt (· < W.heap.size) W A l := by
  rcases h.own.2 with ⟨h1, h2⟩ | ⟨g, cap, cur, h1, _⟩
  · exact ⟨none, 0, by rw [h1, h2], fun hl => by omega⟩
  · refine ⟨some ⟨g, 0, none⟩, cap, h1, fun hl => ⟨g, 0, rfl, (ownBlock_ge h.own (by rw [h1]; rfl)).2, fun i x hx => ?_⟩⟩
    have ho := h.own
    rw [h1] at ho
    have hi := (List.getElem?_eq_some_iff.1 hx).1
    have hj : ∀ t, t < 7 → W.cell? ⟨g, 0 + i * 7 + t, none⟩ = (crtLs x)[t]? := fun t ht => by
      rw [Nat.zero_add, ho.cellAt _ (by omega), row_get (f := crtLs) (n := 7) (fun _ => rfl) _ _ _ _ hx ht]
    exact ⟨hj 0 (by omega), hj 1 (by omega), hj 2 (by omega), hj 3 (by omega), hj 4 (by omega), hj 5 (by omega), hj 6 (by omega)⟩

theorem bestRes_len {b : Bk} (h : b.certs.length ≤ 24) (item at_ : Int) : (bestRes b item at_).length ≤ 24 := by
  have hn : (numsOf b).length ≤ 24 := by rw [numsOf_length]; exact Nat.le_trans (firsts_length _) h
  have hE : ∀ n, (endsOf b n).length ≤ 24 := fun n => by
    have := endsU_len b (numsOf b).length (Nat.le_refl _) n
    rw [endsU_all b _ (Nat.le_refl _)] at this
    omega
  unfold bestRes
  split
  · rw [bestOf_fold]
    split
    · simp
    · exact lastFold_len hE _ _ (by simp)
  · simp

theorem certs_below {w w' : World} {A : Option Addr} {l : List Crt} (h : certsAt (· < w.heap.size) w A l) (hb : Below w.heap.size w w') : certsAt (· < w'.heap.size) w' A l :=
  (h.keep (Keep.of_below hb fun _ h _ => h)).mono fun j hj => by have := hb.size; have : j < w.heap.size := hj; show j < w'.heap.size; omega

theorem filter_snoc {l : List Crt} {i : Nat} {q : Crt} {d : Int} (h : l[i]? = some q) : (l.take (i + 1)).filter (fun c => decide (c.day ≤ d)) = if q.day ≤ d then (l.take i).filter (fun c => decide (c.day ≤ d)) ++ [q] else (l.take i).filter (fun c => decide (c.day ≤ d)) := by
  rw [List.take_add_one, h, List.filter_append]
  by_cases hh : q.day ≤ d
  · rw [if_pos hh]; simp [hh]
  · rw [if_neg hh]; simp [hh]

set_option maxRecDepth 100000 in
set_option maxHeartbeats 4000000 in
theorem c7 (Ai Ac : Option Addr) (ci cc : Nat) (b : Bk) (it dy : Int) (w : World) (hA : bookAt (· < w.heap.size) w Ai Ac b)
    (h1 : b.items.length ≤ 9223372036854775807) (h2 : b.certs.length ≤ 9223372036854775807) (h3 : (Lit.int .u8 it).wf = true) (h4 : (Lit.int .u16 dy).wf = true) :
    Calls Try.prog 7 #[.agg #[.slice Ai b.items.length ci, .slice Ac b.certs.length cc], .int .u8 it, .int .u16 dy] w fun e w' => e = .returned (.bool true) ∧ ∃ x, w' = over w x := by
  have HA := Lib.hid hA
  clear hA
  go_enter Try.func7, Try.ntmps7
  go_wp2_with fail
  have hCl : Cl w (.slice Ai b.items.length ci) (.slice Ac b.certs.length cc) (w.alloc (.cells #[.slice Ai b.items.length ci, .slice Ac b.certs.length cc] 25)) := ⟨by repeat' (first | exact Below.refl _ _ | (refine below_ov ?_ ?_) | (refine Below.alloc ?_ ?_ _) | (refine below_drewN' ?_ _) | (refine Below.drew ?_) | (refine below_set ?_ _ _ ?_) | (simp; done) | (simp; omega) | omega), by simp [go_sem], by simp [go_sem]⟩
  refine (c32 Ai Ac ci cc b _ (HA.out.alloc _) h1 h2).mono ?_
  rintro e w1 ⟨rfl, x, rfl⟩
  have HC1 := Lib.hid (hCl.onx (x := x))
  clear hCl
  generalize over _ x = W1 at *
  have c0 := HC1.out.a0
  have c1 := HC1.out.a1
  have lw := lt_of_cell c0
  cases hf : (fault b == 0)
  · go_wp2_with fail
    refine (c18 _).mono ?_
    rintro e w2 ⟨rfl, y, rfl⟩
    go_wp2_with fail
    go_ret
    exact ⟨rfl, below_over (HC1.out.onx.bel)⟩
  · have hv : Vb b := (fault_iff b).1 (by simpa using hf)
    have HV := Lib.hid hv
    have hil := hv.il
    have hcl := hv.cl
    clear hv hf
    by_cases hi0 : b.items.length = 0
    · have hz : ((b.items.length : Int) == 0) = true := by simp [hi0]
      go_wp2_with fail
      refine (c18 _).mono ?_
      rintro e w2 ⟨rfl, y, rfl⟩
      go_wp2_with fail
      go_ret
      exact ⟨rfl, below_over (HC1.out.onx.bel)⟩
    · have hz : ((b.items.length : Int) == 0) = false := beq_eq_false_iff_ne.2 (by omega)
      have hnz : (b.items.length : Int) ≠ 0 := by omega
      go_wp2_with fail
      generalize (wrap64 it).tmod (b.items.length : Int) = K
      generalize (wrap64 dy).tmod 1001 = D
      have hl0 : LtS w W1.heap.size (.slice Ai b.items.length ci) (.slice Ac b.certs.length cc) (.slice Ai b.items.length ci) (.slice none 0 0) 0 [] (W1.alloc (.cells #[.slice Ai b.items.length ci, .slice none 0 0] 25)) :=
        ⟨HC1.out.on ((Below.refl _ _).alloc (Nat.le_refl _) _), lw, by simp [go_sem], by simp [go_sem], fun j => by simp [go_sem], World.ownsRow_nil _ _ _ _⟩
      have HL0 := Lib.hid hl0
      clear hl0
      generalize W1.heap.size = X at *
      go_loopw [10] (fun t wr => ∃ (i : Nat) (v : Value), i ≤ b.certs.length ∧ t = .int .i64 i ∧ LtS w X (.slice Ai b.items.length ci) (.slice Ac b.certs.length cc) (.slice Ai b.items.length ci) v ((b.certs.take i).filter fun c => decide (c.day ≤ D)).length (((b.certs.take i).filter fun c => decide (c.day ≤ D)).flatMap crtLs) wr) (fun t _ => b.certs.length - (intOf t).toNat)
      case atStart => exact ⟨0, _, Nat.zero_le _, rfl, HL0.out⟩
      case round =>
        obtain ⟨i, v, hi, rfl, hS⟩ := hrel
        have HS := Lib.hid hS
        have d0 := hS.cl.a0
        have d1 := hS.cl.a1
        have e1 := hS.x1
        have xf := hS.xf 1
        have lX := hS.lt
        have lw := lt_of_cell d0
        by_cases hlt : i < b.certs.length
        · clear hS
          obtain ⟨q, hq⟩ : ∃ q, b.certs[i]? = some q := ⟨b.certs[i], by simp [hlt]⟩
          have hbk := HA.out.below HS.out.cl.bel
          obtain ⟨An, Ao, eA, hSA, hns⟩ := hbk.2 (by omega)
          obtain ⟨g0, g1, g2, g3, g4, g5, g6⟩ := hns i q hq
          have lg := lt_of_cell g0
          have HANX : Hid (An < X) := Lib.hid (by obtain ⟨An', Ao', eA', hSA', _⟩ := HA.out.2 (by omega); rw [eA] at eA'; injection eA' with e'; injection e' with e'; have := HS.out.hX; have hlt2 : An < w.heap.size := (by rw [e']; exact hSA'); omega)
          have hix := fun c => @idx23 Ac An Ao b.certs.length c eA i hlt
          have hsn := filter_snoc (d := D) hq
          have HSN := Lib.hid hsn
          have hlen : ((b.certs.take i).filter fun c => decide (c.day ≤ D)).length ≤ 24 := Nat.le_trans (List.length_filter_le _ _) (by simp; omega)
          clear hbk hq eA hns hsn
          by_cases hday : q.day ≤ D
          · have HM := Lib.hid (HSN.out.trans (if_pos hday))
            generalize (b.certs.take i).filter (fun c => decide (c.day ≤ D)) = fl at *
            go_wp2_with fail
            have hAnX : An < X := HANX.out
            have hS0 : w.heap.size < X := HS.out.hX
            refine wp_region_held_drew (S := fun w' => Keep (fun j => j < X) wr w') (by kernel_rfl) (Keep.drew _ _) (fun S0 => ?_)
            have HK := Lib.hid (And.intro d1 (And.intro g0 (And.intro g1 (And.intro g2 (And.intro g3 (And.intro g4 (And.intro g5 g6)))))))
            have hld : ∀ w', Keep (fun j => j < X) wr w' → w'.cell? ⟨w.heap.size, 1, none⟩ = some (.slice Ac b.certs.length cc) ∧ w'.cell? ⟨An, Ao + i * 7, none⟩ = some (.int .i64 q.num) ∧ w'.cell? ⟨An, Ao + i * 7 + 1, none⟩ = some (.int .i64 q.item) ∧ w'.cell? ⟨An, Ao + i * 7 + 2, none⟩ = some (.int .i64 q.by_) ∧ w'.cell? ⟨An, Ao + i * 7 + 3, none⟩ = some (.int .i64 q.day) ∧ w'.cell? ⟨An, Ao + i * 7 + 4, none⟩ = some (.int .i64 q.valid) ∧ w'.cell? ⟨An, Ao + i * 7 + 5, none⟩ = some (.int .i64 q.diff.lo) ∧ w'.cell? ⟨An, Ao + i * 7 + 6, none⟩ = some (.int .i64 q.diff.hi) := fun w' kk => by
              obtain ⟨y1, y2, y3, y4, y5, y6, y7, y8⟩ := HK.out
              exact ⟨kk.cell y1 hS0, kk.cell y2 hAnX, kk.cell y3 hAnX, kk.cell y4 hAnX, kk.cell y5 hAnX, kk.cell y6 hAnX, kk.cell y7 hAnX, kk.cell y8 hAnX⟩
            have HLD := Lib.hid hld
            clear hld
            refine wpAnyH_take (i := 0) (v := .pointer (some ⟨X, 1, none⟩)) rfl (by kernel_rfl) (by kernel_rfl) (by kernel_rfl) (fun _ _ _ h => h) (Or.inl ⟨by rfl, fun w' hw' => ?_⟩) S0 ?_
            · go_simp
            simp only [Act.put, List.getElem_toArray, List.getElem_cons_zero, List.getElem_cons_succ, List.setIfInBounds_toArray, List.set_cons_zero, List.set_cons_succ]
            refine wpAnyH_take (i := 2) (v := .pointer (some ⟨w.heap.size, 1, none⟩)) rfl (by kernel_rfl) (by kernel_rfl) (by kernel_rfl) (fun _ _ _ h => h) (Or.inl ⟨by rfl, fun w' hw' => ?_⟩) S0 ?_
            · go_simp
            simp only [Act.put, List.getElem_toArray, List.getElem_cons_zero, List.getElem_cons_succ, List.setIfInBounds_toArray, List.set_cons_zero, List.set_cons_succ]
            refine wpAnyH_take (i := 3) (v := .slice Ac b.certs.length cc) rfl (by kernel_rfl) (by kernel_rfl) (by kernel_rfl) (fun _ _ _ h => h) (Or.inl ⟨by rfl, fun w' hw' => ?_⟩) S0 ?_
            · have := (HLD.out w' hw').1; go_simp
            simp only [Act.put, List.getElem_toArray, List.getElem_cons_zero, List.getElem_cons_succ, List.setIfInBounds_toArray, List.set_cons_zero, List.set_cons_succ]
            refine wpAnyH_take (i := 4) (v := .int .i64 i) rfl (by kernel_rfl) (by kernel_rfl) (by kernel_rfl) (fun _ _ _ h => h) (Or.inl ⟨by rfl, fun w' hw' => ?_⟩) S0 ?_
            · go_simp
            simp only [Act.put, List.getElem_toArray, List.getElem_cons_zero, List.getElem_cons_succ, List.setIfInBounds_toArray, List.set_cons_zero, List.set_cons_succ]
            refine wpAnyH_take (i := 5) (v := .pointer (some ⟨An, Ao + i * 7, none⟩)) rfl (by kernel_rfl) (by kernel_rfl) (by kernel_rfl) (fun _ _ _ h => h) (Or.inl ⟨by rfl, fun w' hw' => ?_⟩) S0 ?_
            · go_simp
            simp only [Act.put, List.getElem_toArray, List.getElem_cons_zero, List.getElem_cons_succ, List.setIfInBounds_toArray, List.set_cons_zero, List.set_cons_succ]
            refine wpAnyH_take (i := 6) (v := .agg #[.int .i64 q.num, .int .i64 q.item, .int .i64 q.by_, .int .i64 q.day, .int .i64 q.valid, .int .i64 q.diff.lo, .int .i64 q.diff.hi]) rfl (by kernel_rfl) (by kernel_rfl) (by kernel_rfl) (fun _ _ _ h => h) (Or.inl ⟨by rfl, fun w' hw' => ?_⟩) S0 ?_
            · obtain ⟨_, y2, y3, y4, y5, y6, y7, y8⟩ := HLD.out w' hw'; go_simp
            simp only [Act.put, List.getElem_toArray, List.getElem_cons_zero, List.getElem_cons_succ, List.setIfInBounds_toArray, List.set_cons_zero, List.set_cons_succ]
            obtain ⟨i0, hi0, hz0, hz1, hz2⟩ := info_parts info58
            have hsV := HS.out.on (show Below wr.heap.size wr wr.drew from (Below.refl _ _).drew)
            have k6 : Keep (fun j => j < X) wr (wr.drew.alloc (.cells #[.int .i64 q.num, .int .i64 q.item, .int .i64 q.by_, .int .i64 q.day, .int .i64 q.valid, .int .i64 q.diff.lo, .int .i64 q.diff.hi] 58)) := S0.trans (Keep.alloc _ _ _)
            have hA := hsV.on ((Below.refl _ wr.drew).alloc (Nat.le_refl _) (.cells #[.int .i64 q.num, .int .i64 q.item, .int .i64 q.by_, .int .i64 q.day, .int .i64 q.valid, .int .i64 q.diff.lo, .int .i64 q.diff.hi] 58))
            have x1V := hsV.x1
            have x1A := hA.x1
            refine wpAnyH_ready (rs := [1, 7]) (by kernel_rfl) (by simp) ?_
            refine AllReadyH.cons rfl (fun K hK => ?_) (AllReadyH.cons rfl (fun K hK => ?_) AllReadyH.nil)
            · go_simp
              refine hK.out _ _ S0 (fun _ => ?_)
              refine wpAnyH_ready (rs := [7]) (by kernel_rfl) (by simp) ?_
              refine AllReadyH.cons rfl (fun K2 hK2 => ?_) AllReadyH.nil
              go_simp
              refine hK2.out _ _ k6 (fun _ => ?_)
              refine wpAnyH_ready (rs := [8]) (by kernel_rfl) (by simp) ?_
              refine AllReadyH.cons rfl (fun K3 hK3 => ?_) AllReadyH.nil
              refine step_append_lies _ (by rfl) _ _ _ (by rfl) (X + 1) 58 i0 _ 7 56 und23e hi0 hz0 hz1 hz2 rfl (by omega) v fl.length (fl.flatMap crtLs) (by rfl) (hsV.own.alloc _) ⟨wr.drew.heap.size, 0, none⟩ 1 1 (crtLs q) (by rfl) (by rfl) (news7 _ _ _ _ rfl) (by intro u hu; simp [crtLs] at hu; rcases hu with rfl | rfl | rfl | rfl | rfl | rfl | rfl <;> rfl) (by omega) (by simp only [maxLen]; omega) (by omega) (by simp; omega) (wr.drew.heap.size + 1) (by simp) ?_
              intro g cap w1 hown hgr hat7 hlt7
              have k7 : Keep (fun j => j < X) wr w1 := k6.trans (Keep.grown hgr fun r hr h => by
                have := (hsV.own.lt r hr).1
                have h' : r < X := h
                omega)
              refine hK3.out _ _ k7 (fun _ => ?_)
              obtain ⟨p0, p1, pf⟩ := hA.box hgr
              have pf1 := pf 1
              have lp := lt_of_cell p1
              have HMR := Lib.hid (hA.more hown hgr)
              clear hown hgr pf p0 hat7 hlt7
              refine wpAnyH_take (i := 9) (v := .pointer (some ⟨X, 1, none⟩)) rfl (by kernel_rfl) (by kernel_rfl) (by kernel_rfl) (fun _ _ _ h => h) (Or.inl ⟨by rfl, fun w' hw' => ?_⟩) k7 ?_
              · go_simp
              simp only [Act.put, List.getElem_toArray, List.getElem_cons_zero, List.getElem_cons_succ, List.setIfInBounds_toArray, List.set_cons_zero, List.set_cons_succ]
              refine wpAnyH_ready (rs := [10]) (by kernel_rfl) (by simp) ?_
              refine AllReadyH.cons rfl (fun K4 hK4 => ?_) AllReadyH.nil
              go_simp
              refine hK4.out _ _ (k7.trans (Keep.setCell _ _ _ (fun h => absurd h (Nat.lt_irrefl _)))) (fun _ => ?_)
              refine wpAnyH_done (by kernel_rfl) ?_ _
              clear hK hK2 hK3 hK4 x1V x1A hA hsV k6 k7 hi0 hz0 hz1 hz2 S0
              go_wp2_with fail
              go_roundw
              case rel => exact ⟨i + 1, _, by omega, by go_num, by rw [HM.out]; simpa using HMR.out⟩
              case measure => simp [intOf]; omega
            · go_simp
              refine hK.out _ _ k6 (fun _ => ?_)
              refine wpAnyH_ready (rs := [1]) (by kernel_rfl) (by simp) ?_
              refine AllReadyH.cons rfl (fun K2 hK2 => ?_) AllReadyH.nil
              go_simp
              refine hK2.out _ _ k6 (fun _ => ?_)
              refine wpAnyH_ready (rs := [8]) (by kernel_rfl) (by simp) ?_
              refine AllReadyH.cons rfl (fun K3 hK3 => ?_) AllReadyH.nil
              refine step_append_lies _ (by rfl) _ _ _ (by rfl) (X + 1) 58 i0 _ 7 56 und23e hi0 hz0 hz1 hz2 rfl (by omega) v fl.length (fl.flatMap crtLs) (by rfl) (hsV.own.alloc _) ⟨wr.drew.heap.size, 0, none⟩ 1 1 (crtLs q) (by rfl) (by rfl) (news7 _ _ _ _ rfl) (by intro u hu; simp [crtLs] at hu; rcases hu with rfl | rfl | rfl | rfl | rfl | rfl | rfl <;> rfl) (by omega) (by simp only [maxLen]; omega) (by omega) (by simp; omega) (wr.drew.heap.size + 1) (by simp) ?_
              intro g cap w1 hown hgr hat7 hlt7
              have k7 : Keep (fun j => j < X) wr w1 := k6.trans (Keep.grown hgr fun r hr h => by
                have := (hsV.own.lt r hr).1
                have h' : r < X := h
                omega)
              refine hK3.out _ _ k7 (fun _ => ?_)
              obtain ⟨p0, p1, pf⟩ := hA.box hgr
              have pf1 := pf 1
              have lp := lt_of_cell p1
              have HMR := Lib.hid (hA.more hown hgr)
              clear hown hgr pf p0 hat7 hlt7
              refine wpAnyH_take (i := 9) (v := .pointer (some ⟨X, 1, none⟩)) rfl (by kernel_rfl) (by kernel_rfl) (by kernel_rfl) (fun _ _ _ h => h) (Or.inl ⟨by rfl, fun w' hw' => ?_⟩) k7 ?_
              · go_simp
              simp only [Act.put, List.getElem_toArray, List.getElem_cons_zero, List.getElem_cons_succ, List.setIfInBounds_toArray, List.set_cons_zero, List.set_cons_succ]
              refine wpAnyH_ready (rs := [10]) (by kernel_rfl) (by simp) ?_
              refine AllReadyH.cons rfl (fun K4 hK4 => ?_) AllReadyH.nil
              go_simp
              refine hK4.out _ _ (k7.trans (Keep.setCell _ _ _ (fun h => absurd h (Nat.lt_irrefl _)))) (fun _ => ?_)
              refine wpAnyH_done (by kernel_rfl) ?_ _
              clear hK hK2 hK3 hK4 x1V x1A hA hsV k6 k7 hi0 hz0 hz1 hz2 S0
              go_wp2_with fail
              go_roundw
              case rel => exact ⟨i + 1, _, by omega, by go_num, by rw [HM.out]; simpa using HMR.out⟩
              case measure => simp [intOf]; omega
          · have HM := Lib.hid (HSN.out.trans (if_neg hday))
            go_wp2_with fail
            go_roundw
            case rel => exact ⟨i + 1, v, by omega, by go_num, by rw [HM.out]; exact HS.out⟩
            case measure => simp [intOf]; omega
        · have hie : (b.certs.take i).filter (fun c => decide (c.day ≤ D)) = (laterB b D).certs := by rw [List.take_of_length_le (by omega)]; rfl
          rw [hie] at hS
          have HSX := Lib.hid hS
          have hxl : (laterB b D).certs.length ≤ 24 := Nat.le_trans (List.length_filter_le _ _) hcl
          obtain ⟨Ax, cx, rfl, hcx⟩ := hS.certs
          have HCX := Lib.hid hcx
          have HA1 := Lib.hid (HA.out.below HS.out.cl.bel)
          clear hS hie hcx HS
          go_wp2_with fail
          refine (c20 Ai Ac ci cc b wr HA1.out (by omega) (by omega)).mono ?_
          rintro e W2 ⟨Ai2, ci2, Ac2, cc2, rfl, hA2, x2, e2⟩
          have hb2 : Below wr.heap.size wr W2 := by rw [e2]; exact over_below _ _
          have HS2 := Lib.hid (HSX.out.on hb2)
          have HCX2 := Lib.hid ((HCX.out.keep (Keep.of_below hb2 fun _ h _ => h)).mono (T := (· < W2.heap.size)) fun j hj => by have := hb2.size; have : j < wr.heap.size := hj; show j < W2.heap.size; omega)
          clear HSX HCX HA1 e2 x2 hb2 d0 d1 e1 xf lX lw
          have HA2 := Lib.hid hA2
          clear hA2
          go_wp2_with fail
          refine (c27 Ai2 Ac2 ci2 cc2 b K D W2 HA2.out (by omega) (by omega)).mono ?_
          rintro e W3 ⟨rfl, x3, rfl⟩
          have HS3 := Lib.hid (HS2.out.on (over_below W2 x3))
          have hkk : Keep (· < W2.heap.size) W2 (over W2 x3) := Keep.over _ _ _
          have HCX3 := Lib.hid ((HCX2.out.keep hkk).mono (T := (· < (over W2 x3).heap.size)) fun j hj => by have : j < W2.heap.size := hj; show j < (over W2 x3).heap.size; rw [over_size]; omega)
          clear HS2 HCX2 HA2 hkk
          generalize over W2 x3 = W3 at *
          unfold rngV
          have a0 := HS3.out.cl.a0
          have a1 := HS3.out.cl.a1
          have x0 := HS3.out.x0
          have x1 := HS3.out.x1
          have lX := HS3.out.lt
          have lw := lt_of_cell a0
          go_wp2_with fail
          have hb4 : ∀ o, Below W3.heap.size W3 (W3.alloc o) := fun o => (Below.refl _ _).alloc (Nat.le_refl _) _
          have HX4 := Lib.hid (And.intro ((HA.out.below (HS3.out.on (hb4 (.cells #[.int .i64 (spanRes b K D).lo, .int .i64 (spanRes b K D).hi] 45))).cl.bel).1) (certs_below HCX3.out (hb4 (.cells #[.int .i64 (spanRes b K D).lo, .int .i64 (spanRes b K D).hi] 45))))
          have HS4 := Lib.hid (HS3.out.on (hb4 (.cells #[.int .i64 (spanRes b K D).lo, .int .i64 (spanRes b K D).hi] 45)))
          have s0 : (W3.alloc (.cells #[.int .i64 (spanRes b K D).lo, .int .i64 (spanRes b K D).hi] 45)).cell? ⟨W3.heap.size, 0, none⟩ = some (.int .i64 (spanRes b K D).lo) := by simp [go_sem]
          have s1 : (W3.alloc (.cells #[.int .i64 (spanRes b K D).lo, .int .i64 (spanRes b K D).hi] 45)).cell? ⟨W3.heap.size, 1, none⟩ = some (.int .i64 (spanRes b K D).hi) := by simp [go_sem]
          clear HS3 HCX3 hb4 a0 a1 x0 x1 lX lw
          generalize hR : W3.heap.size = R at *
          generalize World.alloc W3 _ = V4 at *
          clear hR W3
          refine (c20 Ai Ax ci cx (laterB b D) V4 HX4.out (by show b.items.length ≤ _; omega) (by omega)).mono ?_
          rintro e W5 ⟨Ai5, ci5, Ac5, cc5, rfl, hA5, x5, e5⟩
          have hb5 : Below V4.heap.size V4 W5 := by rw [e5]; exact over_below _ _
          have HS5 := Lib.hid (HS4.out.on hb5)
          have HC5 := Lib.hid (certs_below HX4.out.2 hb5)
          have kp5 : Keep (· < V4.heap.size) V4 W5 := Keep.of_below hb5 fun _ h _ => h
          have t0 := kp5.cell s0 (lt_of_cell s0)
          have t1 := kp5.cell s1 (lt_of_cell s1)
          have HA5 := Lib.hid hA5
          clear HS4 HX4 hb5 kp5 s0 s1 e5 x5 hA5
          go_wp2_with fail
          refine (c27 Ai5 Ac5 ci5 cc5 (laterB b D) K D W5 HA5.out (by show b.items.length ≤ _; omega) (by omega)).mono ?_
          rintro e W6 ⟨rfl, x6, rfl⟩
          have hb6 := over_below W5 x6
          have HS6 := Lib.hid (HS5.out.on hb6)
          have HC6 := Lib.hid (certs_below HC5.out hb6)
          have kp6 : Keep (· < W5.heap.size) W5 (over W5 x6) := Keep.over _ _ _
          have s0 := kp6.cell t0 (lt_of_cell t0)
          have s1 := kp6.cell t1 (lt_of_cell t1)
          clear HS5 HC5 HA5 hb6 kp6 t0 t1
          generalize over W5 x6 = W6 at *
          unfold rngV
          have lR := lt_of_cell s0
          have a0 := HS6.out.cl.a0
          have a1 := HS6.out.cl.a1
          have x0 := HS6.out.x0
          have x1 := HS6.out.x1
          have lX := HS6.out.lt
          have lw := lt_of_cell a0
          go_wp2_with fail
          have hb7 : Below W6.heap.size W6 (W6.alloc (.cells #[.int .i64 (spanRes (laterB b D) K D).lo, .int .i64 (spanRes (laterB b D) K D).hi] 45)) := (Below.refl _ _).alloc (Nat.le_refl _) _
          have HS7 := Lib.hid (HS6.out.on hb7)
          have HC7 := Lib.hid (certs_below HC6.out hb7)
          have kp7 : Keep (· < W6.heap.size) W6 _ := Keep.of_below hb7 fun _ h _ => h
          have t0 := kp7.cell s0 lR
          have t1 := kp7.cell s1 lR
          have r0 : (W6.alloc (.cells #[.int .i64 (spanRes (laterB b D) K D).lo, .int .i64 (spanRes (laterB b D) K D).hi] 45)).cell? ⟨W6.heap.size, 0, none⟩ = some (.int .i64 (spanRes (laterB b D) K D).lo) := by simp [go_sem]
          have r1 : (W6.alloc (.cells #[.int .i64 (spanRes (laterB b D) K D).lo, .int .i64 (spanRes (laterB b D) K D).hi] 45)).cell? ⟨W6.heap.size, 1, none⟩ = some (.int .i64 (spanRes (laterB b D) K D).hi) := by simp [go_sem]
          clear HS6 HC6 hb7 kp7 s0 s1 lR a0 a1 x0 x1 lX lw
          have s0 := t0
          have s1 := t1
          clear t0 t1
          generalize hR2 : W6.heap.size = R2 at *
          generalize World.alloc W6 _ = V7 at *
          clear hR2 W6
          refine (c20 Ai Ac ci cc b V7 (HA.out.below HS7.out.cl.bel) (by omega) (by omega)).mono ?_
          rintro e W8 ⟨Ai8, ci8, Ac8, cc8, rfl, hA8, x8, e8⟩
          have hb8 : Below V7.heap.size V7 W8 := by rw [e8]; exact over_below _ _
          have HA8 := Lib.hid hA8
          clear e8 x8 hA8
          have HS8 := Lib.hid (HS7.out.on hb8)
          have HC8 := Lib.hid (certs_below HC7.out hb8)
          have kp8 : Keep (· < (V7).heap.size) (V7) (W8) := Keep.of_below hb8 fun _ h _ => h
          have s0' := kp8.cell s0 (lt_of_cell s0)
          have s1' := kp8.cell s1 (lt_of_cell s1)
          have r0' := kp8.cell r0 (lt_of_cell r0)
          have r1' := kp8.cell r1 (lt_of_cell r1)
          clear HS7 HC7 s0 s1 r0 r1 kp8
          have s0 := s0'
          have s1 := s1'
          have r0 := r0'
          have r1 := r1'
          clear s0' s1' r0' r1'
          clear hb8
          go_wp2_with fail
          refine (c38 Ai8 Ac8 ci8 cc8 b K D W8 HA8.out (by omega) (by omega)).mono ?_
          rintro e W9 ⟨A9, d9, rfl, hn9, x9, e9⟩
          have hb9 : Below W8.heap.size W8 W9 := by rw [e9]; exact over_below _ _
          have HN9 := Lib.hid (hn9.mono (T := (· < W9.heap.size)) fun j hj => hj.2)
          clear e9 x9 hn9 HA8
          have HS9 := Lib.hid (HS8.out.on hb9)
          have HC9 := Lib.hid (certs_below HC8.out hb9)
          have kp9 : Keep (· < (W8).heap.size) (W8) (W9) := Keep.of_below hb9 fun _ h _ => h
          have s0' := kp9.cell s0 (lt_of_cell s0)
          have s1' := kp9.cell s1 (lt_of_cell s1)
          have r0' := kp9.cell r0 (lt_of_cell r0)
          have r1' := kp9.cell r1 (lt_of_cell r1)
          clear HS8 HC8 s0 s1 r0 r1 kp9
          have s0 := s0'
          have s1 := s1'
          have r0 := r0'
          have r1 := r1'
          clear s0' s1' r0' r1'
          clear hb9
          have a0 := HS9.out.cl.a0
          have a1 := HS9.out.cl.a1
          have x0 := HS9.out.x0
          have x1 := HS9.out.x1
          have lX := HS9.out.lt
          have lw := lt_of_cell a0
          go_wp2_with fail
          have HX9 := Lib.hid (And.intro ((HA.out.below HS9.out.cl.bel).1) HC9.out)
          refine (c20 Ai Ax ci cx (laterB b D) W9 HX9.out (by show b.items.length ≤ _; omega) (by omega)).mono ?_
          rintro e W10 ⟨Ai10, ci10, Ac10, cc10, rfl, hA10, x10, e10⟩
          have hb10 : Below W9.heap.size W9 W10 := by rw [e10]; exact over_below _ _
          have HA10 := Lib.hid hA10
          have HN10 := Lib.hid (HN9.out.below hb10)
          clear e10 x10 hA10 HX9 HN9 a0 a1 x0 x1 lX lw
          have HS10 := Lib.hid (HS9.out.on hb10)
          have HC10 := Lib.hid (certs_below HC9.out hb10)
          have kp10 : Keep (· < (W9).heap.size) (W9) (W10) := Keep.of_below hb10 fun _ h _ => h
          have s0' := kp10.cell s0 (lt_of_cell s0)
          have s1' := kp10.cell s1 (lt_of_cell s1)
          have r0' := kp10.cell r0 (lt_of_cell r0)
          have r1' := kp10.cell r1 (lt_of_cell r1)
          clear HS9 HC9 s0 s1 r0 r1 kp10
          have s0 := s0'
          have s1 := s1'
          have r0 := r0'
          have r1 := r1'
          clear s0' s1' r0' r1'
          clear hb10
          go_wp2_with fail
          refine (c38 Ai10 Ac10 ci10 cc10 (laterB b D) K D W10 HA10.out (by show b.items.length ≤ _; omega) (by omega)).mono ?_
          rintro e W11 ⟨A11, d11, rfl, hn11, x11, e11⟩
          have hb11 : Below W10.heap.size W10 W11 := by rw [e11]; exact over_below _ _
          have HN11 := Lib.hid (hn11.mono (T := (· < W11.heap.size)) fun j hj => hj.2)
          have HM11 := Lib.hid (HN10.out.below hb11)
          clear e11 x11 hn11 HA10 HN10
          have HS11 := Lib.hid (HS10.out.on hb11)
          have HC11 := Lib.hid (certs_below HC10.out hb11)
          have kp11 : Keep (· < (W10).heap.size) (W10) (W11) := Keep.of_below hb11 fun _ h _ => h
          have s0' := kp11.cell s0 (lt_of_cell s0)
          have s1' := kp11.cell s1 (lt_of_cell s1)
          have r0' := kp11.cell r0 (lt_of_cell r0)
          have r1' := kp11.cell r1 (lt_of_cell r1)
          clear HS10 HC10 s0 s1 r0 r1 kp11
          have s0 := s0'
          have s1 := s1'
          have r0 := r0'
          have r1 := r1'
          clear s0' s1' r0' r1'
          clear hb11
          have hbr := bestRes_later HV.out D K
          have hae := askErr_later HV.out D K
          rw [hbr] at HN11
          rw [hbr, hae]
          have hlb : (bestRes b K D).length ≤ 24 := bestRes_len hcl K D
          have hc26 := c26 (ca := d9) (cb := d11) HM11.out HN11.out (by omega) (by omega)
          rw [decide_eq_true (rfl : bestRes b K D = bestRes b K D)] at hc26
          have HC26 := Lib.hid hc26
          clear hbr hae hc26
          generalize bestRes b K D = L at *
          generalize askErr b K D = g at *
          have hspan := span_later HV.out D K
          go_wp2_with fail
          refine HC26.out.mono ?_
          rintro e W12 ⟨rfl, nd, rfl⟩
          have hb12 : Below W11.heap.size W11 (W11.drewN nd) := below_drewN' (Below.refl _ _) nd
          have kp12 : Keep (· < W11.heap.size) W11 (W11.drewN nd) := Keep.of_below hb12 fun _ h _ => h
          have t0 := kp12.cell s0 (lt_of_cell s0)
          have t1 := kp12.cell s1 (lt_of_cell s1)
          have v0 := kp12.cell r0 (lt_of_cell r0)
          have v1 := kp12.cell r1 (lt_of_cell r1)
          have HS12 := Lib.hid (HS11.out.on hb12)
          clear HS11 HC11 s0 s1 r0 r1 hb12 kp12 HC26 HN11 HM11
          generalize W11.drewN nd = W12 at *
          have l0 := lt_of_cell t0
          have l1 := lt_of_cell v0
          rcases hspan with ⟨h9, h0 | h0⟩ | ⟨h9, he, hr⟩
          · rw [h9, h0]
            clear h9 h0
            go_wp2_with fail
            refine (c18 _).mono ?_
            rintro e W13 ⟨rfl, y, rfl⟩
            go_wp2_with fail
            go_ret
            exact ⟨rfl, below_over (HS12.out.cl.onx.bel)⟩
          · rw [h9, h0]
            clear h9 h0
            go_wp2_with fail
            refine (c18 _).mono ?_
            rintro e W13 ⟨rfl, y, rfl⟩
            go_wp2_with fail
            go_ret
            exact ⟨rfl, below_over (HS12.out.cl.onx.bel)⟩
          · rw [he]
            rw [hr] at v0 v1
            clear he hr
            generalize spanErr b K D = f at *
            generalize spanRes b K D = sr at *
            have hf9 : (f == 9) = false := beq_eq_false_iff_ne.2 h9
            clear h9
            go_wp2_with fail
            refine (c18 _).mono ?_
            rintro e W13 ⟨rfl, y, rfl⟩
            go_wp2_with fail
            go_ret
            exact ⟨rfl, below_over (HS12.out.cl.onx.bel)⟩
end Go.Proofs.Ytmcnpfjichbijaa


/- Tools for the later walks: a region cut out of its frame; a struct whose certificates grow. -/
set_option linter.unusedSimpArgs false
set_option linter.unusedVariables false
namespace Go.Proofs.Ytmcnpfjichbijaa
open Go Go.Proofs Go.RowKit Go.Shelf


/-- A frame with some slots anew. -/
def outFrame (a : Act) (l : List (Nat × Value)) : Act := l.foldl (fun a p => a.put (some p.1) p.2) a

/-- What a region that is cut out leaves. -/
def CutPost (a : Act) (R : List (Nat × Value) → World → Prop) (e : Exit) (a' : Act) (w' : World) : Prop :=
  match e with
  | .normal => ∃ l, R l w' ∧ a' = outFrame a l
  | _ => False

theorem region_cut {P : Program} {c : Code} {a : Act} {w : World} {Q : Exit → Act → World → Prop} (R : List (Nat × Value) → World → Prop) (hr : c.wp P (CutPost a R) a w) (ha : ∀ l w', R l w' → Q .normal (outFrame a l) w') : c.wp P Q a w :=
  Code.wp_mono (fun e a' w' h => by
    cases e with
    | normal => obtain ⟨l, hl, rfl⟩ := h; exact ha l w' hl
    | _ => exact absurd h (fun h => h)) hr

theorem cell_on {W W' : World} {b o : Nat} {v : Value} (hb : Below W.heap.size W W') (h : W.cell? ⟨b, o, none⟩ = some v) : W'.cell? ⟨b, o, none⟩ = some v :=
  (Keep.of_below (S := (· < W.heap.size)) hb fun _ h _ => h).cell h (lt_of_cell h)
theorem cell_ov {W x : World} {b o : Nat} {v : Value} (h : W.cell? ⟨b, o, none⟩ = some v) : (over W x).cell? ⟨b, o, none⟩ = some v := cell_on (over_below W x) h
theorem cell_al {W : World} {b o : Nat} {v : Value} (ob : Obj) (h : W.cell? ⟨b, o, none⟩ = some v) : (W.alloc ob).cell? ⟨b, o, none⟩ = some v := cell_on ((Below.refl _ _).alloc (Nat.le_refl _) _) h

/-- A struct whose second field is grown by certificates: a box at X of two cells, and its row. -/
structure ApS (V : World) (X : Nat) (u : Value) (v : Value) (k : Nat) (r : List Value) (W : World) : Prop where
  bel : Below X V W
  hX : X ≤ V.heap.size
  x0 : W.cell? ⟨X, 0, none⟩ = some u
  x1 : W.cell? ⟨X, 1, none⟩ = some v
  xf : ∀ j, W.frozen? ⟨X, j, none⟩ = false
  own : W.ownsRow (X + 1) 58 7 v k r

variable {V : World} {X : Nat} {u : Value} {v : Value} {k : Nat} {r : List Value} {W : World}

theorem ApS.lt (h : ApS V X u v k r W) : X < W.heap.size := lt_of_cell h.x0
theorem ApS.on (h : ApS V X u v k r W) {W' : World} (hb : Below W.heap.size W W') : ApS V X u v k r W' :=
  have kp : Keep (· < W.heap.size) W W' := Keep.of_below hb fun _ h _ => h
  have l := h.lt
  ⟨h.bel.trans (hb.mono (Nat.le_of_lt l)), h.hX, kp.cell h.x0 l, kp.cell h.x1 l, fun j => by rw [World.frozen?_of_block (w := W) (kp.block X l l)]; exact h.xf j, own_below h.own hb⟩
theorem ApS.box (h : ApS V X u v k r W) {W1 : World} (hg : W.grownBy W1 v.ownBlock) :
    W1.cell? ⟨X, 0, none⟩ = some u ∧ W1.cell? ⟨X, 1, none⟩ = some v ∧ (∀ j, W1.frozen? ⟨X, j, none⟩ = false) := by
  have l := h.lt
  have kp : Keep (fun j => some j ≠ v.ownBlock) W W1 := Keep.grown hg fun r hr h => h hr.symm
  have hne : some X ≠ v.ownBlock := fun e => by have := (ownBlock_ge h.own e.symm).1; omega
  exact ⟨kp.cell h.x0 hne, kp.cell h.x1 hne, fun j => by rw [World.frozen?_of_block (w := W) (kp.block _ hne l)]; exact h.xf j⟩
theorem ApS.more (h : ApS V X u v k r W) {W1 : World} {v' : Value} {r' : List Value} (hown : W1.ownsRow (X + 1) 58 7 v' (k + 1) r') (hg : W.grownBy W1 v.ownBlock) : ApS V X u v' (k + 1) r' (W1.setCell ⟨X, 1, none⟩ v') := by
  have l := h.lt
  have hX := h.hX
  have kp : Keep (fun j => some j ≠ v.ownBlock) W W1 := Keep.grown hg fun r hr h => h hr.symm
  have hne : ∀ j, j ≤ X → some j ≠ v.ownBlock := fun j hj e => by have := (ownBlock_ge h.own e.symm).1; omega
  refine ⟨?_, hX, ?_, ?_, fun j => ?_, ?_⟩
  · exact below_set (h.bel.grown hg (by omega) (fun k hk => by have := (ownBlock_ge h.own hk).1; omega)) _ _ (Nat.le_refl _)
  · rw [World.cell?_setCell_other _ _ _ _ (by simp)]
    exact kp.cell h.x0 (hne _ (Nat.le_refl _))
  · exact World.cell?_setCell_same' _ _ _ (by rw [kp.cell h.x1 (hne _ (Nat.le_refl _))]; rfl)
  · rw [World.frozen?_setCell, World.frozen?_of_block (w := W) (kp.block X (hne X (by omega)) (by omega))]; exact h.xf j
  · exact ownsRow_setCell_below hown (a := ⟨X, 1, none⟩) (by simp) _

theorem ApS.certs {l : List Crt} (h : ApS V X u v l.length (l.flatMap crtLs) W) : ∃ A c, v = .slice A l.length c ∧ certsAt (fun j => X < j ∧ j < W.heap.size) W A l := by
  rcases h.own.2 with ⟨h1, h2⟩ | ⟨g, cap, cur, h1, _⟩
  · exact ⟨none, 0, by rw [h1, h2], fun hl => by omega⟩
  · have hge := ownBlock_ge h.own (g := g) (by rw [h1]; rfl)
    refine ⟨some ⟨g, 0, none⟩, cap, h1, fun hl => ⟨g, 0, rfl, ⟨by omega, hge.2⟩, fun i x hx => ?_⟩⟩
    have ho := h.own
    rw [h1] at ho
    have hi := (List.getElem?_eq_some_iff.1 hx).1
    have hj : ∀ t, t < 7 → W.cell? ⟨g, 0 + i * 7 + t, none⟩ = (crtLs x)[t]? := fun t ht => by
      rw [Nat.zero_add, ho.cellAt _ (by omega), row_get (f := crtLs) (n := 7) (fun _ => rfl) _ _ _ _ hx ht]
    exact ⟨hj 0 (by omega), hj 1 (by omega), hj 2 (by omega), hj 3 (by omega), hj 4 (by omega), hj 5 (by omega), hj 6 (by omega)⟩

end Go.Proofs.Ytmcnpfjichbijaa

