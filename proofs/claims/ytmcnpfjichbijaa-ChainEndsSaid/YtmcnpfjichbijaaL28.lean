/- ChainEnds, walked. -/
import Derived.Test.YtmcnpfjichbijaaL27
import Derived.Test.YtmcnpfjichbijaaL14
set_option linter.unusedSimpArgs false
set_option linter.unusedVariables false
namespace Go.Proofs.Ytmcnpfjichbijaa
open Go Go.Proofs Go.RowKit Go.Shelf


/-! ### of each item the first certificate -/
def keepStep (out : List Crt) (c : Crt) : List Crt := if out.any (fun d => d.item == c.item) then out else out ++ [c]
def keepU (l : List Crt) (i : Nat) : List Crt := (l.take i).foldl keepStep []
theorem keepU_succ {l : List Crt} {i : Nat} {q : Crt} (h : l[i]? = some q) : keepU l (i + 1) = keepStep (keepU l i) q := by
  unfold keepU
  rw [List.take_add_one, h, List.foldl_append]; rfl
theorem keepU_spec (l : List Crt) : ∀ i, (keepU l i).length ≤ i ∧ (∀ c ∈ keepU l i, c ∈ l) ∧ ∀ c ∈ keepU l i, ∀ d ∈ keepU l i, c.item = d.item → c = d
  | 0 => ⟨Nat.le_refl _, fun c h => by simp [keepU] at h, fun c h => by simp [keepU] at h⟩
  | i + 1 => by
    obtain ⟨h1, h2, h3⟩ := keepU_spec l i
    cases hq : l[i]? with
    | none =>
      have e : keepU l (i + 1) = keepU l i := by unfold keepU; rw [List.take_add_one, hq]; simp
      rw [e]; exact ⟨by omega, h2, h3⟩
    | some q =>
      rw [keepU_succ hq]
      unfold keepStep
      split
      · exact ⟨by omega, h2, h3⟩
      · rename_i hn
        have hno : ∀ d ∈ keepU l i, d.item ≠ q.item := fun d hd e => hn (List.any_eq_true.2 ⟨d, hd, by simp [e]⟩)
        refine ⟨by simp; omega, fun c hc => ?_, fun c hc d hd e => ?_⟩
        · rcases List.mem_append.1 hc with h | h
          · exact h2 c h
          · rw [List.mem_singleton.1 h]; exact List.mem_of_getElem? hq
        · rcases List.mem_append.1 hc with h | h <;> rcases List.mem_append.1 hd with k | k
          · exact h3 c h d k e
          · rw [List.mem_singleton.1 k] at e; exact absurd e (hno c h)
          · rw [List.mem_singleton.1 h] at e; exact absurd e.symm (hno d k)
          · rw [List.mem_singleton.1 h, List.mem_singleton.1 k]
theorem vb_sub {b x : Bk} (v : Vb b) (hi : x.items = b.items) (hl : x.certs.length ≤ 24) (h : ∀ c ∈ x.certs, c ∈ b.certs) : Vb x :=
  ⟨by rw [hi]; exact v.il, hl, by rw [hi]; exact v.it, fun c hc => by
    have := v.ct c (h c hc)
    unfold crtOk stdOf at this ⊢
    rw [hi]; exact this, fun c hc d hd => v.uq c (h c hc) d (h d hd), fun c hc d hd => v.dy c (h c hc) d (h d hd)⟩

theorem ends_span {x : Bk} (v : Vb x) (s : Single x) {K D : Int} (h0 : 0 ≤ K) (h1 : K < x.items.length) (h2 : 0 ≤ D) (h3 : D ≤ 1000) :
    spanErr x K D = 10 ∨ (spanErr x K D = 0 ∧ spanRes x K D = ⟨reachV x K D false, reachV x K D true⟩) := by
  have ask : askErr x K D = if reach x K D then 0 else 10 := by
    unfold askErr
    rw [if_neg (by rw [(fault_iff x).2 v]; simp), if_neg (by simp [inB]; omega)]
  cases hr : reach x K D
  · rw [hr] at ask
    exact .inl (by rw [spanErr_ask (by rw [ask]; simp), ask]; rfl)
  · rw [hr] at ask
    have e := spanErr_ok ask (s.contra v)
    refine .inr ⟨e, ?_⟩
    unfold spanRes
    rw [if_pos e]
    exact s.at v hr

/-- A struct whose certificates grow, beside an array of marks. -/
structure ApE (V : World) (X Y : Nat) (u : Value) (v : Value) (l : List Crt) (W : World) : Prop where
  bel : Below X V W
  hX : X ≤ V.heap.size
  hXY : X < Y
  x0 : W.cell? ⟨X, 0, none⟩ = some u
  x1 : W.cell? ⟨X, 1, none⟩ = some v
  xf : ∀ j, W.frozen? ⟨X, j, none⟩ = false
  y : ∀ j : Nat, j < 8 → W.cell? ⟨Y, j, none⟩ = some (.bool (l.any fun d => d.item == (j : Int)))
  yf : ∀ j, W.frozen? ⟨Y, j, none⟩ = false
  own : W.ownsRow (Y + 1) 58 7 v l.length (l.flatMap crtLs)

theorem ApE.on {V : World} {X Y : Nat} {u v : Value} {l : List Crt} {W W' : World} (h : ApE V X Y u v l W) (hb : Below W.heap.size W W') : ApE V X Y u v l W' := by
  have l0 := lt_of_cell h.x0
  have l1 := lt_of_cell (h.y 0 (by omega))
  exact ⟨h.bel.trans (hb.mono (Nat.le_of_lt l0)), h.hX, h.hXY, cell_on hb h.x0, cell_on hb h.x1, fun j => by rw [World.frozen?_of_block (w := W) (hb.block _ l0)]; exact h.xf j, fun j hj => cell_on hb (h.y j hj),
    fun j => by rw [World.frozen?_of_block (w := W) (hb.block _ l1)]; exact h.yf j, own_below h.own hb⟩
/-- A mark is set, the certificate appended, the field stored. -/
theorem ApE.more {V : World} {X Y : Nat} {u v v' : Value} {l : List Crt} {q : Crt} {j : Nat} {W W1 W2 : World} {o1 o2 : Obj} (h : ApE V X Y u v l W) (hq : q.item = (j : Int)) (hj : j < 8) (h1 : W1 = (((W.setCell ⟨Y, j, none⟩ (.bool true)).alloc o1).alloc o2)) (hg : W1.grownBy W2 v.ownBlock)
    (hown : W2.ownsRow (Y + 1) 58 7 v' (l.length + 1) (l.flatMap crtLs ++ crtLs q)) : ApE V X Y u v' (l ++ [q]) (W2.setCell ⟨X, 1, none⟩ v') := by
  subst h1
  have hXY := h.hXY
  have hX := h.hX
  have l0 := lt_of_cell h.x0
  have l1 := lt_of_cell (h.y 0 (by omega))
  have kp : Keep (fun k => k ≠ Y ∧ k ≤ Y) W W2 := (((Keep.setCell W ⟨Y, j, none⟩ (.bool true) (fun h => h.1 rfl)).trans (Keep.alloc _ _ _)).trans (Keep.alloc _ _ _)).trans (Keep.grown hg fun r hr hl => by have := (ownBlock_ge h.own hr).1; omega)
  have ky : Keep (fun k => k ≤ Y) (((W.setCell ⟨Y, j, none⟩ (.bool true)).alloc o1).alloc o2) W2 := Keep.grown hg fun r hr hl => by have := (ownBlock_ge h.own hr).1; omega
  have cy : ∀ i : Nat, i < 8 → W2.cell? ⟨Y, i, none⟩ = some (.bool ((l ++ [q]).any fun d => d.item == (i : Int))) := fun i hi => by
    refine ky.cell (cell_al _ (cell_al _ ?_)) (Nat.le_refl _)
    rw [List.any_append]
    by_cases e : i = j
    · subst e
      simp only [List.any_cons, hq, List.any_nil]
      simp
      exact World.cell?_setCell_same' _ _ _ (by rw [h.y i hi]; rfl)
    · rw [World.cell?_setCell_other _ _ _ _ (by intro e'; injection e' with _ e'; exact e e'.symm), h.y i hi]
      have : (q.item == (i : Int)) = false := by rw [hq]; exact beq_eq_false_iff_ne.2 (by omega)
      simp [this]
  refine ⟨?_, hX, hXY, ?_, ?_, fun i => ?_, fun i hi => ?_, fun i => ?_, ?_⟩
  · exact below_set (((((h.bel).trans ((below_set (Below.refl _ _) _ _ (show X ≤ Y by omega)).mono (Nat.le_refl _))).alloc (by simp; omega) _).alloc (by simp; omega) _).grown hg (by simp; omega) (fun k hk => by have := (ownBlock_ge h.own hk).1; omega)) _ _ (Nat.le_refl _)
  · rw [World.cell?_setCell_other _ _ _ _ (by simp)]
    exact kp.cell h.x0 ⟨by omega, by omega⟩
  · exact World.cell?_setCell_same' _ _ _ (by rw [kp.cell h.x1 ⟨by omega, by omega⟩]; rfl)
  · rw [World.frozen?_setCell, World.frozen?_of_block (w := W) (kp.block X ⟨by omega, by omega⟩ l0)]; exact h.xf i
  · rw [World.cell?_setCell_other _ _ _ _ (by intro e; injection e; omega)]; exact cy i hi
  · have e1 : W2.frozen? ⟨Y, i, none⟩ = (((W.setCell ⟨Y, j, none⟩ (.bool true)).alloc o1).alloc o2).frozen? ⟨Y, i, none⟩ := World.frozen?_of_block (ky.block Y (Nat.le_refl _) (by simp; omega))
    have e2 : (((W.setCell ⟨Y, j, none⟩ (.bool true)).alloc o1).alloc o2).frozen? ⟨Y, i, none⟩ = (W.setCell ⟨Y, j, none⟩ (.bool true)).frozen? ⟨Y, i, none⟩ := World.frozen?_of_block ((Below.heap_alloc _ _ Y (by simp; omega)).trans (Below.heap_alloc _ _ Y (by simp; omega)))
    rw [World.frozen?_setCell, e1, e2, World.frozen?_setCell]; exact h.yf i
  · have := ownsRow_setCell_below hown (a := ⟨X, 1, none⟩) (by show X < _; omega) v'
    simpa using this

theorem ApE.certs {V : World} {X Y : Nat} {u v : Value} {l : List Crt} {W : World} (h : ApE V X Y u v l W) : ∃ A c, v = .slice A l.length c ∧ certsAt (· < W.heap.size) W A l := by
  rcases h.own.2 with ⟨h1, h2⟩ | ⟨g, cap, cur, h1, _⟩
  · exact ⟨none, 0, by rw [h1, h2], fun hl => by omega⟩
  · have hge := ownBlock_ge h.own (g := g) (by rw [h1]; rfl)
    refine ⟨some ⟨g, 0, none⟩, cap, h1, fun hl => ⟨g, 0, rfl, hge.2, fun i x hx => ?_⟩⟩
    have ho := h.own
    rw [h1] at ho
    have hi := (List.getElem?_eq_some_iff.1 hx).1
    have hj : ∀ t, t < 7 → W.cell? ⟨g, 0 + i * 7 + t, none⟩ = (crtLs x)[t]? := fun t ht => by
      rw [Nat.zero_add, ho.cellAt _ (by omega), row_get (f := crtLs) (n := 7) (fun _ => rfl) _ _ _ _ hx ht]
    exact ⟨hj 0 (by omega), hj 1 (by omega), hj 2 (by omega), hj 3 (by omega), hj 4 (by omega), hj 5 (by omega), hj 6 (by omega)⟩

set_option maxRecDepth 100000 in
set_option maxHeartbeats 4000000 in
theorem c8 (Ai Ac : Option Addr) (ci cc : Nat) (b : Bk) (it dy : Int) (w : World) (hA : bookAt (· < w.heap.size) w Ai Ac b)
    (h1 : b.items.length ≤ 9223372036854775807) (h2 : b.certs.length ≤ 9223372036854775807) (h3 : (Lit.int .u8 it).wf = true) (h4 : (Lit.int .u16 dy).wf = true) :
    Calls Try.prog 8 #[.agg #[.slice Ai b.items.length ci, .slice Ac b.certs.length cc], .int .u8 it, .int .u16 dy] w fun e w' => e = .returned (.bool true) ∧ ∃ x, w' = over w x := by
  have HA := Lib.hid hA
  clear hA
  go_enter Try.func8, Try.ntmps8
  go_wp2_with fail
  have hCl : Cl w (.slice Ai b.items.length ci) (.slice Ac b.certs.length cc) (w.alloc (.cells #[.slice Ai b.items.length ci, .slice Ac b.certs.length cc] 25)) := ⟨by repeat' (first | exact Below.refl _ _ | (refine below_ov ?_ ?_) | (refine Below.alloc ?_ ?_ _) | (refine below_drewN' ?_ _) | (refine Below.drew ?_) | (refine below_set ?_ _ _ ?_) | (simp; done) | (simp; omega) | omega), by simp [go_sem], by simp [go_sem]⟩
  refine (c32 Ai Ac ci cc b _ (HA.out.alloc _) h1 h2).mono ?_
  rintro e w1 ⟨rfl, x, rfl⟩
  have HC1 := Lib.hid (hCl.onx (x := x))
  clear hCl
  generalize over _ x = W1 at *
  have c0 := HC1.out.a0
  have c1 := HC1.out.a1
  have lw := lt_of_cell c0
  cases hf : (fault b == 0)
  · go_wp2_with fail
    refine (c18 _).mono ?_
    rintro e w2 ⟨rfl, y, rfl⟩
    go_wp2_with fail
    go_ret
    exact ⟨rfl, below_over (HC1.out.onx.bel)⟩
  · have hv : Vb b := (fault_iff b).1 (by simpa using hf)
    have HV := Lib.hid hv
    have hil := hv.il
    have hcl := hv.cl
    clear hv hf
    by_cases hi0 : b.items.length = 0
    · have hz : ((b.items.length : Int) == 0) = true := by simp [hi0]
      go_wp2_with fail
      refine (c18 _).mono ?_
      rintro e w2 ⟨rfl, y, rfl⟩
      go_wp2_with fail
      go_ret
      exact ⟨rfl, below_over (HC1.out.onx.bel)⟩
    · have hz : ((b.items.length : Int) == 0) = false := beq_eq_false_iff_ne.2 (by omega)
      have hnz : (b.items.length : Int) ≠ 0 := by omega
      have hK0 : 0 ≤ (wrap64 it).tmod (b.items.length : Int) ∧ (wrap64 it).tmod (b.items.length : Int) < b.items.length := tmod_in h3 (by omega)
      have hD0 : 0 ≤ (wrap64 dy).tmod 1001 ∧ (wrap64 dy).tmod 1001 < 1001 := tmod_in16 h4
      obtain ⟨hK1, hK2⟩ := hK0
      obtain ⟨hD1, hD2⟩ := hD0
      go_wp2_with fail
      generalize (wrap64 it).tmod (b.items.length : Int) = K at *
      generalize (wrap64 dy).tmod 1001 = D at *
      have hal : Below W1.heap.size W1 ((W1.alloc (.cells #[.slice Ai b.items.length ci, .slice none 0 0] 25)).alloc (.cells #[.bool false, .bool false, .bool false, .bool false, .bool false, .bool false, .bool false, .bool false] 67)) := by repeat' (first | exact Below.refl _ _ | (refine below_ov ?_ ?_) | (refine Below.alloc ?_ ?_ _) | (refine below_drewN' ?_ _) | (refine Below.drew ?_) | (refine below_set ?_ _ _ ?_) | (simp; done) | (simp; omega) | omega)
      have HC2 := Lib.hid (HC1.out.on hal)
      have HP0 := Lib.hid (show ApE ((W1.alloc (.cells #[.slice Ai b.items.length ci, .slice none 0 0] 25)).alloc (.cells #[.bool false, .bool false, .bool false, .bool false, .bool false, .bool false, .bool false, .bool false] 67)) W1.heap.size (W1.heap.size + 1) (.slice Ai b.items.length ci) (.slice none 0 0) (keepU b.certs 0) ((W1.alloc (.cells #[.slice Ai b.items.length ci, .slice none 0 0] 25)).alloc (.cells #[.bool false, .bool false, .bool false, .bool false, .bool false, .bool false, .bool false, .bool false] 67)) from
        ⟨Below.refl _ _, by simp; omega, by omega, by simp [go_sem], by simp [go_sem], fun j => by simp [go_sem], fun j hj => by
          rcases j with _ | _ | _ | _ | _ | _ | _ | _ | j <;> first | (simp [go_sem, keepU]; done) | omega, fun j => by simp [go_sem], World.ownsRow_nil _ _ _ _⟩)
      have hX : w.heap.size < W1.heap.size := lw
      clear hal HC1 c0 c1 lw hz hnz
      generalize (W1.alloc (.cells #[.slice Ai b.items.length ci, .slice none 0 0] 25)).alloc (.cells #[.bool false, .bool false, .bool false, .bool false, .bool false, .bool false, .bool false, .bool false] 67) = V at *
      generalize hXX : W1.heap.size = X at *
      clear hXX
      go_loopw [11] (fun t wr => ∃ (i : Nat) (v : Value), i ≤ b.certs.length ∧ t = .int .i64 i ∧ ApE V X (X + 1) (.slice Ai b.items.length ci) v (keepU b.certs i) wr) (fun t _ => b.certs.length - (intOf t).toNat)
      case atStart => exact ⟨0, _, Nat.zero_le _, rfl, HP0.out⟩
      case round =>
        obtain ⟨i, v, hi, rfl, hS⟩ := hrel
        have HS := Lib.hid hS
        have kv : Keep (fun j => j < X) V wr := Keep.of_below hS.bel fun _ h _ => h
        have d0 := kv.cell HC2.out.a0 hX
        have d1 := kv.cell HC2.out.a1 hX
        have lX := lt_of_cell hS.x0
        have lY := lt_of_cell (hS.y 0 (by omega))
        have lw := lt_of_cell d0
        by_cases hlt : i < b.certs.length
        · obtain ⟨q, hq⟩ : ∃ q, b.certs[i]? = some q := ⟨b.certs[i], by simp [hlt]⟩
          have hin : certsAt (· < w.heap.size) wr Ac b.certs := (HA.out.2.keep (Keep.of_below HC2.out.bel fun _ h _ => h)).keep (kv.mono fun j hj => by omega)
          obtain ⟨An, Ao, eA, hSA, hns⟩ := hin (by omega)
          obtain ⟨g0, g1, g2, g3, g4, g5, g6⟩ := hns i q hq
          have lg := lt_of_cell g0
          have hix := fun c => @idx23 Ac An Ao b.certs.length c eA i hlt
          have HSN := Lib.hid (keepU_succ hq)
          have hcv := (crtOk_iff b q).1 (HV.out.ct q (List.mem_of_getElem? hq))
          obtain ⟨j, hj⟩ := Int.eq_ofNat_of_zero_le hcv.i1
          have hj8 : j < 8 := by have := hcv.i2; omega
          have HJ := Lib.hid hj
          have hkl := (keepU_spec b.certs i).1
          rw [hj] at g1
          have y0 := hS.y j hj8
          have yf0 := hS.yf j
          have e1 := hS.x1
          have xf := hS.xf 1
          obtain ⟨i0, hj0, hz0, hz1, hz2⟩ := info_parts info58
          have HI0 := Lib.hid (And.intro hj0 (And.intro hz0 (And.intro hz1 hz2)))
          have hb9 : Below wr.heap.size wr (wr.alloc (.cells #[.int .i64 q.num, .int .i64 j, .int .i64 q.by_, .int .i64 q.day, .int .i64 q.valid, .int .i64 q.diff.lo, .int .i64 q.diff.hi] 58)) := (Below.refl _ _).alloc (Nat.le_refl _) _
          have HS9 := Lib.hid (HS.out.on hb9)
          clear hS kv hq eA hns hin hSA hcv hj hj0 hz0 hz1 hz2 hb9
          cases hse : ((keepU b.certs i).any fun d => d.item == (j : Int))
          · rw [hse] at y0
            have HM := Lib.hid (show keepU b.certs (i + 1) = keepU b.certs i ++ [q] by rw [HSN.out]; unfold keepStep; rw [if_neg (by rw [HJ.out, hse]; simp)])
            clear hse
            generalize keepU b.certs i = kl at *
            have hlen : (kl.flatMap crtLs).length = kl.length * 7 := row_length (n := 7) (fun _ => rfl) kl
            have hcq : crtLs q = [.int .i64 q.num, .int .i64 (j : Int), .int .i64 q.by_, .int .i64 q.day, .int .i64 q.valid, .int .i64 q.diff.lo, .int .i64 q.diff.hi] := by unfold crtLs; rw [HJ.out]
            have HCQ := Lib.hid hcq
            have HOW := Lib.hid (show ((wr.setCell ⟨X + 1, j, none⟩ (.bool true)).alloc (.cells #[.int .i64 q.num, .int .i64 j, .int .i64 q.by_, .int .i64 q.day, .int .i64 q.valid, .int .i64 q.diff.lo, .int .i64 q.diff.hi] 58)).ownsRow (X + 1 + 1) 58 7 v kl.length (kl.flatMap crtLs) from (ownsRow_setCell_below HS.out.own (a := ⟨X + 1, j, none⟩) (by simp) _).alloc _)
            clear hcq
            go_wp2_with (at_builtin; refine wpList_append_own _ rfl _ _ 23 rfl (X + 1 + 1) 58 i0 (.agg #[.int .i64 0, .int .i64 0, .int .i64 0, .int .i64 0, .int .i64 0, .int .i64 0, .int .i64 0]) 7 56 und23e HI0.out.1 HI0.out.2.1 HI0.out.2.2.1 HI0.out.2.2.2 rfl (by decide) v kl.length _ rfl (HOW.out.alloc _) ⟨wr.heap.size + 1, 0, none⟩ 1 1 [.int .i64 q.num, .int .i64 (j : Int), .int .i64 q.by_, .int .i64 q.day, .int .i64 q.valid, .int .i64 q.diff.lo, .int .i64 q.diff.hi] rfl rfl ?news ?one ?h63 ?hb ?base ?_)
            case news => exact fun k u hk => by rw [add0, World.cell?_alloc_at _ _ _ _ (by simp)]; simpa using hk
            case one => intro u hu; simp at hu; rcases hu with rfl | rfl | rfl | rfl | rfl | rfl | rfl <;> rfl
            case h63 => simp only [maxLen]; omega
            case hb => omega
            case base => simp; omega
            intro v' w1 hown hgr _
            rw [← HCQ.out] at hown
            obtain ⟨A', c', e⟩ : ∃ A' c', v' = .slice A' (kl.length + 1) c' := by
              rcases hown.2 with ⟨h1, h2⟩ | ⟨g, cap, cur, h1, _⟩
              · omega
              · exact ⟨_, _, h1⟩
            subst e
            have hmr := HS.out.more (W2 := w1) HJ.out hj8 rfl hgr hown
            have HMR := Lib.hid hmr
            have kk : Keep (fun k => k ≤ X) (wr.setCell ⟨X + 1, j, none⟩ (.bool true)) w1 := ((Keep.alloc _ _ _).trans (Keep.alloc _ _ _)).trans (Keep.grown hgr fun r hr hl => by have := (ownBlock_ge HS.out.own hr).1; omega)
            have ks : Keep (fun k => k ≤ X) wr w1 := (Keep.setCell _ _ _ (fun h => by simp at h; omega)).trans kk
            have p1 := ks.cell HS.out.x1 (Nat.le_refl _)
            have pf : w1.frozen? ⟨X, 1, none⟩ = false := by rw [World.frozen?_of_block (w := wr) (ks.block X (Nat.le_refl _) (lt_of_cell HS.out.x0))]; exact HS.out.xf 1
            have lp := lt_of_cell p1
            clear hown hgr hmr kk ks HOW HCQ
            go_wp2_with fail
            go_roundw
            case rel => exact ⟨i + 1, _, by omega, by go_num, by rw [HM.out]; simpa using HMR.out⟩
            case measure => simp [intOf]; omega
          · rw [hse] at y0
            have HM := Lib.hid (show keepU b.certs (i + 1) = keepU b.certs i by rw [HSN.out]; unfold keepStep; rw [if_pos (by rw [HJ.out, hse])])
            clear hse
            go_wp2_with fail
            go_roundw
            case rel => exact ⟨i + 1, v, by omega, by go_num, by rw [HM.out]; exact HS9.out⟩
            case measure => simp [intOf]; omega
        · have hie : i = b.certs.length := by omega
          subst hie
          obtain ⟨ks1, ks2, ks3⟩ := keepU_spec b.certs b.certs.length
          obtain ⟨x, hxi, hxr⟩ : ∃ x : Bk, x.items = b.items ∧ x.certs = keepU b.certs b.certs.length := ⟨⟨b.items, keepU b.certs b.certs.length⟩, rfl, rfl⟩
          rw [← hxr] at hS ks1 ks2 ks3
          obtain ⟨Ax, cx, rfl, hxc⟩ := hS.certs
          have hbw := HC2.out.bel.trans (hS.bel.mono (show w.heap.size ≤ X by omega))
          have hx0 := hS.x0
          have hx1 := hS.x1
          have HVB := Lib.hid hbw
          have HX0 := Lib.hid (show bookAt (· < wr.heap.size) wr Ai Ax x from ⟨by rw [hxi]; exact (HA.out.below hbw).1, hxc⟩)
          have HS_0 := Lib.hid (((((show St wr [] wr from ⟨Below.refl _ _, fun p hp => by cases hp⟩).add hx1).add (show wr.cell? ⟨X, 0, none⟩ = some (.slice Ai x.items.length ci) by rw [hxi]; exact hx0)).add d1).add d0)
          have hxil : x.items.length ≤ 8 := by rw [hxi]; exact hil
          have hxcl : x.certs.length ≤ 24 := by omega
          have HVx := Lib.hid (vb_sub HV.out hxi hxcl ks2)
          have HFx := Lib.hid ((fault_iff x).2 HVx.out)
          have HKS := Lib.hid ks3
          have hK3 : K < x.items.length := by rw [hxi]; exact hK2
          clear hS hxc hbw hx0 hx1 HS kv d0 d1 lX lY lw HC2 HP0 hlt hi hi0 hxr ks1 ks2 ks3 hxi
          generalize wr = W_0 at *
          have a0 := HS_0.out.cell _ (.head _)
          have a1 := HS_0.out.cell _ (.tail _ (.head _))
          have x0 := HS_0.out.cell _ (.tail _ (.tail _ (.head _)))
          have x1 := HS_0.out.cell _ (.tail _ (.tail _ (.tail _ (.head _))))
          have lv_W_0 := lt_of_cell a0
          have l_a0 := lt_of_cell a0
          have l_a1 := lt_of_cell a1
          have l_x0 := lt_of_cell x0
          have l_x1 := lt_of_cell x1
          go_wp2_with fail
          refine (c20 Ai Ax ci cx x W_0 (HX0.out.below HS_0.out.bel) (by omega) (by omega)).mono ?_
          rintro e W_x ⟨I_1, i_1, C_1, j_1, rfl, hB, y, rfl⟩
          have HB_1 := Lib.hid hB
          clear hB
          have HS_3 := Lib.hid (HS_0.out.on (over_below _ y))
          clear a0 a1 x0 x1 l_a0 l_a1 l_x0 l_x1 lv_W_0
          clear HS_0 
          generalize over W_0 y = W_2 at *
          have a0 := HS_3.out.cell _ (.head _)
          have a1 := HS_3.out.cell _ (.tail _ (.head _))
          have x0 := HS_3.out.cell _ (.tail _ (.tail _ (.head _)))
          have x1 := HS_3.out.cell _ (.tail _ (.tail _ (.tail _ (.head _))))
          have lv_W_2 := lt_of_cell a0
          have l_a0 := lt_of_cell a0
          have l_a1 := lt_of_cell a1
          have l_x0 := lt_of_cell x0
          have l_x1 := lt_of_cell x1
          go_wp2_with fail
          refine Calls.mono (f := 34) (c34u I_1 C_1 i_1 j_1 x W_2 HB_1.out (by omega) (by omega)) ?_
          rintro e W_x ⟨B_4, d_4, rfl, hn, y, he⟩
          have hb : Below W_2.heap.size W_2 W_x := by rw [he]; exact over_below _ _
          rw [HFx.out]
          have HN_5 := Lib.hid (hn.mono (T := (· < W_x.heap.size)) fun j hj => hj.2)
          clear HB_1 hn he
          have HS_7 := Lib.hid (HS_3.out.on (hb))
          clear a0 a1 x0 x1 l_a0 l_a1 l_x0 l_x1 lv_W_2
          clear HS_3 
          clear hb y
          generalize W_x = W_6 at *
          have a0 := HS_7.out.cell _ (.head _)
          have a1 := HS_7.out.cell _ (.tail _ (.head _))
          have x0 := HS_7.out.cell _ (.tail _ (.tail _ (.head _)))
          have x1 := HS_7.out.cell _ (.tail _ (.tail _ (.tail _ (.head _))))
          have lv_W_6 := lt_of_cell a0
          have l_a0 := lt_of_cell a0
          have l_a1 := lt_of_cell a1
          have l_x0 := lt_of_cell x0
          have l_x1 := lt_of_cell x1
          have hlx := heldRes_len hxcl
          by_cases hln : (heldRes x).length = x.certs.length
          · have hz : (((heldRes x).length : Int) != (x.certs.length : Int)) = false := by simp [hln]
            have HSG := Lib.hid (show Single x from ⟨HKS.out, heldL_all (by have := hln; unfold heldRes at this; rw [if_pos HFx.out] at this; exact this)⟩)
            go_wp2_with fail
            clear hz hln
            refine (c20 Ai Ax ci cx x W_6 (HX0.out.below HS_7.out.bel) (by omega) (by omega)).mono ?_
            rintro e W_x ⟨I_8, i_8, C_8, j_8, rfl, hB, y, rfl⟩
            have HB_8 := Lib.hid hB
            clear hB
            have HS_10 := Lib.hid (HS_7.out.on (over_below _ y))
            clear a0 a1 x0 x1 l_a0 l_a1 l_x0 l_x1 lv_W_6
            clear HS_7 
            generalize over W_6 y = W_9 at *
            have a0 := HS_10.out.cell _ (.head _)
            have a1 := HS_10.out.cell _ (.tail _ (.head _))
            have x0 := HS_10.out.cell _ (.tail _ (.tail _ (.head _)))
            have x1 := HS_10.out.cell _ (.tail _ (.tail _ (.tail _ (.head _))))
            have lv_W_9 := lt_of_cell a0
            have l_a0 := lt_of_cell a0
            have l_a1 := lt_of_cell a1
            have l_x0 := lt_of_cell x0
            have l_x1 := lt_of_cell x1
            go_wp2_with fail
            refine (c27 I_8 C_8 i_8 j_8 x K D W_9 HB_8.out (by omega) (by omega)).mono ?_
            rintro e W_x ⟨rfl, y, rfl⟩
            clear HB_8
            have HS_12 := Lib.hid (HS_10.out.on (over_below _ y))
            clear a0 a1 x0 x1 l_a0 l_a1 l_x0 l_x1 lv_W_9
            clear HS_10 
            generalize over W_9 y = W_11 at *
            have a0 := HS_12.out.cell _ (.head _)
            have a1 := HS_12.out.cell _ (.tail _ (.head _))
            have x0 := HS_12.out.cell _ (.tail _ (.tail _ (.head _)))
            have x1 := HS_12.out.cell _ (.tail _ (.tail _ (.tail _ (.head _))))
            have lv_W_11 := lt_of_cell a0
            have l_a0 := lt_of_cell a0
            have l_a1 := lt_of_cell a1
            have l_x0 := lt_of_cell x0
            have l_x1 := lt_of_cell x1
            unfold rngV
            have hes := ends_span HVx.out HSG.out hK1 hK3 hD1 (by omega)
            have hc39 := fun (hg : Bool) (W : World) (hW : Below W_11.heap.size W_11 W) => c39 Ai Ax ci cx x HVx.out HSG.out hg K D W (HX0.out.below (HS_12.out.bel.trans (hW.mono HS_12.out.bel.size))) hK1 hK3 hD1 (by omega)
            rcases hes with h10 | ⟨h0, hrs⟩
            · rw [h10]
              generalize spanRes x K D = s at *
              clear h10 hc39
              go_wp2_with fail
              have hal : Below W_11.heap.size W_11 (W_11.alloc (.cells #[.int .i64 s.lo, .int .i64 s.hi] 45)) := (Below.refl _ _).alloc (Nat.le_refl _) _
              have HAL := Lib.hid hal
              refine (c18 _).mono ?_
              rintro e w2 ⟨rfl, y, rfl⟩
              go_wp2_with fail
              go_ret
              exact ⟨rfl, below_over (HVB.out.trans ((HS_12.out.bel.trans ((HAL.out.trans ((over_below _ _).mono HAL.out.size)).mono HS_12.out.bel.size)).mono HVB.out.size))⟩
            · rw [h0, hrs]
              have HQ := Lib.hid hc39
              clear h0 hrs hc39
              have hq2 : ∀ W, Below W_11.heap.size (W_11.alloc (.cells #[.int .i64 (reachV x K D false), .int .i64 (reachV x K D true)] 45)) W → Calls Try.prog 39 #[.agg #[.slice Ai x.items.length ci, .slice Ax x.certs.length cx], .int .i64 K, .int .i64 D, .bool false] W (fun e w' => e = .returned (.int .i64 (reachV x K D false)) ∧ ∃ y, w' = over W y) ∧ Calls Try.prog 39 #[.agg #[.slice Ai x.items.length ci, .slice Ax x.certs.length cx], .int .i64 K, .int .i64 D, .bool true] W (fun e w' => e = .returned (.int .i64 (reachV x K D true)) ∧ ∃ y, w' = over W y) := fun W hW => by
                have hal : Below W_11.heap.size W_11 (W_11.alloc (.cells #[.int .i64 (reachV x K D false), .int .i64 (reachV x K D true)] 45)) := (Below.refl _ _).alloc (Nat.le_refl _) _
                exact ⟨HQ.out false W (hal.trans hW), HQ.out true W (hal.trans hW)⟩
              have HQ2 := Lib.hid hq2
              clear hq2 HQ
              generalize reachV x K D false = r0 at *
              generalize reachV x K D true = r1 at *
              go_wp2_with fail
              have hal : Below W_11.heap.size W_11 (W_11.alloc (.cells #[.int .i64 r0, .int .i64 r1] 45)) := (Below.refl _ _).alloc (Nat.le_refl _) _
              have HS_f := Lib.hid (((HS_12.out.on hal).add (b := W_11.heap.size) (o := 1) (v := .int .i64 r1) (by simp [go_sem])).add (b := W_11.heap.size) (o := 0) (v := .int .i64 r0) (by simp [go_sem]))
              clear a0 a1 x0 x1 l_a0 l_a1 l_x0 l_x1 lv_W_11
              clear hal HS_12
              generalize W_11.alloc (.cells #[.int .i64 r0, .int .i64 r1] 45) = W_f at *
              generalize W_11.heap.size = R_s at *
              have s0 := HS_f.out.cell _ (.head _)
              have s1 := HS_f.out.cell _ (.tail _ (.head _))
              have a0 := HS_f.out.cell _ (.tail _ (.tail _ (.head _)))
              have a1 := HS_f.out.cell _ (.tail _ (.tail _ (.tail _ (.head _))))
              have x0 := HS_f.out.cell _ (.tail _ (.tail _ (.tail _ (.tail _ (.head _)))))
              have x1 := HS_f.out.cell _ (.tail _ (.tail _ (.tail _ (.tail _ (.tail _ (.head _))))))
              have lv_W_f := lt_of_cell s0
              have l_s0 := lt_of_cell s0
              have l_s1 := lt_of_cell s1
              have l_a0 := lt_of_cell a0
              have l_a1 := lt_of_cell a1
              have l_x0 := lt_of_cell x0
              have l_x1 := lt_of_cell x1
              have HCF := Lib.hid (fun z => (HQ2.out (over W_f z) ((over_below W_f z).mono (Nat.le_of_lt l_s0))).1)
              have HCT := Lib.hid (fun z => (HQ2.out (over W_f z) ((over_below W_f z).mono (Nat.le_of_lt l_s0))).2)
              clear HQ2
              refine wp_region_over (by kernel_rfl) (by kernel_rfl) ?_
              repeat (go_big_quiet_step (first | with_reducible exact calls_over_of (HCF.out _) | with_reducible exact calls_over_of (HCT.out _) | with_reducible exact calls_over_of (c18 _)))
              refine wpQuiet_nil ?_
              rintro w' ⟨z, rfl⟩
              go_wp2_with fail
              go_ret
              exact ⟨rfl, below_over (HVB.out.trans ((HS_f.out.bel.trans ((over_below _ z).mono HS_f.out.bel.size)).mono HVB.out.size))⟩
          · have hz : (((heldRes x).length : Int) != (x.certs.length : Int)) = true := by simp; omega
            go_wp2_with fail
            refine (c18 _).mono ?_
            rintro e w2 ⟨rfl, y, rfl⟩
            go_wp2_with fail
            go_ret
            exact ⟨rfl, below_over (HVB.out.trans ((HS_7.out.bel.trans ((over_below _ _).mono HS_7.out.bel.size)).mono HVB.out.size))⟩
end Go.Proofs.Ytmcnpfjichbijaa

