/- Is an item's value held? What asking answers. -/
import Derived.Test.YtmcnpfjichbijaaK1
import Derived.Test.YtmcnpfjichbijaaR1

set_option linter.unusedSimpArgs false
set_option linter.unusedVariables false
namespace Go.Proofs.Ytmcnpfjichbijaa
open Go Go.Proofs Go.RowKit Go.Shelf


def isHeldTo (b : Bk) (L : List Int) (item day : Int) (j : Nat) : Bool := (b.certs.take j).any fun c => c.item == item && onB c day && decide (c.num ∈ L)
theorem isHeldTo_succ {b : Bk} {L : List Int} {item day : Int} {j : Nat} {q : Crt} (h : b.certs[j]? = some q) : isHeldTo b L item day (j + 1) = (isHeldTo b L item day j || (q.item == item && onB q day && decide (q.num ∈ L))) := by
  unfold isHeldTo
  rw [List.take_add_one, h, List.any_append]
  simp
theorem isHeld_any {b : Bk} {L : List Int} {item day : Int} {j : Nat} (h : isHeldTo b L item day j = true) : isHeldTo b L item day b.certs.length = true := by
  unfold isHeldTo at *
  rw [List.take_length]
  rw [List.any_eq_true] at *
  obtain ⟨c, hc, h⟩ := h
  exact ⟨c, List.mem_of_mem_take hc, h⟩
theorem reach_held {b : Bk} (v : Vb b) (item day : Int) : reach b item day = (stdOf b item || isHeldTo b (heldL b []) item day b.certs.length) := by
  rw [Bool.eq_iff_iff, reach_iff _ _ _ v, Bool.or_eq_true]
  unfold isHeldTo
  rw [List.take_length, List.any_eq_true]
  simp only [Bool.and_eq_true, decide_eq_true_eq, beq_iff_eq, mem_heldL0]
  constructor
  · rintro (h | ⟨m, h1, h2, h3, h4⟩)
    · exact .inl h
    · obtain ⟨e, hc⟩ := v.num h1
      exact .inr ⟨getC b m, hc, ⟨h2, h3⟩, by rw [e]; exact h4⟩
  · rintro (h | ⟨c, hc, ⟨h2, h3⟩, h4⟩)
    · exact .inl h
    · have e := (v.isC hc).get
      exact .inr ⟨c.num, (mem_numsOf b _).2 ⟨c, hc, rfl⟩, by rw [e]; exact h2, by rw [e]; exact h3, h4⟩

set_option maxRecDepth 100000 in
set_option maxHeartbeats 4000000 in
theorem c62 (Ai Ac : Option Addr) (ci cc : Nat) (b : Bk) (item day : Int) (w : World) (hA : bookAt (· < w.heap.size) w Ai Ac b) (v : Vb b) (hi0 : 0 ≤ item) (hi1 : item < b.items.length) :
    Calls Try.prog 62 #[.agg #[.slice Ai b.items.length ci, .slice Ac b.certs.length cc], .int .i64 item, .int .i64 day] w fun e w' => e = .returned (.bool (reach b item day)) ∧ ∃ x, w' = over w x := by
  have HA := Lib.hid hA
  have HV := Lib.hid v
  have hil := v.il
  have hcl := v.cl
  obtain ⟨m, hm⟩ := Int.eq_ofNat_of_zero_le hi0
  subst hm
  have hml : m < b.items.length := by omega
  obtain ⟨Bi, Bo, eBi, hSI, hits⟩ := hA.1 (by omega)
  have i2 := (hits m b.items[m] (by simp [hml])).2.1
  have hix := fun c => @idx22 Ai Bi Bo b.items.length c eBi m hml
  have hstd : stdOf b (m : Int) = b.items[m].std := by unfold stdOf; simp [hml]
  generalize b.items[m].std = sv at i2 hstd
  have HST := Lib.hid hstd
  have li := lt_of_cell i2
  have hR := Lib.hid (reach_held v m day)
  clear hits eBi hstd hA v
  cases sv
  · go_enter Try.func62, Try.ntmps62
    go_wp2_with fail
    have hCl : Cl w (.slice Ai b.items.length ci) (.slice Ac b.certs.length cc) (w.alloc (.cells #[.slice Ai b.items.length ci, .slice Ac b.certs.length cc] 25)) := ⟨by repeat' (first | exact Below.refl _ _ | (refine below_ov ?_ ?_) | (refine Below.alloc ?_ ?_ _) | (refine below_drewN' ?_ _) | (refine Below.drew ?_) | (refine below_set ?_ _ _ ?_) | (simp; done) | (simp; omega) | omega), by simp [go_sem], by simp [go_sem]⟩
    have HC0 := Lib.hid hCl
    clear hCl
    have hA0 := HA.out.below HC0.out.bel
    have hc24 := c24 Ai Ac none ci cc 0 b [] _ hA0.1 hA0.2 (fun h => by simp at h) (by simp) (by omega) (by omega) (fun c hc => vb_by HV.out hc) (fun c hc => vb_day HV.out hc)
    have hrl := refTo_length b [] 999
    rw [refTo_all HV.out] at hc24 hrl
    refine hc24.mono ?_
    rintro e W1 ⟨A1, d1, rfl, hn1, x1, e1⟩
    have hb1 : Below (w.alloc (.cells #[.slice Ai b.items.length ci, .slice Ac b.certs.length cc] 25)).heap.size (w.alloc (.cells #[.slice Ai b.items.length ci, .slice Ac b.certs.length cc] 25)) W1 := by rw [e1]; exact over_below _ _
    have HC1 := Lib.hid (HC0.out.on hb1)
    have HN1 := Lib.hid (hn1.mono (T := (· < W1.heap.size)) fun j hj => hj.2)
    clear hn1 e1 x1 hb1 HC0 hA0 hc24 i2 hix li
    generalize heldL b [] = L at *
    go_wp2_with fail
    go_loopw [8] (fun t wr => ∃ (j : Nat), j ≤ b.certs.length ∧ t = .int .i64 j ∧ isHeldTo b L m day j = false ∧ Below W1.heap.size W1 wr) (fun t _ => b.certs.length - (intOf t).toNat)
    case atStart => exact ⟨0, Nat.zero_le _, rfl, by simp [isHeldTo], Below.refl _ _⟩
    case round =>
      obtain ⟨j, hj, rfl, hno, hbel⟩ := hrel
      have HS := Lib.hid (HC1.out.on hbel)
      have HBE := Lib.hid hbel
      have HNO := Lib.hid hno
      have d0 := HS.out.a0
      have d1' := HS.out.a1
      have lw := lt_of_cell d0
      have hbk := HA.out.below HS.out.bel
      have m1 := HN1.out.below hbel
      clear hbel hno
      by_cases hlt : j < b.certs.length
      · obtain ⟨q, hq⟩ : ∃ q, b.certs[j]? = some q := ⟨b.certs[j], by simp [hlt]⟩
        obtain ⟨Bc, Co, eC, hSC, hcs⟩ := hbk.2 (by omega)
        obtain ⟨q0, q1, q2, q3, q4, q5, q6⟩ := hcs j q hq
        have hixc := fun c => @idx23 Ac Bc Co b.certs.length c eC j hlt
        have lc := lt_of_cell q0
        obtain ⟨y0, y1, y2, y3⟩ := vb_day HV.out (List.mem_of_getElem? hq)
        have hsu := isHeldTo_succ (L := L) (item := (m : Int)) (day := day) hq
        rw [HNO.out, Bool.false_or] at hsu
        have HSU := Lib.hid hsu
        clear hbk hq eC hcs hsu m1
        cases h1 : (q.item == (m : Int))
        · rw [h1] at HSU
          go_wp2_with fail
          go_roundw
          case rel => exact ⟨j + 1, by omega, by go_num, by rw [HSU.out]; rfl, HBE.out.alloc HBE.out.size _⟩
          case measure => simp [intOf]; omega
        · rw [h1] at HSU
          cases h2 : onB q day
          · rw [h2] at HSU
            have hc63 := Lib.hid (c63 q.num q.item q.by_ q.day q.valid q.diff.lo q.diff.hi day (wr.alloc (.cells #[.int .i64 q.num, .int .i64 q.item, .int .i64 q.by_, .int .i64 q.day, .int .i64 q.valid, .int .i64 q.diff.lo, .int .i64 q.diff.hi] 58)) y0 y1 y2 y3)
            rw [show inB day q.day (q.day + q.valid) = false from h2] at hc63
            go_wp2_with fail
            refine hc63.out.mono ?_
            rintro e W2 ⟨rfl, x2, rfl⟩
            go_wp2_with fail
            go_roundw
            case rel => exact ⟨j + 1, by omega, by go_num, by rw [HSU.out]; rfl, HBE.out.trans ((Below.trans ((Below.refl _ wr).alloc (Nat.le_refl _) _) ((over_below _ x2).mono (by simp))).mono HBE.out.size)⟩
            case measure => simp [intOf]; omega
          · rw [h2] at HSU
            have hc63 := Lib.hid (c63 q.num q.item q.by_ q.day q.valid q.diff.lo q.diff.hi day (wr.alloc (.cells #[.int .i64 q.num, .int .i64 q.item, .int .i64 q.by_, .int .i64 q.day, .int .i64 q.valid, .int .i64 q.diff.lo, .int .i64 q.diff.hi] 58)) y0 y1 y2 y3)
            rw [show inB day q.day (q.day + q.valid) = true from h2] at hc63
            go_wp2_with fail
            refine hc63.out.mono ?_
            rintro e W2 ⟨rfl, x2, rfl⟩
            have hb2 : Below wr.heap.size wr (over (wr.alloc (.cells #[.int .i64 q.num, .int .i64 q.item, .int .i64 q.by_, .int .i64 q.day, .int .i64 q.valid, .int .i64 q.diff.lo, .int .i64 q.diff.hi] 58)) x2) := Below.trans ((Below.refl _ wr).alloc (Nat.le_refl _) _) ((over_below _ x2).mono (by simp))
            have hc25 := Lib.hid (c25 (cn := d1) q.num (HN1.out.below (HBE.out.trans (hb2.mono HBE.out.size))) (by omega))
            have HB2 := Lib.hid (HBE.out.trans (hb2.mono HBE.out.size))
            have z0 : (over (wr.alloc (.cells #[.int .i64 q.num, .int .i64 q.item, .int .i64 q.by_, .int .i64 q.day, .int .i64 q.valid, .int .i64 q.diff.lo, .int .i64 q.diff.hi] 58)) x2).cell? ⟨wr.heap.size, 0, none⟩ = some (.int .i64 q.num) := (Keep.over (fun _ => True) _ x2).cell (by simp [go_sem]) trivial
            clear hb2
            have HSS := Lib.hid (HC1.out.on HB2.out)
            generalize over _ x2 = W3 at *
            cases h3 : decide (q.num ∈ L)
            · rw [h3] at HSU hc25
              go_wp2_with fail
              refine hc25.out.mono ?_
              rintro e W4 ⟨rfl, rfl⟩
              go_wp2_with fail
              go_roundw
              case rel => exact ⟨j + 1, by omega, by go_num, by rw [HSU.out]; rfl, HB2.out⟩
              case measure => simp [intOf]; omega
            · rw [h3] at HSU hc25
              go_wp2_with fail
              refine hc25.out.mono ?_
              rintro e W4 ⟨rfl, rfl⟩
              go_wp2_with fail
              go_ret
              refine ⟨?_, below_over HSS.out.bel⟩
              rw [hR.out, isHeld_any (by rw [HSU.out]; rfl), Bool.or_true]; rfl
      · have hje : j = b.certs.length := by omega
        rw [hje] at HNO
        go_wp2_with fail
        go_ret
        refine ⟨?_, below_over HS.out.bel⟩
        rw [hR.out, HST.out, HNO.out]; rfl
  · go_enter Try.func62, Try.ntmps62
    go_wp2_with fail
    go_ret
    exact ⟨by rw [hR.out, HST.out]; rfl, below_over (by repeat' (first | exact Below.refl _ _ | (refine below_ov ?_ ?_) | (refine Below.alloc ?_ ?_ _) | (refine below_drewN' ?_ _) | (refine Below.drew ?_) | (refine below_set ?_ _ _ ?_) | (simp; done) | (simp; omega) | omega))⟩

set_option maxRecDepth 100000 in
set_option maxHeartbeats 4000000 in
theorem c28 (Ai Ac : Option Addr) (ci cc : Nat) (b : Bk) (item day : Int) (w : World) (hA : bookAt (· < w.heap.size) w Ai Ac b) (hl : b.items.length ≤ 1000) (hl2 : b.certs.length ≤ 1000) :
    Calls Try.prog 28 #[.agg #[.slice Ai b.items.length ci, .slice Ac b.certs.length cc], .int .i64 item, .int .i64 day] w fun e w' => e = .returned (.int .i64 (askErr b item day)) ∧ ∃ x, w' = over w x := by
  have HA := Lib.hid hA
  clear hA
  go_enter Try.func28, Try.ntmps28
  go_wp2_with fail
  have hCl : Cl w (.slice Ai b.items.length ci) (.slice Ac b.certs.length cc) (w.alloc (.cells #[.slice Ai b.items.length ci, .slice Ac b.certs.length cc] 25)) := ⟨by repeat' (first | exact Below.refl _ _ | (refine below_ov ?_ ?_) | (refine Below.alloc ?_ ?_ _) | (refine below_drewN' ?_ _) | (refine Below.drew ?_) | (refine below_set ?_ _ _ ?_) | (simp; done) | (simp; omega) | omega), by simp [go_sem], by simp [go_sem]⟩
  refine (c22 Ai Ac ci cc b _ (HA.out.below hCl.bel) hl hl2).mono ?_
  rintro e w1 ⟨rfl, x, rfl⟩
  have HC1 := Lib.hid (hCl.onx (x := x))
  clear hCl
  generalize over _ x = W1 at *
  have c0 := HC1.out.a0
  have c1 := HC1.out.a1
  have lw := lt_of_cell c0
  by_cases hf : fault b = 0
  · have hv : Vb b := (fault_iff b).1 hf
    have HV := Lib.hid hv
    clear hv
    have hil := HV.out.il
    have hpos : (b.items.length : Int) - 1 ≤ 9223372036854775807 := by omega
    rw [hf]
    have e1 := Lib.hid (show askErr b item day = if (inB item 0 ((b.items.length : Int) - 1) && inB day 0 1000) = false then 2 else if reach b item day then 0 else 10 from by unfold askErr; rw [if_neg (by omega)])
    clear hf
    cases h1 : inB item 0 ((b.items.length : Int) - 1)
    · have hc := fun z => c56 item 0 ((b.items.length : Int) - 1) z
      rw [h1] at hc e1
      have HC := Lib.hid hc
      clear hc
      go_wp2_with fail
      refine (HC.out _).mono ?_
      rintro e w2 ⟨rfl, rfl⟩
      go_wp2_with fail
      go_ret
      exact ⟨by rw [e1.out]; rfl, below_over HC1.out.bel⟩
    · have hc := fun z => c56 item 0 ((b.items.length : Int) - 1) z
      rw [h1] at hc e1
      have HC := Lib.hid hc
      have hi : 0 ≤ item ∧ item ≤ (b.items.length : Int) - 1 := by simpa [inB] using h1
      clear hc h1
      cases h2 : inB day 0 1000
      · have hc := fun z => c56 day 0 1000 z
        rw [h2] at hc e1
        have HC2 := Lib.hid hc
        clear hc
        go_wp2_with fail
        refine (HC.out _).mono ?_
        rintro e w2 ⟨rfl, rfl⟩
        go_wp2_with fail
        refine (HC2.out _).mono ?_
        rintro e w3 ⟨rfl, rfl⟩
        go_wp2_with fail
        go_ret
        exact ⟨by rw [e1.out]; rfl, below_over HC1.out.bel⟩
      · have hc := fun z => c56 day 0 1000 z
        rw [h2] at hc e1
        have HC2 := Lib.hid hc
        clear hc
        have hc62 := Lib.hid (c62 Ai Ac ci cc b item day W1 (HA.out.below HC1.out.bel) HV.out hi.1 (by omega))
        cases h3 : reach b item day
        · rw [h3] at hc62 e1
          go_wp2_with fail
          refine (HC.out _).mono ?_
          rintro e w2 ⟨rfl, rfl⟩
          go_wp2_with fail
          refine (HC2.out _).mono ?_
          rintro e w3 ⟨rfl, rfl⟩
          go_wp2_with fail
          refine hc62.out.mono ?_
          rintro e w4 ⟨rfl, y, rfl⟩
          go_wp2_with fail
          go_ret
          exact ⟨by rw [e1.out]; rfl, below_over HC1.out.onx.bel⟩
        · rw [h3] at hc62 e1
          go_wp2_with fail
          refine (HC.out _).mono ?_
          rintro e w2 ⟨rfl, rfl⟩
          go_wp2_with fail
          refine (HC2.out _).mono ?_
          rintro e w3 ⟨rfl, rfl⟩
          go_wp2_with fail
          refine hc62.out.mono ?_
          rintro e w4 ⟨rfl, y, rfl⟩
          go_wp2_with fail
          go_ret
          exact ⟨by rw [e1.out]; rfl, below_over HC1.out.onx.bel⟩
  · have e1 : Hid (askErr b item day = fault b) := Lib.hid (by unfold askErr; rw [if_pos hf])
    have e2 : (fault b != 0) = true := by simp [hf]
    generalize fault b = f at *
    clear hf
    go_wp2_with fail
    go_ret
    exact ⟨by rw [e1.out]; rfl, below_over HC1.out.bel⟩
end Go.Proofs.Ytmcnpfjichbijaa


/- The reference's span of an item. -/
set_option linter.unusedSimpArgs false
set_option linter.unusedVariables false
namespace Go.Proofs.Ytmcnpfjichbijaa
open Go Go.Proofs Go.RowKit Go.Shelf


/-- The reference's spans, where they lie. -/
structure SpsAt (S : Nat → Prop) (w : World) (G : Nat) (A : Option Addr) (c : Nat) (L : List Int) (sp : Int → Rng) : Prop where
  sG : S G
  lo : ∀ n : Nat, n < 1000 → w.cell? ⟨G, n * 2, none⟩ = some (.int .i64 (sp n).lo)
  hi : ∀ n : Nat, n < 1000 → w.cell? ⟨G, n * 2 + 1, none⟩ = some (.int .i64 (sp n).hi)
  held : w.cell? ⟨G, 2000, none⟩ = some (.slice A L.length c)
  nums : numsAt S w A L

theorem SpsAt.mono {S T : Nat → Prop} {w : World} {G : Nat} {A : Option Addr} {c : Nat} {L : List Int} {sp : Int → Rng} (h : SpsAt S w G A c L sp) (hT : ∀ j, S j → T j) : SpsAt T w G A c L sp :=
  ⟨hT _ h.sG, h.lo, h.hi, h.held, h.nums.mono hT⟩
theorem SpsAt.keep {S : Nat → Prop} {w w' : World} {G : Nat} {A : Option Addr} {c : Nat} {L : List Int} {sp : Int → Rng} (h : SpsAt S w G A c L sp) (k : Keep S w w') : SpsAt S w' G A c L sp :=
  ⟨h.sG, fun n hn => k.cell (h.lo n hn) h.sG, fun n hn => k.cell (h.hi n hn) h.sG, k.cell h.held h.sG, h.nums.keep k⟩

/-- The call's world: the book's box, the result's, the item's, the span's. -/
structure IsS (w : World) (u1 u2 : Value) (dr : Int) (r : Rng) (W : World) : Prop where
  cl : Cl w u1 u2 W
  z0 : W.cell? ⟨w.heap.size + 1, 0, none⟩ = some (.int .i64 0)
  z1 : W.cell? ⟨w.heap.size + 1, 1, none⟩ = some (.int .i64 0)
  zf : ∀ j, W.frozen? ⟨w.heap.size + 1, j, none⟩ = false
  x0 : W.cell? ⟨w.heap.size + 1 + 1, 0, none⟩ = some (.int .i64 dr)
  o0 : W.cell? ⟨w.heap.size + 1 + 1 + 1, 0, none⟩ = some (.int .i64 r.lo)
  o1 : W.cell? ⟨w.heap.size + 1 + 1 + 1, 1, none⟩ = some (.int .i64 r.hi)
  of : ∀ j, W.frozen? ⟨w.heap.size + 1 + 1 + 1, j, none⟩ = false

theorem IsS.on {w W W' : World} {u1 u2 : Value} {dr : Int} {r : Rng} (h : IsS w u1 u2 dr r W) (hb : Below W.heap.size W W') : IsS w u1 u2 dr r W' := by
  have kp : Keep (· < W.heap.size) W W' := Keep.of_below hb fun _ h _ => h
  have l0 := lt_of_cell h.z0
  have l1 := lt_of_cell h.x0
  have l2 := lt_of_cell h.o0
  exact ⟨h.cl.on hb, kp.cell h.z0 l0, kp.cell h.z1 l0, fun j => by rw [World.frozen?_of_block (w := W) (kp.block _ l0 l0)]; exact h.zf j, kp.cell h.x0 l1, kp.cell h.o0 l2, kp.cell h.o1 l2, fun j => by rw [World.frozen?_of_block (w := W) (kp.block _ l2 l2)]; exact h.of j⟩

theorem isS_put {w W : World} {u1 u2 : Value} {dr : Int} {r : Rng} (h : IsS w u1 u2 dr r W) (lo hi : Int) : IsS w u1 u2 dr ⟨lo, hi⟩ ((W.setCell ⟨w.heap.size + 1 + 1 + 1, 0, none⟩ (.int .i64 lo)).setCell ⟨w.heap.size + 1 + 1 + 1, 1, none⟩ (.int .i64 hi)) := by
  have hc : ∀ {b j v}, b ≠ w.heap.size + 1 + 1 + 1 → W.cell? ⟨b, j, none⟩ = some v → ((W.setCell ⟨w.heap.size + 1 + 1 + 1, 0, none⟩ (.int .i64 lo)).setCell ⟨w.heap.size + 1 + 1 + 1, 1, none⟩ (.int .i64 hi)).cell? ⟨b, j, none⟩ = some v := fun {b j v} hb hv => by
    rw [World.cell?_setCell_other _ _ _ _ (by intro e; injection e; omega), World.cell?_setCell_other _ _ _ _ (by intro e; injection e; omega)]; exact hv
  refine ⟨⟨below_set (below_set h.cl.bel _ _ (by simp; omega)) _ _ (by simp; omega), hc (by omega) h.cl.a0, hc (by omega) h.cl.a1⟩, hc (by omega) h.z0, hc (by omega) h.z1, fun j => by rw [World.frozen?_setCell, World.frozen?_setCell]; exact h.zf j, hc (by omega) h.x0, ?_, ?_, fun j => by rw [World.frozen?_setCell, World.frozen?_setCell]; exact h.of j⟩
  · rw [World.cell?_setCell_other _ _ _ _ (by simp)]
    exact World.cell?_setCell_same' _ _ _ (by rw [h.o0]; rfl)
  · exact World.cell?_setCell_same' _ _ _ (by rw [World.cell?_setCell_other _ _ _ _ (by simp), h.o1]; rfl)

def refSpTo (b : Bk) (h : Int → Bool) (sp : Int → Rng) (item day below : Int) (j : Nat) : Rng := (b.certs.take j).foldl (refSpanStep b h sp item day below) everyR
theorem refSpTo_succ {b : Bk} {h : Int → Bool} {sp : Int → Rng} {item day below : Int} {j : Nat} {q : Crt} (hq : b.certs[j]? = some q) : refSpTo b h sp item day below (j + 1) = refSpanStep b h sp item day below (refSpTo b h sp item day below j) q := by
  unfold refSpTo
  rw [List.take_add_one, hq, List.foldl_append]; rfl

set_option maxRecDepth 100000 in
set_option maxHeartbeats 4000000 in
theorem c30 (Ai Ac A : Option Addr) (ci cc c G : Nat) (b : Bk) (L : List Int) (sp : Int → Rng) (item day below : Int) (w : World) (hA : bookAt (· < w.heap.size) w Ai Ac b) (v : Vb b) (hS : SpsAt (· < w.heap.size) w G A c L sp)
    (hL : L.length ≤ 999) (hi0 : 0 ≤ item) (hi1 : item < b.items.length) (hd0 : 0 ≤ day) (hd1 : day ≤ 1000) (hsp : ∀ n, In (sp n) 2199023255552) :
    Calls Try.prog 30 #[.agg #[.slice Ai b.items.length ci, .slice Ac b.certs.length cc], .pointer (some ⟨G, 0, none⟩), .int .i64 item, .int .i64 day, .int .i64 below] w
      fun e w' => e = .returned (rngV (refSpan b (fun n => decide (n ∈ L)) sp item day below)) ∧ ∃ x, w' = over w x := by
  have HA := Lib.hid hA
  have HV := Lib.hid v
  have HSP := Lib.hid hS
  have HIN := Lib.hid hsp
  clear hsp
  have hil := v.il
  have hcl := v.cl
  obtain ⟨m, hm⟩ := Int.eq_ofNat_of_zero_le hi0
  subst hm
  have hml : m < b.items.length := by omega
  obtain ⟨Bi, Bo, eBi, hSI, hits⟩ := hA.1 (by omega)
  obtain ⟨i1, i2, i3, i4⟩ := hits m b.items[m] (by simp [hml])
  have hix := fun c => @idx22 Ai Bi Bo b.items.length c eBi m hml
  have hstd : stdOf b (m : Int) = b.items[m].std := by unfold stdOf; simp [hml]
  have hitm : itmOf b (m : Int) = b.items[m] := by unfold itmOf; simp [hml]
  generalize b.items[m] = X at i1 i2 i3 i4 hstd hitm
  obtain ⟨dr, sv, ⟨vl, vh⟩⟩ := X
  simp only at i1 i2 i3 i4 hstd
  have HST := Lib.hid hstd
  have HIT := Lib.hid hitm
  have li := lt_of_cell i2
  clear hits eBi hstd hitm hA v hS
  cases sv
  · go_enter Try.func30, Try.ntmps30
    go_wp2_with fail
    go_loopw [13] (fun t wr => ∃ (j : Nat), j ≤ b.certs.length ∧ t = .int .i64 j ∧ IsS w (.slice Ai b.items.length ci) (.slice Ac b.certs.length cc) dr (refSpTo b (fun n => decide (n ∈ L)) sp m day below j) wr) (fun t _ => b.certs.length - (intOf t).toNat)
    case atStart => exact ⟨0, Nat.zero_le _, rfl, ⟨by repeat' (first | exact Below.refl _ _ | (refine below_ov ?_ ?_) | (refine Below.alloc ?_ ?_ _) | (refine below_drewN' ?_ _) | (refine Below.drew ?_) | (refine below_set ?_ _ _ ?_) | (simp; done) | (simp; omega) | omega), by simp [go_sem], by simp [go_sem]⟩, by simp [go_sem], by simp [go_sem], fun j => by simp [go_sem], by simp [go_sem], by simp [go_sem]; rfl, by simp [go_sem]; rfl, fun j => by simp [go_sem]⟩
    case round =>
      obtain ⟨j, hj, rfl, hS⟩ := hrel
      have HS := Lib.hid hS
      have a0 := hS.cl.a0
      have a1 := hS.cl.a1
      have x0 := hS.x0
      have o0 := hS.o0
      have o1 := hS.o1
      have of0 := hS.of 0
      have of1 := hS.of 1
      have z0 := hS.z0
      have z1 := hS.z1
      have zf0 := hS.zf 0
      have zf1 := hS.zf 1
      have lo := lt_of_cell o0
      have hbk := HA.out.below hS.cl.bel
      clear hS
      by_cases hlt : j < b.certs.length
      · obtain ⟨q, hq⟩ : ∃ q, b.certs[j]? = some q := ⟨b.certs[j], by simp [hlt]⟩
        obtain ⟨Bc, Co, eC, hSC, hcs⟩ := hbk.2 (by omega)
        obtain ⟨q0, q1, q2, q3, q4, q5, q6⟩ := hcs j q hq
        have hixc := fun c => @idx23 Ac Bc Co b.certs.length c eC j hlt
        have lc := lt_of_cell q0
        obtain ⟨y0, y1, y2, y3⟩ := vb_day HV.out (List.mem_of_getElem? hq)
        have hsu := refSpTo_succ (h := fun n => decide (n ∈ L)) (sp := sp) (item := m) (day := day) (below := below) hq
        have HSU := Lib.hid hsu
        have HQ := Lib.hid hq
        have hb1 : Below wr.heap.size wr (wr.alloc (.cells #[.int .i64 q.num, .int .i64 q.item, .int .i64 q.by_, .int .i64 q.day, .int .i64 q.valid, .int .i64 q.diff.lo, .int .i64 q.diff.hi] 58)) := (Below.refl _ _).alloc (Nat.le_refl _) _
        have HB1 := Lib.hid hb1
        have hspk : SpsAt (· < wr.heap.size) wr G A c L sp := (HSP.out.keep (Keep.of_below HS.out.cl.bel fun _ h _ => h)).mono fun k hk => by have := HS.out.cl.bel.size; omega
        have HSPK := Lib.hid hspk
        have hc63 := fun z => c63 q.num q.item q.by_ q.day q.valid q.diff.lo q.diff.hi day z y0 y1 y2 y3
        rw [show inB day q.day (q.day + q.valid) = onB q day from rfl] at hc63
        have HC63 := Lib.hid hc63
        have hno : ¬ (q.item = m ∧ q.num < below ∧ onB q day = true ∧ decide (q.num ∈ L) = true) → refSpTo b (fun n => decide (n ∈ L)) sp m day below (j + 1) = refSpTo b (fun n => decide (n ∈ L)) sp m day below j := fun hn => by
          rw [HSU.out]; unfold refSpanStep; rw [if_neg hn]
        have HNO := Lib.hid hno
        clear hno hspk hb1 hsu hq hcs eC hbk hc63
        cases h1 : (q.item == (m : Int))
        · have h1' : (q.item != (m : Int)) = true := by simp [bne, h1]
          have hne : ¬ q.item = m := by simpa using h1
          have HM := Lib.hid (HNO.out fun h => hne h.1)
          clear hne
          go_wp2_with fail
          refine wp_region_over (by kernel_rfl) (by kernel_rfl) ?_
          repeat (go_big_quiet_step (exact calls_over_of (HC63.out _)))
          refine wpQuiet_nil ?_
          rintro w' ⟨z, rfl⟩
          go_wp2_with fail
          go_roundw
          case rel => exact ⟨j + 1, by omega, by go_num, by rw [HM.out]; exact (HS.out.on HB1.out).on (over_below _ z)⟩
          case measure => simp [intOf]; omega
        · have h1' : (q.item != (m : Int)) = false := by simp [bne, h1]
          have hit : Hid (q.item = m) := Lib.hid (by simpa using h1)
          by_cases h2 : below ≤ q.num
          · have h2' : decide (below ≤ q.num) = true := decide_eq_true h2
            have HM := Lib.hid (HNO.out fun h => by have := h.2.1; omega)
            go_wp2_with fail
            refine wp_region_over (by kernel_rfl) (by kernel_rfl) ?_
            repeat (go_big_quiet_step (exact calls_over_of (HC63.out _)))
            refine wpQuiet_nil ?_
            rintro w' ⟨z, rfl⟩
            go_wp2_with fail
            go_roundw
            case rel => exact ⟨j + 1, by omega, by go_num, by rw [HM.out]; exact (HS.out.on HB1.out).on (over_below _ z)⟩
            case measure => simp [intOf]; omega
          · have h2' : decide (below ≤ q.num) = false := decide_eq_false h2
            cases h3 : onB q day
            · rw [h3] at HC63
              have HM := Lib.hid (HNO.out fun h => by have := h.2.2.1; rw [h3] at this; cases this)
              clear h3
              go_wp2_with fail
              refine wp_region_over (by kernel_rfl) (by kernel_rfl) ?_
              repeat (go_big_quiet_step (exact calls_over_of (HC63.out _)))
              refine wpQuiet_nil ?_
              rintro w' ⟨z, rfl⟩
              go_wp2_with fail
              go_roundw
              case rel => exact ⟨j + 1, by omega, by go_num, by rw [HM.out]; exact (HS.out.on HB1.out).on (over_below _ z)⟩
              case measure => simp [intOf]; omega
            · rw [h3] at HC63
              have g2000 := HSPK.out.held
              have lG := lt_of_cell g2000
              have hnum := (HSPK.out.nums.keep (Keep.of_below HB1.out fun _ h _ => h)).mono (T := (· < (wr.alloc (.cells #[.int .i64 q.num, .int .i64 q.item, .int .i64 q.by_, .int .i64 q.day, .int .i64 q.valid, .int .i64 q.diff.lo, .int .i64 q.diff.hi] 58)).heap.size)) fun k hk => by have : k < wr.heap.size := hk; show k < (wr.alloc _).heap.size; simp; omega
              have hc25 := fun z => c25o (cn := c) (y := z) q.num hnum (fun k h => h) (by omega)
              cases h4 : decide (q.num ∈ L)
              · rw [h4] at hc25
                have HC25 := Lib.hid hc25
                have HM := Lib.hid (HNO.out fun h => by have := h.2.2.2; rw [h4] at this; cases this)
                clear h3 h4 hc25 hnum
                go_wp2_with fail
                refine wp_region_over (by kernel_rfl) (by kernel_rfl) ?_
                repeat (go_big_quiet_step (first | exact calls_over_of (HC63.out _) | exact calls_over_same (HC25.out _)))
                refine wpQuiet_nil ?_
                rintro w' ⟨z, rfl⟩
                go_wp2_with fail
                go_roundw
                case rel => exact ⟨j + 1, by omega, by go_num, by rw [HM.out]; exact (HS.out.on HB1.out).on (over_below _ z)⟩
                case measure => simp [intOf]; omega
              · rw [h4] at hc25
                have HC25 := Lib.hid hc25
                have hM := HSU.out
                unfold refSpanStep at hM
                rw [if_pos ⟨hit.out, by omega, h3, h4⟩, HIT.out] at hM
                have HM := Lib.hid hM
                have hmq := List.mem_of_getElem? HQ.out
                have hfar := far_bd HV.out ((mem_numsOf b q.num).2 ⟨q, hmq, rfl⟩) (show onB (getC b q.num) day = true by rw [(HV.out.isC hmq).get]; exact h3)
                rw [(HV.out.isC hmq).get, hit.out, HIT.out] at hfar
                have HFAR := Lib.hid hfar
                have hdy1 := onB_day h3
                clear h3 h4 hc25 hnum hM hmq hfar
                go_wp2_with fail
                refine wp_region_over (by kernel_rfl) (by kernel_rfl) ?_
                repeat (go_big_quiet_step (first | exact calls_over_of (HC63.out _) | exact calls_over_same (HC25.out _)))
                refine wpQuiet_nil ?_
                rintro w' ⟨z, rfl⟩
                have hbz : Below wr.heap.size wr (over (wr.alloc (.cells #[.int .i64 q.num, .int .i64 q.item, .int .i64 q.by_, .int .i64 q.day, .int .i64 q.valid, .int .i64 q.diff.lo, .int .i64 q.diff.hi] 58)) z) := HB1.out.trans ((over_below _ z).mono HB1.out.size)
                have HSV := Lib.hid (HS.out.on hbz)
                have kz : Keep (· < wr.heap.size) wr (over (wr.alloc (.cells #[.int .i64 q.num, .int .i64 q.item, .int .i64 q.by_, .int .i64 q.day, .int .i64 q.valid, .int .i64 q.diff.lo, .int .i64 q.diff.hi] 58)) z) := Keep.of_below hbz fun _ h _ => h
                have n0 : (over (wr.alloc (.cells #[.int .i64 q.num, .int .i64 q.item, .int .i64 q.by_, .int .i64 q.day, .int .i64 q.valid, .int .i64 q.diff.lo, .int .i64 q.diff.hi] 58)) z).cell? ⟨wr.heap.size, 0, none⟩ = some (.int .i64 q.num) := (Keep.over (fun _ => True) _ z).cell (by simp [go_sem]) trivial
                have n3 : (over (wr.alloc (.cells #[.int .i64 q.num, .int .i64 q.item, .int .i64 q.by_, .int .i64 q.day, .int .i64 q.valid, .int .i64 q.diff.lo, .int .i64 q.diff.hi] 58)) z).cell? ⟨wr.heap.size, 3, none⟩ = some (.int .i64 q.day) := (Keep.over (fun _ => True) _ z).cell (by simp [go_sem]) trivial
                have hnr := HV.out.rng ((mem_numsOf b q.num).2 ⟨q, List.mem_of_getElem? HQ.out, rfl⟩)
                obtain ⟨nn, hnn⟩ := Int.eq_ofNat_of_zero_le (show 0 ≤ q.num by omega)
                have hn1 : nn < 1000 := by omega
                have p0 := kz.cell (HSPK.out.lo nn hn1) HSPK.out.sG
                have p1 := kz.cell (HSPK.out.hi nn hn1) HSPK.out.sG
                have x0 := HSV.out.x0
                have o0 := HSV.out.o0
                have o1 := HSV.out.o1
                have of0 := HSV.out.of 0
                have of1 := HSV.out.of 1
                have lo := lt_of_cell o0
                have ln := lt_of_cell n0
                have lp := lt_of_cell p0
                have HNN := Lib.hid hnn
                clear hbz kz a0 a1 z0 z1 zf0 zf1 q0 q1 q2 q3 q4 q5 q6 hixc lc g2000 lG
                generalize over (wr.alloc (.cells #[.int .i64 q.num, .int .i64 q.item, .int .i64 q.by_, .int .i64 q.day, .int .i64 q.valid, .int .i64 q.diff.lo, .int .i64 q.diff.hi] 58)) z = V at *
                rw [hnn] at n0
                clear hnn
                obtain ⟨s1, s2, s3, s4⟩ := HIN.out nn
                obtain ⟨u1, u2⟩ := HFAR.out
                go_wp2_with fail
                generalize hZ : wr.heap.size = Z at *
                refine wp_region_held_drew (S := fun w' => Keep (fun j => j < V.heap.size) V w') (by kernel_rfl) (Keep.drew _ _) (fun S0 => ?_)
                refine wpAnyH_take (i := 0) (v := .pointer (some ⟨G, 0, none⟩)) rfl (by kernel_rfl) (by kernel_rfl) (by kernel_rfl) (fun _ _ _ h => h) (Or.inl ⟨by rfl, fun w' hw' => ?_⟩) S0 ?_
                · go_simp
                simp only [Act.put, List.getElem_toArray, List.getElem_cons_zero, List.getElem_cons_succ, List.setIfInBounds_toArray, List.set_cons_zero, List.set_cons_succ]
                refine wpAnyH_take (i := 1) (v := .pointer (some ⟨Z, 0, none⟩)) rfl (by kernel_rfl) (by kernel_rfl) (by kernel_rfl) (fun _ _ _ h => h) (Or.inl ⟨by rfl, fun w' hw' => ?_⟩) S0 ?_
                · go_simp
                simp only [Act.put, List.getElem_toArray, List.getElem_cons_zero, List.getElem_cons_succ, List.setIfInBounds_toArray, List.set_cons_zero, List.set_cons_succ]
                refine wpAnyH_take (i := 2) (v := .int .i64 nn) rfl (by kernel_rfl) (by kernel_rfl) (by kernel_rfl) (fun _ _ _ h => h) (Or.inl ⟨by rfl, fun w' hw' => ?_⟩) S0 ?_
                · have := hw'.cell n0 ln; go_simp
                simp only [Act.put, List.getElem_toArray, List.getElem_cons_zero, List.getElem_cons_succ, List.setIfInBounds_toArray, List.set_cons_zero, List.set_cons_succ]
                refine wpAnyH_take (i := 3) (v := .pointer (some ⟨G, 0, none⟩)) rfl (by kernel_rfl) (by kernel_rfl) (by kernel_rfl) (fun _ _ _ h => h) (Or.inl ⟨by rfl, fun w' hw' => ?_⟩) S0 ?_
                · go_simp
                simp only [Act.put, List.getElem_toArray, List.getElem_cons_zero, List.getElem_cons_succ, List.setIfInBounds_toArray, List.set_cons_zero, List.set_cons_succ]
                refine wpAnyH_take (i := 4) (v := .pointer (some ⟨G, 0, none⟩)) rfl (by kernel_rfl) (by kernel_rfl) (by kernel_rfl) (fun _ _ _ h => h) (Or.inl ⟨by rfl, fun w' hw' => ?_⟩) S0 ?_
                · go_simp
                simp only [Act.put, List.getElem_toArray, List.getElem_cons_zero, List.getElem_cons_succ, List.setIfInBounds_toArray, List.set_cons_zero, List.set_cons_succ]
                refine wpAnyH_take (i := 5) (v := .pointer (some ⟨G, nn * 2, none⟩)) rfl (by kernel_rfl) (by kernel_rfl) (by kernel_rfl) (fun _ _ _ h => h) (Or.inl ⟨by rfl, fun w' hw' => ?_⟩) S0 ?_
                · (go_simp; intro h; omega)
                simp only [Act.put, List.getElem_toArray, List.getElem_cons_zero, List.getElem_cons_succ, List.setIfInBounds_toArray, List.set_cons_zero, List.set_cons_succ]
                refine wpAnyH_take (i := 6) (v := .agg #[.int .i64 (sp nn).lo, .int .i64 (sp nn).hi]) rfl (by kernel_rfl) (by kernel_rfl) (by kernel_rfl) (fun _ _ _ h => h) (Or.inl ⟨by rfl, fun w' hw' => ?_⟩) S0 ?_
                · have t1 := hw'.cell p0 lp; have t2 := hw'.cell p1 lp; go_simp
                simp only [Act.put, List.getElem_toArray, List.getElem_cons_zero, List.getElem_cons_succ, List.setIfInBounds_toArray, List.set_cons_zero, List.set_cons_succ]
                refine wpAnyH_ready (rs := [7]) (by kernel_rfl) (by simp) ?_
                refine AllReadyH.cons rfl (fun K hK => ?_) AllReadyH.nil
                go_simp
                have k7 : Keep (fun j => j < V.heap.size) V (V.alloc (.cells #[.int .i64 0, .int .i64 0] 49)).drew := (Keep.alloc _ _ _).trans (Keep.drew _ _)
                refine hK.out _ _ k7 (fun _ => ?_)
                refine wpAnyH_ready (rs := [8]) (by kernel_rfl) (by simp) ?_
                refine AllReadyH.cons rfl (fun K2 hK2 => ?_) AllReadyH.nil
                go_simp
                have hbU : Below V.heap.size V (V.alloc (.cells #[.int .i64 (sp nn).lo, .int .i64 (sp nn).hi] 49)).drew := Below.drew ((Below.refl _ _).alloc (Nat.le_refl _) _)
                refine hK2.out _ _ (Keep.of_below hbU fun _ h _ => h) (fun _ => ?_)
                refine wpAnyH_done (by kernel_rfl) ?_ _
                have HSU := Lib.hid (HSV.out.on hbU)
                have t0 : (V.alloc (.cells #[.int .i64 (sp nn).lo, .int .i64 (sp nn).hi] 49)).drew.cell? ⟨V.heap.size, 0, none⟩ = some (.int .i64 (sp nn).lo) := by simp [go_sem]
                have t1 : (V.alloc (.cells #[.int .i64 (sp nn).lo, .int .i64 (sp nn).hi] 49)).drew.cell? ⟨V.heap.size, 1, none⟩ = some (.int .i64 (sp nn).hi) := by simp [go_sem]
                clear hK hK2 k7 hbU x0 o0 o1 of0 of1 lo ln lp n0 n3 p0 p1 HSV S0
                generalize (V.alloc (.cells #[.int .i64 (sp nn).lo, .int .i64 (sp nn).hi] 49)).drew = U at *
                generalize V.heap.size = Y at *
                have x0 := HSU.out.x0
                have o0 := HSU.out.o0
                have o1 := HSU.out.o1
                have of0 := HSU.out.of 0
                have of1 := HSU.out.of 1
                have lo := lt_of_cell o0
                have lt := lt_of_cell t0
                rw [HNN.out] at HM
                have HP := Lib.hid (isS_put HSU.out (max (refSpTo b (fun n => decide (n ∈ L)) sp m day below j).lo ((sp nn).lo - dr * (day - q.day))) (min (refSpTo b (fun n => decide (n ∈ L)) sp m day below j).hi ((sp nn).hi + dr * (day - q.day))))
                go_wp2_with fail
                go_roundw
                case rel => exact ⟨j + 1, by omega, by go_num, by rw [HM.out]; exact HP.out⟩
                case measure => simp [intOf]; omega
      · have hje : j = b.certs.length := by omega
        subst hje
        clear hbk
        go_wp2_with fail
        refine bodyPost_ret (ret_cell (g := w.heap.size + 1) (v := rngV (refSpTo b (fun n => decide (n ∈ L)) sp m day below b.certs.length)) rfl _ rfl ?_) rfl ?_
        · have e0 : ((wr.setCell ⟨w.heap.size + 1, 0, none⟩ (.int .i64 (refSpTo b (fun n => decide (n ∈ L)) sp m day below b.certs.length).lo)).setCell ⟨w.heap.size + 1, 1, none⟩ (.int .i64 (refSpTo b (fun n => decide (n ∈ L)) sp m day below b.certs.length).hi)).cell? ⟨w.heap.size + 1, 0, none⟩ = some (.int .i64 (refSpTo b (fun n => decide (n ∈ L)) sp m day below b.certs.length).lo) := by
            rw [World.cell?_setCell_other _ _ _ _ (by simp)]
            exact World.cell?_setCell_same' _ _ _ (by rw [z0]; rfl)
          have e1 : ((wr.setCell ⟨w.heap.size + 1, 0, none⟩ (.int .i64 (refSpTo b (fun n => decide (n ∈ L)) sp m day below b.certs.length).lo)).setCell ⟨w.heap.size + 1, 1, none⟩ (.int .i64 (refSpTo b (fun n => decide (n ∈ L)) sp m day below b.certs.length).hi)).cell? ⟨w.heap.size + 1, 1, none⟩ = some (.int .i64 (refSpTo b (fun n => decide (n ∈ L)) sp m day below b.certs.length).hi) :=
            World.cell?_setCell_same' _ _ _ (by rw [World.cell?_setCell_other _ _ _ _ (by simp), z1]; rfl)
          unfold rngV
          simp [go_sem, e0, e1]
        · refine ⟨?_, below_over (below_set (below_set HS.out.cl.bel _ _ (by simp)) _ _ (by simp))⟩
          unfold refSpan
          rw [HST.out]
          unfold refSpTo
          rw [List.take_length]; rfl
  · go_enter Try.func30, Try.ntmps30
    go_wp2_with fail
    refine bodyPost_ret (ret_cell (g := w.heap.size + 1) (v := .agg #[.int .i64 vl, .int .i64 vh]) rfl _ rfl ?_) rfl ?_
    · simp [go_sem]
    · exact ⟨by unfold refSpan; rw [HST.out, HIT.out]; rfl, below_over (by repeat' (first | exact Below.refl _ _ | (refine below_ov ?_ ?_) | (refine Below.alloc ?_ ?_ _) | (refine below_drewN' ?_ _) | (refine Below.drew ?_) | (refine below_set ?_ _ _ ?_) | (simp; done) | (simp; omega) | omega))⟩
end Go.Proofs.Ytmcnpfjichbijaa


/- The reference's work: all spans, and whether a book is contradictory. -/
set_option linter.unusedSimpArgs false
set_option linter.unusedVariables false
namespace Go.Proofs.Ytmcnpfjichbijaa
open Go Go.Proofs Go.RowKit Go.Shelf


/-- The cells of the reference's spans, when they are made. -/
def spsCells (v : Value) : Array Value := Array.replicate 2000 (.int .i64 0) ++ #[v]

theorem run_build113 (A : Option Addr) (n c : Nat) (w : World) : (Instr.build 113 #[(1, .slice A n c)]).run Try.prog w = .ok (.agg (spsCells (.slice A n c))) w := by kernel_rfl

theorem spsCells_of (v : Value) (n : Nat) (h : n < 2000) : (spsCells v)[n]? = some (.int .i64 0) := by
  unfold spsCells
  rw [Array.getElem?_append_left (by simp; omega), Array.getElem?_replicate, if_pos (by omega)]
theorem spsCells_held (v : Value) : (spsCells v)[2000]? = some v := by
  unfold spsCells
  rw [Array.getElem?_append_right (by simp)]
  simp

theorem wpList_build113 {ops : Array Oper} {rest : List Oper} {o : Oper} {a : Act} {w : World} {Q : Exit → Act → World → Prop} {x : Operand} {A : Option Addr} {n c : Nat}
    (hg : o.guard = none) (hop : o.op = Op.build 113 #[(1, x)]) (hx : a.eval x = .slice A n c)
    (h : wpList Try.prog ops Q rest (a.put o.dst (.agg (spsCells (.slice A n c)))) w) : wpList Try.prog ops Q (o :: rest) a w := by
  refine wpList_plain hg fun K hK => ?_
  unfold Oper.wp
  have := run_build113 A n c w
  simp [execOp, hop, hx, this, Result.andThen, Oper.upon]
  exact hK _ _ h

/-- The working call's world: the book's box, the spans. -/
structure WkS (w : World) (u1 u2 : Value) (G : Nat) (A : Option Addr) (c : Nat) (L : List Int) (sp : Int → Rng) (W : World) : Prop where
  cl : Cl w u1 u2 W
  hG : w.heap.size < G
  lo : ∀ n : Nat, n < 1000 → W.cell? ⟨G, n * 2, none⟩ = some (.int .i64 (sp n).lo)
  hi : ∀ n : Nat, n < 1000 → W.cell? ⟨G, n * 2 + 1, none⟩ = some (.int .i64 (sp n).hi)
  fz : ∀ j, W.frozen? ⟨G, j, none⟩ = false
  held : W.cell? ⟨G, 2000, none⟩ = some (.slice A L.length c)
  nums : numsAt (fun j => w.heap.size ≤ j ∧ j < G) W A L

variable {w : World} {u1 u2 : Value} {G : Nat} {A : Option Addr} {c : Nat} {L : List Int} {sp : Int → Rng} {W : World}

theorem WkS.lt (h : WkS w u1 u2 G A c L sp W) : G < W.heap.size := lt_of_cell h.held
theorem WkS.on (h : WkS w u1 u2 G A c L sp W) {W' : World} (hb : Below W.heap.size W W') : WkS w u1 u2 G A c L sp W' := by
  have kp : Keep (· < W.heap.size) W W' := Keep.of_below hb fun _ h _ => h
  have l := h.lt
  exact ⟨h.cl.on hb, h.hG, fun n hn => kp.cell (h.lo n hn) l, fun n hn => kp.cell (h.hi n hn) l, fun j => by rw [World.frozen?_of_block (w := W) (kp.block _ l l)]; exact h.fz j, kp.cell h.held l,
    h.nums.keep (kp.mono fun j hj => by have := hj.2; omega)⟩
theorem WkS.sps (h : WkS w u1 u2 G A c L sp W) : SpsAt (· < W.heap.size) W G A c L sp := by
  have l := h.lt
  exact ⟨l, h.lo, h.hi, h.held, h.nums.mono fun j hj => by have := hj.2; omega⟩
theorem WkS.put (h : WkS w u1 u2 G A c L sp W) {n : Nat} (hn : n < 1000) (r : Rng) {sp' : Int → Rng} (hs : sp' = fun j => if j = (n : Int) then r else sp j) :
    WkS w u1 u2 G A c L sp' ((W.setCell ⟨G, n * 2, none⟩ (.int .i64 r.lo)).setCell ⟨G, n * 2 + 1, none⟩ (.int .i64 r.hi)) := by
  subst hs
  have hG := h.hG
  have hc : ∀ {b j v}, (b ≠ G ∨ (j ≠ n * 2 ∧ j ≠ n * 2 + 1)) → W.cell? ⟨b, j, none⟩ = some v → ((W.setCell ⟨G, n * 2, none⟩ (.int .i64 r.lo)).setCell ⟨G, n * 2 + 1, none⟩ (.int .i64 r.hi)).cell? ⟨b, j, none⟩ = some v := fun {b j v} hb hv => by
    rw [World.cell?_setCell_other _ _ _ _ (by intro e; injection e; omega), World.cell?_setCell_other _ _ _ _ (by intro e; injection e; omega)]; exact hv
  refine ⟨⟨below_set (below_set h.cl.bel _ _ (by simp; omega)) _ _ (by simp; omega), hc (.inl (by omega)) h.cl.a0, hc (.inl (by omega)) h.cl.a1⟩, hG, fun m hm => ?_, fun m hm => ?_,
    fun j => by rw [World.frozen?_setCell, World.frozen?_setCell]; exact h.fz j, hc (.inr (by omega)) h.held, ?_⟩
  · by_cases e : m = n
    · subst e
      rw [if_pos rfl, World.cell?_setCell_other _ _ _ _ (by simp)]
      exact World.cell?_setCell_same' _ _ _ (by rw [h.lo m hm]; rfl)
    · rw [if_neg (by omega)]
      exact hc (.inr (by omega)) (h.lo m hm)
  · by_cases e : m = n
    · subst e
      rw [if_pos rfl]
      exact World.cell?_setCell_same' _ _ _ (by rw [World.cell?_setCell_other _ _ _ _ (by simp), h.hi m hm]; rfl)
    · rw [if_neg (by omega)]
      exact hc (.inr (by omega)) (h.hi m hm)
  · exact h.nums.keep ((Keep.setCell _ _ _ (fun h => by have := h.2; simp at this)).trans (Keep.setCell _ _ _ (fun h => by have := h.2; simp at this)))

/-- What the working call leaves. -/
def WorkTo (b : Bk) (w : World) (e : Ending) (w' : World) : Prop :=
  ∃ G A c, e = .returned (.pointer (some ⟨G, 0, none⟩)) ∧ SpsAt (fun j => w.heap.size ≤ j ∧ j < w'.heap.size) w' G A c (heldL b []) (spansOf b) ∧ ∃ x, w' = over w x

theorem numsAt.nth {S : Nat → Prop} {w : World} {A : Option Addr} {L : List Int} (h : numsAt S w A L) {k : Nat} (hk : k < L.length) : ∃ An Ao, A = some ⟨An, Ao, none⟩ ∧ S An ∧ w.cell? ⟨An, Ao + k, none⟩ = some (.int .i64 L[k]) := by
  obtain ⟨An, Ao, e, hS, hn⟩ := h (by omega)
  exact ⟨An, Ao, e, hS, hn k _ (by simp [hk])⟩

set_option maxRecDepth 100000 in
set_option maxHeartbeats 4000000 in
theorem c31 (Ai Ac : Option Addr) (ci cc : Nat) (b : Bk) (w : World) (hA : bookAt (· < w.heap.size) w Ai Ac b) (v : Vb b) :
    Calls Try.prog 31 #[.agg #[.slice Ai b.items.length ci, .slice Ac b.certs.length cc]] w (WorkTo b w) := by
  have HA := Lib.hid hA
  have HV := Lib.hid v
  have hil := v.il
  have hcl := v.cl
  have hvd : ∀ c ∈ b.certs, 0 ≤ c.day ∧ c.day ≤ 1000 ∧ 0 ≤ c.valid ∧ c.valid ≤ 1000 := fun c hc => vb_day v hc
  have hvb : ∀ c ∈ b.certs, 0 ≤ c.by_ ∧ c.by_ < b.items.length := fun c hc => vb_by v hc
  have HVD := Lib.hid (And.intro hvd hvb)
  clear hA v hvd hvb
  go_enter Try.func31, Try.ntmps31
  go_wp2_with fail
  have hbk := HA.out.alloc (.cells #[.slice Ai b.items.length ci, .slice Ac b.certs.length cc] 25)
  refine (c24 Ai Ac none ci cc 0 b [] _ hbk.1 hbk.2 (fun h => by simp at h) (by simp) (by omega) (by omega) HVD.out.2 HVD.out.1).mono ?_
  rintro e W1 ⟨A, c, rfl, hn, x, hx⟩
  rw [refTo_all HV.out] at hn ⊢
  have hLl := heldL_len b
  have hCl : Cl w (.slice Ai b.items.length ci) (.slice Ac b.certs.length cc) (w.alloc (.cells #[.slice Ai b.items.length ci, .slice Ac b.certs.length cc] 25)) := ⟨by repeat' (first | exact Below.refl _ _ | (refine below_ov ?_ ?_) | (refine Below.alloc ?_ ?_ _) | (refine below_drewN' ?_ _) | (refine Below.drew ?_) | (refine below_set ?_ _ _ ?_) | (simp; done) | (simp; omega) | omega), by simp [go_sem], by simp [go_sem]⟩
  have hC1 := hCl.onx (x := x)
  rw [← hx] at hC1
  have HC1 := Lib.hid hC1
  have HN := Lib.hid (hn.mono (T := fun j => w.heap.size ≤ j ∧ j < W1.heap.size) fun j hj => ⟨by have := hj.1; simp at this; omega, hj.2⟩)
  have lw := lt_of_cell hC1.a0
  clear hbk hCl hC1 hn hx
  go_wp2_with (refine wpList_build113 rfl rfl rfl ?_)
  have hW0 : WkS w (.slice Ai b.items.length ci) (.slice Ac b.certs.length cc) W1.heap.size A c (heldL b []) (workTo b 0) (W1.alloc (.cells (spsCells (.slice A (heldL b []).length c)) 113)) := by
    have hb : Below W1.heap.size W1 (W1.alloc (.cells (spsCells (.slice A (heldL b []).length c)) 113)) := (Below.refl _ _).alloc (Nat.le_refl _) _
    refine ⟨HC1.out.on hb, lw, fun n hn => ?_, fun n hn => ?_, fun j => by simp [go_sem], ?_, HN.out.keep (Keep.of_below hb fun j hj _ => hj.2)⟩
    · rw [cell_new' _ _ _ _ _ rfl]; exact spsCells_of _ _ (by omega)
    · rw [cell_new' _ _ _ _ _ rfl]; exact spsCells_of _ _ (by omega)
    · rw [cell_new' _ _ _ _ _ rfl]; exact spsCells_held _
  have HW0 := Lib.hid hW0
  clear hW0 HC1 HN
  generalize W1.heap.size = G at *
  go_loopw [4] (fun t wr => ∃ k : Nat, k ≤ (heldL b []).length ∧ t = .int .i64 k ∧ WkS w (.slice Ai b.items.length ci) (.slice Ac b.certs.length cc) G A c (heldL b []) (workTo b k) wr) (fun t _ => (heldL b []).length - (intOf t).toNat)
  case atStart => exact ⟨0, Nat.zero_le _, rfl, HW0.out⟩
  case round =>
    obtain ⟨k, hk, rfl, hS⟩ := hrel
    have HS := Lib.hid hS
    have d0 := hS.held
    have lG := hS.lt
    clear hS
    by_cases hlt : k < (heldL b []).length
    · have hmem : (heldL b [])[k] ∈ heldL b [] := List.getElem_mem hlt
      have hnm : (heldL b [])[k] ∈ numsOf b := (List.mem_filter.1 (show (heldL b [])[k] ∈ List.filter _ (numsOf b) from hmem)).1
      have hhd := (mem_heldL0 b _).1 hmem
      have hrg := HV.out.rng hnm
      have hws := workTo_succ b k hlt
      have hnt : ∀ W', Keep (fun j => w.heap.size ≤ j ∧ j < G) wr W' → ∃ An Ao, A = some ⟨An, Ao, none⟩ ∧ An < G ∧ W'.cell? ⟨An, Ao + k, none⟩ = some (.int .i64 (heldL b [])[k]) := fun W' kp => by
        obtain ⟨An, Ao, e, h1, h2⟩ := (HS.out.nums.keep kp).nth hlt
        exact ⟨An, Ao, e, h1.2, h2⟩
      obtain ⟨nn, hnn⟩ := Int.eq_ofNat_of_zero_le (show 0 ≤ (heldL b [])[k] by omega)
      rw [hnn] at hnm hhd hrg hws hnt
      have HNM := Lib.hid hnm
      have HHD := Lib.hid hhd
      have HWS := Lib.hid hws
      have HNT := Lib.hid hnt
      have hn1 : nn < 1000 := by omega
      clear hmem hnm hhd hws hnt hnn
      generalize wr = wo at *
      go_wp2_with fail
      go_loopw [5] (fun t wr2 => ∃ i : Nat, i ≤ b.certs.length ∧ t = .int .i64 i ∧ Keep (fun j => w.heap.size ≤ j ∧ j < G) wo wr2 ∧ WkS w (.slice Ai b.items.length ci) (.slice Ac b.certs.length cc) G A c (heldL b []) (inTo b (workTo b k) nn i) wr2) (fun t _ => b.certs.length - (intOf t).toNat)
      case atStart => exact ⟨0, Nat.zero_le _, rfl, Keep.refl _ _, by rw [inTo_zero]; exact HS.out⟩
      case round =>
        obtain ⟨i, hi, rfl, hkp, hS2⟩ := hrel
        have HS2 := Lib.hid hS2
        have HKP := Lib.hid hkp
        have d0 := hS2.held
        have lG := hS2.lt
        have a1 := hS2.cl.a1
        have lw := lt_of_cell a1
        have hbk := HA.out.below hS2.cl.bel
        clear hS2 hkp
        by_cases hlt2 : i < b.certs.length
        · obtain ⟨q, hq⟩ : ∃ q, b.certs[i]? = some q := ⟨b.certs[i], by simp [hlt2]⟩
          obtain ⟨Bc, Co, eC, hSC, hcs⟩ := hbk.2 (by omega)
          obtain ⟨q0, q1, q2, q3, q4, q5, q6⟩ := hcs i q hq
          have hixc := fun c => @idx23 Ac Bc Co b.certs.length c eC i hlt2
          have lc := lt_of_cell q0
          have HQ := Lib.hid hq
          have hb3 : Below wr.heap.size wr (wr.alloc (.cells #[.int .i64 q.num, .int .i64 q.item, .int .i64 q.by_, .int .i64 q.day, .int .i64 q.valid, .int .i64 q.diff.lo, .int .i64 q.diff.hi] 58)) := (Below.refl _ _).alloc (Nat.le_refl _) _
          have HB3 := Lib.hid hb3
          obtain ⟨An, Ao, eA, hSA, hn0⟩ := HNT.out _ HKP.out
          have hixa := fun c => @idx26 A An Ao (heldL b []).length c eA k hlt
          have lA := lt_of_cell hn0
          clear hq hcs eC eA hb3
          cases hqn : (q.num == (nn : Int))
          · have hne : q.num ≠ (nn : Int) := by simpa using hqn
            have HNE := Lib.hid hne
            clear hne
            go_wp2_with fail
            refine wp_region_over (by kernel_rfl) (by kernel_rfl) ?_
            repeat (go_big_quiet_step (fail))
            refine wpQuiet_nil ?_
            rintro w' ⟨z, rfl⟩
            have HX := Lib.hid (HB3.out.trans ((over_below _ z).mono HB3.out.size))
            go_wp2_with fail
            go_roundw
            case rel => exact ⟨i + 1, by omega, by go_num, HKP.out.trans (Keep.of_below HX.out fun j h _ => by omega), by rw [inTo_ne HQ.out HNE.out]; exact HS2.out.on HX.out⟩
            case measure => simp [intOf]; omega
          · have heq : q.num = (nn : Int) := by simpa using hqn
            have HEQ := Lib.hid heq
            have hme := List.mem_of_getElem? HQ.out
            have hcv := (crtOk_iff b q).1 (HV.out.ct q hme)
            have g1 := hcv.b1; have g2 := hcv.b2; have g3 := hcv.d1; have g4 := hcv.d2; have g5 := hcv.l1; have g6 := hcv.l2; have g7 := hcv.l3
            have hin := inTo_in HV.out hk HNM.out i
            have HIN := Lib.hid hin
            clear heq hme hcv hin
            go_wp2_with fail
            refine wp_region_over (by kernel_rfl) (by kernel_rfl) ?_
            repeat (go_big_quiet_step (fail))
            refine wpQuiet_nil ?_
            rintro w' ⟨z, rfl⟩
            have HX := Lib.hid (HB3.out.trans ((over_below _ z).mono HB3.out.size))
            have HS3 := Lib.hid (HS2.out.on HX.out)
            have HK3 := Lib.hid (HKP.out.trans (Keep.of_below HX.out fun j h _ => by omega))
            have p0 : (over (wr.alloc (.cells #[.int .i64 q.num, .int .i64 q.item, .int .i64 q.by_, .int .i64 q.day, .int .i64 q.valid, .int .i64 q.diff.lo, .int .i64 q.diff.hi] 58)) z).cell? ⟨wr.heap.size, 0, none⟩ = some (.int .i64 q.num) := cell_ov (by simp [go_sem])
            have p2 : (over (wr.alloc (.cells #[.int .i64 q.num, .int .i64 q.item, .int .i64 q.by_, .int .i64 q.day, .int .i64 q.valid, .int .i64 q.diff.lo, .int .i64 q.diff.hi] 58)) z).cell? ⟨wr.heap.size, 2, none⟩ = some (.int .i64 q.by_) := cell_ov (by simp [go_sem])
            have p3 : (over (wr.alloc (.cells #[.int .i64 q.num, .int .i64 q.item, .int .i64 q.by_, .int .i64 q.day, .int .i64 q.valid, .int .i64 q.diff.lo, .int .i64 q.diff.hi] 58)) z).cell? ⟨wr.heap.size, 3, none⟩ = some (.int .i64 q.day) := cell_ov (by simp [go_sem])
            have p5 : (over (wr.alloc (.cells #[.int .i64 q.num, .int .i64 q.item, .int .i64 q.by_, .int .i64 q.day, .int .i64 q.valid, .int .i64 q.diff.lo, .int .i64 q.diff.hi] 58)) z).cell? ⟨wr.heap.size, 5, none⟩ = some (.int .i64 q.diff.lo) := cell_ov (by simp [go_sem])
            have p6 : (over (wr.alloc (.cells #[.int .i64 q.num, .int .i64 q.item, .int .i64 q.by_, .int .i64 q.day, .int .i64 q.valid, .int .i64 q.diff.lo, .int .i64 q.diff.hi] 58)) z).cell? ⟨wr.heap.size, 6, none⟩ = some (.int .i64 q.diff.hi) := cell_ov (by simp [go_sem])
            have a0' := HS3.out.cl.a0
            have a1' := HS3.out.cl.a1
            have lp := lt_of_cell p0
            have lw' := lt_of_cell a0'
            clear d0 lG a1 lw q0 q1 q2 q3 q4 q5 q6 hixc lc hn0 hixa lA HS2 HKP HB3 HX hqn hbk hSC hSA
            generalize over (wr.alloc _) z = V at *
            generalize wr.heap.size = Z at *
            go_wp2_with fail
            have hlen : b.certs.length ≤ 24 := hcl
            refine (c30 Ai Ac A ci cc c G b (heldL b []) (inTo b (workTo b k) nn i) q.by_ q.day q.num V (HA.out.below HS3.out.cl.bel) HV.out HS3.out.sps (by omega) g1 g2 g3 g4 (fun m => by have := HIN.out m; unfold In at *; omega)).mono ?_
            rintro e V2 ⟨rfl, y, rfl⟩
            have hdec : (fun n => decide (n ∈ heldL b [])) = held0 b := by
              funext m
              rw [Bool.eq_iff_iff, decide_eq_true_eq, mem_heldL0]
            rw [hdec]
            have hrin := refSpan_in HV.out (held0 b) (item := q.by_) (day := q.day) (below := q.num) g1 g2 (show 1099511627776 ≤ 1099511627776 + 200000 * (k : Int) + 200000 by omega) HIN.out
            have hie := inTo_eq HV.out (sp := workTo b k) HQ.out HEQ.out HHD.out
            generalize refSpan b (held0 b) (inTo b (workTo b k) nn i) q.by_ q.day q.num = r at hrin hie
            have HIE := Lib.hid hie
            obtain ⟨s1, s2, s3, s4⟩ := hrin
            have HS4 := Lib.hid (HS3.out.on (over_below V y))
            have HK4 := Lib.hid (HK3.out.trans (Keep.over _ V y))
            replace p0 := cell_ov (x := y) p0
            replace p5 := cell_ov (x := y) p5
            replace p6 := cell_ov (x := y) p6
            rw [HEQ.out] at p0
            clear p2 p3 a0' a1' lp lw' HS3 HK3 hdec hie
            generalize over V y = V2 at *
            have lp := lt_of_cell p0
            have lG := HS4.out.lt
            unfold rngV
            go_wp2_with fail
            have hb9 : Below V2.heap.size V2 (V2.alloc (.cells #[.int .i64 r.lo, .int .i64 r.hi] 49)) := (Below.refl _ _).alloc (Nat.le_refl _) _
            have HS9 := Lib.hid (HS4.out.on hb9)
            have HK9 := Lib.hid (HK4.out.trans (Keep.of_below hb9 fun j h _ => by omega))
            replace p0 := cell_on hb9 p0
            replace p5 := cell_on hb9 p5
            replace p6 := cell_on hb9 p6
            have r0 : (V2.alloc (.cells #[.int .i64 r.lo, .int .i64 r.hi] 49)).cell? ⟨V2.heap.size, 0, none⟩ = some (.int .i64 r.lo) := by simp [go_sem]
            have r1 : (V2.alloc (.cells #[.int .i64 r.lo, .int .i64 r.hi] 49)).cell? ⟨V2.heap.size, 1, none⟩ = some (.int .i64 r.hi) := by simp [go_sem]
            clear hb9 HS4 HK4 lp lG
            generalize V2.alloc (.cells #[.int .i64 r.lo, .int .i64 r.hi] 49) = V3 at *
            generalize V2.heap.size = Y at *
            have lp := lt_of_cell p0
            have lr := lt_of_cell r0
            have lG := HS9.out.lt
            have t0 := HS9.out.lo nn hn1
            have t1 := HS9.out.hi nn hn1
            have f0 := HS9.out.fz (nn * 2)
            have f1 := HS9.out.fz (nn * 2 + 1)
            refine wp_region_drew_tail 18 (by kernel_rfl) (by kernel_rfl) ?_
            dsimp only [List.take, List.drop]
            repeat (go_big_quiet_step (fail))
            refine wpQuiet_nil ?_
            rintro w' ⟨nd, rfl⟩
            have hbd : Below V3.heap.size V3 (V3.drewN nd) := below_drewN' (Below.refl _ _) nd
            have HP := Lib.hid ((HS9.out.on hbd).put hn1 (plusR r q.diff) HIE.out)
            have HK10 := Lib.hid ((HK9.out.trans (Keep.of_below hbd fun j h _ => by omega)).trans ((Keep.setCell _ ⟨G, nn * 2, none⟩ (.int .i64 (r.lo + q.diff.lo)) (fun h => by have := h.2; simp at this)).trans (Keep.setCell _ ⟨G, nn * 2 + 1, none⟩ (.int .i64 (r.hi + q.diff.hi)) (fun h => by have := h.2; simp at this))))
            clear hbd
            unfold plusR at HP
            go_wp2_with fail
            exact ⟨⟨i + 1, by omega, by go_num, HK10.out, HP.out⟩, by simp [intOf]; omega⟩
        · have hie : i = b.certs.length := by omega
          subst hie
          have hm := inTo_all (sp := workTo b k) (Nat.le_refl b.certs.length) HNM.out
          have HM := Lib.hid (hm.trans HWS.out.symm)
          clear hm hbk
          go_wp2_with fail
          go_roundw
          case rel => exact ⟨k + 1, by omega, by go_num, by rw [← HM.out]; exact HS2.out⟩
          case measure => simp [intOf]; omega
    · have hke : k = (heldL b []).length := by omega
      subst hke
      go_wp2_with fail
      go_ret
      refine ⟨G, A, c, rfl, ?_, below_over HS.out.cl.bel⟩
      have hsp := HS.out.sps
      rw [workTo_all b _ (Nat.le_refl _)] at hsp
      exact ⟨⟨Nat.le_of_lt HS.out.hG, hsp.sG⟩, hsp.lo, hsp.hi, hsp.held, HS.out.nums.mono fun j hj => ⟨hj.1, by have := hj.2; omega⟩⟩
end Go.Proofs.Ytmcnpfjichbijaa


/- The reference's Contradictory. -/
set_option linter.unusedSimpArgs false
set_option linter.unusedVariables false
namespace Go.Proofs.Ytmcnpfjichbijaa
open Go Go.Proofs Go.RowKit Go.Shelf


/-- The testing call's world. -/
structure CtS (w : World) (u1 u2 : Value) (G : Nat) (A : Option Addr) (c : Nat) (L : List Int) (sp : Int → Rng) (W : World) : Prop where
  cl : Cl w u1 u2 W
  sps : SpsAt (· < W.heap.size) W G A c L sp

theorem SpsAt.on {w w' : World} {G : Nat} {A : Option Addr} {c : Nat} {L : List Int} {sp : Int → Rng} (h : SpsAt (· < w.heap.size) w G A c L sp) (hb : Below w.heap.size w w') : SpsAt (· < w'.heap.size) w' G A c L sp :=
  (h.keep (Keep.of_below hb fun _ h _ => h)).mono fun j hj => by have := hb.size; have : j < w.heap.size := hj; show j < w'.heap.size; omega
theorem CtS.on {w : World} {u1 u2 : Value} {G : Nat} {A : Option Addr} {c : Nat} {L : List Int} {sp : Int → Rng} {W W' : World} (h : CtS w u1 u2 G A c L sp W) (hb : Below W.heap.size W W') : CtS w u1 u2 G A c L sp W' := ⟨h.cl.on hb, h.sps.on hb⟩

set_option maxRecDepth 100000 in
set_option maxHeartbeats 4000000 in
theorem c29 (Ai Ac : Option Addr) (ci cc : Nat) (b : Bk) (w : World) (hA : bookAt (· < w.heap.size) w Ai Ac b) (v : Vb b) :
    Calls Try.prog 29 #[.agg #[.slice Ai b.items.length ci, .slice Ac b.certs.length cc]] w fun e w' => e = .returned (.bool (contra b)) ∧ ∃ x, w' = over w x := by
  have HA := Lib.hid hA
  have HV := Lib.hid v
  have hil := v.il
  have hcl := v.cl
  clear hA v
  go_enter Try.func29, Try.ntmps29
  go_wp2_with fail
  have hCl : Cl w (.slice Ai b.items.length ci) (.slice Ac b.certs.length cc) (w.alloc (.cells #[.slice Ai b.items.length ci, .slice Ac b.certs.length cc] 25)) := ⟨by repeat' (first | exact Below.refl _ _ | (refine below_ov ?_ ?_) | (refine Below.alloc ?_ ?_ _) | (refine below_drewN' ?_ _) | (refine Below.drew ?_) | (refine below_set ?_ _ _ ?_) | (simp; done) | (simp; omega) | omega), by simp [go_sem], by simp [go_sem]⟩
  refine Calls.mono (f := 31) (c31 Ai Ac ci cc b _ (HA.out.alloc _) HV.out) ?_
  rintro e W1 ⟨G, A, c, rfl, hS, x, hx⟩
  have HT := Lib.hid (show CtS w (.slice Ai b.items.length ci) (.slice Ac b.certs.length cc) G A c (heldL b []) (spansOf b) W1 from ⟨by rw [hx]; exact hCl.onx, hS.mono fun j hj => hj.2⟩)
  clear hCl hS hx
  have hLl := heldL_len b
  have hnl : (numsOf b).length ≤ 24 := by rw [numsOf_length]; exact Nat.le_trans (firsts_length _) hcl
  have HIN := Lib.hid (spansOf_in HV.out hnl)
  clear hnl
  go_wp2_with fail
  go_loopw [4] (fun t wr => ∃ i : Nat, i ≤ b.certs.length ∧ t = .int .i64 i ∧ (∀ c ∈ b.certs.take i, refBad b c = false) ∧ CtS w (.slice Ai b.items.length ci) (.slice Ac b.certs.length cc) G A c (heldL b []) (spansOf b) wr) (fun t _ => b.certs.length - (intOf t).toNat)
  case atStart => exact ⟨0, Nat.zero_le _, rfl, by simp, HT.out⟩
  case round =>
    obtain ⟨i, hi, rfl, hno, hS⟩ := hrel
    have HNO := Lib.hid hno
    have HS := Lib.hid hS
    have a0 := hS.cl.a0
    have a1 := hS.cl.a1
    have lw := lt_of_cell a1
    have hbk := HA.out.below hS.cl.bel
    clear hno hS
    by_cases hlt : i < b.certs.length
    · obtain ⟨q, hq⟩ : ∃ q, b.certs[i]? = some q := ⟨b.certs[i], by simp [hlt]⟩
      obtain ⟨Bc, Co, eC, hSC, hcs⟩ := hbk.2 (by omega)
      obtain ⟨q0, q1, q2, q3, q4, q5, q6⟩ := hcs i q hq
      have hixc := fun c => @idx23 Ac Bc Co b.certs.length c eC i hlt
      have lc := lt_of_cell q0
      have HQ := Lib.hid hq
      have hme := List.mem_of_getElem? HQ.out
      have hcv := (crtOk_iff b q).1 (HV.out.ct q hme)
      have g1 := hcv.i1; have g2 := hcv.i2; have g3 := hcv.d1; have g4 := hcv.d2
      clear hq hcs eC hme hcv
      go_wp2_with fail
      have hb3 : Below wr.heap.size wr (wr.alloc (.cells #[.int .i64 q.num, .int .i64 q.item, .int .i64 q.by_, .int .i64 q.day, .int .i64 q.valid, .int .i64 q.diff.lo, .int .i64 q.diff.hi] 58)) := (Below.refl _ _).alloc (Nat.le_refl _) _
      have HS3 := Lib.hid (HS.out.on hb3)
      have p0 : (wr.alloc (.cells #[.int .i64 q.num, .int .i64 q.item, .int .i64 q.by_, .int .i64 q.day, .int .i64 q.valid, .int .i64 q.diff.lo, .int .i64 q.diff.hi] 58)).cell? ⟨wr.heap.size, 0, none⟩ = some (.int .i64 q.num) := by simp [go_sem]
      clear hb3 hbk a0 a1 lw q0 q1 q2 q3 q4 q5 q6 hixc lc hSC HS
      generalize World.alloc wr _ = V at *
      generalize wr.heap.size = Z at *
      refine (c30 Ai Ac A ci cc c G b (heldL b []) (spansOf b) q.item q.day 1000 V (HA.out.below HS3.out.cl.bel) HV.out HS3.out.sps (by omega) g1 g2 g3 g4 HIN.out).mono ?_
      rintro e V2 ⟨rfl, y, rfl⟩
      have hdec : (fun n => decide (n ∈ heldL b [])) = held0 b := by
        funext m
        rw [Bool.eq_iff_iff, decide_eq_true_eq, mem_heldL0]
      have hrb : refBad b q = (decide (q.num ∈ heldL b []) && decide ((refSpan b (held0 b) (spansOf b) q.item q.day 1000).hi < (refSpan b (held0 b) (spansOf b) q.item q.day 1000).lo)) := by
        unfold refBad
        rw [← hdec]
      rw [hdec]
      generalize refSpan b (held0 b) (spansOf b) q.item q.day 1000 = r at hrb
      have HRB := Lib.hid hrb
      have HS4 := Lib.hid (HS3.out.on (over_below V y))
      replace p0 := cell_ov (x := y) p0
      clear hdec hrb HS3
      generalize over V y = V2 at *
      have lp := lt_of_cell p0
      unfold rngV
      have hb5 : Below V2.heap.size V2 (V2.alloc (.cells #[.int .i64 r.lo, .int .i64 r.hi] 49)) := (Below.refl _ _).alloc (Nat.le_refl _) _
      have HS5 := Lib.hid (HS4.out.on hb5)
      have hh := HS5.out.sps.held
      have lG := lt_of_cell HS4.out.sps.held
      have HNU := Lib.hid HS5.out.sps.nums
      have HB5 := Lib.hid hb5
      clear hb5
      have hc25 := fun z => c25o (cn := c) (y := z) q.num HNU.out (fun k h => h) (by omega)
      have HSX := HRB.out
      cases h4 : decide (q.num ∈ heldL b [])
      · rw [h4] at hc25 HSX
        have HC25 := Lib.hid hc25
        have HRX := Lib.hid HSX
        clear hc25 h4 HSX
        go_wp2_with fail
        refine wp_region_over (by kernel_rfl) (by kernel_rfl) ?_
        repeat (go_big_quiet_step (exact calls_over_same (HC25.out _)))
        refine wpQuiet_nil ?_
        rintro w' ⟨z, rfl⟩
        go_wp2_with fail
        go_roundw
        case rel => exact ⟨i + 1, by omega, by go_num, fun c hc => by
          rw [List.take_add_one, HQ.out] at hc
          rcases List.mem_append.1 hc with h | h
          · exact HNO.out c h
          · simp at h; subst h; exact HRX.out, HS5.out.on (over_below _ z)⟩
        case measure => simp [intOf]; omega
      · rw [h4] at hc25 HSX
        have HC25 := Lib.hid hc25
        cases h5 : decide (r.hi < r.lo)
        · rw [h5] at HSX
          have HRX := Lib.hid HSX
          clear hc25 h4 HSX
          go_wp2_with fail
          refine wp_region_over (by kernel_rfl) (by kernel_rfl) ?_
          repeat (go_big_quiet_step (exact calls_over_same (HC25.out _)))
          refine wpQuiet_nil ?_
          rintro w' ⟨z, rfl⟩
          go_wp2_with fail
          go_roundw
          case rel => exact ⟨i + 1, by omega, by go_num, fun c hc => by
            rw [List.take_add_one, HQ.out] at hc
            rcases List.mem_append.1 hc with h | h
            · exact HNO.out c h
            · simp at h; subst h; exact HRX.out, HS5.out.on (over_below _ z)⟩
          case measure => simp [intOf]; omega
        · rw [h5] at HSX
          have HRX := Lib.hid HSX
          clear hc25 h4 HSX
          go_wp2_with fail
          refine wp_region_over (by kernel_rfl) (by kernel_rfl) ?_
          repeat (go_big_quiet_step (exact calls_over_same (HC25.out _)))
          refine wpQuiet_nil ?_
          rintro w' ⟨z, rfl⟩
          go_wp2_with fail
          go_ret
          refine ⟨?_, below_over (HS5.out.on (over_below _ z)).cl.bel⟩
          have : contra b = true := by
            rw [← refContra HV.out]
            exact List.any_eq_true.2 ⟨q, List.mem_of_getElem? HQ.out, HRX.out⟩
          rw [this]; rfl
    · go_wp2_with fail
      go_ret
      refine ⟨?_, below_over HS.out.cl.bel⟩
      have : contra b = false := by
        rw [← refContra HV.out]
        refine List.any_eq_false.2 fun c hc => ?_
        have := HNO.out c (by rwa [List.take_of_length_le (by omega)])
        rw [this]; simp
      rw [this]; rfl
end Go.Proofs.Ytmcnpfjichbijaa

