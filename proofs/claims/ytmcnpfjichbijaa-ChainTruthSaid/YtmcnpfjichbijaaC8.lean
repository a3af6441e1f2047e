/- A book is read: the walk of its loops. -/
import Derived.Test.YtmcnpfjichbijaaC7
import Derived.Test.YtmcnpfjichbijaaR1
import Derived.Test.YtmcnpfjichbijaaE3
import Derived.BigQuiet
import Derived.Deep.RegionLaw
set_option linter.unusedSimpArgs false
set_option linter.unusedVariables false
namespace Go.Proofs.Ytmcnpfjichbijaa
open Go Go.Proofs Go.RowKit Go.Shelf


/-- A book that is worked on has been made: a block of its own. -/
structure Made (b : Bk) (f : Int → Bool) (w w' : World) (k : Wk) : Prop where
  kb : k.b = b
  kn : k.nums = numsOf b
  kc : k.cf = getC b
  kf : k.bad = f
  ok : k.Ok
  at_ : k.At (· < w'.heap.size) w'
  hW : w.heap.size ≤ k.W
  hM : w.heap.size ≤ k.M
  hMW : k.M < k.W
  fz : ∀ o, w'.frozen? ⟨k.W, o, none⟩ = false
  its : itemsAt (· < k.M) w' k.Ai k.b.items
  cts : certsAt (· < k.M) w' k.Ac k.b.certs
  nms : numsAt (fun j => k.W < j ∧ j < w'.heap.size) w' k.An k.nums
  bel : Below w.heap.size w w'

/-- What reading returns: the error, or what is worked on. -/
def ReadTo (b : Bk) (w : World) (e : Ending) (w' : World) : Prop :=
  (e = .returned (.tuple #[.pointer none, .int .i64 6]) ∧ fault b = 6 ∧ ∃ x, w' = over w x) ∨
  (fault b = 0 ∧ ∃ k : Wk, e = .returned (.tuple #[.pointer (some ⟨k.W, 0, none⟩), .int .i64 0]) ∧ Made b (fun _ => false) w w' k)

theorem fault_six {b : Bk} (hl : b.items.length ≤ 8) (hl2 : b.certs.length ≤ 24) (h : (b.items.all itmOk && b.certs.all (crtOk b)) = true) {x y : Crt} (hx : x ∈ b.certs) (hy : y ∈ b.certs) (hc : clash x y = true) : fault b = 6 := by
  unfold fault
  rw [if_neg (by omega), if_neg (by rw [h]; simp), if_pos]
  exact List.any_eq_true.2 ⟨x, hx, List.any_eq_true.2 ⟨y, hy, hc⟩⟩

theorem owns_keep {S : Nat → Prop} {w w' : World} {base e s n : Nat} {v : Value} {xs : List Value} (h : w.ownsRow base e s v n xs) (k : Keep S w w') (hS : ∀ g, base ≤ g → S g) : w'.ownsRow base e s v n xs := by
  refine ⟨h.1, ?_⟩
  rcases h.2 with h1 | ⟨g, cap, cur, h1, h2, h3, h4⟩
  · exact .inl h1
  · exact .inr ⟨g, cap, cur, h1, h2, by rw [k.block g (hS g h2) (Array.getElem?_eq_some_iff.1 h3).1]; exact h3, h4⟩

theorem info3 : (Try.prog.info? 3).map (fun i => (i.zero, i.size, i.bytes)) = some (some (.int .i64 0), 1, 8) := by kernel_rfl

set_option maxRecDepth 100000 in
set_option maxHeartbeats 1000000 in
theorem c69_0 (Ai Ac : Option Addr) (ci cc : Nat) (b : Bk) (w : World) (hA : bookAt (· < w.heap.size) w Ai Ac b) (hl : b.items.length ≤ 8) (hl2 : b.certs.length ≤ 24) (h : (b.items.all itmOk && b.certs.all (crtOk b)) = true) :
    Calls Try.prog 69 #[.agg #[.slice Ai b.items.length ci, .slice Ac b.certs.length cc]] w (ReadTo b w) := by
  obtain ⟨hI, hC⟩ := hA
  have h1' : ¬ (8 : Int) < (b.items.length : Int) := by omega
  have h2' : ¬ (24 : Int) < (b.certs.length : Int) := by omega
  have hk : Keep (· < w.heap.size) w (w.alloc (.cells #[.slice Ai b.items.length ci, .slice Ac b.certs.length cc] 35)) := Keep.alloc _ _ _
  have hlt : ∀ j, j < w.heap.size → j < (w.alloc (.cells #[.slice Ai b.items.length ci, .slice Ac b.certs.length cc] 35)).heap.size := fun j hj => by rw [World.size_alloc]; omega
  have hc := c93 94 (enters_of Try.func94 (by kernel_rfl) rfl) #[] #[] b.items itmOk Ai ci _ ((hI.keep hk).mono hlt) (itm_fn _ _) (by omega)
  have HC := Lib.hid hc
  have hd := fun x => c95 96 (enters_of Try.func96 (by kernel_rfl) rfl) #[.agg #[.slice Ai b.items.length ci, .slice Ac b.certs.length cc]] #[] b.certs (crtOk b) Ac cc (over (w.alloc (.cells #[.slice Ai b.items.length ci, .slice Ac b.certs.length cc] 35)) x)
    (((hC.keep hk).keep (Keep.over _ _ x)).mono fun j hj => by have := hlt j hj; show j < (over _ x).heap.size; rw [over_size]; omega)
    (crt_fn _ _ _ _ _ _ _ (((hI.keep hk).keep (Keep.over _ _ x)).mono fun j hj => by have := hlt j hj; show j < (over _ x).heap.size; rw [over_size]; omega) (by omega) _) (by omega)
  have HD := Lib.hid hd
  have HI := Lib.hid hI
  have HCC := Lib.hid hC
  clear hc hd hk hlt hI hC
  have hI1 : b.items.all itmOk = true := by revert h; cases b.items.all itmOk <;> simp
  have hC1 : b.certs.all (crtOk b) = true := by revert h; cases b.certs.all (crtOk b) <;> simp
  have HH := Lib.hid h
  have hmm := @run_makeMap Try.prog
  have hs1 : ∀ m, w.heap.size < w.heap.size + 1 + m := fun m => by omega
  have hs2 : ∀ m, w.heap.size < w.heap.size + 1 + m + 1 := fun m => by omega
  have hs3 : ∀ m, w.heap.size ≠ w.heap.size + 1 + m := fun m => by omega
  have hs4 : ∀ m, w.heap.size ≠ w.heap.size + 1 + m + 1 := fun m => by omega
  clear h
  go_enter Try.func69, Try.ntmps69
  go_wp2_with fail
  refine HC.out.mono ?_
  rintro e w1 ⟨rfl, x, rfl⟩
  go_wp2_with fail
  refine (HD.out x).mono ?_
  rintro e w1 ⟨rfl, y, rfl⟩
  go_wp2_with (refine wpList_build99 rfl rfl rfl rfl ?_)
  obtain ⟨M, hM⟩ : ∃ M, M = w.heap.size + 1 + (x.heap.size + y.heap.size) := ⟨_, rfl⟩
  rw [← hM]
  generalize hw0 : over (w.alloc (Obj.cells #[Value.slice Ai b.items.length ci, Value.slice Ac b.certs.length cc] 35)) _ = w0
  have hb0 : Below w.heap.size w w0 := by rw [← hw0]; repeat' (first | exact Below.refl _ _ | (refine below_ov ?_ ?_) | (refine Below.alloc ?_ ?_ _) | (refine below_drewN' ?_ _) | (refine Below.drew ?_) | (refine below_set ?_ _ _ ?_) | (simp; done) | (simp; omega) | omega)
  have hM0 : M = w0.heap.size := by rw [hM, ← hw0]; simp
  have HM0 := Lib.hid hM0
  clear hM hw0 hM0
  go_loopw [42] (fun t wr => ∃ (i : Nat) (A : Option Addr) (cn : Nat), i ≤ b.certs.length ∧ t = .int .i64 i ∧ Rd b Ai Ac ci cc (M + 1) M w0 wr (b.certs.take i) A cn ∧ (∀ x ∈ b.certs.take i, ∀ y ∈ b.certs.take i, x.num = y.num → x = y)) (fun t _ => b.certs.length - (intOf t).toNat)
  case atStart =>
    refine ⟨0, none, 0, Nat.zero_le _, rfl, ?_, by simp⟩
    rw [HM0.out]
    exact Rd.start b Ai Ac ci cc w0
  case round =>
    obtain ⟨i, A, cn, hi, rfl, hR, heq⟩ := hrel
    have hRs := hR.size
    have hbs := hb0.size
    by_cases hlt : i < b.certs.length
    · obtain ⟨q, hq⟩ : ∃ q, q = b.certs[i] := ⟨_, rfl⟩
      have htk := List.take_succ_eq_append_getElem hlt
      rw [← hq] at htk
      have hqm : q ∈ b.certs := by rw [hq]; exact List.getElem_mem hlt
      have hkw : Keep (· < w.heap.size) w wr := (Keep.of_below hb0 fun _ h _ => h).trans (hR.kept.mono fun j hj => by have := hj; have := HM0.out; omega)
      obtain ⟨Ab, Ao, eA, hSA, hcs⟩ := HCC.out.keep hkw (by omega)
      obtain ⟨q1, q2, q3, q4, q5, q6, q7⟩ := hcs i q (by simp [hlt, hq])
      have hix := fun c => @idx33 Ac Ab Ao b.certs.length c eA i hlt
      clear hcs eA hq
      have HQ := Lib.hid hqm
      have HT := Lib.hid htk
      have HE := Lib.hid heq
      clear heq htk hqm
      have l1 := lt_of_cell q1
      go_wp2_with fail
      generalize hW9 : World.alloc wr _ = W9
      have hs9 : W9.heap.size = wr.heap.size + 1 := by rw [← hW9]; simp
      have hk9 : Keep (fun _ => True) wr W9 := by rw [← hW9]; exact Keep.alloc _ _ _
      have hc9 : ∀ j, W9.cell? ⟨wr.heap.size, j, none⟩ = (crtCs q)[j]? := fun j => by rw [← hW9]; unfold World.cell?; rw [World.alloc_heap_new]; rfl
      clear hW9
      have hR9 := hR.keep hk9
      have g0 := hc9 0
      have g1 := hc9 1
      have g2 := hc9 2
      have g3 := hc9 3
      have g4 := hc9 4
      have g5 := hc9 5
      have g6 := hc9 6
      simp only [crtCs, List.getElem?_toArray, List.getElem?_cons_zero, List.getElem?_cons_succ] at g0 g1 g2 g3 g4 g5 g6
      have hlk := run_lookup_map underlying96 underlying3 (show isMap W9.drew _ _ from hR9.mp) (zero90 _) q.num true
      have hlk2 := fun o => run_lookup_map underlying96 underlying3 (show isMap (W9.alloc o).drew _ _ from hR9.mp.alloc o) (zero90 _) q.num true
      have hc2 := hR9.c2
      have hc3 := hR9.c3
      have l2 := lt_of_cell g0
      have l3 := lt_of_cell hc2
      have HC9 := Lib.hid hc9
      have HS9 := Lib.hid hs9
      clear hs9 hc9 q1 q2 q3 q4 q5 q6 q7
      cases ho : look (b.certs.take i) q.num with
      | some o =>
        have hne := run_ne90 o q
        obtain ⟨ho1, ho2⟩ := look_num ho
        simp only [ho, Option.map_some, Option.getD_some, Option.isSome_some, if_true, crtV] at hlk hlk2 hne
        have HO := Lib.hid ho
        have HO1 := Lib.hid ho1
        have HO2 := Lib.hid ho2
        clear ho ho1 ho2
        cases hoq : (o != q)
        · rw [hoq] at hne
          have HOQ := Lib.hid hoq
          clear hoq
          go_wp2_with fail
          go_region
          go_wp2_with fail
          go_roundw
          case rel =>
            refine ⟨i + 1, A, cn, by omega, by go_num, ?_, ?_⟩
            · rw [HT.out]
              exact (hR9.keep ((Keep.alloc _ _ _).trans (Keep.drew _ _))).same (by rw [HO.out]; rfl)
            · have e : o = q := by have := HOQ.out; simpa using this
              rw [HT.out]
              intro x hx y hy hxy
              have h1 := HE.out
              have h2 := HO2.out
              rw [e] at h2
              have hm : ∀ z, z ∈ b.certs.take i ++ [q] → z ∈ b.certs.take i := fun z hz => by
                rcases List.mem_append.1 hz with h | h
                · exact h
                · rw [List.mem_singleton.1 h]; exact h2
              exact h1 x (hm x hx) y (hm y hy) hxy
          case measure => simp [intOf]; omega
        · rw [hoq] at hne
          have HOQ := Lib.hid hoq
          clear hoq
          go_wp2_with fail
          go_region
          go_wp2_with fail
          go_ret2
          refine .inl ⟨rfl, fault_six hl hl2 HH.out (x := o) (y := q) (List.mem_of_mem_take HO2.out) HQ.out ?_, ?_⟩
          · unfold clash; rw [HO1.out, HOQ.out]; simp
          · refine below_over ?_
            have k1 : Keep (· < w.heap.size) W9 _ := Keep.drew _ _
            exact ((hkw.trans (hk9.mono fun _ _ => trivial)).trans ((Keep.alloc _ _ _).trans (Keep.drew _ _))).below fun j hj => ⟨hj, hj⟩
      | none =>
        simp only [ho, Option.map_none, Option.getD_none, Option.isSome_none, if_true, crtV] at hlk hlk2
        have HO := Lib.hid ho
        clear ho
        go_wp2_with fail
        go_region
        go_wp2_with fail
        generalize hW10 : World.drew (World.alloc W9 _) = W10
        have hk10 : Keep (fun _ => True) W9 W10 := by rw [← hW10]; exact (Keep.alloc _ _ _).trans (Keep.drew _ _)
        clear hW10
        have hR10 := hR9.keep hk10
        have f0 := hk10.cell g0 trivial
        have f1 := hk10.cell g1 trivial
        have f2 := hk10.cell g2 trivial
        have f3 := hk10.cell g3 trivial
        have f4 := hk10.cell g4 trivial
        have f5 := hk10.cell g5 trivial
        have f6 := hk10.cell g6 trivial
        have d2 := hR10.c2
        refine wp_region_drew_tail 7 (by kernel_rfl) (by kernel_rfl) ?_
        dsimp only [List.take, List.drop]
        repeat (go_big_quiet_step (fail))
        refine wpQuiet_nil ?_
        rintro w' ⟨nq, rfl⟩
        refine wpList_mapUpdate (v := crtV q) rfl rfl underlying96 underlying3 rfl rfl rfl (show isMap (W10.drewN nq) _ _ from hR10.mp) ?_
        intro o' hm' ho'
        go_wp2_with fail
        have hobj := hR10.mp.notCells
        obtain ⟨oM, hoM, hoM2⟩ := hobj
        have hMW := hR10.hMW
        have r10 := hR10.size
        have p0 : ((W10.drewN nq).putObj M o').cell? ⟨wr.heap.size, 0, none⟩ = some (.int .i64 q.num) := by
          rw [putObj_cell (show (W10.drewN nq).heap[M]? = some oM from hoM) hoM2 ho']; exact f0
        have p3 : ((W10.drewN nq).putObj M o').cell? ⟨M + 1, 3, none⟩ = some (.slice A (firsts (b.certs.take i)).length cn) := by
          rw [putObj_cell (show (W10.drewN nq).heap[M]? = some oM from hoM) hoM2 ho']; exact hR10.c3
        have pf : ((W10.drewN nq).putObj M o').frozen? ⟨M + 1, 3, none⟩ = false := by
          have h1 := hR10.fz 3
          have hb : ((W10.drewN nq).putObj M o').heap[M + 1]? = W10.heap[M + 1]? := World.putObj_heap_other (w := W10.drewN nq) (by omega)
          unfold World.frozen? at h1 ⊢
          rw [hb]; exact h1
        have pown : ((W10.drewN nq).putObj M o').ownsRow (M + 1 + 1) 3 1 (.slice A (firsts (b.certs.take i)).length cn) (firsts (b.certs.take i)).length ((firsts (b.certs.take i)).map (Value.int .i64)) :=
          owns_keep (S := fun j => j ≠ M) hR10.own ((Keep.of_below (below_drewN' (Below.refl W10.heap.size W10) nq) fun _ _ h => h).trans (Keep.putObj _ _ _ (by simp))) (fun g hg => by omega)
        generalize hW11 : (W10.drewN nq).putObj M o' = W11 at hm' p0 p3 pf pown
        have HW11 := Lib.hid hW11
        clear hW11
        have hs11 := lt_of_cell p3
        obtain ⟨i0, hi0, hz0, hz1, hz2⟩ := info_parts info3
        have hfl := firsts_length (b.certs.take i)
        have htl : (b.certs.take i).length = i := by simp; omega
        have hno : (Value.slice A (firsts (b.certs.take i)).length cn).ownBlock ≠ some (M + 1) := by
          rcases pown.2 with ⟨h1, _⟩ | ⟨g, cap, cur, h1, h2, _⟩
          · rw [h1]; simp [Value.ownBlock]
          · rw [h1]; simp [Value.ownBlock]; omega
        have l11 := lt_of_cell p0
        have n11 : M + 1 ≠ W11.heap.size := by omega
        have fa : ∀ o, (W11.alloc o).drew.frozen? ⟨M + 1, 3, none⟩ = false := fun o => by
          unfold World.frozen? at pf ⊢
          have hb : (W11.alloc o).drew.heap[M + 1]? = W11.heap[M + 1]? := Below.heap_alloc W11 o (M + 1) hs11
          rw [hb]; exact pf
        have ha3 : ∀ o, (W11.alloc o).drew.cell? ⟨M + 1, 3, none⟩ = some (.slice A (firsts (b.certs.take i)).length cn) := fun o => by
          unfold World.cell? at p3 ⊢
          have hb : (W11.alloc o).drew.heap[M + 1]? = W11.heap[M + 1]? := Below.heap_alloc W11 o (M + 1) hs11
          rw [hb]; exact p3
        have hmore : ∀ gg cap w1 o, w1.ownsRow (M + 1 + 1) 3 1 (.slice (some ⟨gg, 0, none⟩) ((firsts (b.certs.take i)).length + 1) cap) ((firsts (b.certs.take i)).length + 1) ((firsts (b.certs.take i)).map (Value.int .i64) ++ [.int .i64 q.num]) →
            (W11.alloc o).drew.grownBy w1 (Value.slice A (firsts (b.certs.take i)).length cn).ownBlock →
            Rd b Ai Ac ci cc (M + 1) M w0 (w1.setCell ⟨M + 1, 3, none⟩ (.slice (some ⟨gg, 0, none⟩) ((firsts (b.certs.take i)).length + 1) cap)) (b.certs.take i ++ [q]) (some ⟨gg, 0, none⟩) cap := fun gg cap w1 o h1 h2 => by
          refine Rd.more (w := W10.drewN nq) (o := o') (hR10.keep (Keep.of_below (below_drewN' (Below.refl W10.heap.size W10) nq) fun _ _ h => h)) HO.out ?_ ho' ⟨oM, hoM, hoM2⟩ ?_ h1
          · rw [HW11.out]; exact hm'
          · rw [HW11.out]
            exact (Keep.alloc _ _ _).trans ((Keep.drew _ _).trans (Keep.grown h2 fun r hr h => h hr.symm))
        have HMORE := Lib.hid hmore
        clear hmore
        go_region_law ((refine step_append_lies _ (by rfl) _ _ _ (by rfl) (M + 1 + 1) 3 i0 _ 1 8 Try.underlying26 hi0 hz0 hz1 hz2 rfl (by omega) (.slice A (firsts (b.certs.take i)).length cn) (firsts (b.certs.take i)).length ((firsts (b.certs.take i)).map (Value.int .i64)) (by rfl) ((pown.alloc _).drew) ⟨W11.heap.size, 0, none⟩ 1 1 [.int .i64 q.num] (by rfl) (by rfl) (World.news_of_block (cs := #[.int .i64 q.num]) (t := 3) (fr := (0, 0)) (heap_alloc_new W11 _)) (by simp [Value.oneCell']) (by omega) (Nat.le_trans (show _ ≤ 25 by omega) (by decide)) (by omega) (by simp; omega) (W11.heap.size + 1) (by simp) ?_; intro gg cap w1 hown1 hgrow hat hlt; have hx3 := (hgrow.cell_far _ (by simp; omega) (Ne.symm hno)).trans (ha3 _); have hxf := (hgrow.frozen_far _ (by simp; omega) (Ne.symm hno)).trans (fa _)))
        all_goals
          go_wp2_with fail
          go_roundw
          case rel =>
            refine ⟨i + 1, some ⟨gg, 0, none⟩, cap, by omega, by go_num, ?_, ?_⟩
            · rw [HT.out]
              exact HMORE.out _ _ _ _ hown1 hgrow
            · rw [HT.out]
              have h1 := HE.out
              have h2 := HO.out
              have hnone : ∀ z ∈ b.certs.take i, z.num ≠ q.num := fun z hz hzq => by
                have := (look_isSome (b.certs.take i) q.num).2 ((mem_firsts _ _).2 ⟨z, hz, hzq⟩)
                rw [h2] at this; cases this
              intro x hx y hy hxy
              rcases List.mem_append.1 hx with hx | hx <;> rcases List.mem_append.1 hy with hy | hy
              · exact h1 x hx y hy hxy
              · rw [List.mem_singleton.1 hy] at hxy; exact absurd hxy (hnone x hx)
              · rw [List.mem_singleton.1 hx] at hxy; exact absurd hxy.symm (hnone y hy)
              · rw [List.mem_singleton.1 hx, List.mem_singleton.1 hy]
          case measure => simp [intOf]; omega
    · rw [List.take_of_length_le (by omega)] at hR heq
      have HE := Lib.hid heq
      clear heq
      have hfl := firsts_length b.certs
      have hc3 := hR.c3
      have l3 := lt_of_cell hc3
      have hM1 := hR.hMW
      have hnl := numsOf_length b
      have HNL := Lib.hid hnl
      clear hnl
      go_wp2_with fail
      refine (c97 hR.own (by omega)).mono ?_
      rintro e w1 ⟨rfl, k1, own1⟩
      have hS : ∀ j, j ≤ M + 1 → some j ≠ (Value.slice A (firsts b.certs).length cn).ownBlock := fun j hj => by
        rcases hR.own.2 with ⟨h1, _⟩ | ⟨g, cap, cur, h1, h2, _⟩
        · rw [h1]; simp [Value.ownBlock]
        · rw [h1]; simp [Value.ownBlock]; omega
      have hat : (Wk.mk (M + 1) M cn ci cc A Ai Ac b (numsOf b) (getC b) fun _ => false).At (· < w1.heap.size) w1 := by
        have ks := k1.size
        have hkw : Keep (· < w.heap.size) w w1 := ((Keep.of_below hb0 fun _ h _ => h).trans (hR.kept.mono fun j hj => by have := hj; have := HM0.out; omega)).trans (k1.mono fun j hj => hS j (by have := hj; have := HM0.out; omega))
        have hlw := hkw.size
        refine ⟨by show M + 1 < _; omega, by show M < _; omega, k1.cell hR.c0 (hS _ (Nat.le_refl _)), k1.cell hR.c1 (hS _ (Nat.le_refl _)), k1.cell hR.c2 (hS _ (Nat.le_refl _)), ?_, fun n hn => k1.cell (hR.bad n hn) (hS _ (Nat.le_refl _)),
          (HI.out.keep hkw).mono fun j hj => by have := hj; omega, (HCC.out.keep hkw).mono fun j hj => by have := hj; omega, ?_, ?_⟩
        · show w1.cell? ⟨M + 1, 3, none⟩ = some (.slice A (numsOf b).length cn)
          rw [HNL.out]; exact k1.cell hR.c3 (hS _ (Nat.le_refl _))
        · have := nums_of_own (l := numsOf b) (A := A) (cn := cn) (base := M + 1 + 1) (w := w1) (by rw [HNL.out]; exact own1)
          exact this.mono fun j hj => hj.2
        · exact (hR.mp.keep k1 (hS M (by omega))).congr fun n => map_look b n
      have hfz : ∀ o, w1.frozen? ⟨M + 1, o, none⟩ = false := fun o => by
        have h1 := hR.fz o
        have hb := k1.block (M + 1) (hS _ (Nat.le_refl _)) l3
        unfold World.frozen? at h1 ⊢
        rw [hb]; exact h1
      have hbel : Below w.heap.size w w1 := (((Keep.of_below hb0 fun _ h _ => h).trans (hR.kept.mono fun j hj => by have := hj; have := HM0.out; omega)).trans (k1.mono fun j hj => hS j (by have := hj; have := HM0.out; omega))).below (S := (· < w.heap.size)) fun j hj => ⟨hj, hj⟩
      have hok := okOf (W := M + 1) (M := M) (cn := cn) (ci := ci) (cc := cc) (An := A) (Ai := Ai) (Ac := Ac) hl hl2 hC1 (by
        have hle := own1.2
        rw [HNL.out]
        rcases hle with ⟨_, h0⟩ | ⟨g, cap, cur, h1, _, _, h4, _⟩
        · omega
        · cases h1; exact h4)
      rw [← HNL.out] at hc3
      have d3 := hat.c3
      have d2 := hat.c2
      have l1 := lt_of_cell d3
      have hnl2 : (numsOf b).length ≤ 24 := hok.nl
      have HAT := Lib.hid hat
      have HFZ := Lib.hid hfz
      have HOK := Lib.hid hok
      have HBEL := Lib.hid hbel
      clear hat hfz hok hbel
      go_wp2_with fail
      go_loopw [93] (fun t wr2 => ∃ (i n : Nat), i ≤ (numsOf b).length ∧ t = .int .i64 i ∧ wr2 = w1.drewN n ∧ (∀ (j : Nat) (h : j + 1 < (numsOf b).length), j + 1 < i → (getC b ((numsOf b)[j]'(by omega))).day ≤ (getC b (numsOf b)[j + 1]).day)) (fun t _ => (numsOf b).length - (intOf t).toNat)
      case atStart => exact ⟨0, 0, Nat.zero_le _, rfl, rfl, fun j h h' => by omega⟩
      case round =>
        obtain ⟨i, n, hi, rfl, rfl, hday⟩ := hrel
        by_cases hlt : i < (numsOf b).length
        · obtain ⟨q, hq⟩ : ∃ q, q = (numsOf b)[i] := ⟨_, rfl⟩
          have hmem : q ∈ numsOf b := by rw [hq]; exact List.getElem_mem hlt
          obtain ⟨nb, no, eN, hSn, hcs⟩ := HAT.out.ns (show 0 < (numsOf b).length by omega)
          have hcq := hcs i q (by show (numsOf b)[i]? = _; simp [hlt, hq])
          have hix := fun c => @idx26 A nb no (numsOf b).length c eN i hlt
          have hlk := fun m => run_lookup_map underlying96 underlying3 (show isMap (w1.drewN m) _ _ from HAT.out.mp) (zero90 _) q false
          simp only [hmem, if_true, Option.getD_some, Bool.false_eq_true, if_false, crtV] at hlk
          have ln := lt_of_cell hcq
          have HQ := Lib.hid hq
          have HMEM := Lib.hid hmem
          have HD := Lib.hid hday
          clear hq hday hmem
          by_cases hi0 : i = 0
          · have hi1 : decide ((0 : Int) < (i : Int)) = false := by simp; omega
            have hi2 : decide (0 < i) = false := by simp; omega
            have HI0 := Lib.hid hi0
            clear hcs eN hi0
            go_wp2_with fail
            go_quiet (fail)
            go_wp2_with fail
            go_roundw
            case rel => exact ⟨i + 1, n + nq, by omega, by go_num, by simp [World.drewN, Nat.add_assoc], fun j h h' => by have := HI0.out; omega⟩
            case measure => simp [intOf]; omega
          · have hi1 : decide ((0 : Int) < (i : Int)) = true := by simp; omega
            have hi2 : decide (0 < i) = true := by simp; omega
            obtain ⟨k, hk⟩ : ∃ k : Nat, (i : Int) - 1 = k := ⟨i - 1, by omega⟩
            have hklt : k < (numsOf b).length := by omega
            obtain ⟨p, hp⟩ : ∃ p, p = (numsOf b)[k] := ⟨_, rfl⟩
            have hmp : p ∈ numsOf b := by rw [hp]; exact List.getElem_mem hklt
            have hcp := hcs k p (by show (numsOf b)[k]? = _; simp [hklt, hp])
            have hixp := fun c => @idx26 A nb no (numsOf b).length c eN k hklt
            have hlp := fun m => run_lookup_map underlying96 underlying3 (show isMap (w1.drewN m) _ _ from HAT.out.mp) (zero90 _) p false
            simp only [hmp, if_true, Option.getD_some, Bool.false_eq_true, if_false, crtV] at hlp
            have HP := Lib.hid hp
            have HMP := Lib.hid hmp
            have HI0 := Lib.hid hi0
            clear hcs eN hp hmp hi0
            have hf1 := fun W => run_field90_3 (getC b q) W
            have hf2 := fun W => run_field90_3 (getC b p) W
            simp only [crtV] at hf1 hf2
            cases hdd : decide ((getC b q).day < (getC b p).day)
            · have HDD := Lib.hid hdd
              go_wp2_with fail
              go_quiet (fail)
              go_wp2_with fail
              go_roundw
              case rel =>
                refine ⟨i + 1, n + nq, by omega, by go_num, by simp [World.drewN, Nat.add_assoc], fun j h h' => ?_⟩
                by_cases hji : j + 1 < i
                · exact HD.out j h hji
                · have ej : j = k := by have := HI0.out; omega
                  have ei : j + 1 = i := by omega
                  subst ej
                  subst ei
                  have h1 := HDD.out
                  rw [HQ.out, HP.out] at h1
                  have := of_decide_eq_false h1
                  omega
              case measure => simp [intOf]; omega
            · have HDD := Lib.hid hdd
              go_wp2_with fail
              go_quiet (fail)
              go_wp2_with fail
              go_ret2
              refine .inl ⟨rfl, ?_, below_over (below_drewN' (below_drewN' HBEL.out _) _)⟩
              have h1 := of_decide_eq_true HDD.out
              have hqs := getC_spec HMEM.out
              have hps := getC_spec HMP.out
              refine fault_six hl hl2 HH.out hqs.2.1 hps.2.1 ?_
              unfold clash
              rw [hqs.1, hps.1]
              have hs := List.pairwise_iff_getElem.1 (numsOf_sorted b) k i hklt hlt (by omega)
              rw [← HQ.out, ← HP.out] at hs
              have hne : p ≠ q := fun e => by rw [e] at h1; omega
              have hlt' : p < q := by omega
              simp [hlt', h1]
        · have HD := Lib.hid hday
          clear hday
          go_wp2_with fail
          go_ret2
          have kd := fun n => (Keep.of_below (S := fun _ => True) (below_drewN' (Below.refl (w1.heap.size) w1) n) fun _ _ h => h)
          refine .inr ⟨fault_zero hl hl2 HH.out HE.out fun j h => HD.out j h (by omega), _, rfl, rfl, rfl, rfl, rfl, HOK.out, HAT.out.keep ((kd _).mono fun _ _ => trivial), ?_, ?_, Nat.lt_succ_self _, HFZ.out, ?_, ?_, ?_, below_drewN' HBEL.out _⟩
          · have := HM0.out; show w.heap.size ≤ M + 1; omega
          · have := HM0.out; show w.heap.size ≤ M; omega
          · exact (HI.out.keep (Keep.of_below (below_drewN' HBEL.out _) fun _ h _ => h)).mono fun j hj => (show j < M by have := hj; have := HM0.out; omega)
          · exact (HCC.out.keep (Keep.of_below (below_drewN' HBEL.out _) fun _ h _ => h)).mono fun j hj => (show j < M by have := hj; have := HM0.out; omega)
          · have := nums_of_own (l := numsOf b) (A := A) (cn := cn) (base := M + 1 + 1) (w := w1) (by rw [HNL.out]; exact own1)
            exact (this.mono fun j hj => ⟨hj.1, hj.2⟩).keep ((kd _).mono fun _ _ => trivial)
end Go.Proofs.Ytmcnpfjichbijaa

