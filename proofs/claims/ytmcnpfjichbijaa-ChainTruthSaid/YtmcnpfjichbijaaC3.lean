/- What holds. -/
import Derived.Test.YtmcnpfjichbijaaC1
import Derived.RegionTactic
set_option linter.unusedSimpArgs false
set_option linter.unusedVariables false
namespace Go.Proofs.Ytmcnpfjichbijaa
open Go Go.Proofs Go.RowKit Go.Shelf

attribute [local go_sem] Oper.semAt_some

/-- A box holds a bool. -/
def BoolAt (W : World) (B : Nat) (b : Bool) : Prop := W.cell? ⟨B, 0, none⟩ = some (.bool b) ∧ W.frozen? ⟨B, 0, none⟩ = false

theorem BoolAt.set {W : World} {B : Nat} {b : Bool} (h : BoolAt W B b) (c : Bool) : BoolAt (W.setCell ⟨B, 0, none⟩ (.bool c)) B c :=
  ⟨World.cell?_setCell_same' _ _ _ (by rw [h.1]; rfl), by rw [World.frozen?_setCell]; exact h.2⟩

/-- b, or h of one of l. -/
def anyH (b : Bool) (h : Int → Bool) (l : List Int) : Bool := b || l.any h

theorem anyH_snoc (b : Bool) (h : Int → Bool) (l : List Int) (x : Int) : anyH b h (l ++ [x]) = (anyH b h l || h x) := by simp [anyH, Bool.or_assoc]

theorem boolAt_own {β : Type} (B n : Nat) (f : β → Bool) : OwnFrom n (fun s W => BoolAt W B (f s)) :=
  fun s A C row hs hg hr => ⟨cell_kept hs.1 hg (fun r e => (hr r e).2), (frozen_kept hs.1 hg (fun r e => (hr r e).2)).trans hs.2⟩

theorem underlying94 : Try.prog.underlying 94 = some (.map 3 4) := by kernel_rfl
theorem zero4 (w : World) : (zeroValue 4).run Try.prog w = .ok (.bool false) w := by kernel_rfl

/-- One certificate more is judged. -/
def heldStep (k : Wk) (h : Int → Bool) (n : Int) : Int → Bool := fun j =>
  if j = n then (stdOf k.b (k.cf n).by_ || (ofN k.cf k.nums (k.cf n).by_ (k.cf n).day n).any h) && !k.bad n else h j

def heldUpto (k : Wk) (l : List Int) : Int → Bool := l.foldl (heldStep k) fun _ => false

theorem held_notin (k : Wk) : ∀ (l : List Int) (h : Int → Bool) (n : Int), h n = false → n ∉ l → l.foldl (heldStep k) h n = false
  | [], h, n, hn, _ => hn
  | m :: l, h, n, hn, hm => held_notin k l _ n (by simp only [heldStep]; rw [if_neg (by intro e; subst e; simp at hm)]; exact hn) (by simp at hm; exact hm.2)

theorem heldUpto_notin (k : Wk) (l : List Int) (n : Int) (h : n ∉ l) : heldUpto k l n = false := held_notin k l _ n rfl h

theorem heldUpto_map (k : Wk) (i : Nat) (q : Int) (h : k.nums.take (i + 1) = k.nums.take i ++ [q]) (v : Value)
    (hv : v = .bool ((stdOf k.b (k.cf q).by_ || (ofN k.cf k.nums (k.cf q).by_ (k.cf q).day q).any (heldUpto k (k.nums.take i))) && !k.bad q)) (n : Int) :
    upd (fun n => if n ∈ k.nums.take i then some (.bool (heldUpto k (k.nums.take i) n)) else none) q v n = if n ∈ k.nums.take (i + 1) then some (.bool (heldUpto k (k.nums.take (i + 1)) n)) else none := by
  rw [h]
  have e : heldUpto k (k.nums.take i ++ [q]) = heldStep k (heldUpto k (k.nums.take i)) q := by simp [heldUpto, List.foldl_append]
  rw [e]
  by_cases hn : n = q
  · subst hn; simp [upd, hv, heldStep]
  · simp [upd, hn, heldStep]

set_option maxRecDepth 100000 in
set_option maxHeartbeats 1000000 in
theorem c51 (k : Wk) (hk : k.Ok) (w : World) (hat : k.At (· < w.heap.size) w) :
    Calls Try.prog 51 #[.pointer (some ⟨k.W, 0, none⟩)] w fun e w' => ∃ H, e = .returned (.map (some H)) ∧
      isMap w' H (fun n => if n ∈ k.nums then some (.bool (heldUpto k k.nums n)) else none) ∧ Below w.heap.size w w' ∧ w.heap.size ≤ H := by
  refine (callsIn_wide (n := 10)).1 ?_
  refine callsIn_of_wp_marks Try.func51 rfl trivial ?_ rfl
  refine wpIn_wide.2 ?_
  simp only [Try.ntmps51, List.size_toArray, List.length_cons, List.length_nil, Nat.reduceAdd, Nat.reduceSub, Array.replicate_succ, Array.replicate_zero, List.push_toArray, List.append_toArray, List.nil_append, List.cons_append]
  have hmm := @run_makeMap Try.prog
  have hc3 := hat.c3
  have hW := hat.sW
  have hnl := hk.nl
  go_wp2_with fail
  refine wp_loop (fun a wr => ∃ (i : Nat) (ds : List Deferred) (u5 u6 u7 u8 u16 u17 u18 u19 u20 u21 u22 u23 u24 u25 u26 u27 u28 u29 u30 u31 u32 u33 u34 u35 u36 u37 u38 u39 u40 u41 u42 u43 u44 u45 u46 u47 u48 u49 u50 u51 u52 u53 u54 u55 u56 u57 u58 u59 u60 u61 u62 u63 : Value), i ≤ k.nums.length ∧ Marks (w.heap.size + 2) wr ds ∧
      isMap wr w.heap.size (fun n => if n ∈ k.nums.take i then some (.bool (heldUpto k (k.nums.take i) n)) else none) ∧ wr.cell? ⟨w.heap.size + 1, 0, none⟩ = some (.map (some w.heap.size)) ∧ Below w.heap.size w wr ∧
      a = { tmps := #[.pointer (some ⟨k.W, 0, none⟩), undef, .map none, .pointer (some ⟨w.heap.size + 1, 0, none⟩), undef, u5, u6, u7, u8, .map (some w.heap.size), .pointer (some ⟨k.W, 0, none⟩), .pointer (some ⟨k.W, 0, none⟩), .pointer (some ⟨k.W, 3, none⟩), .slice k.An k.nums.length k.cn, .int .i64 k.nums.length, .int .i64 i, u16, u17, u18, u19, u20, u21, u22, u23, u24, u25, u26, u27, u28, u29, u30, u31, u32, u33, u34, u35, u36, u37, u38, u39, u40, u41, u42, u43, u44, u45, u46, u47, u48, u49, u50, u51, u52, u53, u54, u55, u56, u57, u58, u59, u60, u61, u62, u63], defers := ds })
    (fun a _ => k.nums.length - (intOf (a.tmps.getD 15 undef)).toNat) ?start ?round
  case start =>
    refine ⟨0, [], _, _, _, _, _, _, _, _, _, _, _, _, _, _, _, _, _, _, _, _, _, _, _, _, _, _, _, _, _, _, _, _, _, _, _, _, _, _, _, _, _, _, _, _, _, _, _, _, _, _, _, _, Nat.zero_le _, trivial, ?_, ?_, ?_, rfl⟩
    · exact ((isMap_new w).alloc _).congr (by simp)
    · simp
    · exact ((Below.refl _ _).alloc (Nat.le_refl _) _).alloc (by simp) _
  case round =>
    rintro a wr ⟨i, ds, u5, u6, u7, u8, u16, u17, u18, u19, u20, u21, u22, u23, u24, u25, u26, u27, u28, u29, u30, u31, u32, u33, u34, u35, u36, u37, u38, u39, u40, u41, u42, u43, u44, u45, u46, u47, u48, u49, u50, u51, u52, u53, u54, u55, u56, u57, u58, u59, u60, u61, u62, u63, hi, hM, hmap, hbox, hbel, rfl⟩
    have hsz := hbel.size
    have hlb := lt_of_cell hbox
    have hwW : Keep (· < w.heap.size) w wr := Keep.of_below hbel fun _ h _ => h
    have hat' := hat.keep hwW
    by_cases hlt : i < k.nums.length
    · have hat2 := hat'
      have hmem : k.nums[i] ∈ k.nums := List.getElem_mem hlt
      have htk := List.take_succ_eq_append_getElem hlt
      obtain ⟨q, hq⟩ : ∃ q, q = k.nums[i] := ⟨_, rfl⟩
      rw [← hq] at hmem htk
      obtain ⟨An, Ao, eA, hSA, hns⟩ := hat'.ns (by omega)
      have hcell := hns i q (by simp [hlt, hq])
      have hix := fun c => @idx26 k.An An Ao k.nums.length c eA i hlt
      clear hns hq eA
      have HT := Lib.hid htk
      clear htk
      obtain ⟨hd0, hd1, hv0, hv1⟩ := hk.day q hmem
      obtain ⟨hq1, hq2⟩ := hk.rng q hmem
      obtain ⟨hb0, hb1⟩ := hk.by_ q hmem
      obtain ⟨bn, hbn⟩ := Int.eq_ofNat_of_zero_le hb0
      have hbl : bn < k.b.items.length := by omega
      obtain ⟨Ai, Ao2, eAi, hSI, hits⟩ := hat'.items (by omega)
      obtain ⟨hi1, hi2, hi3, hi4⟩ := hits bn k.b.items[bn] (by simp [hbl])
      have hix2 := fun c => @idx32 k.Ai Ai Ao2 k.b.items.length c eAi bn hbl
      clear hits eAi
      have hlk := run_lookup_map underlying96 underlying3 hat'.mp (zero90 wr) q false
      simp only [hmem, if_true, Option.getD_some, Bool.false_eq_true, if_false, crtV, hbn] at hlk
      have HM := Lib.hid hmem
      have HBN := Lib.hid hbn
      clear hmem hbn
      have hc0 := hat'.c0
      have hc2 := hat'.c2
      have l1 := lt_of_cell hcell
      have l2 := lt_of_cell hi2
      have l3 := lt_of_cell hc0
      go_wp2_with fail
      go_region
      go_wp2_with fail
      refine (c66 _ _ _ _ _).mono ?_
      rintro e w1 ⟨rfl, rfl⟩
      go_wp2_with fail
      generalize hW0 : World.drew (World.alloc _ _) = W0
      have kw : Keep (fun _ => True) wr W0 := by
        rw [← hW0]
        exact ((((((Keep.alloc _ _ _).trans (Keep.alloc _ _ _)).trans (Keep.alloc _ _ _)).trans (Keep.alloc _ _ _)).trans (Keep.alloc _ _ _)).trans (Keep.alloc _ _ _)).trans (Keep.drew _ _)
      have hs0 : wr.heap.size + 6 ≤ W0.heap.size := by rw [← hW0]; simp
      have hs1 : W0.heap.size ≤ wr.heap.size + 6 := by rw [← hW0]; simp
      have d0 : W0.cell? ⟨wr.heap.size, 3, none⟩ = some (.int .i64 (k.cf q).day) := by rw [← hW0]; simp [go_sem]
      have d1 : W0.cell? ⟨wr.heap.size + 1, 0, none⟩ = some (.bool k.b.items[bn].std) := by rw [← hW0]; simp [go_sem]
      have d2 : W0.cell? ⟨wr.heap.size + 2, 0, none⟩ = some (.pointer (some ⟨k.W, 0, none⟩)) := by rw [← hW0]; simp [go_sem]
      have d3 : W0.cell? ⟨wr.heap.size + 3, 0, none⟩ = some (.int .i64 bn) := by rw [← hW0]; simp [go_sem]
      have d4 : W0.cell? ⟨wr.heap.size + 4, 0, none⟩ = some (.int .i64 (k.cf q).day) := by rw [← hW0]; simp [go_sem]
      have d5 : W0.cell? ⟨wr.heap.size + 5, 0, none⟩ = some (.int .i64 q) := by rw [← hW0]; simp [go_sem]
      have e1 : W0.frozen? ⟨wr.heap.size + 1, 0, none⟩ = false := by rw [← hW0]; simp [go_sem]
      clear hW0
      have hb2 : ∀ j, j < wr.heap.size → but W0.heap.size (wr.heap.size + 1) j := fun j h => ⟨by omega, by omega⟩
      have hat3 : k.At (but W0.heap.size (wr.heap.size + 1)) W0 := (hat'.mono fun j hj => hb2 j (by omega)).keep (kw.mono fun _ _ => trivial)
      refine ofLoop (p := 42) (s := 8) k hk (wr.heap.size + 1) (Bw := wr.heap.size + 2) (Bb := wr.heap.size + 5) (Bi := wr.heap.size + 3) (Bd := wr.heap.size + 4) (item := bn) (day := (k.cf q).day) (below := q)
        ⟨hat3, ⟨by omega, by omega⟩, ⟨by omega, by omega⟩, ⟨by omega, by omega⟩, ⟨by omega, by omega⟩, d2, d5, d3, d4⟩ rfl
        (fun pre W => BoolAt W (wr.heap.size + 1) (anyH k.b.items[bn].std (heldUpto k (k.nums.take i)) (ids pre)))
        (boolAt_own _ _ _) ⟨by simpa [anyH, ids] using d1, e1⟩ ?assign ?body ?done
      case assign =>
        intro l c W K hK
        simp only [crtV, crtCs] at hK ⊢
        gi_wp2
        exact hK
      case body =>
        rintro l pre x Bx W hatW hI hBx hBc hkp
        obtain ⟨hI1, hI2⟩ := hI
        have hbx := hkp.cell (kw.cell hbox trivial) ⟨by omega, by omega⟩
        have hmp := (hmap.keep kw trivial).keep hkp ⟨by omega, by omega⟩
        have hx := hk.num x.1 (List.mem_filter.1 x.2).1
        have hlx := run_lookup_map underlying94 underlying3 hmp (zero4 W) x.1 false
        have hcc : W.cell? ⟨Bx, 0, none⟩ = some (.int .i64 x.1) := by unfold World.cell?; rw [hBc]; simp [crtCs, hx]
        have hlt2 := lt_of_cell hI1
        simp only [Bool.false_eq_true, if_false] at hlx
        have hg : ((if x.1 ∈ k.nums.take i then some (Value.bool (heldUpto k (k.nums.take i) x.1)) else none).getD (.bool false)) = .bool (heldUpto k (k.nums.take i) x.1) := by
          split
          · rfl
          · rw [heldUpto_notin k _ _ (by assumption)]; rfl
        rw [hg] at hlx
        clear hg
        have HX := Lib.hid hx
        clear hx hBc
        simp only [crtV, List.setIfInBounds_toArray, List.set_cons_succ, List.set_cons_zero]
        have hfin : ∀ c, c = (anyH k.b.items[bn].std (heldUpto k (k.nums.take i)) (ids pre) || heldUpto k (k.nums.take i) x.1) →
            KeepsFrom W0.heap.size W (W.setCell ⟨wr.heap.size + 1, 0, none⟩ (.bool c)) ∧ Keep (but W0.heap.size (wr.heap.size + 1)) W (W.setCell ⟨wr.heap.size + 1, 0, none⟩ (.bool c)) ∧
              BoolAt (W.setCell ⟨wr.heap.size + 1, 0, none⟩ (.bool c)) (wr.heap.size + 1) (anyH k.b.items[bn].std (heldUpto k (k.nums.take i)) (ids (pre ++ [x]))) := fun c hc => by
          refine ⟨(KeepsOthers.setCell _ _ _).from _, Keep.setCell _ _ _ (fun h => h.2 rfl), ?_⟩
          rw [ids_snoc, anyH_snoc, ← hc]
          exact BoolAt.set ⟨hI1, hI2⟩ c
        have HF := Lib.hid hfin
        clear hfin
        cases hb : anyH k.b.items[bn].std (heldUpto k (k.nums.take i)) (ids pre) <;> rw [hb] at hI1 HF <;> clear hb
        · gi_wp2
          exact HF.out _ (by simp)
        · gi_wp2
          exact HF.out _ (by simp)
      case done =>
        rintro D xs W hD hids ⟨hI1, hI2⟩ hkp hDk
        have HI := Lib.hid hids
        clear hids
        have hbx := hkp.cell (kw.cell hbox trivial) ⟨by omega, by omega⟩
        have hat4 := hat3.keep hkp
        have hbadq := hat4.bad q.toNat (by omega)
        have hmp := (hmap.keep kw trivial).keep hkp ⟨by omega, by omega⟩
        have hWW := hkp.size
        have hc0' := hat4.c0
        have lc0 := lt_of_cell hc0'
        obtain ⟨bq, hbq⟩ : ∃ bq, k.bad (q.toNat : Int) = bq := ⟨_, rfl⟩
        rw [hbq] at hbadq
        have HB := Lib.hid hbq
        clear hbq
        have hqn : (q.toNat : Int) = q := by omega
        have hstd : stdOf k.b (k.cf q).by_ = k.b.items[bn].std := by unfold stdOf; rw [HBN.out]; simp [hbl]
        obtain ⟨oh, hHb, ho''⟩ := hmp.notCells
        have hmk : ∀ o' n', (oh.isCells = true ∨ o'.isCells = false) → Marks (w.heap.size + 2) ((W.drewN n').putObj w.heap.size o') ({ target := .collected D, args := #[] } :: ds) := fun o' n' _ => by
          have m1 := hM.keep kw (fun _ _ _ _ => trivial)
          have m2 := m1.keep hkp (fun D hB hl hc => ⟨hl, fun e => by subst e; obtain ⟨c, t, f, h⟩ := cells_at d1; exact hc c t f h⟩)
          have m3 : Marks (w.heap.size + 2) ((W.drewN n').putObj w.heap.size o') ds := (m2.drewN n').putObj o' (by omega)
          refine m3.cons (by omega) ((World.putObj_heap_other (w := W.drewN n') (by omega)).trans hDk) (fun d hd e => ?_)
          obtain ⟨D', e', hl'⟩ := hM.mem_lt d hd
          rw [e'] at e
          have : D' = D := by simpa using e
          omega
        have hbl' : ∀ o' n', Below w.heap.size w ((W.drewN n').putObj w.heap.size o') := fun o' n' =>
          below_putObj (below_drewN' ((hbel.trans (kw.below fun j hj => ⟨trivial, by omega⟩)).trans (hkp.below fun j hj => ⟨⟨by omega, by omega⟩, by omega⟩)) _) _ (Nat.le_refl _)
        have HMK := Lib.hid hmk
        have HBL := Lib.hid hbl'
        have HQ := Lib.hid hqn
        have HS := Lib.hid hstd
        have HO := Lib.hid hHb
        clear hmk hbl' hqn hstd hHb
        go_wp2_with fail
        cases hb : anyH k.b.items[bn].std (heldUpto k (k.nums.take i)) (ids xs) <;> rw [hb] at hI1
        all_goals
          have HH := Lib.hid hb
          clear hb
          refine wp_region_drew_tail 12 (by kernel_rfl) (by kernel_rfl) ?_
          dsimp only [List.take, List.drop]
          repeat (go_big_quiet_step (fail))
          refine wpQuiet_nil ?_
          rintro w' ⟨nq, rfl⟩
          refine wpList_mapUpdate rfl rfl underlying94 underlying3 rfl rfl rfl (show isMap (W.drewN nq) _ _ from hmp) ?_
          intro o' hm' ho'
          go_wp2_with fail
          refine ⟨⟨i + 1, { target := .collected D, args := #[] } :: ds, _, _, _, _, _, _, _, _, _, _, _, _, _, _, _, _, _, _, _, _, _, _, _, _, _, _, _, _, _, _, _, _, _, _, _, _, _, _, _, _, _, _, _, _, _, _, _, _, _, _, _, _, by omega, ?_, ?_, ?_, ?_, rfl⟩, by simp [intOf]; omega⟩
          · exact HMK.out o' nq (.inr ho')
          · exact hm'.congr fun n => heldUpto_map k i q HT.out _ (by rw [HS.out, HBN.out, ← HI.out]; have h1 := HH.out; have h2 := HB.out; simp only [anyH] at h1; rw [h1]; rw [HQ.out] at h2; exact congrArg Value.bool (by simp [h2])) n
          · rw [putObj_cell (show (W.drewN nq).heap[w.heap.size]? = some oh from HO.out) ho'' ho']; exact hbx
          · exact HBL.out o' nq
    · go_wp2_with fail
      refine leaves_marks hM fun w' hg => ⟨_, results_tmp rfl _ _ _, w.heap.size, rfl, ?_, ?_, Nat.le_refl _⟩
      · rw [List.take_of_length_le (by omega)] at hmap
        exact hg.isMap hmap
      · exact hbel.trans (hg.below.mono (by omega))
end Go.Proofs.Ytmcnpfjichbijaa
