/- All spans, walked. -/
import Derived.Test.YtmcnpfjichbijaaC19
import Derived.Test.YtmcnpfjichbijaaT1
import Derived.Laws.EntriesVeiled
set_option linter.unusedSimpArgs false
set_option linter.unusedVariables false
namespace Go.Proofs.Ytmcnpfjichbijaa
open Go Go.Proofs Go.RowKit Go.Shelf


theorem c61 (b : Bk) (h : Int → Bool) (sp : Int → Rng) (k : Wk) (G H P : Nat) (item day below : Int) (w : World) (A : SpAt b h sp k G H P (· < w.heap.size) w) (h0 : 0 ≤ item) (h1 : item < b.items.length)
    (hd0 : 0 ≤ day) (hd1 : day ≤ 1000) (hsp : ∀ n, In (sp n) 2199023255552) :
    Calls Try.prog 61 #[.pointer (some ⟨G, 0, none⟩), .int .i64 item, .int .i64 day, .int .i64 below] w fun e w' => e = .returned (rngV (spanBy b h sp item day below)) ∧ ∃ x, w' = over w x := by
  cases hs : stdOf b item
  · exact c61n b h sp k G H P item day below w A h0 h1 hs hd0 hd1 hsp
  · exact c61s b h sp k G H P item day below w A h0 h1 hs

/-- A slice without its first element. -/
theorem run_tail26 (A : Option Addr) (n c : Nat) (h1 : 1 ≤ n) (hc : n ≤ c) : ∃ A' c', (∀ W, (Instr.slice 26 (.slice A n c) (some (.int .i64 1)) none none).run Try.prog W = .ok (.slice A' (n - 1) c') W) ∧ n - 1 ≤ c' ∧
    (1 < n → ∀ b o, A = some ⟨b, o, none⟩ → A' = some ⟨b, o + 1, none⟩) := by
  have hs : ∀ W, (sizeOf (Try.prog.elem 26)).run Try.prog W = .ok 1 W := size26
  refine ⟨if c = 1 then A else A.map (·.add 1), c - 1, fun W => ?_, by omega, fun h b o e => ?_⟩
  · rw [run_slice_l W 26 A n c und26 .i64 1 (by omega) (by omega), hs]
    simp [Result.andThen, sliced]
  · rw [if_neg (by omega), e]
    rfl

theorem addKeep {w w' : World} {P : Nat} {n m : Nat} (k : Keep (fun x => x < n ∧ x ≠ P) w w') (h : m ≤ n) : Keep (fun x => x < m ∧ x ≠ P) w w' := k.mono fun j hj => ⟨by omega, hj.2⟩

/-- One more certificate's span is known: the map of spans turns alone. -/
theorem SpAt.put {b : Bk} {h : Int → Bool} {sp sp' : Int → Rng} {k : Wk} {G H P : Nat} {w : World} {o' : Obj} (A : SpAt b h sp k G H P (· < w.heap.size) w) (hH : H ≠ P) (hM : k.M ≠ P) {g : Int → Option Value}
    (hm : isMap (w.putObj P o') P g) (hg : ∀ n, (g n).getD (rngV ⟨0, 0⟩) = rngV (sp' n)) (ho' : o'.isCells = false) : SpAt b h sp' k G H P (· < (w.putObj P o').heap.size) (w.putObj P o') := by
  have hsz : (w.putObj P o').heap.size = w.heap.size := by simp
  obtain ⟨g0, hg0, _⟩ := A.rm
  obtain ⟨oh, hHb, ho''⟩ := hg0.notCells
  have hc : ∀ a, (w.putObj P o').cell? a = w.cell? a := fun a => putObj_cell hHb ho'' ho' a
  have hb : ∀ l, l ≠ P → (w.putObj P o').heap[l]? = w.heap[l]? := fun l hl => World.putObj_heap_other hl
  have B := A.at_
  refine ⟨A.v, A.kb, A.kn, A.kc, A.ok, ⟨by rw [hsz]; exact B.sW, by rw [hsz]; exact B.sM, by rw [hc]; exact B.c0, by rw [hc]; exact B.c1, by rw [hc]; exact B.c2, by rw [hc]; exact B.c3, fun n hn => by rw [hc]; exact B.bad n hn, ?_, ?_, ?_, B.mp.of_block (hb _ hM)⟩,
    by rw [hsz]; exact A.tG, by rw [hsz]; exact A.tH, by rw [hsz]; exact A.tP, by rw [hc]; exact A.g0, by rw [hc]; exact A.g1, by rw [hc]; exact A.g2, isMap.of_block A.hm (hb _ hH), g, hm, hg⟩
  · intro hl
    obtain ⟨bb, o, e, hS, hcc⟩ := B.items hl
    exact ⟨bb, o, e, by rw [hsz]; exact hS, fun i x hx => by rw [hc, hc, hc, hc]; exact hcc i x hx⟩
  · intro hl
    obtain ⟨bb, o, e, hS, hcc⟩ := B.certs hl
    exact ⟨bb, o, e, by rw [hsz]; exact hS, fun i x hx => by rw [hc, hc, hc, hc, hc, hc, hc]; exact hcc i x hx⟩
  · intro hl
    obtain ⟨bb, o, e, hS, hcc⟩ := B.ns hl
    exact ⟨bb, o, e, by rw [hsz]; exact hS, fun i x hx => by rw [hc]; exact hcc i x hx⟩

set_option maxRecDepth 100000 in
set_option maxHeartbeats 1000000 in
theorem c84_0 (A : Option Addr) (c B1 B2 B3 : Nat) (w : World) :
    Calls Try.prog 84 #[.slice A 0 c, .pointer (some ⟨B1, 0, none⟩), .pointer (some ⟨B2, 0, none⟩), .pointer (some ⟨B3, 0, none⟩)] w fun e w' => e = .returned (.tuple #[]) ∧ w' = w := by
  go_enter Try.func84, Try.ntmps84
  go_wp2_with fail
  refine bodyPost_ret (results_none rfl _ _ _) rfl ?_
  exact ⟨rfl, rfl⟩

set_option maxRecDepth 100000 in
set_option maxHeartbeats 1000000 in
theorem c84_s (b : Bk) (h : Int → Bool) (k : Wk) (G H P B1 B2 B3 : Nat) (hH : H ≠ P) (hM : k.M ≠ P) (j i : Nat) (hij : i + (j + 1) = k.nums.length) (A : Option Addr) (c : Nat) (w : World)
    (S : SpAt b h (spU b h i) k G H P (· < w.heap.size) w) (x1 : w.cell? ⟨B1, 0, none⟩ = some (.pointer (some ⟨k.W, 0, none⟩))) (x2 : w.cell? ⟨B2, 0, none⟩ = some (.pointer (some ⟨G, 0, none⟩)))
    (x3 : w.cell? ⟨B3, 0, none⟩ = some (.func (.func 84) #[] #[.pointer (some ⟨B1, 0, none⟩), .pointer (some ⟨B2, 0, none⟩), .pointer (some ⟨B3, 0, none⟩)]))
    (hn : numsAt (fun x => x < w.heap.size ∧ x ≠ P) w A (k.nums.drop i)) (hc : j + 1 ≤ c)
    (ih : ∀ A' c' w', SpAt b h (spU b h (i + 1)) k G H P (· < w'.heap.size) w' → w'.cell? ⟨B1, 0, none⟩ = some (.pointer (some ⟨k.W, 0, none⟩)) → w'.cell? ⟨B2, 0, none⟩ = some (.pointer (some ⟨G, 0, none⟩)) →
      w'.cell? ⟨B3, 0, none⟩ = some (.func (.func 84) #[] #[.pointer (some ⟨B1, 0, none⟩), .pointer (some ⟨B2, 0, none⟩), .pointer (some ⟨B3, 0, none⟩)]) → numsAt (fun x => x < w'.heap.size ∧ x ≠ P) w' A' (k.nums.drop (i + 1)) → j ≤ c' →
      Calls Try.prog 84 #[.slice A' j c', .pointer (some ⟨B1, 0, none⟩), .pointer (some ⟨B2, 0, none⟩), .pointer (some ⟨B3, 0, none⟩)] w' fun e w'' =>
        e = .returned (.tuple #[]) ∧ SpAt b h (spU b h k.nums.length) k G H P (· < w''.heap.size) w'' ∧ Keep (fun x => x < w'.heap.size ∧ x ≠ P) w' w'') :
    Calls Try.prog 84 #[.slice A (j + 1) c, .pointer (some ⟨B1, 0, none⟩), .pointer (some ⟨B2, 0, none⟩), .pointer (some ⟨B3, 0, none⟩)] w fun e w'' =>
      e = .returned (.tuple #[]) ∧ SpAt b h (spU b h k.nums.length) k G H P (· < w''.heap.size) w'' ∧ Keep (fun x => x < w.heap.size ∧ x ≠ P) w w'' := by
  have hil : i < k.nums.length := by omega
  have hlen : (k.nums.drop i).length = j + 1 := by rw [List.length_drop]; omega
  obtain ⟨q, hq⟩ : ∃ q, q = k.nums[i] := ⟨_, rfl⟩
  have hmem : q ∈ k.nums := by rw [hq]; exact List.getElem_mem hil
  obtain ⟨Ab, Ao, eA, hSA, hns⟩ := hn (by omega)
  have hcell := hns 0 q (by simp [hq])
  rw [Nat.add_zero] at hcell
  have hix : ∀ c W, (Instr.indexAt 26 (.slice A (j + 1) c) (.int .i64 0)).run Try.prog W = .ok (.pointer (some ⟨Ab, Ao, none⟩)) W := fun c W => by have := @idx26 A Ab Ao (j + 1) c eA 0 (by omega) W; simpa using this
  obtain ⟨A', c', hsl, hc', hA'⟩ := run_tail26 A (j + 1) c (by omega) hc
  rw [Nat.add_sub_cancel] at hsl hc'
  have hA2 : 0 < j → A' = some ⟨Ab, Ao + 1, none⟩ := fun hj => hA' (by omega) Ab Ao eA
  have hlk0 := run_lookup_map underlying96 underlying3 (S.at_.mp.keep (Keep.drew (fun _ => True) w) trivial) (zero90 w.drew) q false
  have hlk1 := fun o => run_lookup_map underlying96 underlying3 ((S.at_.mp.keep (Keep.alloc (fun _ => True) w o) trivial).keep (Keep.drew (fun _ => True) (w.alloc o)) trivial) (zero90 (w.alloc o).drew) q false
  simp only [hmem, if_true, Option.getD_some, Bool.false_eq_true, if_false, crtV] at hlk0 hlk1
  have c2 := S.at_.c2
  have g2 := S.g2
  have l1 := lt_of_cell hcell
  have l2 := lt_of_cell x1
  have l3 := lt_of_cell x2
  have l4 := lt_of_cell x3
  have l5 := lt_of_cell c2
  have l6 := lt_of_cell g2
  have HS := Lib.hid S
  have HMEM := Lib.hid hmem
  have HNS := Lib.hid hns
  have HA2 := Lib.hid hA2
  have HIH := Lib.hid ih
  have HQ := Lib.hid hq
  have HIJ := Lib.hid hij
  clear eA hns hA' hA2 hmem S ih hn hq hij hlen
  go_enter Try.func84, Try.ntmps84
  go_wp2_with fail
  go_region
  go_wp2_with fail
  generalize hW1 : World.drew (World.alloc w _) = W1
  have hb1 : Below w.heap.size w W1 := by rw [← hW1]; repeat' (first | exact Below.refl _ _ | (refine below_ov ?_ ?_) | (refine Below.alloc ?_ ?_ _) | (refine below_drewN' ?_ _) | (refine Below.drew ?_) | (refine below_set ?_ _ _ ?_) | (simp; done) | (simp; omega) | omega)
  have q0 : W1.cell? ⟨w.heap.size, 0, none⟩ = some (.int .i64 (k.cf q).num) := by rw [← hW1]; simp [go_sem]
  have q1 : W1.cell? ⟨w.heap.size, 1, none⟩ = some (.int .i64 (k.cf q).item) := by rw [← hW1]; simp [go_sem]
  have q2 : W1.cell? ⟨w.heap.size, 2, none⟩ = some (.int .i64 (k.cf q).by_) := by rw [← hW1]; simp [go_sem]
  have q3 : W1.cell? ⟨w.heap.size, 3, none⟩ = some (.int .i64 (k.cf q).day) := by rw [← hW1]; simp [go_sem]
  have q4 : W1.cell? ⟨w.heap.size, 4, none⟩ = some (.int .i64 (k.cf q).valid) := by rw [← hW1]; simp [go_sem]
  have q5 : W1.cell? ⟨w.heap.size, 5, none⟩ = some (.int .i64 (k.cf q).diff.lo) := by rw [← hW1]; simp [go_sem]
  have q6 : W1.cell? ⟨w.heap.size, 6, none⟩ = some (.int .i64 (k.cf q).diff.hi) := by rw [← hW1]; simp [go_sem]
  clear hW1 hlk0 hlk1 hix c2 g2
  have kp1 : Keep (· < w.heap.size) w W1 := Keep.of_below hb1 fun _ h _ => h
  have HA1 := Lib.hid (HS.out.on hb1)
  have HK1 := Lib.hid kp1
  have y1 := kp1.cell x1 l2
  have y2 := kp1.cell x2 l3
  have y3 := kp1.cell x3 l4
  have m1 := lt_of_cell y1
  have m2 := lt_of_cell y2
  have m3 := lt_of_cell y3
  have m4 := lt_of_cell q0
  have c85' := c85 G H k.nums h (k.cf q) W1 HA1.out.g1 HA1.out.hm
  have hx := HS.out.ok.num q HMEM.out
  rw [show (decide ((k.cf q).num ∈ k.nums) && h (k.cf q).num) = h q from by rw [hx, decide_eq_true HMEM.out, Bool.true_and]] at c85'
  simp only [crtV] at c85'
  have HC85 := Lib.hid c85'
  have HX := Lib.hid hx
  have hqn : (numsOf b)[i]? = some q := by rw [← HS.out.kn, HQ.out]; simp [hil]
  have hib : i < (numsOf b).length := by rw [← HS.out.kn]; exact hil
  have hqe : (numsOf b)[i] = q := by have := List.getElem?_eq_getElem hib; rw [this] at hqn; simpa using hqn
  have hsu := spU_succ b h i hib
  rw [hqe] at hsu
  have HSU := Lib.hid hsu
  have HIB := Lib.hid hib
  have hnt : numsAt (fun x => x < w.heap.size ∧ x ≠ P) w A' (k.nums.drop (i + 1)) := fun hl => by
    rw [List.length_drop] at hl
    refine ⟨Ab, Ao + 1, HA2.out (by have := HIJ.out; omega), hSA, fun t n hn => ?_⟩
    have := HNS.out (t + 1) n (by rw [← hn]; simp; congr 1; omega)
    rw [show Ao + 1 + t = Ao + (t + 1) by omega]; exact this
  have HNTW := Lib.hid hnt
  clear c85' hx hsu hqn hqe hnt hib
  refine HC85.out.mono ?_
  rintro e w' ⟨rfl, x, rfl⟩
  cases hh : h q
  · have HH := Lib.hid hh
    have heq : spU b h (i + 1) = spU b h i := by
      rw [HSU.out]; funext n; unfold spansStep; rw [if_neg (by rintro ⟨_, e⟩; rw [HH.out] at e; cases e)]
    go_wp2_with fail
    generalize hW4 : over W1 x = W4
    have kx : Keep (· < W1.heap.size) W1 W4 := by rw [← hW4]; exact Keep.over _ _ _
    have hb4 : Below W1.heap.size W1 W4 := by rw [← hW4]; exact over_below _ _
    clear hW4
    replace y1 := kx.cell y1 m1
    replace y2 := kx.cell y2 m2
    replace y3 := kx.cell y3 m3
    have hA4 : SpAt b h (spU b h (i + 1)) k G H P (· < W4.heap.size) W4 := by rw [heq]; exact HA1.out.on hb4
    have HA4 := Lib.hid hA4
    have hsz4 := hb4.size
    have hsz1 := hb1.size
    have k4 : Keep (fun x => x < w.heap.size) w W4 := kp1.trans (kx.mono fun j hj => by omega)
    have HK4 := Lib.hid (k4.mono (T := fun x => x < w.heap.size ∧ x ≠ P) fun j hj => hj.1)
    have hnt4 : numsAt (fun x => x < W4.heap.size ∧ x ≠ P) W4 A' (k.nums.drop (i + 1)) := (HNTW.out.keep HK4.out).mono fun j hj => ⟨by omega, hj.2⟩
    have HNT := Lib.hid hnt4
    clear heq hA4 k4 hnt4 kx hb4 hb1 kp1 q0 q1 q2 q3 q4 q5 q6
    refine wp_region_drew_tail 3 (by kernel_rfl) (by kernel_rfl) ?_
    dsimp only [List.take, List.drop]
    repeat (go_big_quiet_step (fail))
    refine wpQuiet_nil ?_
    rintro w' ⟨nq, rfl⟩
    go_wp2_with fail
    refine Calls.mono (f := 84) (HIH.out A' c' _ (HA4.out.on (below_drewN' (Below.refl _ _) nq)) y1 y2 y3 ((HNT.out.keep (Keep.of_below (below_drewN' (Below.refl W4.heap.size W4) nq) fun _ h _ => h.1)).mono fun j hj => hj) hc') ?_
    rintro e w5 ⟨rfl, hA5, hk5⟩
    have HA5 := Lib.hid hA5
    have HK5 := Lib.hid hk5
    clear hA5 hk5
    go_wp2_with fail
    go_end0
    exact ⟨rfl, HA5.out, HK4.out.trans ((Keep.of_below (below_drewN' (Below.refl W4.heap.size W4) nq) fun x h hl => hl).trans (addKeep HK5.out (by have := HK4.out.size; exact this)))⟩
  · have HH := Lib.hid hh
    have hmb : q ∈ numsOf b := by rw [← HS.out.kn]; exact HMEM.out
    have hcq : k.cf q = getC b q := by rw [HS.out.kc]
    have hok := HS.out.v.ok hmb
    have hnum := (HS.out.v.num hmb).1
    have hsp2 : ∀ n, In (spU b h i n) 2199023255552 := fun n => by
      have := spU_in HS.out.v h i (by have := HIB.out; omega) n
      have h24 : i < 24 := by have := HS.out.ok.nl; omega
      unfold In at *; omega
    have hR := spanBy_in HS.out.v h (f := spU b h i) (item := (k.cf q).by_) (day := (k.cf q).day) (below := (k.cf q).num) (k := 2199023255552) (by rw [hcq]; exact hok.b1) (by rw [hcq]; exact hok.b2) (by omega) hsp2
    have hc61 : ∀ y, Calls Try.prog 61 #[.pointer (some ⟨G, 0, none⟩), .int .i64 (k.cf q).by_, .int .i64 (k.cf q).day, .int .i64 (k.cf q).num] (over W1 y) fun e w' => e = .returned (rngV (spanBy b h (spU b h i) (k.cf q).by_ (k.cf q).day (k.cf q).num)) ∧ ∃ x, w' = over (over W1 y) x :=
      fun y => c61 b h (spU b h i) k G H P _ _ _ _ (HA1.out.on (over_below W1 y)) (by rw [hcq]; exact hok.b1) (by rw [hcq]; exact hok.b2) (by rw [hcq]; exact hok.d1) (by rw [hcq]; exact hok.d2) hsp2
    have hdl : -100000 ≤ (k.cf q).diff.lo ∧ (k.cf q).diff.lo ≤ 100000 := by rw [hcq]; have := hok.l1; have := hok.l2; have := hok.l3; omega
    have hdh : -100000 ≤ (k.cf q).diff.hi ∧ (k.cf q).diff.hi ≤ 100000 := by rw [hcq]; have := hok.l1; have := hok.l2; have := hok.l3; omega
    have hset : ∀ n, spU b h (i + 1) n = if n = (k.cf q).num then plusR (spanBy b h (spU b h i) (k.cf q).by_ (k.cf q).day (k.cf q).num) (k.cf q).diff else spU b h i n := fun n => by
      rw [HSU.out]
      unfold spansStep
      rw [hcq, hnum]
      by_cases e : n = q
      · rw [if_pos ⟨e, HH.out⟩, if_pos e]
      · rw [if_neg (fun h => e h.1), if_neg e]
    have HSET := Lib.hid hset
    generalize spanBy b h (spU b h i) (k.cf q).by_ (k.cf q).day (k.cf q).num = r at hR hc61 HSET
    obtain ⟨s1, s2, s3, s4⟩ := hR
    obtain ⟨d1, d2⟩ := hdl
    obtain ⟨d3, d4⟩ := hdh
    simp only [rngV] at hc61
    have HC61 := Lib.hid hc61
    have g2 := HA1.out.g2
    have lg2 := lt_of_cell g2
    clear hset hc61 hmb hcq hok hnum hsp2
    go_wp2_with fail
    refine wp_region_over2_tail 17 (by kernel_rfl) (by kernel_rfl) ?_
    dsimp only [List.take, List.drop]
    repeat (go_big_quiet_step (first | exact calls_over_of (HC61.out _) | exact calls_over_of (c86 _ _ _ _ _ (by omega) (by omega) (by omega) (by omega))))
    refine wpQuiet_nil ?_
    rintro w' ⟨z, rfl⟩
    have hA3 := HA1.out.on (over_below W1 z)
    obtain ⟨g, hg, hgv⟩ := hA3.rm
    have HA3 := Lib.hid hA3
    have HGV := Lib.hid hgv
    have hnc := hg.notCells
    have HNC := Lib.hid hnc
    clear hA3 hgv hnc
    refine wpList_mapUpdate rfl rfl underlying133 underlying3 rfl rfl rfl hg ?_
    intro o' hm' ho'
    have HM' := Lib.hid hm'
    clear hm' hg
    have hcl : ∀ a, ((over W1 z).putObj P o').cell? a = (over W1 z).cell? a := fun a => by
      obtain ⟨oh, hHb, ho''⟩ := HNC.out
      exact putObj_cell hHb ho'' ho' a
    have hA4 : SpAt b h (spU b h (i + 1)) k G H P (· < ((over W1 z).putObj P o').heap.size) ((over W1 z).putObj P o') := HA3.out.put hH hM HM'.out (fun n => by
      rw [HSET.out n]
      unfold upd
      split
      · rfl
      · exact HGV.out n) ho'
    have kx : Keep (fun x => x < W1.heap.size ∧ x ≠ P) W1 ((over W1 z).putObj P o') := (Keep.over _ _ _).trans (Keep.putObj _ _ _ (fun h => h.2 rfl))
    have z1 : ((over W1 z).putObj P o').cell? ⟨B1, 0, none⟩ = some (.pointer (some ⟨k.W, 0, none⟩)) := by rw [hcl, over_cell _ _ _ _ m1]; exact y1
    have z2 : ((over W1 z).putObj P o').cell? ⟨B2, 0, none⟩ = some (.pointer (some ⟨G, 0, none⟩)) := by rw [hcl, over_cell _ _ _ _ m2]; exact y2
    have z3 : ((over W1 z).putObj P o').cell? ⟨B3, 0, none⟩ = some (.func (.func 84) #[] #[.pointer (some ⟨B1, 0, none⟩), .pointer (some ⟨B2, 0, none⟩), .pointer (some ⟨B3, 0, none⟩)]) := by rw [hcl, over_cell _ _ _ _ m3]; exact y3
    have hsz4 : ((over W1 z).putObj P o').heap.size = W1.heap.size + z.heap.size := by simp
    clear y1 y2 y3 q0 q1 q2 q3 q4 q5 q6 hcl g2 lg2
    have y1 := z1
    have y2 := z2
    have y3 := z3
    clear z1 z2 z3
    have HA4 := Lib.hid hA4
    have HKX := Lib.hid kx
    clear hA4 kx
    generalize (over W1 z).putObj P o' = W4 at HA4 HKX y1 y2 y3 hsz4 ⊢
    have hsz1 := hb1.size
    have k4 : Keep (fun x => x < w.heap.size ∧ x ≠ P) w W4 := (kp1.mono fun j hj => hj.1).trans (HKX.out.mono fun j hj => ⟨by omega, hj.2⟩)
    have HK4 := Lib.hid k4
    have hnt4 : numsAt (fun x => x < W4.heap.size ∧ x ≠ P) W4 A' (k.nums.drop (i + 1)) := (HNTW.out.keep HK4.out).mono fun j hj => ⟨by omega, hj.2⟩
    have HNT := Lib.hid hnt4
    have hs5 : W1.heap.size ≤ W4.heap.size := by omega
    clear k4 hnt4 hb1 kp1 hsz4
    simp only [Act.put]
    go_wp2_with fail
    refine wp_region_drew_tail 3 (by kernel_rfl) (by kernel_rfl) ?_
    dsimp only [List.take, List.drop]
    repeat (go_big_quiet_step (fail))
    refine wpQuiet_nil ?_
    rintro w' ⟨nq, rfl⟩
    go_wp2_with fail
    refine Calls.mono (f := 84) (HIH.out A' c' _ (HA4.out.on (below_drewN' (Below.refl _ _) nq)) y1 y2 y3 ((HNT.out.keep (Keep.of_below (below_drewN' (Below.refl W4.heap.size W4) nq) fun _ h _ => h.1)).mono fun j hj => hj) hc') ?_
    rintro e w5 ⟨rfl, hA5, hk5⟩
    have HA5 := Lib.hid hA5
    have HK5 := Lib.hid hk5
    clear hA5 hk5
    go_wp2_with fail
    go_end0
    exact ⟨rfl, HA5.out, HK4.out.trans ((Keep.of_below (below_drewN' (Below.refl W4.heap.size W4) nq) fun x h hl => hl).trans (addKeep HK5.out (by have := HK4.out.size; exact this)))⟩
end Go.Proofs.Ytmcnpfjichbijaa

