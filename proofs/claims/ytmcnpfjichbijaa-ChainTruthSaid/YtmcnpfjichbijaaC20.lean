/- All spans, walked. -/
import Derived.Test.YtmcnpfjichbijaaC15
import Derived.Test.YtmcnpfjichbijaaT1
import Derived.Laws.EntriesVeiled
import Derived.Test.YtmcnpfjichbijaaC13
import Derived.Deep.RegionHeld3
import Derived.Deep.DrawnRows

set_option linter.unusedSimpArgs false
set_option linter.unusedVariables false
namespace Go.Proofs.Ytmcnpfjichbijaa
open Go Go.Proofs Go.RowKit Go.Shelf


theorem c61 (b : Bk) (h : Int → Bool) (sp : Int → Rng) (k : Wk) (G H P : Nat) (item day below : Int) (w : World) (A : SpAt b h sp k G H P (· < w.heap.size) w) (h0 : 0 ≤ item) (h1 : item < b.items.length)
    (hd0 : 0 ≤ day) (hd1 : day ≤ 1000) (hsp : ∀ n, In (sp n) 2199023255552) :
    Calls Try.prog 61 #[.pointer (some ⟨G, 0, none⟩), .int .i64 item, .int .i64 day, .int .i64 below] w fun e w' => e = .returned (rngV (spanBy b h sp item day below)) ∧ ∃ x, w' = over w x := by
  cases hs : stdOf b item
  · exact c61n b h sp k G H P item day below w A h0 h1 hs hd0 hd1 hsp
  · exact c61s b h sp k G H P item day below w A h0 h1 hs

/-- A slice without its first element. -/
theorem run_tail26 (A : Option Addr) (n c : Nat) (h1 : 1 ≤ n) (hc : n ≤ c) : ∃ A' c', (∀ W, (Instr.slice 26 (.slice A n c) (some (.int .i64 1)) none none).run Try.prog W = .ok (.slice A' (n - 1) c') W) ∧ n - 1 ≤ c' ∧
    (1 < n → ∀ b o, A = some ⟨b, o, none⟩ → A' = some ⟨b, o + 1, none⟩) := by
  have hs : ∀ W, (sizeOf (Try.prog.elem 26)).run Try.prog W = .ok 1 W := size26
  refine ⟨if c = 1 then A else A.map (·.add 1), c - 1, fun W => ?_, by omega, fun h b o e => ?_⟩
  · rw [run_slice_l W 26 A n c und26 .i64 1 (by omega) (by omega), hs]
    simp [Result.andThen, sliced]
  · rw [if_neg (by omega), e]
    rfl

theorem addKeep {w w' : World} {P : Nat} {n m : Nat} (k : Keep (fun x => x < n ∧ x ≠ P) w w') (h : m ≤ n) : Keep (fun x => x < m ∧ x ≠ P) w w' := k.mono fun j hj => ⟨by omega, hj.2⟩

/-- One more certificate's span is known: the map of spans turns alone. -/
theorem SpAt.put {b : Bk} {h : Int → Bool} {sp sp' : Int → Rng} {k : Wk} {G H P : Nat} {w : World} {o' : Obj} (A : SpAt b h sp k G H P (· < w.heap.size) w) (hH : H ≠ P) (hM : k.M ≠ P) {g : Int → Option Value}
    (hm : isMap (w.putObj P o') P g) (hg : ∀ n, (g n).getD (rngV ⟨0, 0⟩) = rngV (sp' n)) (ho' : o'.isCells = false) : SpAt b h sp' k G H P (· < (w.putObj P o').heap.size) (w.putObj P o') := by
  have hsz : (w.putObj P o').heap.size = w.heap.size := by simp
  obtain ⟨g0, hg0, _⟩ := A.rm
  obtain ⟨oh, hHb, ho''⟩ := hg0.notCells
  have hc : ∀ a, (w.putObj P o').cell? a = w.cell? a := fun a => putObj_cell hHb ho'' ho' a
  have hb : ∀ l, l ≠ P → (w.putObj P o').heap[l]? = w.heap[l]? := fun l hl => World.putObj_heap_other hl
  have B := A.at_
  refine ⟨A.v, A.kb, A.kn, A.kc, A.ok, ⟨by rw [hsz]; exact B.sW, by rw [hsz]; exact B.sM, by rw [hc]; exact B.c0, by rw [hc]; exact B.c1, by rw [hc]; exact B.c2, by rw [hc]; exact B.c3, fun n hn => by rw [hc]; exact B.bad n hn, ?_, ?_, ?_, B.mp.of_block (hb _ hM)⟩,
    by rw [hsz]; exact A.tG, by rw [hsz]; exact A.tH, by rw [hsz]; exact A.tP, by rw [hc]; exact A.g0, by rw [hc]; exact A.g1, by rw [hc]; exact A.g2, isMap.of_block A.hm (hb _ hH), g, hm, hg⟩
  · intro hl
    obtain ⟨bb, o, e, hS, hcc⟩ := B.items hl
    exact ⟨bb, o, e, by rw [hsz]; exact hS, fun i x hx => by rw [hc, hc, hc, hc]; exact hcc i x hx⟩
  · intro hl
    obtain ⟨bb, o, e, hS, hcc⟩ := B.certs hl
    exact ⟨bb, o, e, by rw [hsz]; exact hS, fun i x hx => by rw [hc, hc, hc, hc, hc, hc, hc]; exact hcc i x hx⟩
  · intro hl
    obtain ⟨bb, o, e, hS, hcc⟩ := B.ns hl
    exact ⟨bb, o, e, by rw [hsz]; exact hS, fun i x hx => by rw [hc]; exact hcc i x hx⟩

set_option maxRecDepth 100000 in
set_option maxHeartbeats 1000000 in
theorem c84_0 (A : Option Addr) (c B1 B2 B3 : Nat) (w : World) :
    Calls Try.prog 84 #[.slice A 0 c, .pointer (some ⟨B1, 0, none⟩), .pointer (some ⟨B2, 0, none⟩), .pointer (some ⟨B3, 0, none⟩)] w fun e w' => e = .returned (.tuple #[]) ∧ w' = w := by
  go_enter Try.func84, Try.ntmps84
  go_wp2_with fail
  refine bodyPost_ret (results_none rfl _ _ _) rfl ?_
  exact ⟨rfl, rfl⟩

set_option maxRecDepth 100000 in
set_option maxHeartbeats 1000000 in
theorem c84_s (b : Bk) (h : Int → Bool) (k : Wk) (G H P B1 B2 B3 : Nat) (hH : H ≠ P) (hM : k.M ≠ P) (j i : Nat) (hij : i + (j + 1) = k.nums.length) (A : Option Addr) (c : Nat) (w : World)
    (S : SpAt b h (spU b h i) k G H P (· < w.heap.size) w) (x1 : w.cell? ⟨B1, 0, none⟩ = some (.pointer (some ⟨k.W, 0, none⟩))) (x2 : w.cell? ⟨B2, 0, none⟩ = some (.pointer (some ⟨G, 0, none⟩)))
    (x3 : w.cell? ⟨B3, 0, none⟩ = some (.func (.func 84) #[] #[.pointer (some ⟨B1, 0, none⟩), .pointer (some ⟨B2, 0, none⟩), .pointer (some ⟨B3, 0, none⟩)]))
    (hn : numsAt (fun x => x < w.heap.size ∧ x ≠ P) w A (k.nums.drop i)) (hc : j + 1 ≤ c)
    (ih : ∀ A' c' w', SpAt b h (spU b h (i + 1)) k G H P (· < w'.heap.size) w' → w'.cell? ⟨B1, 0, none⟩ = some (.pointer (some ⟨k.W, 0, none⟩)) → w'.cell? ⟨B2, 0, none⟩ = some (.pointer (some ⟨G, 0, none⟩)) →
      w'.cell? ⟨B3, 0, none⟩ = some (.func (.func 84) #[] #[.pointer (some ⟨B1, 0, none⟩), .pointer (some ⟨B2, 0, none⟩), .pointer (some ⟨B3, 0, none⟩)]) → numsAt (fun x => x < w'.heap.size ∧ x ≠ P) w' A' (k.nums.drop (i + 1)) → j ≤ c' →
      Calls Try.prog 84 #[.slice A' j c', .pointer (some ⟨B1, 0, none⟩), .pointer (some ⟨B2, 0, none⟩), .pointer (some ⟨B3, 0, none⟩)] w' fun e w'' =>
        e = .returned (.tuple #[]) ∧ SpAt b h (spU b h k.nums.length) k G H P (· < w''.heap.size) w'' ∧ Keep (fun x => x < w'.heap.size ∧ x ≠ P) w' w'') :
    Calls Try.prog 84 #[.slice A (j + 1) c, .pointer (some ⟨B1, 0, none⟩), .pointer (some ⟨B2, 0, none⟩), .pointer (some ⟨B3, 0, none⟩)] w fun e w'' =>
      e = .returned (.tuple #[]) ∧ SpAt b h (spU b h k.nums.length) k G H P (· < w''.heap.size) w'' ∧ Keep (fun x => x < w.heap.size ∧ x ≠ P) w w'' := by
  have hil : i < k.nums.length := by omega
  have hlen : (k.nums.drop i).length = j + 1 := by rw [List.length_drop]; omega
  obtain ⟨q, hq⟩ : ∃ q, q = k.nums[i] := ⟨_, rfl⟩
  have hmem : q ∈ k.nums := by rw [hq]; exact List.getElem_mem hil
  obtain ⟨Ab, Ao, eA, hSA, hns⟩ := hn (by omega)
  have hcell := hns 0 q (by simp [hq])
  rw [Nat.add_zero] at hcell
  have hix : ∀ c W, (Instr.indexAt 26 (.slice A (j + 1) c) (.int .i64 0)).run Try.prog W = .ok (.pointer (some ⟨Ab, Ao, none⟩)) W := fun c W => by have := @idx26 A Ab Ao (j + 1) c eA 0 (by omega) W; simpa using this
  obtain ⟨A', c', hsl, hc', hA'⟩ := run_tail26 A (j + 1) c (by omega) hc
  rw [Nat.add_sub_cancel] at hsl hc'
  have hA2 : 0 < j → A' = some ⟨Ab, Ao + 1, none⟩ := fun hj => hA' (by omega) Ab Ao eA
  have hlk0 := run_lookup_map underlying96 underlying3 (S.at_.mp.keep (Keep.drew (fun _ => True) w) trivial) (zero90 w.drew) q false
  have hlk1 := fun o => run_lookup_map underlying96 underlying3 ((S.at_.mp.keep (Keep.alloc (fun _ => True) w o) trivial).keep (Keep.drew (fun _ => True) (w.alloc o)) trivial) (zero90 (w.alloc o).drew) q false
  simp only [hmem, if_true, Option.getD_some, Bool.false_eq_true, if_false, crtV] at hlk0 hlk1
  have c2 := S.at_.c2
  have g2 := S.g2
  have l1 := lt_of_cell hcell
  have l2 := lt_of_cell x1
  have l3 := lt_of_cell x2
  have l4 := lt_of_cell x3
  have l5 := lt_of_cell c2
  have l6 := lt_of_cell g2
  have HS := Lib.hid S
  have HMEM := Lib.hid hmem
  have HNS := Lib.hid hns
  have HA2 := Lib.hid hA2
  have HIH := Lib.hid ih
  have HQ := Lib.hid hq
  have HIJ := Lib.hid hij
  clear eA hns hA' hA2 hmem S ih hn hq hij hlen
  go_enter Try.func84, Try.ntmps84
  go_wp2_with fail
  go_region
  go_wp2_with fail
  generalize hW1 : World.drew (World.alloc w _) = W1
  have hb1 : Below w.heap.size w W1 := by rw [← hW1]; repeat' (first | exact Below.refl _ _ | (refine below_ov ?_ ?_) | (refine Below.alloc ?_ ?_ _) | (refine below_drewN' ?_ _) | (refine Below.drew ?_) | (refine below_set ?_ _ _ ?_) | (simp; done) | (simp; omega) | omega)
  have q0 : W1.cell? ⟨w.heap.size, 0, none⟩ = some (.int .i64 (k.cf q).num) := by rw [← hW1]; simp [go_sem]
  have q1 : W1.cell? ⟨w.heap.size, 1, none⟩ = some (.int .i64 (k.cf q).item) := by rw [← hW1]; simp [go_sem]
  have q2 : W1.cell? ⟨w.heap.size, 2, none⟩ = some (.int .i64 (k.cf q).by_) := by rw [← hW1]; simp [go_sem]
  have q3 : W1.cell? ⟨w.heap.size, 3, none⟩ = some (.int .i64 (k.cf q).day) := by rw [← hW1]; simp [go_sem]
  have q4 : W1.cell? ⟨w.heap.size, 4, none⟩ = some (.int .i64 (k.cf q).valid) := by rw [← hW1]; simp [go_sem]
  have q5 : W1.cell? ⟨w.heap.size, 5, none⟩ = some (.int .i64 (k.cf q).diff.lo) := by rw [← hW1]; simp [go_sem]
  have q6 : W1.cell? ⟨w.heap.size, 6, none⟩ = some (.int .i64 (k.cf q).diff.hi) := by rw [← hW1]; simp [go_sem]
  clear hW1 hlk0 hlk1 hix c2 g2
  have kp1 : Keep (· < w.heap.size) w W1 := Keep.of_below hb1 fun _ h _ => h
  have HA1 := Lib.hid (HS.out.on hb1)
  have HK1 := Lib.hid kp1
  have y1 := kp1.cell x1 l2
  have y2 := kp1.cell x2 l3
  have y3 := kp1.cell x3 l4
  have m1 := lt_of_cell y1
  have m2 := lt_of_cell y2
  have m3 := lt_of_cell y3
  have m4 := lt_of_cell q0
  have c85' := c85 G H k.nums h (k.cf q) W1 HA1.out.g1 HA1.out.hm
  have hx := HS.out.ok.num q HMEM.out
  rw [show (decide ((k.cf q).num ∈ k.nums) && h (k.cf q).num) = h q from by rw [hx, decide_eq_true HMEM.out, Bool.true_and]] at c85'
  simp only [crtV] at c85'
  have HC85 := Lib.hid c85'
  have HX := Lib.hid hx
  have hqn : (numsOf b)[i]? = some q := by rw [← HS.out.kn, HQ.out]; simp [hil]
  have hib : i < (numsOf b).length := by rw [← HS.out.kn]; exact hil
  have hqe : (numsOf b)[i] = q := by have := List.getElem?_eq_getElem hib; rw [this] at hqn; simpa using hqn
  have hsu := spU_succ b h i hib
  rw [hqe] at hsu
  have HSU := Lib.hid hsu
  have HIB := Lib.hid hib
  have hnt : numsAt (fun x => x < w.heap.size ∧ x ≠ P) w A' (k.nums.drop (i + 1)) := fun hl => by
    rw [List.length_drop] at hl
    refine ⟨Ab, Ao + 1, HA2.out (by have := HIJ.out; omega), hSA, fun t n hn => ?_⟩
    have := HNS.out (t + 1) n (by rw [← hn]; simp; congr 1; omega)
    rw [show Ao + 1 + t = Ao + (t + 1) by omega]; exact this
  have HNTW := Lib.hid hnt
  clear c85' hx hsu hqn hqe hnt hib
  refine HC85.out.mono ?_
  rintro e w' ⟨rfl, x, rfl⟩
  cases hh : h q
  · have HH := Lib.hid hh
    have heq : spU b h (i + 1) = spU b h i := by
      rw [HSU.out]; funext n; unfold spansStep; rw [if_neg (by rintro ⟨_, e⟩; rw [HH.out] at e; cases e)]
    go_wp2_with fail
    generalize hW4 : over W1 x = W4
    have kx : Keep (· < W1.heap.size) W1 W4 := by rw [← hW4]; exact Keep.over _ _ _
    have hb4 : Below W1.heap.size W1 W4 := by rw [← hW4]; exact over_below _ _
    clear hW4
    replace y1 := kx.cell y1 m1
    replace y2 := kx.cell y2 m2
    replace y3 := kx.cell y3 m3
    have hA4 : SpAt b h (spU b h (i + 1)) k G H P (· < W4.heap.size) W4 := by rw [heq]; exact HA1.out.on hb4
    have HA4 := Lib.hid hA4
    have hsz4 := hb4.size
    have hsz1 := hb1.size
    have k4 : Keep (fun x => x < w.heap.size) w W4 := kp1.trans (kx.mono fun j hj => by omega)
    have HK4 := Lib.hid (k4.mono (T := fun x => x < w.heap.size ∧ x ≠ P) fun j hj => hj.1)
    have hnt4 : numsAt (fun x => x < W4.heap.size ∧ x ≠ P) W4 A' (k.nums.drop (i + 1)) := (HNTW.out.keep HK4.out).mono fun j hj => ⟨by omega, hj.2⟩
    have HNT := Lib.hid hnt4
    clear heq hA4 k4 hnt4 kx hb4 hb1 kp1 q0 q1 q2 q3 q4 q5 q6
    refine wp_region_drew_tail 3 (by kernel_rfl) (by kernel_rfl) ?_
    dsimp only [List.take, List.drop]
    repeat (go_big_quiet_step (fail))
    refine wpQuiet_nil ?_
    rintro w' ⟨nq, rfl⟩
    go_wp2_with fail
    refine Calls.mono (f := 84) (HIH.out A' c' _ (HA4.out.on (below_drewN' (Below.refl _ _) nq)) y1 y2 y3 ((HNT.out.keep (Keep.of_below (below_drewN' (Below.refl W4.heap.size W4) nq) fun _ h _ => h.1)).mono fun j hj => hj) hc') ?_
    rintro e w5 ⟨rfl, hA5, hk5⟩
    have HA5 := Lib.hid hA5
    have HK5 := Lib.hid hk5
    clear hA5 hk5
    go_wp2_with fail
    go_end0
    exact ⟨rfl, HA5.out, HK4.out.trans ((Keep.of_below (below_drewN' (Below.refl W4.heap.size W4) nq) fun x h hl => hl).trans (addKeep HK5.out (by have := HK4.out.size; exact this)))⟩
  · have HH := Lib.hid hh
    have hmb : q ∈ numsOf b := by rw [← HS.out.kn]; exact HMEM.out
    have hcq : k.cf q = getC b q := by rw [HS.out.kc]
    have hok := HS.out.v.ok hmb
    have hnum := (HS.out.v.num hmb).1
    have hsp2 : ∀ n, In (spU b h i n) 2199023255552 := fun n => by
      have := spU_in HS.out.v h i (by have := HIB.out; omega) n
      have h24 : i < 24 := by have := HS.out.ok.nl; omega
      unfold In at *; omega
    have hR := spanBy_in HS.out.v h (f := spU b h i) (item := (k.cf q).by_) (day := (k.cf q).day) (below := (k.cf q).num) (k := 2199023255552) (by rw [hcq]; exact hok.b1) (by rw [hcq]; exact hok.b2) (by omega) hsp2
    have hc61 : ∀ y, Calls Try.prog 61 #[.pointer (some ⟨G, 0, none⟩), .int .i64 (k.cf q).by_, .int .i64 (k.cf q).day, .int .i64 (k.cf q).num] (over W1 y) fun e w' => e = .returned (rngV (spanBy b h (spU b h i) (k.cf q).by_ (k.cf q).day (k.cf q).num)) ∧ ∃ x, w' = over (over W1 y) x :=
      fun y => c61 b h (spU b h i) k G H P _ _ _ _ (HA1.out.on (over_below W1 y)) (by rw [hcq]; exact hok.b1) (by rw [hcq]; exact hok.b2) (by rw [hcq]; exact hok.d1) (by rw [hcq]; exact hok.d2) hsp2
    have hdl : -100000 ≤ (k.cf q).diff.lo ∧ (k.cf q).diff.lo ≤ 100000 := by rw [hcq]; have := hok.l1; have := hok.l2; have := hok.l3; omega
    have hdh : -100000 ≤ (k.cf q).diff.hi ∧ (k.cf q).diff.hi ≤ 100000 := by rw [hcq]; have := hok.l1; have := hok.l2; have := hok.l3; omega
    have hset : ∀ n, spU b h (i + 1) n = if n = (k.cf q).num then plusR (spanBy b h (spU b h i) (k.cf q).by_ (k.cf q).day (k.cf q).num) (k.cf q).diff else spU b h i n := fun n => by
      rw [HSU.out]
      unfold spansStep
      rw [hcq, hnum]
      by_cases e : n = q
      · rw [if_pos ⟨e, HH.out⟩, if_pos e]
      · rw [if_neg (fun h => e h.1), if_neg e]
    have HSET := Lib.hid hset
    generalize spanBy b h (spU b h i) (k.cf q).by_ (k.cf q).day (k.cf q).num = r at hR hc61 HSET
    obtain ⟨s1, s2, s3, s4⟩ := hR
    obtain ⟨d1, d2⟩ := hdl
    obtain ⟨d3, d4⟩ := hdh
    simp only [rngV] at hc61
    have HC61 := Lib.hid hc61
    have g2 := HA1.out.g2
    have lg2 := lt_of_cell g2
    clear hset hc61 hmb hcq hok hnum hsp2
    go_wp2_with fail
    refine wp_region_over2_tail 17 (by kernel_rfl) (by kernel_rfl) ?_
    dsimp only [List.take, List.drop]
    repeat (go_big_quiet_step (first | exact calls_over_of (HC61.out _) | exact calls_over_of (c86 _ _ _ _ _ (by omega) (by omega) (by omega) (by omega))))
    refine wpQuiet_nil ?_
    rintro w' ⟨z, rfl⟩
    have hA3 := HA1.out.on (over_below W1 z)
    obtain ⟨g, hg, hgv⟩ := hA3.rm
    have HA3 := Lib.hid hA3
    have HGV := Lib.hid hgv
    have hnc := hg.notCells
    have HNC := Lib.hid hnc
    clear hA3 hgv hnc
    refine wpList_mapUpdate rfl rfl underlying133 underlying3 rfl rfl rfl hg ?_
    intro o' hm' ho'
    have HM' := Lib.hid hm'
    clear hm' hg
    have hcl : ∀ a, ((over W1 z).putObj P o').cell? a = (over W1 z).cell? a := fun a => by
      obtain ⟨oh, hHb, ho''⟩ := HNC.out
      exact putObj_cell hHb ho'' ho' a
    have hA4 : SpAt b h (spU b h (i + 1)) k G H P (· < ((over W1 z).putObj P o').heap.size) ((over W1 z).putObj P o') := HA3.out.put hH hM HM'.out (fun n => by
      rw [HSET.out n]
      unfold upd
      split
      · rfl
      · exact HGV.out n) ho'
    have kx : Keep (fun x => x < W1.heap.size ∧ x ≠ P) W1 ((over W1 z).putObj P o') := (Keep.over _ _ _).trans (Keep.putObj _ _ _ (fun h => h.2 rfl))
    have z1 : ((over W1 z).putObj P o').cell? ⟨B1, 0, none⟩ = some (.pointer (some ⟨k.W, 0, none⟩)) := by rw [hcl, over_cell _ _ _ _ m1]; exact y1
    have z2 : ((over W1 z).putObj P o').cell? ⟨B2, 0, none⟩ = some (.pointer (some ⟨G, 0, none⟩)) := by rw [hcl, over_cell _ _ _ _ m2]; exact y2
    have z3 : ((over W1 z).putObj P o').cell? ⟨B3, 0, none⟩ = some (.func (.func 84) #[] #[.pointer (some ⟨B1, 0, none⟩), .pointer (some ⟨B2, 0, none⟩), .pointer (some ⟨B3, 0, none⟩)]) := by rw [hcl, over_cell _ _ _ _ m3]; exact y3
    have hsz4 : ((over W1 z).putObj P o').heap.size = W1.heap.size + z.heap.size := by simp
    clear y1 y2 y3 q0 q1 q2 q3 q4 q5 q6 hcl g2 lg2
    have y1 := z1
    have y2 := z2
    have y3 := z3
    clear z1 z2 z3
    have HA4 := Lib.hid hA4
    have HKX := Lib.hid kx
    clear hA4 kx
    generalize (over W1 z).putObj P o' = W4 at HA4 HKX y1 y2 y3 hsz4 ⊢
    have hsz1 := hb1.size
    have k4 : Keep (fun x => x < w.heap.size ∧ x ≠ P) w W4 := (kp1.mono fun j hj => hj.1).trans (HKX.out.mono fun j hj => ⟨by omega, hj.2⟩)
    have HK4 := Lib.hid k4
    have hnt4 : numsAt (fun x => x < W4.heap.size ∧ x ≠ P) W4 A' (k.nums.drop (i + 1)) := (HNTW.out.keep HK4.out).mono fun j hj => ⟨by omega, hj.2⟩
    have HNT := Lib.hid hnt4
    have hs5 : W1.heap.size ≤ W4.heap.size := by omega
    clear k4 hnt4 hb1 kp1 hsz4
    simp only [Act.put]
    go_wp2_with fail
    refine wp_region_drew_tail 3 (by kernel_rfl) (by kernel_rfl) ?_
    dsimp only [List.take, List.drop]
    repeat (go_big_quiet_step (fail))
    refine wpQuiet_nil ?_
    rintro w' ⟨nq, rfl⟩
    go_wp2_with fail
    refine Calls.mono (f := 84) (HIH.out A' c' _ (HA4.out.on (below_drewN' (Below.refl _ _) nq)) y1 y2 y3 ((HNT.out.keep (Keep.of_below (below_drewN' (Below.refl W4.heap.size W4) nq) fun _ h _ => h.1)).mono fun j hj => hj) hc') ?_
    rintro e w5 ⟨rfl, hA5, hk5⟩
    have HA5 := Lib.hid hA5
    have HK5 := Lib.hid hk5
    clear hA5 hk5
    go_wp2_with fail
    go_end0
    exact ⟨rfl, HA5.out, HK4.out.trans ((Keep.of_below (below_drewN' (Below.refl W4.heap.size W4) nq) fun x h hl => hl).trans (addKeep HK5.out (by have := HK4.out.size; exact this)))⟩
end Go.Proofs.Ytmcnpfjichbijaa


/- All spans: made. -/
set_option linter.unusedSimpArgs false
set_option linter.unusedVariables false
namespace Go.Proofs.Ytmcnpfjichbijaa
open Go Go.Proofs Go.RowKit Go.Shelf


theorem c84 (b : Bk) (h : Int → Bool) (k : Wk) (G H P B1 B2 B3 : Nat) (hH : H ≠ P) (hM : k.M ≠ P) : ∀ (j i : Nat) (_ : i + j = k.nums.length) (A : Option Addr) (c : Nat) (w : World)
    (_ : SpAt b h (spU b h i) k G H P (· < w.heap.size) w) (_ : w.cell? ⟨B1, 0, none⟩ = some (.pointer (some ⟨k.W, 0, none⟩))) (_ : w.cell? ⟨B2, 0, none⟩ = some (.pointer (some ⟨G, 0, none⟩)))
    (_ : w.cell? ⟨B3, 0, none⟩ = some (.func (.func 84) #[] #[.pointer (some ⟨B1, 0, none⟩), .pointer (some ⟨B2, 0, none⟩), .pointer (some ⟨B3, 0, none⟩)]))
    (_ : numsAt (fun x => x < w.heap.size ∧ x ≠ P) w A (k.nums.drop i)) (_ : j ≤ c),
    Calls Try.prog 84 #[.slice A j c, .pointer (some ⟨B1, 0, none⟩), .pointer (some ⟨B2, 0, none⟩), .pointer (some ⟨B3, 0, none⟩)] w fun e w'' =>
      e = .returned (.tuple #[]) ∧ SpAt b h (spU b h k.nums.length) k G H P (· < w''.heap.size) w'' ∧ Keep (fun x => x < w.heap.size ∧ x ≠ P) w w''
  | 0, i, hij, A, c, w, S, x1, x2, x3, hn, hc => (c84_0 A c B1 B2 B3 w).mono fun e w' ⟨he, hw⟩ => by
    subst hw
    have : i = k.nums.length := by omega
    subst this
    exact ⟨he, S, Keep.refl _ _⟩
  | j + 1, i, hij, A, c, w, S, x1, x2, x3, hn, hc => c84_s b h k G H P B1 B2 B3 hH hM j i hij A c w S x1 x2 x3 hn hc
      fun A' c' w' S' y1 y2 y3 hn' hc' => c84 b h k G H P B1 B2 B3 hH hM j (i + 1) (by omega) A' c' w' S' y1 y2 y3 hn' hc'

attribute [local go_sem ↓] Go.wp_at_zero Go.wp_at_succ

/-- The spans of a book, worked. -/
def SpansTo (b : Bk) (k : Wk) (w : World) (e : Ending) (w' : World) : Prop :=
  ∃ G H P, e = .returned (.pointer (some ⟨G, 0, none⟩)) ∧ SpAt b (held0 b) (spansOf b) k G H P (· < w'.heap.size) w' ∧ Below w.heap.size w w'

theorem bcell {W w1 : World} (hb : Below W.heap.size W w1) : (∀ b o, b < W.heap.size → w1.cell? ⟨b, o, none⟩ = W.cell? ⟨b, o, none⟩) ∧ (∀ b o, b < W.heap.size → w1.frozen? ⟨b, o, none⟩ = W.frozen? ⟨b, o, none⟩) :=
  ⟨fun b o h => hb.cell (p := ⟨b, o, none⟩) h, fun b o h => hb.frozen (p := ⟨b, o, none⟩) h⟩

/-- What a call of held leaves. -/
def HeldTo (k : Wk) (w : World) (e : Ending) (w' : World) : Prop := ∃ H, e = .returned (.map (some H)) ∧ isMap w' H (fun n => if n ∈ k.nums then some (.bool (heldUpto k k.nums n)) else none) ∧ Below w.heap.size w w' ∧ w.heap.size ≤ H

theorem cell_ne_map {w : World} {a o P : Nat} {v : Value} {f : Int → Option Value} (hc : w.cell? ⟨a, o, none⟩ = some v) (hm : isMap w P f) : a ≠ P := fun e => by
  subst e
  obtain ⟨c, t, fz, hb⟩ := cells_at hc
  obtain ⟨ob, h1, h2⟩ := hm.notCells
  rw [hb] at h1; cases h1; cases h2
theorem numsAt.ne {w : World} {n P : Nat} {A : Option Addr} {l : List Int} {f : Int → Option Value} (h : numsAt (· < n) w A l) (hm : isMap w P f) : numsAt (fun x => x < n ∧ x ≠ P) w A l := fun hl => by
  obtain ⟨b, o, e, hS, hc⟩ := h hl
  exact ⟨b, o, e, ⟨hS, cell_ne_map (hc 0 l[0] (by simp [hl])) hm⟩, hc⟩

theorem isMap_new' (w : World) (M : Nat) (h : M = w.heap.size) : isMap (w.alloc (.map #[] 0)) M fun _ => none := by subst h; exact isMap_new w
theorem isMap_drew {w : World} {M : Nat} {f : Int → Option Value} (h : isMap w M f) : isMap w.drew M f := h.of_block rfl

/-- What lies there before the spans are worked. -/
structure SpPre (b : Bk) (k : Wk) (w w' : World) (T3 G H P : Nat) : Prop where
  bel : Below w.heap.size w w'
  t1 : w'.cell? ⟨w.heap.size, 0, none⟩ = some (.pointer (some ⟨k.W, 0, none⟩))
  t3 : w'.cell? ⟨T3, 0, none⟩ = some (.pointer (some ⟨G, 0, none⟩))
  g0 : w'.cell? ⟨G, 0, none⟩ = some (.pointer (some ⟨k.W, 0, none⟩))
  g1 : w'.cell? ⟨G, 1, none⟩ = some (.map (some H))
  g2 : w'.cell? ⟨G, 2, none⟩ = some (.map (some P))
  hm : isMap w' H (fun n => if n ∈ k.nums then some (.bool (heldUpto k k.nums n)) else none)
  pm : isMap w' P (fun _ => none)
  hH : w.heap.size ≤ H
  hP : w.heap.size ≤ P
  hHP : H ≠ P

set_option maxRecDepth 100000 in
set_option maxHeartbeats 1000000 in
theorem c59 (b : Bk) (k : Wk) (w0 w : World) (v : Vb b) (hm : Made b (fun _ => false) w0 w k) : Calls Try.prog 59 #[.pointer (some ⟨k.W, 0, none⟩)] w (SpansTo b k w) := by
  have HM := Lib.hid hm
  have hmm := @run_makeMap Try.prog
  have hmf : ∀ (fn : Fn) (first cap : Array Value) (w : World), (Instr.makeFunc fn first cap).run Try.prog w = .ok (.func fn first cap) w := fun _ _ _ _ => rfl
  have lW := hm.lt
  clear hm
  go_enter Try.func59, Try.ntmps59
  go_wp2_with fail
  refine Code.wp_mono (Q := fun e a' w' => e = .normal ∧ ∃ T3 G H P u5 u6 u9, SpPre b k w w' T3 G H P ∧
    a' = { tmps := #[.pointer (some ⟨k.W, 0, none⟩), .pointer (some ⟨w.heap.size, 0, none⟩), .pointer none, .pointer (some ⟨T3, 0, none⟩), undef, u5, u6, .map (some H), .map (some P), u9, .pointer (some ⟨G, 0, none⟩), undef, undef, undef, undef, undef, undef, undef, undef], defers := [] }) ?after ?region
  case region =>
    go_region_held3 (fun w' => w'.cell? ⟨w.heap.size, 0, none⟩ = some (.pointer (some ⟨k.W, 0, none⟩)))
      (first | (simp [go_sem]; done) | (simp [go_sem, *]; done) | (repeat' (first | assumption | (refine (Keep.alloc (fun _ => True) _ _).cell ?_ trivial) | (rw [World.cell?_setCell_other _ _ _ _ (by simp; omega)]) | (simp [go_sem, *]; done))))
      (first | (go_at_call 51; refine Calls.mono (c51 k HM.out.ok _ (HM.out.on (by repeat' (first | exact Below.refl _ _ | (refine below_ov ?_ ?_) | (refine Below.alloc ?_ ?_ _) | (refine below_drewN' ?_ _) | (refine Below.drew ?_) | (refine below_set ?_ _ _ ?_) | (simp; done) | (simp; omega) | omega))).at_) ?_; rintro e w' ⟨H, rfl, hH, hb, hs⟩; obtain ⟨hc, hf⟩ := bcell hb; have hz := hb.size; simp at hc hf hz; (try have _z00 : w.heap.size < w'.heap.size := by omega); (try have _z01 : w.heap.size < w'.heap.size + 1 := by omega); (try have _z02 : w.heap.size < w'.heap.size + 1 + 1 := by omega); (try have _z03 : w.heap.size < w'.heap.size + 1 + 1 + 1 := by omega); (try have _z10 : w.heap.size + 1 < w'.heap.size := by omega); (try have _z11 : w.heap.size + 1 < w'.heap.size + 1 := by omega); (try have _z12 : w.heap.size + 1 < w'.heap.size + 1 + 1 := by omega); (try have _z13 : w.heap.size + 1 < w'.heap.size + 1 + 1 + 1 := by omega); (try have _z20 : w.heap.size + 1 + 1 < w'.heap.size := by omega); (try have _z21 : w.heap.size + 1 + 1 < w'.heap.size + 1 := by omega); (try have _z22 : w.heap.size + 1 + 1 < w'.heap.size + 1 + 1 := by omega); (try have _z23 : w.heap.size + 1 + 1 < w'.heap.size + 1 + 1 + 1 := by omega)))

    all_goals
      refine ⟨rfl, _, _, _, _, _, _, _, ?_, rfl⟩
    all_goals have hl := hH.lt
    all_goals simp at hs
    all_goals refine ⟨by (repeat' with_reducible first
          | exact Below.refl _ _
          | (refine Below.alloc ?_ (by first | (simp; done) | (simp; omega) | omega) _)
          | (refine Below.drew ?_)
          | (refine below_set ?_ _ _ (by first | (simp; done) | (simp; omega) | omega))
          | (refine Below.trans ?_ (hb.mono (by first | (simp; done) | (simp; omega) | omega)))), by (simp [go_sem, *]; done), by (simp [go_sem, *]; done), by (simp [go_sem, *]; done), by (simp [go_sem, *]; done), by (simp [go_sem, *]; done), by (repeat' with_reducible first
          | exact hH
          | (refine isMap.alloc ?_ _)
          | (refine isMap_drew ?_)
          | (refine isMap.setCell ?_ _ _ (by first | (simp; done) | (simp; omega) | omega))), by (repeat' with_reducible first
          | (refine isMap_new' _ _ (by first | (simp; done) | (simp; omega) | omega))
          | (refine isMap.alloc ?_ _)
          | (refine isMap_drew ?_)
          | (refine isMap.setCell ?_ _ _ (by first | (simp; done) | (simp; omega) | omega))
          | (refine isMap.below ?_ hb (by first | (simp; done) | (simp; omega) | omega))), by omega, by omega, by omega⟩
  case after =>
    rintro e a' w1 ⟨rfl, T3, G, H, P, u5, u6, u9, hpre, rfl⟩
    have hm1 := HM.out.on hpre.bel
    have HM1 := Lib.hid hm1
    have HP := Lib.hid hpre
    have t1 := hpre.t1
    have t3 := hpre.t3
    have c3 := hm1.at_.c3
    have l1 := lt_of_cell t1
    have l3 := lt_of_cell t3
    have lc := lt_of_cell c3
    have lG := lt_of_cell hpre.g0
    have lH := hpre.hm.lt
    have lP := hpre.pm.lt
    clear hm1 hpre
    go_wp2_with fail
    generalize hW2 : World.alloc w1 _ = W2
    have k2 : Keep (· < w1.heap.size) w1 W2 := by rw [← hW2]; exact Keep.alloc _ _ _
    have s2 : W2.heap.size = w1.heap.size + 1 := by rw [← hW2]; simp
    have x3 : W2.cell? ⟨w1.heap.size, 0, none⟩ = some (.func (.func 84) #[] #[.pointer (some ⟨w.heap.size, 0, none⟩), .pointer (some ⟨T3, 0, none⟩), .pointer (some ⟨w1.heap.size, 0, none⟩)]) := by rw [← hW2]; simp [go_sem]
    clear hW2
    have x1 := k2.cell t1 l1
    have x2 := k2.cell t3 l3
    have c3' := k2.cell c3 lc
    have S0 : SpAt b (held0 b) (spU b (held0 b) 0) k G H P (· < W2.heap.size) W2 := by
      have hb2 : Below w1.heap.size w1 W2 := k2.below fun j hj => ⟨hj, hj⟩
      have hm2 := HM1.out.on hb2
      refine ⟨v, hm2.kb, hm2.kn, hm2.kc, hm2.ok, hm2.at_, by omega, by omega, by omega, k2.cell HP.out.g0 lG, k2.cell HP.out.g1 lG, k2.cell HP.out.g2 lG, ?_, ⟨_, HP.out.pm.keep k2 lP, fun n => rfl⟩⟩
      have := HP.out.hm.keep k2 lH
      rw [HM1.out.held] at this
      exact this
    have HS0 := Lib.hid S0
    have hpm2 := HP.out.pm.keep k2 lP
    have hns : numsAt (fun x => x < W2.heap.size ∧ x ≠ P) W2 k.An k.nums := numsAt.ne S0.at_.ns hpm2
    have HNS := Lib.hid hns
    have hT3 : T3 ≠ P := cell_ne_map x2 hpm2
    have hMP : k.M ≠ P := by have h1 : k.M < w.heap.size := HM.out.at_.sM; have := HP.out.hP; omega
    have lc' := lt_of_cell c3'
    have z1 := lt_of_cell x1
    have z2 := lt_of_cell x2
    have z3 := lt_of_cell x3
    clear c3 t1 t3 S0 hns hpm2
    refine wp_region_drew_tail 5 (by kernel_rfl) (by kernel_rfl) ?_
    dsimp only [List.take, List.drop]
    repeat (go_big_quiet_step (fail))
    refine wpQuiet_nil ?_
    rintro w' ⟨nq, rfl⟩
    go_wp2_with fail
    have kd : Keep (fun x => x < W2.heap.size ∧ x ≠ P) W2 (W2.drewN nq) := Keep.of_below (below_drewN' (Below.refl W2.heap.size W2) nq) fun _ h _ => h.1
    refine Calls.mono (f := 84) (c84 b (held0 b) k G H P _ _ _ HP.out.hHP hMP k.nums.length 0 (by omega) k.An k.cn _ (HS0.out.on (below_drewN' (Below.refl _ _) nq)) x1 x2 x3 (HNS.out.keep kd) HM.out.ok.cap) ?_
    rintro e w5 ⟨rfl, hA5, hk5⟩
    have HA5 := Lib.hid hA5
    have HK5 := Lib.hid hk5
    have t3' := (kd.trans hk5).cell x2 ⟨by omega, hT3⟩
    clear hA5 hk5 x1 x2 x3 c3'
    go_wp2_with fail
    go_ret
    refine ⟨G, H, P, rfl, ?_, ?_⟩
    · have := HA5.out
      rw [spU_all b _ (by rw [HM.out.kn]; exact Nat.le_refl _)] at this
      exact this
    · have h1 := HP.out.bel
      have h2 : Keep (fun x => x < W2.heap.size ∧ x ≠ P) W2 w5 := kd.trans HK5.out
      have h3 := HP.out.hP
      have h4 := h1.size
      exact (h1.trans (k2.below fun j hj => ⟨by omega, by omega⟩)).trans (h2.below fun j hj => ⟨⟨by omega, by omega⟩, by omega⟩)
end Go.Proofs.Ytmcnpfjichbijaa


/- Contradictory books; the span of an item: walked. -/
set_option linter.unusedSimpArgs false
set_option linter.unusedVariables false
namespace Go.Proofs.Ytmcnpfjichbijaa
open Go Go.Proofs Go.RowKit Go.Shelf


/-- A certificate that holds has an empty span. -/
def badC (b : Bk) (n : Int) : Bool := held0 b n && decide ((spanBy b (held0 b) (spansOf b) (getC b n).item (getC b n).day 1000).hi < (spanBy b (held0 b) (spansOf b) (getC b n).item (getC b n).day 1000).lo)

theorem contra_any (b : Bk) : contra b = (numsOf b).any (badC b) := rfl

theorem spansOf_in {b : Bk} (v : Vb b) (hl : (numsOf b).length ≤ 24) (n : Int) : In (spansOf b n) 2199023255552 := by
  have := spU_in v (held0 b) (numsOf b).length (Nat.le_refl _) n
  rw [spU_all b _ (Nat.le_refl _)] at this
  unfold In at *
  omega

set_option maxRecDepth 100000 in
set_option maxHeartbeats 1000000 in
theorem c60 (b : Bk) (k : Wk) (G H P : Nat) (w : World) (A : SpAt b (held0 b) (spansOf b) k G H P (· < w.heap.size) w) :
    Calls Try.prog 60 #[.pointer (some ⟨G, 0, none⟩)] w fun e w' => e = .returned (.bool (contra b)) ∧ ∃ x, w' = over w x := by
  have HA := Lib.hid A
  have g0 := A.g0
  have c3 := A.at_.c3
  have lG := lt_of_cell g0
  have lW := lt_of_cell c3
  have hnl := A.ok.nl
  have hsp := spansOf_in A.v (by rw [← A.kn]; exact hnl)
  have HSP := Lib.hid hsp
  have hany : contra b = k.nums.any (badC b) := by rw [contra_any, A.kn]
  have HANY := Lib.hid hany
  clear A hsp hany
  go_enter Try.func60, Try.ntmps60
  go_wp2_with fail
  go_loopw [15] (fun t wr => ∃ i : Nat, i ≤ k.nums.length ∧ t = .int .i64 i ∧ (k.nums.take i).any (badC b) = false ∧ Below w.heap.size w wr) (fun t _ => k.nums.length - (intOf t).toNat)
  case atStart => exact ⟨0, Nat.zero_le _, rfl, by simp, Below.refl _ _⟩
  case round =>
    obtain ⟨i, hi, rfl, ht, hb⟩ := hrel
    have HT := Lib.hid ht
    have HB := Lib.hid hb
    have hA := HA.out.on hb
    have HA1 := Lib.hid hA
    have hsz := hb.size
    clear ht hb g0 c3
    by_cases hlt : i < k.nums.length
    · obtain ⟨q, hq⟩ : ∃ q, q = k.nums[i] := ⟨_, rfl⟩
      have hmem : q ∈ k.nums := by rw [hq]; exact List.getElem_mem hlt
      have htk := List.take_succ_eq_append_getElem hlt
      rw [← hq] at htk
      obtain ⟨Ab, Ao, eA, hSA, hns⟩ := hA.at_.ns (by omega)
      have hcell := hns i q (by simp [hlt, hq])
      have hix := fun c => @idx26 k.An Ab Ao k.nums.length c eA i hlt
      have hlk := run_lookup_map underlying96 underlying3 hA.at_.mp (zero90 wr) q false
      simp only [hmem, if_true, Option.getD_some, Bool.false_eq_true, if_false, crtV] at hlk
      have hmb : q ∈ numsOf b := by rw [← hA.kn]; exact hmem
      have hcq : k.cf q = getC b q := by rw [hA.kc]
      have hok := hA.v.ok hmb
      rw [← hcq] at hok
      have g0 := hA.g0
      have c2 := hA.at_.c2
      have l1 := lt_of_cell g0
      have l2 := lt_of_cell c2
      have l3 := lt_of_cell hcell
      have HT2 := Lib.hid htk
      have HM := Lib.hid hmem
      have HCQ := Lib.hid hcq
      have HOK := Lib.hid hok
      have hx := hA.ok.num q hmem
      have HX := Lib.hid hx
      clear hns eA hq htk hmem hcq hok hmb hA hx
      go_wp2_with fail
      generalize hW1 : World.alloc wr _ = W1
      have b1 : Below wr.heap.size wr W1 := by rw [← hW1]; repeat' (first | exact Below.refl _ _ | (refine below_ov ?_ ?_) | (refine Below.alloc ?_ ?_ _) | (refine below_drewN' ?_ _) | (refine Below.drew ?_) | (refine below_set ?_ _ _ ?_) | (simp; done) | (simp; omega) | omega)
      have s1 : W1.heap.size = wr.heap.size + 1 := by rw [← hW1]; simp
      have q0 : W1.cell? ⟨wr.heap.size, 0, none⟩ = some (.int .i64 (k.cf q).num) := by rw [← hW1]; simp [go_sem]
      have q1 : W1.cell? ⟨wr.heap.size, 1, none⟩ = some (.int .i64 (k.cf q).item) := by rw [← hW1]; simp [go_sem]
      have q2 : W1.cell? ⟨wr.heap.size, 2, none⟩ = some (.int .i64 (k.cf q).by_) := by rw [← hW1]; simp [go_sem]
      have q3 : W1.cell? ⟨wr.heap.size, 3, none⟩ = some (.int .i64 (k.cf q).day) := by rw [← hW1]; simp [go_sem]
      have q4 : W1.cell? ⟨wr.heap.size, 4, none⟩ = some (.int .i64 (k.cf q).valid) := by rw [← hW1]; simp [go_sem]
      have q5 : W1.cell? ⟨wr.heap.size, 5, none⟩ = some (.int .i64 (k.cf q).diff.lo) := by rw [← hW1]; simp [go_sem]
      have q6 : W1.cell? ⟨wr.heap.size, 6, none⟩ = some (.int .i64 (k.cf q).diff.hi) := by rw [← hW1]; simp [go_sem]
      clear hW1 g0 c2 hcell hlk hix
      have HA2 := Lib.hid (HA1.out.on b1)
      have HB1 := Lib.hid b1
      have lq : wr.heap.size < W1.heap.size := by omega
      clear s1
      have hc61 := c61 b (held0 b) (spansOf b) k G H P (k.cf q).item (k.cf q).day 1000 W1 HA2.out HOK.out.i1 HOK.out.i2 HOK.out.d1 HOK.out.d2 HSP.out
      have hbad : badC b q = (held0 b q && decide ((spanBy b (held0 b) (spansOf b) (k.cf q).item (k.cf q).day 1000).hi < (spanBy b (held0 b) (spansOf b) (k.cf q).item (k.cf q).day 1000).lo)) := by unfold badC; rw [HCQ.out]
      generalize spanBy b (held0 b) (spansOf b) (k.cf q).item (k.cf q).day 1000 = r at hc61 hbad
      simp only [rngV] at hc61
      have HC61 := Lib.hid hc61
      have HBAD := Lib.hid hbad
      clear hc61 hbad b1
      refine HC61.out.mono ?_
      rintro e w2 ⟨rfl, x, rfl⟩
      have lq2 : wr.heap.size < W1.heap.size + x.heap.size := by omega
      go_wp2_with fail
      generalize hW2 : World.alloc (over W1 x) _ = W2
      have kU : Keep (· < W1.heap.size) W1 W2 := by rw [← hW2]; exact (Keep.over _ _ _).trans (Keep.alloc _ _ _)
      have r0 : W2.cell? ⟨W1.heap.size + x.heap.size, 0, none⟩ = some (.int .i64 r.lo) := by rw [← hW2]; simp [go_sem]
      have r1 : W2.cell? ⟨W1.heap.size + x.heap.size, 1, none⟩ = some (.int .i64 r.hi) := by rw [← hW2]; simp [go_sem]
      clear hW2
      have b2 : Below W1.heap.size W1 W2 := kU.below fun j hj => ⟨hj, hj⟩
      have HA3 := Lib.hid (HA2.out.on b2)
      have HB2 := Lib.hid b2
      have lr := lt_of_cell r0
      have c85' := c85 G H k.nums (held0 b) (k.cf q) W2 HA3.out.g1 HA3.out.hm
      rw [show (decide ((k.cf q).num ∈ k.nums) && held0 b (k.cf q).num) = held0 b q from by rw [HX.out, decide_eq_true HM.out, Bool.true_and]] at c85'
      simp only [crtV] at c85'
      generalize held0 b q = hq at c85' HBAD
      have HC85 := Lib.hid c85'
      have hnx : badC b q = false → (k.nums.take (i + 1)).any (badC b) = false := fun h => by rw [HT2.out, List.any_append, HT.out]; simp [h]
      have hex : badC b q = true → contra b = true := fun h => by rw [HANY.out]; exact List.any_eq_true.2 ⟨q, HM.out, h⟩
      rw [HBAD.out] at hnx hex
      have HNX := Lib.hid hnx
      have HEX := Lib.hid hex
      have d0 := kU.cell q0 lq
      have d1 := kU.cell q1 lq
      have d2 := kU.cell q2 lq
      have d3 := kU.cell q3 lq
      have d4 := kU.cell q4 lq
      have d5 := kU.cell q5 lq
      have d6 := kU.cell q6 lq
      have ld := lt_of_cell d0
      have hbw : Below w.heap.size w W2 := (HB.out.trans (HB1.out.mono hsz)).trans (b2.mono (by omega))
      have HBW := Lib.hid hbw
      have hsw := hbw.size
      clear c85' hnx hex q0 q1 q2 q3 q4 q5 q6 kU b2 hbw
      cases hq
      · go_wp2_with (go_at_call 85; refine HC85.out.mono ?_; rintro e w' ⟨rfl, y, rfl⟩)
        go_roundw
        case rel => exact ⟨i + 1, by omega, by go_num, HNX.out rfl, below_ov HBW.out hsw⟩
        case measure => simp [intOf]; omega
      · cases hd : decide (r.hi < r.lo)
        · rw [hd] at HNX
          go_wp2_with (go_at_call 85; refine HC85.out.mono ?_; rintro e w' ⟨rfl, y, rfl⟩)
          go_roundw
          case rel => exact ⟨i + 1, by omega, by go_num, HNX.out rfl, below_ov HBW.out hsw⟩
          case measure => simp [intOf]; omega
        · rw [hd] at HEX
          go_wp2_with (go_at_call 85; refine HC85.out.mono ?_; rintro e w' ⟨rfl, y, rfl⟩)
          go_ret
          exact ⟨by rw [HEX.out rfl]; rfl, below_over (below_ov HBW.out hsw)⟩
    · go_wp2_with fail
      go_ret
      have := HT.out
      rw [List.take_of_length_le (by omega)] at this
      exact ⟨by rw [HANY.out, this]; rfl, below_over HB.out⟩

theorem ret45_2 {fn : Func} {p q : Tmp} {g : Nat} {lo hi : Int} {u : Value} {w : World} (h : fn.results = #[.cell p 45, .tmp q]) (tmps : Array Value) (hp : tmps.getD p undef = .pointer (some ⟨g, 0, none⟩)) (hq : tmps.getD q undef = u)
    (h0 : w.cell? ⟨g, 0, none⟩ = some (.int .i64 lo)) (h1 : w.cell? ⟨g, 1, none⟩ = some (.int .i64 hi)) :
    (results fn tmps).run Try.prog w = .ok (.tuple #[.agg #[.int .i64 lo, .int .i64 hi], u]) w := by
  have hp' : tmps[p]?.getD undef = .pointer (some ⟨g, 0, none⟩) := by simpa using hp
  have hq' : tmps[q]?.getD undef = u := by simpa using hq
  have hl : (loadVar 45 ⟨g, 0, none⟩).run Try.prog w = .ok (.agg #[.int .i64 lo, .int .i64 hi]) w := by
    simp [go_sem, h0, h1]
  simp [results, h, hp', hq', asAddr, hl]

/-- What asking for a span returns. -/
def spanRes (b : Bk) (item at_ : Int) : Rng := if spanErr b item at_ = 0 then spanAt b item at_ else ⟨0, 0⟩

theorem spanErr_ask {b : Bk} {i d : Int} (h : askErr b i d ≠ 0) : spanErr b i d = askErr b i d := by unfold spanErr; rw [if_pos h]
theorem spanErr_contra {b : Bk} {i d : Int} (h : askErr b i d = 0) (hc : contra b = true) : spanErr b i d = 9 := by unfold spanErr; rw [if_neg (by omega), if_pos hc]
theorem spanErr_ok {b : Bk} {i d : Int} (h : askErr b i d = 0) (hc : contra b = false) : spanErr b i d = 0 := by unfold spanErr; rw [if_neg (by omega), if_neg (by rw [hc]; simp)]
theorem spanRes_err {b : Bk} {i d : Int} (h : spanErr b i d ≠ 0) : spanRes b i d = ⟨0, 0⟩ := by unfold spanRes; rw [if_neg h]

set_option maxRecDepth 100000 in
set_option maxHeartbeats 1000000 in
theorem c27 (Ai Ac : Option Addr) (ci cc : Nat) (b : Bk) (item at_ : Int) (w : World) (hA : bookAt (· < w.heap.size) w Ai Ac b) (hl : b.items.length ≤ 1000) (hl2 : b.certs.length ≤ 1000) :
    Calls Try.prog 27 #[.agg #[.slice Ai b.items.length ci, .slice Ac b.certs.length cc], .int .i64 item, .int .i64 at_] w fun e w' =>
      e = .returned (.tuple #[rngV (spanRes b item at_), .int .i64 (spanErr b item at_)]) ∧ ∃ x, w' = over w x := by
  have hc : ∀ o1 o2, Calls Try.prog 58 #[.agg #[.slice Ai b.items.length ci, .slice Ac b.certs.length cc], .int .i64 item, .int .i64 at_] ((w.alloc o1).alloc o2) (AskTo b item at_ ((w.alloc o1).alloc o2)) := fun o1 o2 => by
    have k : Keep (· < w.heap.size) w ((w.alloc o1).alloc o2) := (Keep.alloc _ _ _).trans (Keep.alloc _ _ _)
    have hs : ((w.alloc o1).alloc o2).heap.size = w.heap.size + 1 + 1 := by simp
    exact c58 Ai Ac ci cc b item at_ _ ⟨(hA.1.keep k).mono fun j hj => by omega, (hA.2.keep k).mono fun j hj => by omega⟩ hl hl2
  have HC := Lib.hid hc
  clear hc hA
  go_enter Try.func27, Try.ntmps27
  go_wp2_with fail
  refine Calls.mono (f := 58) (HC.out _ _) ?_
  generalize hW1 : World.alloc (World.alloc w _) _ = W1
  have b1 : Below w.heap.size w W1 := by rw [← hW1]; repeat' (first | exact Below.refl _ _ | (refine below_ov ?_ ?_) | (refine Below.alloc ?_ ?_ _) | (refine below_drewN' ?_ _) | (refine Below.drew ?_) | (refine below_set ?_ _ _ ?_) | (simp; done) | (simp; omega) | omega)
  have s1 : W1.heap.size ≤ w.heap.size + 1 + 1 := by rw [← hW1]; simp
  have s2 : w.heap.size + 1 + 1 ≤ W1.heap.size := by rw [← hW1]; simp
  have r0 : RngAt W1 (w.heap.size + 1) ⟨0, 0⟩ := by rw [← hW1]; exact ⟨by simp [go_sem], by simp [go_sem], by simp [go_sem], by simp [go_sem]⟩
  have R0 := Lib.hid r0
  have B1 := Lib.hid b1
  have l1 : w.heap.size + 1 < W1.heap.size := by omega
  clear hW1 r0 b1
  rintro e w1 (⟨h0, rfl, x, rfl⟩ | ⟨h0, k, H, rfl, hm, hH, hs, hkH⟩)
  · have hne : ((askErr b item at_ : Int) != 0) = true := by simp [h0]
    have H0 := Lib.hid h0
    have r1 := R0.out.over (z := x)
    have t0 := r1.1
    have t1 := r1.2.1
    have f0 := r1.2.2.1
    have f1 := r1.2.2.2
    have R1 := Lib.hid r1
    have lx : w.heap.size + 1 < W1.heap.size + x.heap.size := by omega
    clear h0 r1
    go_wp2_with fail
    have he := spanErr_ask H0.out
    refine bodyPost_ret (ret45_2 (g := w.heap.size + 1) (u := .int .i64 (askErr b item at_)) (lo := 0) (hi := 0) rfl _ rfl rfl ?_ ?_) rfl ⟨by rw [he, spanRes_err (by rw [he]; exact H0.out)]; rfl, below_over ?_⟩
    · exact (R1.out.set 0 0).1
    · exact (R1.out.set 0 0).2.1
    · exact below_set (below_set (below_ov B1.out (by omega)) _ _ (by simp)) _ _ (by simp)
  · have hv : Vb b := (askErr_reach h0).1
    have hr := askErr_reach h0
    have HR := Lib.hid hr
    have H0 := Lib.hid h0
    have HM := Lib.hid hm
    have hb1 := hm.bel
    have HB1 := Lib.hid hb1
    have hs1 := hb1.size
    clear h0 hm hH hb1 hr
    go_wp2_with fail
    refine Calls.mono (f := 59) (c59 b k W1 w1 hv HM.out) ?_
    rintro e w2 ⟨G, H2, P, rfl, hS, hb2⟩
    have HS := Lib.hid hS
    have HB2 := Lib.hid hb2
    have hs2 := hb2.size
    clear hS hb2
    go_wp2_with fail
    refine (c60 b k G H2 P w2 HS.out).mono ?_
    rintro e w3 ⟨rfl, x, rfl⟩
    have kk : Keep (· < W1.heap.size) W1 (over w2 x) := ((Keep.of_below HB1.out fun _ h _ => h).trans (Keep.of_below HB2.out fun j h hl => by omega)).trans (Keep.over _ _ _)
    have r1 := R0.out.keep kk l1
    have hbw : Below w.heap.size w (over w2 x) := B1.out.trans (kk.below fun j hj => ⟨by omega, by omega⟩)
    have HBW := Lib.hid hbw
    have HK := Lib.hid kk
    have R1 := Lib.hid r1
    have lx : w.heap.size + 1 < w2.heap.size + x.heap.size := by omega
    clear kk hbw
    have t0 := r1.1
    have t1 := r1.2.1
    have f0 := r1.2.2.1
    have f1 := r1.2.2.2
    clear r1
    cases hcn : contra b
    · have HCN := Lib.hid hcn
      have hc61 := c61 b (held0 b) (spansOf b) k G H2 P item at_ 1000 (over w2 x) (HS.out.on (over_below _ _)) HR.out.2.1 HR.out.2.2.1 HR.out.2.2.2.1 HR.out.2.2.2.2.1 (spansOf_in hv (by rw [← HM.out.kn]; exact HM.out.ok.nl))
      have hval : spanRes b item at_ = spanBy b (held0 b) (spansOf b) item at_ 1000 := by unfold spanRes; rw [if_pos (spanErr_ok H0.out HCN.out)]; rfl
      generalize spanBy b (held0 b) (spansOf b) item at_ 1000 = r at hc61 hval
      simp only [rngV] at hc61
      have HC61 := Lib.hid hc61
      have HVAL := Lib.hid hval
      clear hc61 hval
      generalize over w2 x = w3 at *
      go_wp2_with fail
      refine HC61.out.mono ?_
      rintro e w4 ⟨rfl, y, rfl⟩
      have r2 := R1.out.over (z := y)
      have t2 := r2.1
      have t3 := r2.2.1
      have f2 := r2.2.2.1
      have f3 := r2.2.2.2
      have R2 := Lib.hid r2
      have ly := lt_of_cell r2.1
      have hsw := HBW.out.size
      have l3 := lt_of_cell R1.out.1
      clear r2
      go_wp2_with fail
      refine bodyPost_ret (ret45_2 (g := w.heap.size + 1) (u := .int .i64 0) (lo := r.lo) (hi := r.hi) rfl _ rfl rfl ?_ ?_) rfl ⟨by rw [HVAL.out, spanErr_ok H0.out HCN.out]; rfl, below_over ?_⟩
      · exact (R2.out.set r.lo r.hi).1
      · exact (R2.out.set r.lo r.hi).2.1
      · exact below_set (below_set (below_ov HBW.out hsw) _ _ (by simp)) _ _ (by simp)
    · have HCN := Lib.hid hcn
      generalize over w2 x = w3 at *
      have l3 := lt_of_cell R1.out.1
      go_wp2_with fail
      have he := spanErr_contra H0.out HCN.out
      refine bodyPost_ret (ret45_2 (g := w.heap.size + 1) (u := .int .i64 9) (lo := 0) (hi := 0) rfl _ rfl rfl ?_ ?_) rfl ⟨by rw [spanRes_err (by rw [he]; decide), he]; rfl, below_over ?_⟩
      · exact (R1.out.set 0 0).1
      · exact (R1.out.set 0 0).2.1
      · exact below_set (below_set HBW.out _ _ (by simp)) _ _ (by simp)
end Go.Proofs.Ytmcnpfjichbijaa

