/- The chain's small functions; the iterator over an item's certificates. -/
import Derived.Test.YtmcnpfjichbijaaProg
import Derived.Test.YtmcnpfjichbijaaOver
import Derived.Test.YtmcnpfjichbijaaT1
import Derived.Lib.Hide
import Derived.Shelf.Abstract

set_option linter.unusedSimpArgs false
set_option linter.unusedVariables false
namespace Go.Proofs.Ytmcnpfjichbijaa
open Go Go.Proofs Go.RowKit

theorem c99 (n lo hi : Int) (w : World) :
    Calls Try.prog 99 #[.int .i64 n, .int .i64 lo, .int .i64 hi] w fun e w' => e = .returned (.bool (inB n lo hi)) ∧ w' = w := by
  go_enter Try.func99, Try.ntmps99
  go_wp2
  all_goals (go_ret; exact ⟨by simp [inB, *]; try omega, rfl⟩)

theorem c75 (n i b d v l h day : Int) (w : World) (h1 : 0 ≤ d) (h2 : d ≤ 1000) (h3 : 0 ≤ v) (h4 : v ≤ 1000) :
    Calls Try.prog 75 #[.agg #[.int .i64 n, .int .i64 i, .int .i64 b, .int .i64 d, .int .i64 v, .int .i64 l, .int .i64 h], .int .i64 day] w
      fun e w' => e = .returned (.bool (inB day d (d + v))) ∧ ∃ x, w' = over w x := by
  go_enter Try.func75, Try.ntmps75
  go_wp2_with fail
  refine (c99 _ _ _ _).mono ?_
  rintro e w' ⟨rfl, rfl⟩
  go_wp2_with fail
  go_ret
  exact ⟨rfl, below_over ((Below.refl _ _).alloc (Nat.le_refl _) _)⟩

/-- The value of a certificate. -/
def crtV (c : Crt) : Value := .agg #[.int .i64 c.num, .int .i64 c.item, .int .i64 c.by_, .int .i64 c.day, .int .i64 c.valid, .int .i64 c.diff.lo, .int .i64 c.diff.hi]

theorem underlying96 : Try.prog.underlying 96 = some (.map 3 90) := by kernel_rfl
theorem underlying3 : Try.prog.underlying 3 = some (.int .i64) := by kernel_rfl
theorem zero90 (w : World) : (zeroValue 90).run Try.prog w = .ok (crtV ⟨0, 0, 0, 0, 0, ⟨0, 0⟩⟩) w := by kernel_rfl

/-- An element's address, where the slice's own is known behind a name. -/
theorem run_indexAt_known {P : Program} {t : TypeId} {size : Nat} (h : P.underlying t = some (.slice (P.elem t))) (hs : ∀ W, (sizeOf (P.elem t)).run P W = .ok size W)
    {A : Option Addr} {b o n c : Nat} (hA : A = some ⟨b, o, none⟩) {i : Nat} (hi : i < n) (W : World) :
    (Instr.indexAt t (.slice A n c) (.int .i64 i)).run P W = .ok (.pointer (some ⟨b, o + i * size, none⟩)) W := by
  subst hA
  rw [run_indexAt_slice _ _ _ _ _ _ _ h, if_pos ⟨by omega, by omega⟩]
  simp [hs, Result.andThen, Addr.add_lit]

theorem size26 (W : World) : (sizeOf (Try.prog.elem 26)).run Try.prog W = .ok 1 W := by kernel_rfl
theorem size32 (W : World) : (sizeOf (Try.prog.elem 32)).run Try.prog W = .ok 4 W := by kernel_rfl
theorem size33 (W : World) : (sizeOf (Try.prog.elem 33)).run Try.prog W = .ok 7 W := by kernel_rfl
theorem size22 (W : World) : (sizeOf (Try.prog.elem 22)).run Try.prog W = .ok 4 W := by kernel_rfl
theorem size23 (W : World) : (sizeOf (Try.prog.elem 23)).run Try.prog W = .ok 7 W := by kernel_rfl
theorem und26 : Try.prog.underlying 26 = some (.slice (Try.prog.elem 26)) := by kernel_rfl
theorem und32 : Try.prog.underlying 32 = some (.slice (Try.prog.elem 32)) := by kernel_rfl
theorem und33 : Try.prog.underlying 33 = some (.slice (Try.prog.elem 33)) := by kernel_rfl
theorem und22 : Try.prog.underlying 22 = some (.slice (Try.prog.elem 22)) := by kernel_rfl
theorem und23 : Try.prog.underlying 23 = some (.slice (Try.prog.elem 23)) := by kernel_rfl

theorem idx26 {A : Option Addr} {b o n c : Nat} (hA : A = some ⟨b, o, none⟩) {i : Nat} (hi : i < n) (W : World) :
    (Instr.indexAt 26 (.slice A n c) (.int .i64 i)).run Try.prog W = .ok (.pointer (some ⟨b, o + i, none⟩)) W := by
  have := run_indexAt_known und26 size26 (c := c) hA hi W
  rwa [Nat.mul_one] at this
theorem idx32 {A : Option Addr} {b o n c : Nat} (hA : A = some ⟨b, o, none⟩) {i : Nat} (hi : i < n) (W : World) :
    (Instr.indexAt 32 (.slice A n c) (.int .i64 i)).run Try.prog W = .ok (.pointer (some ⟨b, o + i * 4, none⟩)) W := run_indexAt_known und32 size32 hA hi W
theorem idx33 {A : Option Addr} {b o n c : Nat} (hA : A = some ⟨b, o, none⟩) {i : Nat} (hi : i < n) (W : World) :
    (Instr.indexAt 33 (.slice A n c) (.int .i64 i)).run Try.prog W = .ok (.pointer (some ⟨b, o + i * 7, none⟩)) W := run_indexAt_known und33 size33 hA hi W
theorem idx22 {A : Option Addr} {b o n c : Nat} (hA : A = some ⟨b, o, none⟩) {i : Nat} (hi : i < n) (W : World) :
    (Instr.indexAt 22 (.slice A n c) (.int .i64 i)).run Try.prog W = .ok (.pointer (some ⟨b, o + i * 4, none⟩)) W := run_indexAt_known und22 size22 hA hi W
theorem idx23 {A : Option Addr} {b o n c : Nat} (hA : A = some ⟨b, o, none⟩) {i : Nat} (hi : i < n) (W : World) :
    (Instr.indexAt 23 (.slice A n c) (.int .i64 i)).run Try.prog W = .ok (.pointer (some ⟨b, o + i * 7, none⟩)) W := run_indexAt_known und23 size23 hA hi W

/-- A book that is worked on, where it lies: the struct's block, its map's, the slices that it holds. -/
structure Wk where
  W : Nat
  M : Nat
  cn : Nat
  ci : Nat
  cc : Nat
  An : Option Addr
  Ai : Option Addr
  Ac : Option Addr
  b : Bk
  nums : List Int
  cf : Int → Crt
  bad : Int → Bool

/-- The numbers lie in a slice. -/
def numsAt (S : Nat → Prop) (w : World) (A : Option Addr) (l : List Int) : Prop :=
  0 < l.length → ∃ b o, A = some ⟨b, o, none⟩ ∧ S b ∧ ∀ i n, l[i]? = some n → w.cell? ⟨b, o + i, none⟩ = some (.int .i64 n)

theorem numsAt.keep {S : Nat → Prop} {w w' : World} {A : Option Addr} {l : List Int} (h : numsAt S w A l) (k : Keep S w w') : numsAt S w' A l := fun hl => by
  obtain ⟨b, o, e, hS, hc⟩ := h hl
  exact ⟨b, o, e, hS, fun i n hn => k.cell (hc i n hn) hS⟩

/-- The items lie in a slice. -/
def itemsAt (S : Nat → Prop) (w : World) (A : Option Addr) (l : List Itm) : Prop :=
  0 < l.length → ∃ b o, A = some ⟨b, o, none⟩ ∧ S b ∧ ∀ i x, l[i]? = some x →
    w.cell? ⟨b, o + i * 4, none⟩ = some (.int .i64 x.drift) ∧ w.cell? ⟨b, o + i * 4 + 1, none⟩ = some (.bool x.std) ∧ w.cell? ⟨b, o + i * 4 + 2, none⟩ = some (.int .i64 x.val.lo) ∧ w.cell? ⟨b, o + i * 4 + 3, none⟩ = some (.int .i64 x.val.hi)

theorem itemsAt.keep {S : Nat → Prop} {w w' : World} {A : Option Addr} {l : List Itm} (h : itemsAt S w A l) (k : Keep S w w') : itemsAt S w' A l := fun hl => by
  obtain ⟨b, o, e, hS, hc⟩ := h hl
  exact ⟨b, o, e, hS, fun i x hx => by obtain ⟨h1, h2, h3, h4⟩ := hc i x hx; exact ⟨k.cell h1 hS, k.cell h2 hS, k.cell h3 hS, k.cell h4 hS⟩⟩

/-- The certificates lie in a slice. -/
def certsAt (S : Nat → Prop) (w : World) (A : Option Addr) (l : List Crt) : Prop :=
  0 < l.length → ∃ b o, A = some ⟨b, o, none⟩ ∧ S b ∧ ∀ i x, l[i]? = some x →
    w.cell? ⟨b, o + i * 7, none⟩ = some (.int .i64 x.num) ∧ w.cell? ⟨b, o + i * 7 + 1, none⟩ = some (.int .i64 x.item) ∧ w.cell? ⟨b, o + i * 7 + 2, none⟩ = some (.int .i64 x.by_) ∧ w.cell? ⟨b, o + i * 7 + 3, none⟩ = some (.int .i64 x.day) ∧
      w.cell? ⟨b, o + i * 7 + 4, none⟩ = some (.int .i64 x.valid) ∧ w.cell? ⟨b, o + i * 7 + 5, none⟩ = some (.int .i64 x.diff.lo) ∧ w.cell? ⟨b, o + i * 7 + 6, none⟩ = some (.int .i64 x.diff.hi)

theorem certsAt.keep {S : Nat → Prop} {w w' : World} {A : Option Addr} {l : List Crt} (h : certsAt S w A l) (k : Keep S w w') : certsAt S w' A l := fun hl => by
  obtain ⟨b, o, e, hS, hc⟩ := h hl
  exact ⟨b, o, e, hS, fun i x hx => by obtain ⟨h1, h2, h3, h4, h5, h6, h7⟩ := hc i x hx; exact ⟨k.cell h1 hS, k.cell h2 hS, k.cell h3 hS, k.cell h4 hS, k.cell h5 hS, k.cell h6 hS, k.cell h7 hS⟩⟩

/-- It lies there. -/
structure Wk.At (k : Wk) (S : Nat → Prop) (w : World) : Prop where
  sW : S k.W
  sM : S k.M
  c0 : w.cell? ⟨k.W, 0, none⟩ = some (.slice k.Ai k.b.items.length k.ci)
  c1 : w.cell? ⟨k.W, 1, none⟩ = some (.slice k.Ac k.b.certs.length k.cc)
  c2 : w.cell? ⟨k.W, 2, none⟩ = some (.map (some k.M))
  c3 : w.cell? ⟨k.W, 3, none⟩ = some (.slice k.An k.nums.length k.cn)
  bad : ∀ n : Nat, n ≤ 999 → w.cell? ⟨k.W, 4 + n, none⟩ = some (.bool (k.bad n))
  items : itemsAt S w k.Ai k.b.items
  certs : certsAt S w k.Ac k.b.certs
  ns : numsAt S w k.An k.nums
  mp : isMap w k.M fun n => if n ∈ k.nums then some (crtV (k.cf n)) else none

theorem Wk.At.keep {k : Wk} {S : Nat → Prop} {w w' : World} (h : k.At S w) (kp : Keep S w w') : k.At S w' :=
  ⟨h.sW, h.sM, kp.cell h.c0 h.sW, kp.cell h.c1 h.sW, kp.cell h.c2 h.sW, kp.cell h.c3 h.sW, fun n hn => kp.cell (h.bad n hn) h.sW, h.items.keep kp, h.certs.keep kp, h.ns.keep kp, h.mp.keep kp h.sM⟩

theorem numsAt.mono {S T : Nat → Prop} {w : World} {A : Option Addr} {l : List Int} (h : numsAt S w A l) (hT : ∀ j, S j → T j) : numsAt T w A l := fun hl => by
  obtain ⟨b, o, e, hS, hc⟩ := h hl
  exact ⟨b, o, e, hT _ hS, hc⟩
theorem itemsAt.mono {S T : Nat → Prop} {w : World} {A : Option Addr} {l : List Itm} (h : itemsAt S w A l) (hT : ∀ j, S j → T j) : itemsAt T w A l := fun hl => by
  obtain ⟨b, o, e, hS, hc⟩ := h hl
  exact ⟨b, o, e, hT _ hS, hc⟩
theorem certsAt.mono {S T : Nat → Prop} {w : World} {A : Option Addr} {l : List Crt} (h : certsAt S w A l) (hT : ∀ j, S j → T j) : certsAt T w A l := fun hl => by
  obtain ⟨b, o, e, hS, hc⟩ := h hl
  exact ⟨b, o, e, hT _ hS, hc⟩
theorem Wk.At.mono {k : Wk} {S T : Nat → Prop} {w : World} (h : k.At S w) (hT : ∀ j, S j → T j) : k.At T w :=
  ⟨hT _ h.sW, hT _ h.sM, h.c0, h.c1, h.c2, h.c3, h.bad, h.items.mono hT, h.certs.mono hT, h.ns.mono hT, h.mp⟩

/-- What is so of it: the numbers rise, each certificate is as described. -/
structure Wk.Ok (k : Wk) : Prop where
  nl : k.nums.length ≤ 24
  il : k.b.items.length ≤ 8
  cl : k.b.certs.length ≤ 24
  num : ∀ n ∈ k.nums, (k.cf n).num = n
  rng : ∀ n ∈ k.nums, 1 ≤ n ∧ n ≤ 999
  day : ∀ n ∈ k.nums, 0 ≤ (k.cf n).day ∧ (k.cf n).day ≤ 1000 ∧ 0 ≤ (k.cf n).valid ∧ (k.cf n).valid ≤ 1000
  by_ : ∀ n ∈ k.nums, 0 ≤ (k.cf n).by_ ∧ (k.cf n).by_ < k.b.items.length
  item : ∀ n ∈ k.nums, 0 ≤ (k.cf n).item ∧ (k.cf n).item < k.b.items.length
  cap : k.nums.length ≤ k.cn

/-- What the iterator reads beside it: four boxes. -/
structure OfReads (k : Wk) (S : Nat → Prop) (w : World) (Bw Bb Bi Bd : Nat) (item day below : Int) : Prop where
  at_ : k.At S w
  s1 : S Bw
  s2 : S Bb
  s3 : S Bi
  s4 : S Bd
  bw : w.cell? ⟨Bw, 0, none⟩ = some (.pointer (some ⟨k.W, 0, none⟩))
  bb : w.cell? ⟨Bb, 0, none⟩ = some (.int .i64 below)
  bi : w.cell? ⟨Bi, 0, none⟩ = some (.int .i64 item)
  bd : w.cell? ⟨Bd, 0, none⟩ = some (.int .i64 day)

theorem OfReads.keep {k : Wk} {S : Nat → Prop} {w w' : World} {Bw Bb Bi Bd : Nat} {item day below : Int}
    (h : OfReads k S w Bw Bb Bi Bd item day below) (kp : Keep S w w') : OfReads k S w' Bw Bb Bi Bd item day below :=
  ⟨h.at_.keep kp, h.s1, h.s2, h.s3, h.s4, kp.cell h.bw h.s1, kp.cell h.bb h.s2, kp.cell h.bi h.s3, kp.cell h.bd h.s4⟩

attribute [local go_sem] Oper.semAt_some

set_option maxRecDepth 100000 in
set_option maxHeartbeats 1000000 in
theorem c90 (n : Nat) (l : Nat) (S : Nat → Prop) (k : Wk) (hk : k.Ok) (Bw Bb Bi Bd : Nat) (item day below : Int)
    (J Jx : List {n : Int // n ∈ ofN k.cf k.nums item day below} → World → Prop) (w : World) (hJ : AbidesFrom w.heap.size J)
    (hY : ∀ pre x W1, J pre W1 → pre.length < k.nums.length → YieldAt Fence.wide (n - 1) Try.prog l #[crtV (k.cf x.1)] W1 fun e W' =>
      (e = .returned (.bool true) ∧ J (pre ++ [x]) W' ∧ Keep S W1 W') ∨ (e = .returned (.bool false) ∧ Jx (pre ++ [x]) W'))
    (hR : OfReads k S w Bw Bb Bi Bd item day below) (h0 : J [] w) :
    CallsIn Fence.wide n Try.prog 90 #[.func (.yield l) #[] #[], .pointer (some ⟨Bw, 0, none⟩), .pointer (some ⟨Bb, 0, none⟩), .pointer (some ⟨Bi, 0, none⟩), .pointer (some ⟨Bd, 0, none⟩)] w
      fun e W' => (∃ v, e = .returned v) ∧ ((∃ xs, xs.map (·.1) = ofN k.cf k.nums item day below ∧ J xs W') ∨ ∃ pre, Jx pre W') := by
  refine callsIn_of_wp Try.func90 rfl trivial ?_ rfl
  simp only [Try.ntmps90, List.size_toArray, List.length_cons, List.length_nil, Nat.reduceAdd, Nat.reduceSub, Array.replicate_succ, Array.replicate_zero, List.push_toArray, List.append_toArray, List.nil_append, List.cons_append]
  have hbw := hR.bw
  have hwn := hR.at_.c3
  have hl2 := hk.nl
  gi_wp2_with fail
  gi_loopw [14] (fun t wr => ∃ (i : Nat) (pre : List {n : Int // n ∈ ofN k.cf k.nums item day below}), i ≤ k.nums.length ∧ t = .int .i64 i ∧ pre.map (·.1) = ofN k.cf (k.nums.take i) item day below ∧ J pre wr ∧ Keep S w wr)
    (fun t _ => k.nums.length - (intOf t).toNat)
  case atStart => exact ⟨0, [], Nat.zero_le _, rfl, rfl, h0, Keep.refl _ _⟩
  case round =>
    obtain ⟨i, pre, hi, rfl, hpre, hJp, hkeep⟩ := hrel
    have HP := Lib.hid hpre
    clear hpre
    by_cases hlt : i < k.nums.length
    · have hR' := hR.keep hkeep
      have hmem : k.nums[i] ∈ k.nums := List.getElem_mem hlt
      have htk := List.take_succ_eq_append_getElem hlt
      obtain ⟨q, hq⟩ : ∃ q, q = k.nums[i] := ⟨_, rfl⟩
      rw [← hq] at hmem htk
      obtain ⟨An, Ao, eA, hSA, hns⟩ := hR'.at_.ns (by omega)
      have hcell := hns i q (by simp [hlt, hq])
      have hix := fun c => @idx26 k.An An Ao k.nums.length c eA i hlt
      clear eA hns
      clear hq
      have HT := Lib.hid htk
      clear htk
      have hbw' := hR'.bw
      have hbb' := hR'.bb
      have hbi' := hR'.bi
      have hbd' := hR'.bd
      have hwc' := hR'.at_.c2
      have l5 := lt_of_cell hwc'
      have l1 := lt_of_cell hbw'
      have l2 := lt_of_cell hbb'
      have l3 := lt_of_cell hbi'
      have l4 := lt_of_cell hbd'
      obtain ⟨hd0, hd1, hv0, hv1⟩ := hk.day q hmem
      have hlk := run_lookup_map underlying96 underlying3 hR'.at_.mp (zero90 wr) q false
      simp only [hmem, if_true, Option.getD_some, Bool.false_eq_true, if_false, crtV] at hlk
      have HM := Lib.hid hmem
      clear hmem
      have hka : ∀ o, Keep S wr (wr.alloc o) := fun o => Keep.alloc S wr o
      have hno : (decide (q < below) && (k.cf q).item == item && onB (k.cf q) day) = false → List.map (·.1) pre = ofN k.cf (k.nums.take (i + 1)) item day below := fun hf => by
        rw [HT.out, HP.out]; simp [ofN, hf]
      have hJa : ∀ W', wr.grownBy W' none → J pre W' := fun W' hg => hJ pre wr W' none hJp hg (fun r e => by cases e)
      by_cases h1 : q < below
      · cases h2 : ((k.cf q).item == item)
        · gi_wp2
          go_roundw
          case rel => exact ⟨i + 1, pre, by omega, by go_num, hno (by simp [h2]), hJa _ (World.grownBy_alloc _ _ _), hkeep.trans (hka _)⟩
          case measure => simp [intOf]; omega
        · gi_wp2_with fail
          refine (callsIn_wide.2 (c75 _ _ _ _ _ _ _ _ _ hd0 hd1 hv0 hv1)).mono ?_
          rintro e w1 ⟨rfl, x, rfl⟩
          cases h3 : inB day (k.cf q).day ((k.cf q).day + (k.cf q).valid)
          · gi_wp2
            go_roundw
            case rel => exact ⟨i + 1, pre, by omega, by go_num, hno (by simp [onB, h3]), hJa _ ((World.grownBy_alloc _ _ _).trans (over_grown _ _)), hkeep.trans ((hka _).trans (Keep.over _ _ _))⟩
            case measure => simp [intOf]; omega
          · have hin : (decide (q < below) && (k.cf q).item == item && onB (k.cf q) day) = true := by simp [h1, h2, onB, h3]
            have hJ1 : J pre (over (wr.alloc (.cells #[.int .i64 (k.cf q).num, .int .i64 (k.cf q).item, .int .i64 (k.cf q).by_, .int .i64 (k.cf q).day, .int .i64 (k.cf q).valid, .int .i64 (k.cf q).diff.lo, .int .i64 (k.cf q).diff.hi] 90)) x) :=
              hJa _ ((World.grownBy_alloc _ _ _).trans (over_grown _ _))
            have hpl : pre.length < k.nums.length := by
              have e1 := congrArg List.length HP.out
              have e2 : (ofN k.cf (k.nums.take i) item day below).length ≤ (k.nums.take i).length := List.length_filter_le _ _
              simp at e1 e2; omega
            obtain ⟨fn, tmps, assign, body, hy, hYr⟩ := hY pre ⟨q, by simp only [ofN, List.mem_filter]; exact ⟨HM.out, hin⟩⟩ _ hJ1 hpl
            simp only [crtV] at hy
            gi_wp2
            refine hYr.mono ?_
            rintro e W3 (⟨rfl, hJ3, hk3⟩ | ⟨rfl, hf⟩)
            · gi_wp2
              go_roundw
              case rel => exact ⟨i + 1, pre ++ [⟨q, _⟩], by omega, by go_num, by rw [List.map_append, HP.out, HT.out]; simp [ofN, hin], hJ3, hkeep.trans ((hka _).trans ((Keep.over _ _ _).trans hk3))⟩
              case measure => simp [intOf]; omega
            · gi_wp2
              refine bodyPost_ret (results_none rfl _ _ _) rfl ?_
              exact ⟨⟨_, rfl⟩, .inr ⟨_, hf⟩⟩
      · gi_wp2
        go_roundw
        case rel => exact ⟨i + 1, pre, by omega, by go_num, hno (by simp [h1]), hJa _ (World.grownBy_alloc _ _ _), hkeep.trans (hka _)⟩
        case measure => simp [intOf]; omega
    · have HH := HP.out
      rw [List.take_of_length_le (by omega)] at HH
      have HX := Lib.hid HH
      clear HH
      gi_wp2
      go_end0
      exact ⟨⟨_, rfl⟩, .inl ⟨pre, HX.out, hJp⟩⟩
end Go.Proofs.Ytmcnpfjichbijaa

/- A range over an item's certificates: what the caller owes. -/
set_option linter.unusedSimpArgs false
set_option linter.unusedVariables false
namespace Go.Proofs.Ytmcnpfjichbijaa
open Go Go.Proofs Go.RowKit Go.Shelf

/-- The cells of a certificate. -/
def crtCs (c : Crt) : Array Value := #[.int .i64 c.num, .int .i64 c.item, .int .i64 c.by_, .int .i64 c.day, .int .i64 c.valid, .int .i64 c.diff.lo, .int .i64 c.diff.hi]

/-- The numbers themselves. -/
def ids {p : Int → Prop} (l : List {n : Int // p n}) : List Int := l.map (·.1)

theorem ids_snoc {p : Int → Prop} (l : List {n : Int // p n}) (x : {n : Int // p n}) : ids (l ++ [x]) = ids l ++ [x.1] := by simp [ids]

/-- of: four boxes, and the function value. -/
theorem c66 (W : Option Addr) (item day below : Int) (w : World) :
    Calls Try.prog 66 #[.pointer W, .int .i64 item, .int .i64 day, .int .i64 below] w fun e w' =>
      e = .returned (.func (.func 90) #[] #[.pointer (some ⟨w.heap.size, 0, none⟩), .pointer (some ⟨w.heap.size + 3, 0, none⟩), .pointer (some ⟨w.heap.size + 1, 0, none⟩), .pointer (some ⟨w.heap.size + 2, 0, none⟩)]) ∧
      w' = (((w.alloc (.cells #[.pointer W] 91)).alloc (.cells #[.int .i64 item] 3)).alloc (.cells #[.int .i64 day] 3)).alloc (.cells #[.int .i64 below] 3) := by
  go_enter Try.func66, Try.ntmps66
  go_wp2
  go_ret
  exact ⟨rfl, rfl⟩

theorem keep_own {S : Nat → Prop} {B : Nat} {β : Type} (hS : ∀ k, S k → k < B) {w0 : World} : OwnFrom B (fun (_ : β) W => Keep S w0 W) := fun _ X Y row hs hg hr =>
  hs.trans (Keep.grown hg fun r e hSr => by have := (hr r e).1; have := hS r hSr; omega)

theorem ofLoop {g : Operand} {p : Tmp} {assign body : Code} {Q : Exit → Act → World → Prop} {a : Act} {w0 : World} (k : Wk) (hk : k.Ok) (B : Nat) {Bw Bb Bi Bd : Nat} {item day below : Int}
    (hR : OfReads k (but w0.heap.size B) w0 Bw Bb Bi Bd item day below)
    (hg : a.eval g = .func (.func 90) #[] #[.pointer (some ⟨Bw, 0, none⟩), .pointer (some ⟨Bb, 0, none⟩), .pointer (some ⟨Bi, 0, none⟩), .pointer (some ⟨Bd, 0, none⟩)])
    (Inv : List {n : Int // n ∈ ofN k.cf k.nums item day below} → World → Prop) (hInv : OwnFrom w0.heap.size Inv) (h0 : Inv [] w0) (s : Tmp)
    (hassign : ∀ (l : Nat) (c : Crt) (W : World) (K : Act → World → Prop), K { tmps := (a.tmps.setIfInBounds p (crtV c)).setIfInBounds s (.pointer (some ⟨W.heap.size, 0, none⟩)), defers := [] } (W.alloc (.cells (crtCs c) 90)) →
      assign.wpIn (Fence.wide.inRound l) 8 Try.prog (Exit.then K (fun _ _ _ => False)) { tmps := a.tmps.setIfInBounds p (crtV c), defers := [] } W)
    (hbody : ∀ (l : Nat) pre (x : {n : Int // n ∈ ofN k.cf k.nums item day below}) (Bx : Nat) (W : World), k.At (but w0.heap.size B) W → Inv pre W → w0.heap.size ≤ Bx → W.heap[Bx]? = some (.cells (crtCs (k.cf x.1)) 90) → Keep (but w0.heap.size B) w0 W →
      body.wpIn (Fence.wide.inRound l) 8 Try.prog (fun e _ W' => e = .normal ∧ KeepsFrom w0.heap.size W W' ∧ Keep (but w0.heap.size B) W W' ∧ Inv (pre ++ [x]) W') { tmps := (a.tmps.setIfInBounds p (crtV (k.cf x.1))).setIfInBounds s (.pointer (some ⟨Bx, 0, none⟩)), defers := [] } W)
    (hdone : ∀ (D : Nat) xs (W : World), w0.heap.size ≤ D → ids xs = ofN k.cf k.nums item day below → Inv xs W → Keep (but w0.heap.size B) w0 W → W.heap[D]? = some (.deferred (some [])) →
      Q .normal { a with defers := { target := .collected D, args := #[] } :: a.defers } W) :
    (Code.rangeFunc g #[p] assign body).wp Try.prog Q a w0 := by
  refine (wpIn_wide (n := 10)).1 ?_
  have hbut : ∀ k, but w0.heap.size B k → k < w0.heap.size := fun k h => h.1
  have hseq : SeqStopsK Fence.wide (10 - 1) Try.prog 90 #[.pointer (some ⟨Bw, 0, none⟩), .pointer (some ⟨Bb, 0, none⟩), .pointer (some ⟨Bi, 0, none⟩), .pointer (some ⟨Bd, 0, none⟩)]
      (fun x : {n : Int // n ∈ ofN k.cf k.nums item day below} => #[crtV (k.cf x.1)]) (Keep (but w0.heap.size B)) (fun xs => xs.map (·.1) = ofN k.cf k.nums item day below) (fun _ => True) k.nums.length w0 := by
    intro l J Jx W hW hJ hJx hY hJ0
    refine (c90 (10 - 1) l (but w0.heap.size B) k hk Bw Bb Bi Bd item day below J Jx W hJ hY (hR.keep (Keep.of_below hW fun i h _ => h.1)) hJ0).mono ?_
    rintro e W' ⟨hv, h | ⟨pre, h⟩⟩
    · exact ⟨hv, .inl h⟩
    · exact ⟨hv, .inr ⟨pre, trivial, h⟩⟩
  refine wpIn_rangeFunc_ownH (F := Fence.wide) rfl (by omega) hg trivial (enters_of Try.func90 (by kernel_rfl) rfl) hseq butK_t (butK_b (Nat.le_refl _)) (Below.refl _ _) (fun _ => rfl)
    (fun pre W => Inv pre W ∧ Keep (but w0.heap.size B) w0 W) (fun _ _ _ => False) (OwnFrom.and hInv (keep_own hbut)) (fun _ _ _ _ _ hs _ _ => hs) ⟨h0, Keep.refl _ _⟩
    (fun x a' W => ∃ Bx, w0.heap.size ≤ Bx ∧ W.heap[Bx]? = some (.cells (crtCs (k.cf x.1)) 90) ∧ a' = { tmps := (a.tmps.setIfInBounds p (crtV (k.cf x.1))).setIfInBounds s (.pointer (some ⟨Bx, 0, none⟩)), defers := [] }) ?hAx ?assign ?body ?done ?stop
  case hAx =>
    rintro x a' _ X Y row ⟨Bx, h1, h2, h3⟩ hg hr
    refine ⟨Bx, h1, ?_, h3⟩
    rw [hg.block Bx (Array.getElem?_eq_some_iff.1 h2).1 (fun e => by obtain ⟨_, o, ho, hc⟩ := hr Bx e.symm; rw [h2] at ho; cases ho; cases hc), h2]
  case assign =>
    rintro l pre x W K ⟨hi, hkp⟩ hK
    have := hassign l (k.cf x.1) W K (hK _ _ ((KeepsOthers.alloc _ _).from _) (Keep.alloc _ _ _) ⟨hInv.alloc _ hi, hkp.trans (Keep.alloc _ _ _)⟩ ⟨W.heap.size, hkp.size, World.alloc_heap_new W _, rfl⟩)
    simpa using this
  case body =>
    rintro l pre x a' W _ _ ⟨hi, hkp⟩ ⟨Bx, h1, h2, rfl⟩ hlt
    refine wpIn_mono (hbody l pre x Bx W (hR.at_.keep hkp) hi h1 h2 hkp) ?_
    rintro e a2 W2 ⟨rfl, h3, h4, h5⟩
    exact ⟨h3, h4, h5, hkp.trans h4⟩
  case done =>
    rintro D xs W hD hxs ⟨hi, hkp⟩ hK
    exact hdone D xs W hD hxs hi hkp hK
  case stop =>
    rintro D c pre W _ _ h _
    exact h.elim
end Go.Proofs.Ytmcnpfjichbijaa
