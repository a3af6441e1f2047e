/- The closures of Held and Hung. -/
import Derived.Test.YtmcnpfjichbijaaC9
import Derived.Test.YtmcnpfjichbijaaC3
import Derived.Shelf.SlicesE.DeleteFunc
import Derived.Ground.SlgfProg
import Derived.Test.YtmcnpfjichbijaaProg
import Derived.Lib.SliceRun

set_option linter.unusedSimpArgs false
set_option linter.unusedVariables false
namespace Go.Proofs.Ytmcnpfjichbijaa
open Go Go.Proofs Go.RowKit Go.Shelf


/-- A map of truth values over the numbers. -/
def boolsAt (w : World) (H : Nat) (nums : List Int) (h : Int → Bool) : Prop := isMap w H fun n => if n ∈ nums then some (.bool (h n)) else none

theorem boolsAt.get {w : World} {H : Nat} {nums : List Int} {h : Int → Bool} (hm : boolsAt w H nums h) (n : Int) :
    (Instr.lookup 94 (.map (some H)) (.int .i64 n) false).run Try.prog w = .ok (.bool (decide (n ∈ nums) && h n)) w := by
  have := run_lookup_map underlying94 underlying3 hm (zero4 w) n false
  simp only [Bool.false_eq_true, if_false] at this
  rw [this]
  by_cases hn : n ∈ nums <;> simp [hn]

set_option maxRecDepth 100000 in
set_option maxHeartbeats 1000000 in
theorem c64 (H B : Nat) (nums : List Int) (h : Int → Bool) (n : Int) (w : World) (hB : w.cell? ⟨B, 0, none⟩ = some (.map (some H))) (hm : boolsAt w H nums h) :
    Calls Try.prog 64 #[.int .i64 n, .pointer (some ⟨B, 0, none⟩)] w fun e w' => e = .returned (.bool (!(decide (n ∈ nums) && h n))) ∧ w' = w := by
  have hl := hm.get n
  generalize (decide (n ∈ nums) && h n) = r at hl ⊢
  go_enter Try.func64, Try.ntmps64
  go_wp2_with fail
  go_ret
  exact ⟨rfl, rfl⟩

set_option maxRecDepth 100000 in
set_option maxHeartbeats 1000000 in
theorem c52 (Hb Hn B1 B2 B3 : Nat) (k : Wk) (S : Nat → Prop) (hb hn : Int → Bool) (n : Int) (w : World) (h1 : w.cell? ⟨B1, 0, none⟩ = some (.map (some Hb))) (h2 : w.cell? ⟨B2, 0, none⟩ = some (.map (some Hn)))
    (h3 : w.cell? ⟨B3, 0, none⟩ = some (.pointer (some ⟨k.W, 0, none⟩))) (m1 : boolsAt w Hb k.nums hb) (m2 : boolsAt w Hn k.nums hn) (hk : k.Ok) (ha : k.At S w) :
    Calls Try.prog 52 #[.int .i64 n, .pointer (some ⟨B1, 0, none⟩), .pointer (some ⟨B2, 0, none⟩), .pointer (some ⟨B3, 0, none⟩)] w fun e w' =>
      e = .returned (.bool (decide (n ∈ k.nums) && (hb n && !(hn n) && !(k.bad n)))) ∧ w' = w := by
  have l1 := m1.get n
  have l2 := m2.get n
  by_cases hmem : n ∈ k.nums
  · obtain ⟨hr1, hr2⟩ := hk.rng n hmem
    obtain ⟨m, hm⟩ := Int.eq_ofNat_of_zero_le (show 0 ≤ n by omega)
    have hbad := ha.bad m (by omega)
    rw [show ((m : Nat) : Int) = n from hm.symm] at hbad
    have hmn : n.toNat = m := by omega
    simp only [hmem, decide_true, Bool.true_and] at l1 l2 ⊢
    have HM := Lib.hid hm
    clear hm hmem
    generalize hb n = x at l1 ⊢
    generalize hn n = y at l2 ⊢
    generalize k.bad n = z at hbad ⊢
    cases x
    · go_enter Try.func52, Try.ntmps52
      go_wp2_with fail
      go_ret
      exact ⟨rfl, rfl⟩
    · cases y
      · go_enter Try.func52, Try.ntmps52
        go_wp2_with fail
        go_ret
        exact ⟨by simp, rfl⟩
      · go_enter Try.func52, Try.ntmps52
        go_wp2_with fail
        go_ret
        exact ⟨rfl, rfl⟩
  · simp only [hmem, decide_false, Bool.false_and] at l1 l2 ⊢
    clear hmem
    go_enter Try.func52, Try.ntmps52
    go_wp2_with fail
    go_ret
    exact ⟨rfl, rfl⟩

set_option maxRecDepth 100000 in
set_option maxHeartbeats 1000000 in
theorem c55 (f : Nat) (hent : ∀ args w, (callFunc f args).run Try.prog w = .ok (.enter f args) w) (cap : Array Value) (B : Nat) (n : Int) (r : Bool) (w : World) (hB : w.cell? ⟨B, 0, none⟩ = some (.func (.func f) #[] cap))
    (hf : Calls Try.prog f (#[.int .i64 n] ++ cap) w fun e w' => e = .returned (.bool r) ∧ w' = w) :
    Calls Try.prog 55 #[.int .i64 n, .pointer (some ⟨B, 0, none⟩)] w fun e w' => e = .returned (.bool (!r)) ∧ w' = w := by
  go_enter Try.func55, Try.ntmps55
  go_wp2_with fail
  refine hf.mono ?_
  rintro e w' ⟨rfl, rfl⟩
  go_wp2_with fail
  go_ret
  exact ⟨rfl, rfl⟩
end Go.Proofs.Ytmcnpfjichbijaa


/-
  DERIVED: THE SHELF's CONTRACTS AT THIS DUMP, IN PLAIN WORDS (tools/lay-plain.mjs out of 'YtmcnpfjichbijaaDf.lean', which tools/lay-shelf.mjs wrote): THE SAME DECLARATIONS UNDER THE SAME NAMES: 'import', 'namespace', 'open', 'def', 'theorem' AND NOTHING ELSE: no command of the shelf's: FOR A HAND-IN. Each laying: the table of numbers ('.._ren') and one theorem, a field a fact of the dump's own or the kernel's comparison; each contract: ONE APPLICATION.
-/
namespace Go.Proofs
open Go.Shelf
def Try.l53_ren : Go.Shelf.Ren := ⟨fun | 10 => 53 | 6 => 81 | n => n, fun | 22 => 26 | 23 => 3 | 25 => 100 | 3 => 3 | 4 => 4 | 0 => 0 | n => n, fun | n => n⟩
theorem Try.l53 : Go.Proofs.SlLaysH.n10 Try.prog Try.l53_ren := {
  mixed := by kernel_rfl
  f6 := ⟨Try.f81.name, by decide, Try.func81.trans (congrArg some (by kernel_rfl))⟩
  f10 := ⟨Try.f53.name, by decide, Try.func53.trans (congrArg some (by kernel_rfl))⟩
  t0 := Try.underlying0
  a0 := Try.isAgg0
  z0 := Try.sizeOf0
  v0 := Try.zeroValue0
  t3 := Try.underlying3
  a3 := Try.isAgg3
  z3 := Try.sizeOf3
  v3 := Try.zeroValue3
  t4 := Try.underlying4
  a4 := Try.isAgg4
  z4 := Try.sizeOf4
  v4 := Try.zeroValue4
  t22 := Try.underlying26
  a22 := Try.isAgg26
  z22 := Try.sizeOf26
  v22 := Try.zeroValue26
  a23 := Try.isAgg3
  z23 := Try.sizeOf3
  t25 := Try.underlying100
  a25 := Try.isAgg100
  z25 := Try.sizeOf100
  v25 := Try.zeroValue100 }
end Go.Proofs

/- Held: DeleteFunc with a closure that reads. -/
set_option linter.unusedSimpArgs false
set_option linter.unusedVariables false
namespace Go.Proofs.Ytmcnpfjichbijaa
open Go Go.Proofs Go.RowKit Go.Shelf

open Go.Lib Go.Sort

theorem keep_sort {w : World} {blk m : Nat} {dk : Array Int} {os : Array Obj} : Keep (fun j => j ≠ blk) w (sortWorld (Value.int .i64) w blk 0 m dk os) :=
  Keep.grown (grownBy_sortedI dk) fun r hr h => h (by simpa using hr.symm)

theorem c53 (g : Nat) (eg : ∀ args w, (callFunc g args).run Try.prog w = .ok (.enter g args) w) (lb : Array Value) (p : Int → Bool) (blk cap base : Nat) (l : List Int) (w : World)
    (own : w.ownsRow base 3 1 (.slice (some ⟨blk, 0, none⟩) l.length cap) l.length (l.map (Value.int .i64))) (hl : l.length ≤ 100)
    (hp : ∀ W n, Keep (fun j => j ≠ blk) w W → Calls Try.prog g (#[.int .i64 n] ++ lb) W fun e w' => e = .returned (.bool (p n)) ∧ w' = W) :
    Calls Try.prog 53 #[.slice (some ⟨blk, 0, none⟩) l.length cap, .func (.func g) #[] lb] w fun e w' =>
      e = .returned (.slice (some ⟨blk, 0, none⟩) (l.filter fun x => !p x).length cap) ∧ Keep (fun j => j ≠ blk) w w' ∧ numsAt (fun j => j = blk) w' (some ⟨blk, 0, none⟩) (l.filter fun x => !p x) := by
  rcases own.2 with ⟨h1, h2⟩ | ⟨g', cap', cur, h1, h2, h3, h4, h5, h6, h7⟩
  · cases h1
  · cases h1
    have hH := holds_of_blockI (ss := l) h3 (by simpa using h7)
    have e0 : l.toArray.size = l.length := by simp
    have := AnyE.slices_DeleteFunc Try.l53 (Value.int .i64) (fun _ => rfl) p g lb eg 0 Try.zeroValue3 blk 0 cap l.toArray w
      (fun W x hb => (hp W x (Keep.of_below hb fun _ _ h => h)).mono fun e w' h => ⟨h.1, 0, h.2⟩)
      (fun n os dk x _ => (hp _ x keep_sort).mono fun e w' h => ⟨h.1, 0, h.2⟩) hH (by rw [e0]; omega) (by rw [e0]; exact h4)
    rw [e0] at this
    refine Calls.mono (f := 53) this ?_
    rintro e w' ⟨rfl, q, rfl⟩
    have hk : Keep (fun j => j ≠ blk) w (putRow (Value.int .i64) (Sort.ahead w q) blk 0 ((l.filter fun x => !p x) ++ List.replicate (l.length - (l.filter fun x => !p x).length) 0).toArray) := by
      have := keep_sort (w := w) (blk := blk) (m := q) (dk := ((l.filter fun x => !p x) ++ List.replicate (l.length - (l.filter fun x => !p x).length) 0).toArray) (os := #[])
      unfold sortWorld at this
      rwa [grow_empty] at this
    refine ⟨rfl, hk, fun _ => ⟨blk, 0, rfl, rfl, fun i n hn => ?_⟩⟩
    have hi := (List.getElem?_eq_some_iff.1 hn).1
    have hle := List.length_filter_le (fun x => !p x) l
    have hs : ((l.filter fun x => !p x) ++ List.replicate (l.length - (l.filter fun x => !p x).length) 0).toArray.size = l.toArray.size := by simp; omega
    have := cell?_putRow (Value.int .i64) (Sort.ahead w q) blk 0 l.toArray _ (show Holds (Value.int .i64) (Sort.ahead w q) blk 0 l.toArray from hH) hs i (by rw [hs, e0]; omega)
    rw [this]
    congr 2
    rw [getElem!_pos _ _ (by rw [hs, e0]; omega)]
    simp only [List.getElem_toArray]
    rw [List.getElem_append_left hi]
    exact (List.getElem?_eq_some_iff.1 hn).2
end Go.Proofs.Ytmcnpfjichbijaa


/- Held, walked. -/
set_option linter.unusedSimpArgs false
set_option linter.unusedVariables false
namespace Go.Proofs.Ytmcnpfjichbijaa
open Go Go.Proofs Go.RowKit Go.Shelf

open Go.Lib Go.Sort

theorem Made.held {b : Bk} {f : Int → Bool} {w w' : World} {k : Wk} (h : Made b f w w' k) : heldUpto k k.nums = holds b f := by
  have hs : heldStep k = holdStep b f := by
    funext hh n j
    unfold heldStep holdStep
    rw [h.kb, h.kc, h.kn, h.kf]
  unfold heldUpto holds
  rw [hs, h.kn]

theorem c54 {A : Option Addr} {cn : Nat} {l : List Int} {w : World} (h : numsAt (· < w.heap.size) w A l) (hl : l.length ≤ 100) :
    Calls Try.prog 54 #[.slice A l.length cn] w fun e w' => ∃ A' c', e = .returned (.slice A' l.length c') ∧ w'.ownsRow w.heap.size 3 1 (.slice A' l.length c') l.length (l.map (Value.int .i64)) ∧ Below w.heap.size w w' := by
  rcases Nat.eq_zero_or_pos l.length with h0 | h0
  · have hnil := List.length_eq_zero_iff.1 h0
    subst hnil
    cases A with
    | none =>
      refine (Try.slices_Clone_int_nil 0 cn w).mono ?_
      rintro e w' ⟨rfl, rfl⟩
      exact ⟨none, 0, rfl, ⟨rfl, .inl ⟨rfl, rfl⟩⟩, Below.refl _ _⟩
    | some a =>
      refine (Try.slices_Clone_int_zero a cn w).mono ?_
      rintro e w' ⟨v', rfl, ho, hne, hb⟩
      rcases ho.2 with ⟨h1, _⟩ | ⟨g, cap, cur, h1, _⟩
      · exact absurd h1 hne
      · subst h1; exact ⟨some ⟨g, 0, none⟩, cap, rfl, ho, hb⟩
  · obtain ⟨b, o, rfl, hb, hc⟩ := h h0
    refine (Try.slices_Clone_int b o l.length cn l w (Nat.le_refl _) (by omega) fun j hj => ?_).mono ?_
    · rw [hc j l[j] (by simp [hj])]
      simp [List.getD, hj]
    · rintro e w' ⟨v', rfl, ho, hne, hb⟩
      rw [List.take_length] at ho
      obtain ⟨g, cap, rfl, _, _⟩ := ho.form h0
      exact ⟨some ⟨g, 0, none⟩, cap, rfl, ho, hb⟩

set_option maxRecDepth 100000 in
set_option maxHeartbeats 1000000 in
theorem c53_nil (g : Nat) (eg : ∀ args w, (callFunc g args).run Try.prog w = .ok (.enter g args) w) (lb : Array Value) (w : World) :
    Calls Try.prog 53 #[.slice none 0 0, .func (.func g) #[] lb] w fun e w' => e = .returned (.slice none 0 0) ∧ ∃ x, w' = over w x := by
  have hc := c81 g eg #[] lb [] (fun _ => false) none 0 w (fun h => by simp at h) (fun x hx => by cases hx) (by simp)
  have HC := Lib.hid hc
  clear hc
  go_enter Try.func53, Try.ntmps53
  go_wp2_with fail
  refine HC.out.mono ?_
  rintro e w1 ⟨rfl, x, rfl⟩
  go_wp2_with fail
  go_ret
  exact ⟨rfl, _, rfl⟩

theorem c53' (g : Nat) (eg : ∀ args w, (callFunc g args).run Try.prog w = .ok (.enter g args) w) (lb : Array Value) (p : Int → Bool) (cap base : Nat) (A : Option Addr) (l : List Int) (w : World) (hbase : base ≤ w.heap.size)
    (own : w.ownsRow base 3 1 (.slice A l.length cap) l.length (l.map (Value.int .i64))) (hl : l.length ≤ 100)
    (hp : ∀ W n, Keep (fun j => j < base) w W → Calls Try.prog g (#[.int .i64 n] ++ lb) W fun e w' => e = .returned (.bool (p n)) ∧ w' = W) :
    Calls Try.prog 53 #[.slice A l.length cap, .func (.func g) #[] lb] w fun e w' => ∃ A' c',
      e = .returned (.slice A' (l.filter fun x => !p x).length c') ∧ Keep (fun j => j < base) w w' ∧ numsAt (fun j => base ≤ j ∧ j < w'.heap.size) w' A' (l.filter fun x => !p x) := by
  rcases own.2 with ⟨h1, h2⟩ | ⟨g', cap', cur, h1, h2, h3, h4⟩
  · have hnil := List.length_eq_zero_iff.1 h2
    subst hnil
    cases h1
    refine (c53_nil g eg lb w).mono ?_
    rintro e w' ⟨rfl, x, rfl⟩
    exact ⟨none, 0, rfl, Keep.over _ _ _, fun h => by simp at h⟩
  · cases h1
    refine (c53 g eg lb p g' cap base l w own hl fun W n hk => hp W n (hk.mono fun j hj => by omega)).mono ?_
    rintro e w' ⟨rfl, hk, hn⟩
    have hlt := (Array.getElem?_eq_some_iff.1 h3).1
    have hs := hk.size
    exact ⟨_, _, rfl, hk.mono fun j hj => by omega, hn.mono fun j hj => by omega⟩

/-- A list is handed back, or an error. -/
def ListTo (err : Int) (L : List Int) (w : World) (e : Ending) (w' : World) : Prop :=
  (err ≠ 0 ∧ e = .returned (.tuple #[.slice none 0 0, .int .i64 err]) ∧ ∃ x, w' = over w x) ∨
  (err = 0 ∧ ∃ A c, e = .returned (.tuple #[.slice A L.length c, .int .i64 0]) ∧ numsAt (fun j => w.heap.size ≤ j ∧ j < w'.heap.size) w' A L ∧ ∃ x, w' = over w x)

set_option maxRecDepth 100000 in
set_option maxHeartbeats 1000000 in
theorem c34 (Ai Ac Ab : Option Addr) (ci cc cb : Nat) (b : Bk) (l : List Int) (w : World) (hA : bookAt (· < w.heap.size) w Ai Ac b) (hB : numsAt (· < w.heap.size) w Ab l) (hl : b.items.length ≤ 1000) (hl2 : b.certs.length ≤ 1000) (hl3 : l.length ≤ 1000) :
    Calls Try.prog 34 #[.agg #[.slice Ai b.items.length ci, .slice Ac b.certs.length cc], .slice Ab l.length cb] w
      (ListTo (errOf b l) ((numsOf b).filter (holds b fun n => decide (n ∈ l))) w) := by
  have hk : Keep (· < w.heap.size) w (w.alloc (.cells #[.slice Ai b.items.length ci, .slice Ac b.certs.length cc] 35)) := Keep.alloc _ _ _
  have hlt : ∀ j, j < w.heap.size → j < (w.alloc (.cells #[.slice Ai b.items.length ci, .slice Ac b.certs.length cc] 35)).heap.size := fun j hj => by rw [World.size_alloc]; omega
  have hc := c50 Ai Ac Ab ci cc cb b l _ ⟨(hA.1.keep hk).mono hlt, (hA.2.keep hk).mono hlt⟩ ((hB.keep hk).mono hlt) hl hl2 hl3
  have HC := Lib.hid hc
  clear hc hA hk hlt hB
  go_enter Try.func34, Try.ntmps34
  go_wp2_with fail
  refine HC.out.mono ?_
  rintro e w1 (⟨h0, rfl, x, rfl⟩ | ⟨h0, k, rfl, hm⟩)
  · have hne : ((errOf b l : Int) != 0) = true := by simp [h0]
    have H0 := Lib.hid h0
    clear h0
    go_wp2_with fail
    go_ret2
    exact .inl ⟨H0.out, rfl, below_over (by repeat' (first | exact Below.refl _ _ | (refine below_ov ?_ ?_) | (refine Below.alloc ?_ ?_ _) | (refine below_drewN' ?_ _) | (refine Below.drew ?_) | (refine below_set ?_ _ _ ?_) | (simp; done) | (simp; omega) | omega))⟩
  · have H0 := Lib.hid h0
    have hm2 : Made b (fun n => decide (n ∈ l)) w w1 k := hm.of ((Below.refl _ _).alloc (Nat.le_refl _) _)
    have HM := Lib.hid hm2
    clear h0 hm hm2
    go_wp2_with fail
    refine (c51 k HM.out.ok w1 HM.out.at_).mono ?_
    rintro e w2 ⟨H, rfl, hH, hb2, hHs⟩
    have hm3 := HM.out.on hb2
    rw [HM.out.held] at hH
    have HH := Lib.hid hH
    have HM3 := Lib.hid hm3
    have hc3 := hm3.at_.c3
    have l3 := lt_of_cell hc3
    clear hH hm3 hHs
    go_wp2_with fail
    have kb : Keep (fun _ => True) w2 (w2.alloc (Obj.cells #[Value.map (some H)] 94)) := Keep.alloc _ _ _
    have hsb : (w2.alloc (Obj.cells #[Value.map (some H)] 94)).heap.size = w2.heap.size + 1 := by simp
    have hbox : (w2.alloc (Obj.cells #[Value.map (some H)] 94)).cell? ⟨w2.heap.size, 0, none⟩ = some (.map (some H)) := by simp [go_sem]
    have hnum : numsAt (· < (w2.alloc (Obj.cells #[Value.map (some H)] 94)).heap.size) (w2.alloc (Obj.cells #[Value.map (some H)] 94)) k.An k.nums :=
      (HM3.out.at_.ns.keep (kb.mono fun _ _ => trivial)).mono fun j hj => by have := hj; omega
    have hmap : boolsAt (w2.alloc (Obj.cells #[Value.map (some H)] 94)) H k.nums (holds b fun n => decide (n ∈ l)) := HH.out.keep kb trivial
    have hHlt := HH.out.lt
    have hbw : Below w.heap.size w (w2.alloc (Obj.cells #[Value.map (some H)] 94)) := HM3.out.bel.alloc HM3.out.bel.size _
    have HBW := Lib.hid hbw
    generalize (w2.alloc (Obj.cells #[Value.map (some H)] 94)) = w3 at hnum hbox hmap hsb HBW ⊢
    clear kb hbw
    have HBX := Lib.hid hbox
    have HMP := Lib.hid hmap
    have hnl := HM.out.ok.nl
    refine (c54 hnum (by omega)).mono ?_
    rintro e w4 ⟨A4, c4, rfl, own4, hb4⟩
    have h4s := hb4.size
    have hcl := c53' 64 (enters_of Try.func64 (by kernel_rfl) rfl) #[.pointer (some ⟨w2.heap.size, 0, none⟩)] (fun n => !(decide (n ∈ k.nums) && holds b (fun n => decide (n ∈ l)) n)) c4 w3.heap.size A4 k.nums w4 h4s own4 (by omega)
      fun W n hk => by
        have k1 : Keep (fun j => j < w3.heap.size) w3 W := (Keep.of_below hb4 fun _ h _ => h).trans hk
        exact c64 H w2.heap.size k.nums (holds b fun n => decide (n ∈ l)) n W (k1.cell HBX.out (by omega)) (HMP.out.keep k1 (by omega))
    have hfil : (k.nums.filter fun x => !(!(decide (x ∈ k.nums) && holds b (fun n => decide (n ∈ l)) x))) = (numsOf b).filter (holds b fun n => decide (n ∈ l)) := by
      rw [HM.out.kn]
      refine List.filter_congr fun x hx => ?_
      simp [hx]
    rw [hfil] at hcl
    have HCL := Lib.hid hcl
    have HF := Lib.hid hfil
    clear hcl hfil own4 hnum hbox hmap
    go_wp2_with fail
    refine HCL.out.mono ?_
    rintro e w5 ⟨A5, c5, rfl, hk5, hn5⟩
    have HN5 := Lib.hid hn5
    clear hn5
    go_wp2_with fail
    go_ret2
    have hbs := HBW.out.size
    refine .inr ⟨H0.out, A5, c5, rfl, HN5.out.mono fun j hj => ⟨by omega, hj.2⟩, below_over ?_⟩
    exact (HBW.out.trans (hb4.mono hbs)).trans (hk5.below fun j hj => ⟨by omega, by omega⟩)
end Go.Proofs.Ytmcnpfjichbijaa

