/- The closures of Held and Hung. -/
import Derived.Test.YtmcnpfjichbijaaC9
import Derived.Test.YtmcnpfjichbijaaC3
set_option linter.unusedSimpArgs false
set_option linter.unusedVariables false
namespace Go.Proofs.Ytmcnpfjichbijaa
open Go Go.Proofs Go.RowKit Go.Shelf


/-- A map of truth values over the numbers. -/
def boolsAt (w : World) (H : Nat) (nums : List Int) (h : Int → Bool) : Prop := isMap w H fun n => if n ∈ nums then some (.bool (h n)) else none

theorem boolsAt.get {w : World} {H : Nat} {nums : List Int} {h : Int → Bool} (hm : boolsAt w H nums h) (n : Int) :
    (Instr.lookup 94 (.map (some H)) (.int .i64 n) false).run Try.prog w = .ok (.bool (decide (n ∈ nums) && h n)) w := by
  have := run_lookup_map underlying94 underlying3 hm (zero4 w) n false
  simp only [Bool.false_eq_true, if_false] at this
  rw [this]
  by_cases hn : n ∈ nums <;> simp [hn]

set_option maxRecDepth 100000 in
set_option maxHeartbeats 1000000 in
theorem c64 (H B : Nat) (nums : List Int) (h : Int → Bool) (n : Int) (w : World) (hB : w.cell? ⟨B, 0, none⟩ = some (.map (some H))) (hm : boolsAt w H nums h) :
    Calls Try.prog 64 #[.int .i64 n, .pointer (some ⟨B, 0, none⟩)] w fun e w' => e = .returned (.bool (!(decide (n ∈ nums) && h n))) ∧ w' = w := by
  have hl := hm.get n
  generalize (decide (n ∈ nums) && h n) = r at hl ⊢
  go_enter Try.func64, Try.ntmps64
  go_wp2_with fail
  go_ret
  exact ⟨rfl, rfl⟩

set_option maxRecDepth 100000 in
set_option maxHeartbeats 1000000 in
theorem c52 (Hb Hn B1 B2 B3 : Nat) (k : Wk) (S : Nat → Prop) (hb hn : Int → Bool) (n : Int) (w : World) (h1 : w.cell? ⟨B1, 0, none⟩ = some (.map (some Hb))) (h2 : w.cell? ⟨B2, 0, none⟩ = some (.map (some Hn)))
    (h3 : w.cell? ⟨B3, 0, none⟩ = some (.pointer (some ⟨k.W, 0, none⟩))) (m1 : boolsAt w Hb k.nums hb) (m2 : boolsAt w Hn k.nums hn) (hk : k.Ok) (ha : k.At S w) :
    Calls Try.prog 52 #[.int .i64 n, .pointer (some ⟨B1, 0, none⟩), .pointer (some ⟨B2, 0, none⟩), .pointer (some ⟨B3, 0, none⟩)] w fun e w' =>
      e = .returned (.bool (decide (n ∈ k.nums) && (hb n && !(hn n) && !(k.bad n)))) ∧ w' = w := by
  have l1 := m1.get n
  have l2 := m2.get n
  by_cases hmem : n ∈ k.nums
  · obtain ⟨hr1, hr2⟩ := hk.rng n hmem
    obtain ⟨m, hm⟩ := Int.eq_ofNat_of_zero_le (show 0 ≤ n by omega)
    have hbad := ha.bad m (by omega)
    rw [show ((m : Nat) : Int) = n from hm.symm] at hbad
    have hmn : n.toNat = m := by omega
    simp only [hmem, decide_true, Bool.true_and] at l1 l2 ⊢
    have HM := Lib.hid hm
    clear hm hmem
    generalize hb n = x at l1 ⊢
    generalize hn n = y at l2 ⊢
    generalize k.bad n = z at hbad ⊢
    cases x
    · go_enter Try.func52, Try.ntmps52
      go_wp2_with fail
      go_ret
      exact ⟨rfl, rfl⟩
    · cases y
      · go_enter Try.func52, Try.ntmps52
        go_wp2_with fail
        go_ret
        exact ⟨by simp, rfl⟩
      · go_enter Try.func52, Try.ntmps52
        go_wp2_with fail
        go_ret
        exact ⟨rfl, rfl⟩
  · simp only [hmem, decide_false, Bool.false_and] at l1 l2 ⊢
    clear hmem
    go_enter Try.func52, Try.ntmps52
    go_wp2_with fail
    go_ret
    exact ⟨rfl, rfl⟩

set_option maxRecDepth 100000 in
set_option maxHeartbeats 1000000 in
theorem c55 (f : Nat) (hent : ∀ args w, (callFunc f args).run Try.prog w = .ok (.enter f args) w) (cap : Array Value) (B : Nat) (n : Int) (r : Bool) (w : World) (hB : w.cell? ⟨B, 0, none⟩ = some (.func (.func f) #[] cap))
    (hf : Calls Try.prog f (#[.int .i64 n] ++ cap) w fun e w' => e = .returned (.bool r) ∧ w' = w) :
    Calls Try.prog 55 #[.int .i64 n, .pointer (some ⟨B, 0, none⟩)] w fun e w' => e = .returned (.bool (!r)) ∧ w' = w := by
  go_enter Try.func55, Try.ntmps55
  go_wp2_with fail
  refine hf.mono ?_
  rintro e w' ⟨rfl, rfl⟩
  go_wp2_with fail
  go_ret
  exact ⟨rfl, rfl⟩
end Go.Proofs.Ytmcnpfjichbijaa

