/- Ranges. -/
import Derived.Test.YtmcnpfjichbijaaC14
import Derived.BigQuiet
set_option linter.unusedSimpArgs false
set_option linter.unusedVariables false
namespace Go.Proofs.Ytmcnpfjichbijaa
open Go Go.Proofs Go.RowKit Go.Shelf


theorem below_set {n : Nat} {w W : World} (h : Below n w W) (p : Addr) (v : Value) (hp : n ≤ p.block) : Below n w (W.setCell p v) :=
  h.trans ⟨rfl, rfl, rfl, by simp, fun k hk => Below.heap_setCell _ _ _ _ (by omega)⟩

theorem ret45 {fn : Func} {p : Tmp} {g : Nat} {lo hi : Int} {w : World} (h : fn.results = #[.cell p 45]) (tmps : Array Value) (hp : tmps.getD p undef = .pointer (some ⟨g, 0, none⟩)) (h0 : w.cell? ⟨g, 0, none⟩ = some (.int .i64 lo)) (h1 : w.cell? ⟨g, 1, none⟩ = some (.int .i64 hi)) :
    (results fn tmps).run Try.prog w = .ok (.agg #[.int .i64 lo, .int .i64 hi]) w := by
  have hp' : tmps[p]?.getD undef = .pointer (some ⟨g, 0, none⟩) := by simpa using hp
  have hl : (loadVar 45 ⟨g, 0, none⟩).run Try.prog w = .ok (.agg #[.int .i64 lo, .int .i64 hi]) w := by
    simp [go_sem, h0, h1]
  simp [results, h, hp', asAddr, hl]

set_option maxRecDepth 100000 in
set_option maxHeartbeats 1000000 in
theorem c100 (lo hi : Int) (w : World) : Calls Try.prog 100 #[.agg #[.int .i64 lo, .int .i64 hi]] w fun e w' => e = .returned (.int .i64 lo) ∧ ∃ x, w' = over w x := by
  go_enter Try.func100, Try.ntmps100
  go_wp2_with fail
  go_ret
  exact ⟨rfl, below_over (by repeat' (first | exact Below.refl _ _ | (refine below_ov ?_ ?_) | (refine Below.alloc ?_ ?_ _) | (refine below_drewN' ?_ _) | (refine Below.drew ?_) | (refine below_set ?_ _ _ ?_) | (simp; done) | (simp; omega) | omega))⟩
set_option maxRecDepth 100000 in
set_option maxHeartbeats 1000000 in
theorem c101 (lo hi : Int) (w : World) : Calls Try.prog 101 #[.agg #[.int .i64 lo, .int .i64 hi]] w fun e w' => e = .returned (.int .i64 hi) ∧ ∃ x, w' = over w x := by
  go_enter Try.func101, Try.ntmps101
  go_wp2_with fail
  go_ret
  exact ⟨rfl, below_over (by repeat' (first | exact Below.refl _ _ | (refine below_ov ?_ ?_) | (refine Below.alloc ?_ ?_ _) | (refine below_drewN' ?_ _) | (refine Below.drew ?_) | (refine below_set ?_ _ _ ?_) | (simp; done) | (simp; omega) | omega))⟩
set_option maxRecDepth 100000 in
set_option maxHeartbeats 1000000 in
theorem c102 (x y : Int) (b c : Nat) (w : World) (h0 : w.cell? ⟨b, 0, none⟩ = some (.int .i64 x)) (h1 : w.cell? ⟨b, 1, none⟩ = some (.int .i64 y)) :
    Calls Try.prog 102 #[.slice (some ⟨b, 0, none⟩) 2 c] w fun e w' => e = .returned (.int .i64 (max x y)) ∧ w' = w := by
  have hc := Try.slices_Max_int b 0 2 c [x, y] w (by omega) (by simp) (by omega) (fun j hj => by
    match j, hj with
    | 0, _ => simpa using h0
    | 1, _ => simpa using h1)
  have hv : Lib.maxOf (([x, y] : List Int).take 2) = max x y := by simp [Lib.maxOf]
  rw [hv] at hc
  go_enter Try.func102, Try.ntmps102
  go_wp2_with (go_at_call 112; refine hc.mono ?_; rintro e w' ⟨rfl, rfl⟩)
  go_ret
  exact ⟨rfl, rfl⟩
set_option maxRecDepth 100000 in
set_option maxHeartbeats 1000000 in
theorem c103 (x y : Int) (b c : Nat) (w : World) (h0 : w.cell? ⟨b, 0, none⟩ = some (.int .i64 x)) (h1 : w.cell? ⟨b, 1, none⟩ = some (.int .i64 y)) :
    Calls Try.prog 103 #[.slice (some ⟨b, 0, none⟩) 2 c] w fun e w' => e = .returned (.int .i64 (min x y)) ∧ w' = w := by
  have hc := Try.slices_Min_int b 0 2 c [x, y] w (by omega) (by simp) (by omega) (fun j hj => by
    match j, hj with
    | 0, _ => simpa using h0
    | 1, _ => simpa using h1)
  have hv : Lib.minOf (([x, y] : List Int).take 2) = min x y := by simp [Lib.minOf]
  rw [hv] at hc
  go_enter Try.func103, Try.ntmps103
  go_wp2_with (go_at_call 113; refine hc.mono ?_; rintro e w' ⟨rfl, rfl⟩)
  go_ret
  exact ⟨rfl, rfl⟩
set_option maxRecDepth 100000 in
set_option maxHeartbeats 1000000 in
theorem c87 (w : World) : Calls Try.prog 87 #[] w fun e w' => e = .returned (.agg #[.int .i64 (-1099511627776), .int .i64 1099511627776]) ∧ ∃ x, w' = over w x := by
  go_enter Try.func87, Try.ntmps87
  go_wp2_with fail
  refine bodyPost_ret (ret45 (g := w.heap.size) (lo := -1099511627776) (hi := 1099511627776) rfl _ rfl ?_ ?_) rfl ⟨rfl, below_over (by repeat' (first | exact Below.refl _ _ | (refine below_ov ?_ ?_) | (refine Below.alloc ?_ ?_ _) | (refine below_drewN' ?_ _) | (refine Below.drew ?_) | (refine below_set ?_ _ _ ?_) | (simp; done) | (simp; omega) | omega))⟩
  · simp [go_sem]
  · simp [go_sem]

set_option maxRecDepth 100000 in
set_option maxHeartbeats 1000000 in
theorem c86 (a b c d : Int) (w : World) (h1 : -4611686018427387904 ≤ a + c) (h2 : a + c ≤ 4611686018427387904) (h3 : -4611686018427387904 ≤ b + d) (h4 : b + d ≤ 4611686018427387904) :
    Calls Try.prog 86 #[.agg #[.int .i64 a, .int .i64 b], .agg #[.int .i64 c, .int .i64 d]] w fun e w' => e = .returned (.agg #[.int .i64 (a + c), .int .i64 (b + d)]) ∧ ∃ x, w' = over w x := by
  go_enter Try.func86, Try.ntmps86
  go_wp2_with fail
  refine wp_region_over_tail 19 (by kernel_rfl) (by kernel_rfl) ?_
  dsimp only [List.take, List.drop]
  repeat (go_big_quiet_step (first | exact calls_over_of (c100 _ _ _) | exact calls_over_of (c101 _ _ _)))
  refine wpQuiet_nil ?_
  rintro w' ⟨x, rfl⟩
  have hs : ∀ m, w.heap.size + 1 + 1 < w.heap.size + 1 + 1 + 1 + 1 + 1 + m := fun m => by omega
  go_wp2_with fail
  refine bodyPost_ret (ret45 (g := w.heap.size + 1 + 1) (lo := a + c) (hi := b + d) rfl _ rfl ?_ ?_) rfl ⟨rfl, below_over ?_⟩
  · simp [go_sem]
  · simp [go_sem]
  · repeat' (refine below_set ?_ _ _ (by simp; omega))
    repeat' (first | exact Below.refl _ _ | (refine below_ov ?_ ?_) | (refine Below.alloc ?_ ?_ _) | (refine below_drewN' ?_ _) | (refine Below.drew ?_) | (refine below_set ?_ _ _ ?_) | (simp; done) | (simp; omega) | omega)

set_option maxRecDepth 100000 in
set_option maxHeartbeats 1000000 in
theorem c89 (a b n : Int) (w : World) (h1 : -2305843009213693952 ≤ a) (h2 : a ≤ 2305843009213693952) (h3 : -2305843009213693952 ≤ b) (h4 : b ≤ 2305843009213693952) (h5 : -2305843009213693952 ≤ n) (h6 : n ≤ 2305843009213693952) :
    Calls Try.prog 89 #[.agg #[.int .i64 a, .int .i64 b], .int .i64 n] w fun e w' => e = .returned (.agg #[.int .i64 (a - n), .int .i64 (b + n)]) ∧ ∃ x, w' = over w x := by
  have hc := fun W => c86 a b (-n) n W (by omega) (by omega) (by omega) (by omega)
  have HC := Lib.hid hc
  clear hc
  have hs : ∀ m, w.heap.size + 1 < w.heap.size + 1 + 1 + m := fun m => by omega
  go_enter Try.func89, Try.ntmps89
  go_wp2_with (go_at_call 86; refine (HC.out _).mono ?_; rintro e w' ⟨rfl, x, rfl⟩)
  refine bodyPost_ret (ret45 (g := w.heap.size + 1) (lo := a + -n) (hi := b + n) rfl _ rfl ?_ ?_) rfl ⟨by rw [Int.sub_eq_add_neg], below_over ?_⟩
  · simp [go_sem]
  · simp [go_sem]
  · repeat' (refine below_set ?_ _ _ (by simp <;> omega))
    repeat' (first | exact Below.refl _ _ | (refine below_ov ?_ ?_) | (refine Below.alloc ?_ ?_ _) | (refine below_drewN' ?_ _) | (refine Below.drew ?_) | (refine below_set ?_ _ _ ?_) | (simp; done) | (simp; omega) | omega)
end Go.Proofs.Ytmcnpfjichbijaa

