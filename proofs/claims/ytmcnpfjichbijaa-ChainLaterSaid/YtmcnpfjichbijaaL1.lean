/- The statements' small functions: lists, the same numbers, a thin book, its error, bad ones. -/
import Derived.Test.YtmcnpfjichbijaaR4
import Derived.Test.YtmcnpfjichbijaaC9
import Derived.Deep.AppendSrc
set_option linter.unusedSimpArgs false
set_option linter.unusedVariables false
namespace Go.Proofs.Ytmcnpfjichbijaa
open Go Go.Proofs Go.RowKit Go.Shelf


/-- The same numbers? -/
theorem c26 {A B : Option Addr} {ca cb : Nat} {l m : List Int} {w : World} {S T : Nat → Prop} (hA : numsAt S w A l) (hB : numsAt T w B m) (hl : l.length ≤ 2000) (hm : m.length ≤ 2000) :
    Calls Try.prog 26 #[.slice A l.length ca, .slice B m.length cb] w fun e w' => e = .returned (.bool (decide (l = m))) ∧ ∃ n, w' = w.drewN n := by
  by_cases hlen : l.length = m.length
  · have h0 : ((l.length : Int) != (m.length : Int)) = false := by simp [hlen]
    have HL := Lib.hid hlen
    clear hlen
    go_enter Try.func26, Try.ntmps26
    go_wp2_with fail
    go_loopw [5] (fun t wr => ∃ (i n : Nat), i ≤ l.length ∧ t = .int .i64 i ∧ l.take i = m.take i ∧ wr = w.drewN n) (fun t _ => l.length - (intOf t).toNat)
    case atStart => exact ⟨0, 0, Nat.zero_le _, rfl, by simp, rfl⟩
    case round =>
      obtain ⟨i, n, hi, rfl, ht, rfl⟩ := hrel
      have HT := Lib.hid ht
      clear ht
      have hlm := HL.out
      by_cases hlt : i < l.length
      · have hlt2 : i < m.length := by omega
        obtain ⟨Ba, Oa, eA, _, ha⟩ := hA (by omega)
        obtain ⟨Bb, Ob, eB, _, hb⟩ := hB (by omega)
        obtain ⟨x, hx⟩ : ∃ x, x = l[i] := ⟨_, rfl⟩
        obtain ⟨y, hy⟩ : ∃ y, y = m[i] := ⟨_, rfl⟩
        have ca' := ha i x (by simp [hlt, hx])
        have cb' := hb i y (by simp [hlt2, hy])
        have ix := fun c => @idx26 A Ba Oa l.length c eA i hlt
        have iy := fun c => @idx26 B Bb Ob m.length c eB i hlt2
        have t1 := List.take_succ_eq_append_getElem hlt
        have t2 := List.take_succ_eq_append_getElem hlt2
        rw [← hx] at t1
        rw [← hy] at t2
        have T1 := Lib.hid t1
        have T2 := Lib.hid t2
        have HX := Lib.hid hx
        have HY := Lib.hid hy
        clear eA eB ha hb t1 t2 hx hy hlm
        cases hxy : (x == y)
        · have hne : (x != y) = true := by simp [bne, hxy]
          go_wp2_with fail
          go_quiet (fail)
          go_wp2_with fail
          go_ret
          have : decide (l = m) = false := decide_eq_false fun e => by
            have hx := HX.out; have hy := HY.out
            subst e
            rw [hx, hy] at hxy
            simp at hxy
          exact ⟨by rw [this]; rfl, n + nq, by simp only [World.drewN, Nat.add_assoc]⟩
        · have hne : (x != y) = false := by simp [bne, hxy]
          go_wp2_with fail
          go_quiet (fail)
          go_wp2_with fail
          go_roundw
          case rel => exact ⟨i + 1, _, by omega, by go_num, by rw [T1.out, T2.out, HT.out, show x = y by simpa using hxy], rfl⟩
          case measure => simp [intOf]; omega
      · clear hlm
        go_wp2_with fail
        go_ret
        have h1 := HT.out
        have h2 := HL.out
        rw [List.take_of_length_le (by omega), List.take_of_length_le (by omega)] at h1
        exact ⟨by rw [h1]; simp, n, rfl⟩
  · have h0 : ((l.length : Int) != (m.length : Int)) = true := by simp; omega
    have hd : decide (l = m) = false := decide_eq_false fun e => hlen (by rw [e])
    rw [hd]
    clear hd
    go_enter Try.func26, Try.ntmps26
    go_wp2_with fail
    go_ret
    exact ⟨rfl, 0, rfl⟩

set_option maxRecDepth 100000 in
set_option maxHeartbeats 1000000 in
theorem c17 (Ai Ac : Option Addr) (ci cc ni nc : Nat) (w : World) (h1 : ni ≤ 9223372036854775807) (h2 : nc ≤ 9223372036854775807) :
    Calls Try.prog 17 #[.agg #[.slice Ai ni ci, .slice Ac nc cc]] w fun e w' => e = .returned (.bool (decide (ni ≤ 10) && decide (nc ≤ 28))) ∧ ∃ x, w' = over w x := by
  by_cases h3 : (ni : Int) ≤ 10
  · have h3' : ni ≤ 10 := by omega
    rw [decide_eq_true h3']
    by_cases h4 : (nc : Int) ≤ 28
    · have h4' : nc ≤ 28 := by omega
      rw [decide_eq_true h4']
      go_enter Try.func17, Try.ntmps17
      go_wp2_with fail
      go_ret
      exact ⟨rfl, below_over (by repeat' (first | exact Below.refl _ _ | (refine below_ov ?_ ?_) | (refine Below.alloc ?_ ?_ _) | (refine below_drewN' ?_ _) | (refine Below.drew ?_) | (refine below_set ?_ _ _ ?_) | (simp; done) | (simp; omega) | omega))⟩
    · have h4' : ¬ nc ≤ 28 := by omega
      rw [decide_eq_false h4']
      go_enter Try.func17, Try.ntmps17
      go_wp2_with fail
      go_ret
      exact ⟨rfl, below_over (by repeat' (first | exact Below.refl _ _ | (refine below_ov ?_ ?_) | (refine Below.alloc ?_ ?_ _) | (refine below_drewN' ?_ _) | (refine Below.drew ?_) | (refine below_set ?_ _ _ ?_) | (simp; done) | (simp; omega) | omega))⟩
  · have h3' : ¬ ni ≤ 10 := by omega
    rw [decide_eq_false h3']
    go_enter Try.func17, Try.ntmps17
    go_wp2_with fail
    go_ret
    exact ⟨rfl, below_over (by repeat' (first | exact Below.refl _ _ | (refine below_ov ?_ ?_) | (refine Below.alloc ?_ ?_ _) | (refine below_drewN' ?_ _) | (refine Below.drew ?_) | (refine below_set ?_ _ _ ?_) | (simp; done) | (simp; omega) | omega))⟩

theorem c45a (Ai Ac : Option Addr) (ci cc : Nat) (b : Bk) (w : World) (hA : bookAt (· < w.heap.size) w Ai Ac b) (hl : b.items.length ≤ 1000) (hl2 : b.certs.length ≤ 1000) :
    Calls Try.prog 45 #[.agg #[.slice Ai b.items.length ci, .slice Ac b.certs.length cc]] w fun e w' => e = .returned (.int .i64 (fault b)) ∧ ∃ x, w' = over w x := by
  by_cases h3 : 8 < b.items.length ∨ 24 < b.certs.length
  · rw [fault_three h3]
    exact c45_3 Ai Ac ci cc b w hl hl2 h3
  · exact c45 Ai Ac ci cc b w hA.1 hA.2 h3

theorem bookAt.alloc {w : World} {Ai Ac : Option Addr} {b : Bk} (h : bookAt (· < w.heap.size) w Ai Ac b) (o : Obj) : bookAt (· < (w.alloc o).heap.size) (w.alloc o) Ai Ac b :=
  ⟨(h.1.keep (Keep.alloc _ _ _)).mono fun j hj => by have := hj; simp; omega, (h.2.keep (Keep.alloc _ _ _)).mono fun j hj => by have := hj; simp; omega⟩

set_option maxRecDepth 100000 in
set_option maxHeartbeats 1000000 in
theorem c22 (Ai Ac : Option Addr) (ci cc : Nat) (b : Bk) (w : World) (hA : bookAt (· < w.heap.size) w Ai Ac b) (hl : b.items.length ≤ 1000) (hl2 : b.certs.length ≤ 1000) :
    Calls Try.prog 22 #[.agg #[.slice Ai b.items.length ci, .slice Ac b.certs.length cc]] w fun e w' => e = .returned (.int .i64 (fault b)) ∧ ∃ x, w' = over w x := by
  have hc := c45a Ai Ac ci cc b _ (hA.alloc (.cells #[.slice Ai b.items.length ci, .slice Ac b.certs.length cc] 25)) hl hl2
  have HC := Lib.hid hc
  clear hc hA
  go_enter Try.func22, Try.ntmps22
  go_wp2_with (go_at_call 45; refine HC.out.mono ?_; rintro e w' ⟨rfl, x, rfl⟩)
  go_ret
  exact ⟨rfl, below_over (by repeat' (first | exact Below.refl _ _ | (refine below_ov ?_ ?_) | (refine Below.alloc ?_ ?_ _) | (refine below_drewN' ?_ _) | (refine Below.drew ?_) | (refine below_set ?_ _ _ ?_) | (simp; done) | (simp; omega) | omega))⟩
end Go.Proofs.Ytmcnpfjichbijaa

