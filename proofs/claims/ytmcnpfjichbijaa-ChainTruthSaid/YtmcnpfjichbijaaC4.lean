/- Whether a book is as described: the tests. -/
import Derived.Test.YtmcnpfjichbijaaC1
import Derived.Lib.Hide

set_option linter.unusedSimpArgs false
set_option linter.unusedVariables false
namespace Go.Proofs.Ytmcnpfjichbijaa
open Go Go.Proofs Go.RowKit Go.Shelf

theorem c116 (n : Int) (w : World) : Calls Try.prog 116 #[.int .i64 n] w fun e w' => e = .returned (.bool (inB n (-100000) 100000)) ∧ w' = w := by
  go_enter Try.func116, Try.ntmps116
  go_wp2_with (go_at_call 99; refine (c99 _ _ _ _).mono ?_; rintro e w' ⟨rfl, rfl⟩)
  go_ret
  exact ⟨rfl, rfl⟩
theorem c80 (n : Int) (w : World) : Calls Try.prog 80 #[.int .i64 n] w fun e w' => e = .returned (.bool (inB n 1 999)) ∧ w' = w := by
  go_enter Try.func80, Try.ntmps80
  go_wp2_with (go_at_call 99; refine (c99 _ _ _ _).mono ?_; rintro e w' ⟨rfl, rfl⟩)
  go_ret
  exact ⟨rfl, rfl⟩
theorem c83 (n : Int) (w : World) : Calls Try.prog 83 #[.int .i64 n] w fun e w' => e = .returned (.bool (inB n 0 1000)) ∧ w' = w := by
  go_enter Try.func83, Try.ntmps83
  go_wp2_with (go_at_call 99; refine (c99 _ _ _ _).mono ?_; rintro e w' ⟨rfl, rfl⟩)
  go_ret
  exact ⟨rfl, rfl⟩
theorem c82 (Ai Ac : Option Addr) (ni ci nc cc : Nat) (n : Int) (w : World) (hn : ni ≤ 100) :
    Calls Try.prog 82 #[.agg #[.slice Ai ni ci, .slice Ac nc cc], .int .i64 n] w fun e w' => e = .returned (.bool (inB n 0 ((ni : Int) - 1))) ∧ ∃ x, w' = over w x := by
  go_enter Try.func82, Try.ntmps82
  go_wp2_with (go_at_call 99; refine (c99 _ _ _ _).mono ?_; rintro e w' ⟨rfl, rfl⟩)
  go_ret
  exact ⟨rfl, below_over ((Below.refl _ _).alloc (Nat.le_refl _) _)⟩
theorem c107 (lo hi : Int) (w : World) : Calls Try.prog 107 #[.agg #[.int .i64 lo, .int .i64 hi]] w fun e w' => e = .returned (.bool (spanOk ⟨lo, hi⟩)) ∧ ∃ x, w' = over w x := by
  cases h1 : inB lo (-100000) 100000 <;> cases h2 : inB hi (-100000) 100000
  all_goals
    go_enter Try.func107, Try.ntmps107
    go_wp2_with (go_at_call 116; refine (c116 _ _).mono ?_; rintro e w' ⟨rfl, rfl⟩)
    all_goals
      go_ret
      exact ⟨by simp [spanOk, h1, h2], below_over ((Below.refl _ _).alloc (Nat.le_refl _) _)⟩
theorem c94 (d : Int) (s : Bool) (lo hi : Int) (w : World) : Calls Try.prog 94 #[.agg #[.int .i64 d, .bool s, .int .i64 lo, .int .i64 hi]] w fun e w' => e = .returned (.bool (itmOk ⟨d, s, ⟨lo, hi⟩⟩)) ∧ ∃ x, w' = over w x := by
  cases h1 : inB d 0 100 <;> cases h2 : spanOk ⟨lo, hi⟩ <;> cases s
  all_goals
    have H : Hid (∀ s, itmOk ⟨d, s, ⟨lo, hi⟩⟩ = (inB d 0 100 && spanOk ⟨lo, hi⟩ && (s || (lo == 0 && hi == 0)))) := fun s => rfl
    rw [h1, h2] at H
    go_enter Try.func94, Try.ntmps94
    go_wp2_with (first | (go_at_call 99; refine (c99 _ _ _ _).mono ?_; rintro e w' ⟨rfl, rfl⟩) | (go_at_call 107; refine (c107 _ _ _).mono ?_; rintro e w' ⟨rfl, x, rfl⟩))
    all_goals try go_ret
    all_goals refine ⟨by rw [H.out]; simp [*], below_over ?_⟩
    all_goals repeat' (first | exact Below.refl _ _ | (refine below_ov ?_ ?_) | (refine Below.alloc ?_ ?_ _) | (refine below_drewN' ?_ _) | (refine Below.drew ?_) | (refine below_set ?_ _ _ ?_) | (simp; done) | (simp; omega) | omega)
theorem bne_eq (a b : Int) : (a != b) = !(a == b) := rfl

set_option maxRecDepth 100000 in
set_option maxHeartbeats 1000000 in
theorem c96 (Ai Ac : Option Addr) (ci cc : Nat) (items : List Itm) (certs : List Crt) (nc : Nat) (n i b d v lo hi : Int) (w : World) (hI : itemsAt (· < w.heap.size) w Ai items) (hlen : items.length ≤ 100) :
    Calls Try.prog 96 #[.agg #[.slice Ai items.length ci, .slice Ac nc cc], .agg #[.int .i64 n, .int .i64 i, .int .i64 b, .int .i64 d, .int .i64 v, .int .i64 lo, .int .i64 hi]] w
      fun e w' => e = .returned (.bool (crtOk ⟨items, certs⟩ ⟨n, i, b, d, v, ⟨lo, hi⟩⟩)) ∧ ∃ x, w' = over w x := by
  have H : Hid (crtOk ⟨items, certs⟩ ⟨n, i, b, d, v, ⟨lo, hi⟩⟩ = (inB n 1 999 && inB i 0 ((items.length : Int) - 1) && !stdOf ⟨items, certs⟩ i && inB b 0 ((items.length : Int) - 1) && !(b == i) && inB d 0 1000 && inB v 0 1000 && spanOk ⟨lo, hi⟩)) := rfl
  cases h1 : inB n 1 999
  · rw [h1] at H
    go_enter Try.func96, Try.ntmps96
    go_wp2_with (first | (go_at_call 80; refine (c80 _ _).mono ?_; rintro e w' ⟨rfl, rfl⟩) | (go_at_call 83; refine (c83 _ _).mono ?_; rintro e w' ⟨rfl, rfl⟩) | (go_at_call 107; refine (c107 _ _ _).mono ?_; rintro e w' ⟨rfl, x, rfl⟩) | (go_at_call 82; refine (c82 _ _ _ _ _ _ _ _ (by omega)).mono ?_; rintro e w' ⟨rfl, x, rfl⟩))
    go_ret
    exact ⟨by rw [H.out]; simp, below_over (by repeat' (first | exact Below.refl _ _ | (refine below_ov ?_ ?_) | (refine Below.alloc ?_ ?_ _) | (refine below_drewN' ?_ _) | (refine Below.drew ?_) | (refine below_set ?_ _ _ ?_) | (simp; done) | (simp; omega) | omega))⟩
  · rw [h1] at H
    cases h2 : inB i 0 ((items.length : Int) - 1)
    · rw [h2] at H
      go_enter Try.func96, Try.ntmps96
      go_wp2_with (first | (go_at_call 80; refine (c80 _ _).mono ?_; rintro e w' ⟨rfl, rfl⟩) | (go_at_call 83; refine (c83 _ _).mono ?_; rintro e w' ⟨rfl, rfl⟩) | (go_at_call 107; refine (c107 _ _ _).mono ?_; rintro e w' ⟨rfl, x, rfl⟩) | (go_at_call 82; refine (c82 _ _ _ _ _ _ _ _ (by omega)).mono ?_; rintro e w' ⟨rfl, x, rfl⟩))
      go_ret
      exact ⟨by rw [H.out]; simp, below_over (by repeat' (first | exact Below.refl _ _ | (refine below_ov ?_ ?_) | (refine Below.alloc ?_ ?_ _) | (refine below_drewN' ?_ _) | (refine Below.drew ?_) | (refine below_set ?_ _ _ ?_) | (simp; done) | (simp; omega) | omega))⟩
    · rw [h2] at H
      obtain ⟨hi0, hi1⟩ : 0 ≤ i ∧ i ≤ (items.length : Int) - 1 := by simpa [inB] using h2
      obtain ⟨j, rfl⟩ := Int.eq_ofNat_of_zero_le hi0
      obtain ⟨bi, oi, eA, hS, hc⟩ := hI (by omega)
      have hj : j < items.length := by omega
      obtain ⟨hc1, hc2, hc3, hc4⟩ := hc j items[j] (by simp [hj])
      have hix := fun c => @idx32 Ai bi oi items.length c eA j hj
      have hst : stdOf ⟨items, certs⟩ (j : Int) = items[j].std := by unfold stdOf; simp [hj]
      clear hc eA
      have hl := lt_of_cell hc2
      have hl1 : bi < w.heap.size + 1 := by omega
      have hl2 : bi < w.heap.size + 1 + 1 := by omega
      have s1 : ∀ m, bi < w.heap.size + 1 + 1 + m := fun m => by omega
      have s2 : ∀ m, w.heap.size < w.heap.size + 1 + 1 + m := fun m => by omega
      have s3 : ∀ m, w.heap.size + 1 < w.heap.size + 1 + 1 + m := fun m => by omega
      cases h3 : stdOf ⟨items, certs⟩ (j : Int)
      · rw [h3] at H
        rw [← hst, h3] at hc2
        clear hst
        cases h4 : inB b 0 ((items.length : Int) - 1)
        · rw [h4] at H
          go_enter Try.func96, Try.ntmps96
          go_wp2_with (first | (go_at_call 80; refine (c80 _ _).mono ?_; rintro e w' ⟨rfl, rfl⟩) | (go_at_call 83; refine (c83 _ _).mono ?_; rintro e w' ⟨rfl, rfl⟩) | (go_at_call 107; refine (c107 _ _ _).mono ?_; rintro e w' ⟨rfl, x, rfl⟩) | (go_at_call 82; refine (c82 _ _ _ _ _ _ _ _ (by omega)).mono ?_; rintro e w' ⟨rfl, x, rfl⟩))
          go_ret
          exact ⟨by rw [H.out]; simp, below_over (by repeat' (first | exact Below.refl _ _ | (refine below_ov ?_ ?_) | (refine Below.alloc ?_ ?_ _) | (refine below_drewN' ?_ _) | (refine Below.drew ?_) | (refine below_set ?_ _ _ ?_) | (simp; done) | (simp; omega) | omega))⟩
        · rw [h4] at H
          cases h5 : (b == (j : Int))
          · rw [h5] at H
            have h5' := bne_eq b (j : Int)
            rw [h5] at h5'
            simp only [Bool.not_true, Bool.not_false] at h5'
            cases h6 : inB d 0 1000
            · rw [h6] at H
              go_enter Try.func96, Try.ntmps96
              go_wp2_with (first | (go_at_call 80; refine (c80 _ _).mono ?_; rintro e w' ⟨rfl, rfl⟩) | (go_at_call 83; refine (c83 _ _).mono ?_; rintro e w' ⟨rfl, rfl⟩) | (go_at_call 107; refine (c107 _ _ _).mono ?_; rintro e w' ⟨rfl, x, rfl⟩) | (go_at_call 82; refine (c82 _ _ _ _ _ _ _ _ (by omega)).mono ?_; rintro e w' ⟨rfl, x, rfl⟩))
              go_ret
              exact ⟨by rw [H.out]; simp, below_over (by repeat' (first | exact Below.refl _ _ | (refine below_ov ?_ ?_) | (refine Below.alloc ?_ ?_ _) | (refine below_drewN' ?_ _) | (refine Below.drew ?_) | (refine below_set ?_ _ _ ?_) | (simp; done) | (simp; omega) | omega))⟩
            · rw [h6] at H
              cases h7 : inB v 0 1000
              · rw [h7] at H
                go_enter Try.func96, Try.ntmps96
                go_wp2_with (first | (go_at_call 80; refine (c80 _ _).mono ?_; rintro e w' ⟨rfl, rfl⟩) | (go_at_call 83; refine (c83 _ _).mono ?_; rintro e w' ⟨rfl, rfl⟩) | (go_at_call 107; refine (c107 _ _ _).mono ?_; rintro e w' ⟨rfl, x, rfl⟩) | (go_at_call 82; refine (c82 _ _ _ _ _ _ _ _ (by omega)).mono ?_; rintro e w' ⟨rfl, x, rfl⟩))
                go_ret
                exact ⟨by rw [H.out]; simp, below_over (by repeat' (first | exact Below.refl _ _ | (refine below_ov ?_ ?_) | (refine Below.alloc ?_ ?_ _) | (refine below_drewN' ?_ _) | (refine Below.drew ?_) | (refine below_set ?_ _ _ ?_) | (simp; done) | (simp; omega) | omega))⟩
              · rw [h7] at H
                cases h8 : spanOk ⟨lo, hi⟩
                · rw [h8] at H
                  go_enter Try.func96, Try.ntmps96
                  go_wp2_with (first | (go_at_call 80; refine (c80 _ _).mono ?_; rintro e w' ⟨rfl, rfl⟩) | (go_at_call 83; refine (c83 _ _).mono ?_; rintro e w' ⟨rfl, rfl⟩) | (go_at_call 107; refine (c107 _ _ _).mono ?_; rintro e w' ⟨rfl, x, rfl⟩) | (go_at_call 82; refine (c82 _ _ _ _ _ _ _ _ (by omega)).mono ?_; rintro e w' ⟨rfl, x, rfl⟩))
                  go_ret
                  exact ⟨by rw [H.out]; simp, below_over (by repeat' (first | exact Below.refl _ _ | (refine below_ov ?_ ?_) | (refine Below.alloc ?_ ?_ _) | (refine below_drewN' ?_ _) | (refine Below.drew ?_) | (refine below_set ?_ _ _ ?_) | (simp; done) | (simp; omega) | omega))⟩
                · rw [h8] at H
                  go_enter Try.func96, Try.ntmps96
                  go_wp2_with (first | (go_at_call 80; refine (c80 _ _).mono ?_; rintro e w' ⟨rfl, rfl⟩) | (go_at_call 83; refine (c83 _ _).mono ?_; rintro e w' ⟨rfl, rfl⟩) | (go_at_call 107; refine (c107 _ _ _).mono ?_; rintro e w' ⟨rfl, x, rfl⟩) | (go_at_call 82; refine (c82 _ _ _ _ _ _ _ _ (by omega)).mono ?_; rintro e w' ⟨rfl, x, rfl⟩))
                  go_ret
                  exact ⟨by rw [H.out]; simp, below_over (by repeat' (first | exact Below.refl _ _ | (refine below_ov ?_ ?_) | (refine Below.alloc ?_ ?_ _) | (refine below_drewN' ?_ _) | (refine Below.drew ?_) | (refine below_set ?_ _ _ ?_) | (simp; done) | (simp; omega) | omega))⟩
          · rw [h5] at H
            have h5' := bne_eq b (j : Int)
            rw [h5] at h5'
            simp only [Bool.not_true, Bool.not_false] at h5'
            go_enter Try.func96, Try.ntmps96
            go_wp2_with (first | (go_at_call 80; refine (c80 _ _).mono ?_; rintro e w' ⟨rfl, rfl⟩) | (go_at_call 83; refine (c83 _ _).mono ?_; rintro e w' ⟨rfl, rfl⟩) | (go_at_call 107; refine (c107 _ _ _).mono ?_; rintro e w' ⟨rfl, x, rfl⟩) | (go_at_call 82; refine (c82 _ _ _ _ _ _ _ _ (by omega)).mono ?_; rintro e w' ⟨rfl, x, rfl⟩))
            go_ret
            exact ⟨by rw [H.out]; simp, below_over (by repeat' (first | exact Below.refl _ _ | (refine below_ov ?_ ?_) | (refine Below.alloc ?_ ?_ _) | (refine below_drewN' ?_ _) | (refine Below.drew ?_) | (refine below_set ?_ _ _ ?_) | (simp; done) | (simp; omega) | omega))⟩
      · rw [h3] at H
        rw [← hst, h3] at hc2
        clear hst
        go_enter Try.func96, Try.ntmps96
        go_wp2_with (first | (go_at_call 80; refine (c80 _ _).mono ?_; rintro e w' ⟨rfl, rfl⟩) | (go_at_call 83; refine (c83 _ _).mono ?_; rintro e w' ⟨rfl, rfl⟩) | (go_at_call 107; refine (c107 _ _ _).mono ?_; rintro e w' ⟨rfl, x, rfl⟩) | (go_at_call 82; refine (c82 _ _ _ _ _ _ _ _ (by omega)).mono ?_; rintro e w' ⟨rfl, x, rfl⟩))
        go_ret
        exact ⟨by rw [H.out]; simp, below_over (by repeat' (first | exact Below.refl _ _ | (refine below_ov ?_ ?_) | (refine Below.alloc ?_ ?_ _) | (refine below_drewN' ?_ _) | (refine Below.drew ?_) | (refine below_set ?_ _ _ ?_) | (simp; done) | (simp; omega) | omega))⟩
end Go.Proofs.Ytmcnpfjichbijaa


/- A list is tested by a function. -/
set_option linter.unusedSimpArgs false
set_option linter.unusedVariables false
namespace Go.Proofs.Ytmcnpfjichbijaa
open Go Go.Proofs Go.RowKit Go.Shelf


/-- The value of an item. -/
def itmV (x : Itm) : Value := .agg #[.int .i64 x.drift, .bool x.std, .int .i64 x.val.lo, .int .i64 x.val.hi]

/-- A function that tells p of what is encoded, whatever the call makes beside. -/
def FnAt {α : Type} (w : World) (f : Nat) (first cap : Array Value) (enc : α → Value) (p : α → Bool) (xs : List α) : Prop :=
  ∀ x ∈ xs, ∀ y, Calls Try.prog f (first.push (enc x) ++ cap) (over w y) fun e w' => e = .returned (.bool (p x)) ∧ ∃ z, w' = over (over w y) z

/-- The place of the first one, or -1. -/
def findI {α : Type} (p : α → Bool) (xs : List α) : Int := match xs.findIdx? p with | some i => i | none => -1

theorem findI_none {α : Type} {p : α → Bool} {xs : List α} (h : ∀ x ∈ xs, p x = false) : findI p xs = -1 := by
  unfold findI
  rw [List.findIdx?_eq_none_iff.2 (by simpa using h)]

theorem findI_some {α : Type} {p : α → Bool} {xs : List α} {i : Nat} (hi : i < xs.length) (hp : p xs[i] = true) (h : ∀ x ∈ xs.take i, p x = false) : findI p xs = i := by
  unfold findI
  rw [List.findIdx?_eq_some_iff_getElem.2 ⟨hi, hp, fun j hj => by
    have := h xs[j] (List.mem_iff_getElem.2 ⟨j, by simp; omega, by simp⟩)
    simp [this]⟩]

theorem findI_ge {α : Type} (p : α → Bool) (xs : List α) : decide (0 ≤ findI p xs) = xs.any p := by
  unfold findI
  cases h : xs.findIdx? p with
  | none =>
    have := List.findIdx?_eq_none_iff.1 h
    have h2 : xs.any p = false := List.any_eq_false.2 fun x hx => by simp [this x hx]
    simp [h2]
  | some i =>
    have ⟨hi, hp, _⟩ := List.findIdx?_eq_some_iff_getElem.1 h
    have h2 : xs.any p = true := List.any_eq_true.2 ⟨xs[i], List.getElem_mem hi, hp⟩
    simp [h2]

set_option maxRecDepth 100000 in
set_option maxHeartbeats 1000000 in
theorem c115 (f : Nat) (hent : ∀ args w, (callFunc f args).run Try.prog w = .ok (.enter f args) w) (first cap : Array Value) (xs : List Itm) (p : Itm → Bool) (A : Option Addr) (c : Nat) (w : World)
    (hA : itemsAt (· < w.heap.size) w A xs) (hf : FnAt w f first cap itmV p xs) (hl : xs.length ≤ 100) :
    Calls Try.prog 115 #[.slice A xs.length c, .func (.func f) first cap] w fun e w' => e = .returned (.int .i64 (findI p xs)) ∧ ∃ y, w' = over w y := by
  go_enter Try.func115, Try.ntmps115
  go_wp2_with fail
  go_loopw [8] (fun t wr => ∃ (i : Nat) (y : World), i ≤ xs.length ∧ t = .int .i64 i ∧ (∀ x ∈ xs.take i, p x = false) ∧ wr = over w y) (fun t _ => xs.length - (intOf t).toNat)
  case atStart =>
    obtain ⟨y, hy⟩ := over_refl w
    exact ⟨0, y, Nat.zero_le _, rfl, by simp, hy⟩
  case round =>
    obtain ⟨i, y, hi, rfl, hno, rfl⟩ := hrel
    have HN := Lib.hid hno
    clear hno
    by_cases hlt : i < xs.length
    · obtain ⟨b, o, eA, hb, hc⟩ := hA (by omega)
      obtain ⟨q, hq⟩ : ∃ q, q = xs[i] := ⟨_, rfl⟩
      have hqm : q ∈ xs := by rw [hq]; exact List.getElem_mem hlt
      obtain ⟨h1, h2, h3, h4⟩ := hc i q (by simp [hlt, hq])
      have hix := fun c => @idx32 A b o xs.length c eA i hlt
      have hfq := hf q hqm y
      have HQ := Lib.hid hq
      clear hc eA hq hqm
      simp only [itmV] at hfq
      have HF := Lib.hid hfq
      clear hfq
      go_wp2_with fail
      refine HF.out.mono ?_
      rintro e w1 ⟨rfl, z, rfl⟩
      cases hp : p q
      · have hno' : ∀ x ∈ xs.take (i + 1), p x = false := fun x hx => by
          rw [List.take_succ_eq_append_getElem hlt] at hx
          rcases List.mem_append.1 hx with h | h
          · exact HN.out x h
          · rw [List.mem_singleton.1 h, ← HQ.out]; exact hp
        have HP := Lib.hid hno'
        clear hno'
        go_wp2_with fail
        go_roundw
        case rel => exact ⟨i + 1, _, by omega, by go_num, HP.out, rfl⟩
        case measure => simp [intOf]; omega
      · go_wp2_with fail
        go_ret
        refine ⟨?_, _, rfl⟩
        rw [findI_some hlt (by rw [← HQ.out]; exact hp) HN.out]
        rfl
    · go_wp2_with fail
      go_ret
      refine ⟨?_, y, rfl⟩
      rw [findI_none (by have := HN.out; rwa [List.take_of_length_le (by omega)] at this)]
      rfl
set_option maxRecDepth 100000 in
set_option maxHeartbeats 1000000 in
theorem c98 (f : Nat) (hent : ∀ args w, (callFunc f args).run Try.prog w = .ok (.enter f args) w) (first cap : Array Value) (xs : List Crt) (p : Crt → Bool) (A : Option Addr) (c : Nat) (w : World)
    (hA : certsAt (· < w.heap.size) w A xs) (hf : FnAt w f first cap crtV p xs) (hl : xs.length ≤ 100) :
    Calls Try.prog 98 #[.slice A xs.length c, .func (.func f) first cap] w fun e w' => e = .returned (.int .i64 (findI p xs)) ∧ ∃ y, w' = over w y := by
  go_enter Try.func98, Try.ntmps98
  go_wp2_with fail
  go_loopw [8] (fun t wr => ∃ (i : Nat) (y : World), i ≤ xs.length ∧ t = .int .i64 i ∧ (∀ x ∈ xs.take i, p x = false) ∧ wr = over w y) (fun t _ => xs.length - (intOf t).toNat)
  case atStart =>
    obtain ⟨y, hy⟩ := over_refl w
    exact ⟨0, y, Nat.zero_le _, rfl, by simp, hy⟩
  case round =>
    obtain ⟨i, y, hi, rfl, hno, rfl⟩ := hrel
    have HN := Lib.hid hno
    clear hno
    by_cases hlt : i < xs.length
    · obtain ⟨b, o, eA, hb, hc⟩ := hA (by omega)
      obtain ⟨q, hq⟩ : ∃ q, q = xs[i] := ⟨_, rfl⟩
      have hqm : q ∈ xs := by rw [hq]; exact List.getElem_mem hlt
      obtain ⟨h1, h2, h3, h4, h5, h6, h7⟩ := hc i q (by simp [hlt, hq])
      have hix := fun c => @idx33 A b o xs.length c eA i hlt
      have hfq := hf q hqm y
      have HQ := Lib.hid hq
      clear hc eA hq hqm
      simp only [crtV] at hfq
      have HF := Lib.hid hfq
      clear hfq
      go_wp2_with fail
      refine HF.out.mono ?_
      rintro e w1 ⟨rfl, z, rfl⟩
      cases hp : p q
      · have hno' : ∀ x ∈ xs.take (i + 1), p x = false := fun x hx => by
          rw [List.take_succ_eq_append_getElem hlt] at hx
          rcases List.mem_append.1 hx with h | h
          · exact HN.out x h
          · rw [List.mem_singleton.1 h, ← HQ.out]; exact hp
        have HP := Lib.hid hno'
        clear hno'
        go_wp2_with fail
        go_roundw
        case rel => exact ⟨i + 1, _, by omega, by go_num, HP.out, rfl⟩
        case measure => simp [intOf]; omega
      · go_wp2_with fail
        go_ret
        refine ⟨?_, _, rfl⟩
        rw [findI_some hlt (by rw [← HQ.out]; exact hp) HN.out]
        rfl
    · go_wp2_with fail
      go_ret
      refine ⟨?_, y, rfl⟩
      rw [findI_none (by have := HN.out; rwa [List.take_of_length_le (by omega)] at this)]
      rfl
set_option maxRecDepth 100000 in
set_option maxHeartbeats 1000000 in
theorem c81 (f : Nat) (hent : ∀ args w, (callFunc f args).run Try.prog w = .ok (.enter f args) w) (first cap : Array Value) (xs : List Int) (p : Int → Bool) (A : Option Addr) (c : Nat) (w : World)
    (hA : numsAt (· < w.heap.size) w A xs) (hf : FnAt w f first cap (fun n => .int .i64 n) p xs) (hl : xs.length ≤ 100) :
    Calls Try.prog 81 #[.slice A xs.length c, .func (.func f) first cap] w fun e w' => e = .returned (.int .i64 (findI p xs)) ∧ ∃ y, w' = over w y := by
  go_enter Try.func81, Try.ntmps81
  go_wp2_with fail
  go_loopw [8] (fun t wr => ∃ (i : Nat) (y : World), i ≤ xs.length ∧ t = .int .i64 i ∧ (∀ x ∈ xs.take i, p x = false) ∧ wr = over w y) (fun t _ => xs.length - (intOf t).toNat)
  case atStart =>
    obtain ⟨y, hy⟩ := over_refl w
    exact ⟨0, y, Nat.zero_le _, rfl, by simp, hy⟩
  case round =>
    obtain ⟨i, y, hi, rfl, hno, rfl⟩ := hrel
    have HN := Lib.hid hno
    clear hno
    by_cases hlt : i < xs.length
    · obtain ⟨b, o, eA, hb, hc⟩ := hA (by omega)
      obtain ⟨q, hq⟩ : ∃ q, q = xs[i] := ⟨_, rfl⟩
      have hqm : q ∈ xs := by rw [hq]; exact List.getElem_mem hlt
      have h1 := hc i q (by simp [hlt, hq])
      have hix := fun c => @idx26 A b o xs.length c eA i hlt
      have hfq := hf q hqm y
      have HQ := Lib.hid hq
      clear hc eA hq hqm
      have HF := Lib.hid hfq
      clear hfq
      go_wp2_with fail
      refine HF.out.mono ?_
      rintro e w1 ⟨rfl, z, rfl⟩
      cases hp : p q
      · have hno' : ∀ x ∈ xs.take (i + 1), p x = false := fun x hx => by
          rw [List.take_succ_eq_append_getElem hlt] at hx
          rcases List.mem_append.1 hx with h | h
          · exact HN.out x h
          · rw [List.mem_singleton.1 h, ← HQ.out]; exact hp
        have HP := Lib.hid hno'
        clear hno'
        go_wp2_with fail
        go_roundw
        case rel => exact ⟨i + 1, _, by omega, by go_num, HP.out, rfl⟩
        case measure => simp [intOf]; omega
      · go_wp2_with fail
        go_ret
        refine ⟨?_, _, rfl⟩
        rw [findI_some hlt (by rw [← HQ.out]; exact hp) HN.out]
        rfl
    · go_wp2_with fail
      go_ret
      refine ⟨?_, y, rfl⟩
      rw [findI_none (by have := HN.out; rwa [List.take_of_length_le (by omega)] at this)]
      rfl

set_option maxRecDepth 100000 in
set_option maxHeartbeats 1000000 in
theorem c105 (f : Nat) (hent : ∀ args w, (callFunc f args).run Try.prog w = .ok (.enter f args) w) (first cap : Array Value) (xs : List Itm) (p : Itm → Bool) (A : Option Addr) (c : Nat) (w : World)
    (hA : itemsAt (· < w.heap.size) w A xs) (hf : FnAt w f first cap itmV p xs) (hl : xs.length ≤ 100) :
    Calls Try.prog 105 #[.slice A xs.length c, .func (.func f) first cap] w fun e w' => e = .returned (.bool (xs.any p)) ∧ ∃ y, w' = over w y := by
  have hi := findI_ge p xs
  have HI := Lib.hid hi
  clear hi
  cases h : xs.any p
  all_goals
    rw [h] at HI
    have HX := Lib.hid HI.out
    have hI2 := HI.out
    clear h
    go_enter Try.func105, Try.ntmps105
    go_wp2_with (go_at_call 115; refine (c115 f hent first cap xs p A c _ hA hf hl).mono ?_; rintro e w' ⟨rfl, x, rfl⟩)
    go_ret
    exact ⟨rfl, _, rfl⟩
set_option maxRecDepth 100000 in
set_option maxHeartbeats 1000000 in
theorem c108 (f : Nat) (hent : ∀ args w, (callFunc f args).run Try.prog w = .ok (.enter f args) w) (first cap : Array Value) (xs : List Crt) (p : Crt → Bool) (A : Option Addr) (c : Nat) (w : World)
    (hA : certsAt (· < w.heap.size) w A xs) (hf : FnAt w f first cap crtV p xs) (hl : xs.length ≤ 100) :
    Calls Try.prog 108 #[.slice A xs.length c, .func (.func f) first cap] w fun e w' => e = .returned (.bool (xs.any p)) ∧ ∃ y, w' = over w y := by
  have hi := findI_ge p xs
  have HI := Lib.hid hi
  clear hi
  cases h : xs.any p
  all_goals
    rw [h] at HI
    have HX := Lib.hid HI.out
    have hI2 := HI.out
    clear h
    go_enter Try.func108, Try.ntmps108
    go_wp2_with (go_at_call 98; refine (c98 f hent first cap xs p A c _ hA hf hl).mono ?_; rintro e w' ⟨rfl, x, rfl⟩)
    go_ret
    exact ⟨rfl, _, rfl⟩

theorem all_any {α : Type} (p : α → Bool) : ∀ xs : List α, xs.all p = !xs.any fun x => !p x
  | [] => rfl
  | x :: xs => by rw [List.all_cons, List.any_cons, all_any p xs]; cases p x <;> rfl

theorem alloc_over (w y : World) (o : Obj) : (over w y).alloc o = over w { y with heap := y.heap.push o } := by
  show ({ over w y with heap := (w.heap ++ y.heap).push o } : World) = { w with heap := w.heap ++ y.heap.push o, drawn := y.drawn }
  rw [← Array.append_push]
  rfl

theorem alloc_is_over (w : World) (o : Obj) : w.alloc o = over w { w with heap := #[o] } := by
  show ({ w with heap := w.heap.push o } : World) = { w with heap := w.heap ++ #[o], drawn := w.drawn }
  rw [← Array.push_eq_append]

theorem FnAt.over {α : Type} {w : World} {f : Nat} {first cap : Array Value} {enc : α → Value} {p : α → Bool} {xs : List α} (h : FnAt w f first cap enc p xs) (z : World) : FnAt (over w z) f first cap enc p xs := fun x hx y => by
  refine (show Calls Try.prog f (first.push (enc x) ++ cap) (Ytmcnpfjichbijaa.over (Ytmcnpfjichbijaa.over w z) y) _ by rw [over_over]; exact h x hx _).mono ?_
  rintro e w' ⟨rfl, u, rfl⟩
  exact ⟨rfl, u, by rw [over_over w z y]⟩

set_option maxRecDepth 100000 in
set_option maxHeartbeats 1000000 in
theorem c106 (f : Nat) (hent : ∀ args w, (callFunc f args).run Try.prog w = .ok (.enter f args) w) (first cap : Array Value) (B : Nat) (w : World)
    (hB : w.cell? ⟨B, 0, none⟩ = some (.func (.func f) first cap)) (xs : List Itm) (p : Itm → Bool) (hf : FnAt w f first cap itmV p xs) :
    FnAt w 106 #[] #[.pointer (some ⟨B, 0, none⟩)] itmV (fun x => !p x) xs := fun q hq y => by
  have hl := lt_of_cell hB
  have hfq := hf q hq { y with heap := y.heap.push (.cells #[.int .i64 q.drift, .bool q.std, .int .i64 q.val.lo, .int .i64 q.val.hi] 103) }
  rw [← alloc_over] at hfq
  simp only [itmV] at hfq ⊢
  have HF := Lib.hid hfq
  have hs : ∀ m, B < w.heap.size + m := fun m => by omega
  have hs2 : ∀ m k, B < w.heap.size + m + k := fun m k => by omega
  clear hfq hf
  change Calls Try.prog 106 #[.agg #[.int .i64 q.drift, .bool q.std, .int .i64 q.val.lo, .int .i64 q.val.hi], .pointer (some ⟨B, 0, none⟩)] _ _
  cases hp : p q
  all_goals
    rw [hp] at HF
    go_enter Try.func106, Try.ntmps106
    go_wp2_with fail
    refine HF.out.mono ?_
    rintro e w1 ⟨rfl, z, rfl⟩
    go_wp2_with fail
    go_ret
    refine ⟨rfl, below_over ?_⟩
    repeat' (first | exact Below.refl _ _ | (refine below_ov ?_ ?_) | (refine Below.alloc ?_ ?_ _) | (refine below_drewN' ?_ _) | (refine Below.drew ?_) | (refine below_set ?_ _ _ ?_) | (simp; done) | (simp; omega) | omega)

set_option maxRecDepth 100000 in
set_option maxHeartbeats 1000000 in
theorem c93 (f : Nat) (hent : ∀ args w, (callFunc f args).run Try.prog w = .ok (.enter f args) w) (first cap : Array Value) (xs : List Itm) (p : Itm → Bool) (A : Option Addr) (c : Nat) (w : World)
    (hA : itemsAt (· < w.heap.size) w A xs) (hf : FnAt w f first cap itmV p xs) (hl : xs.length ≤ 100) :
    Calls Try.prog 93 #[.slice A xs.length c, .func (.func f) first cap] w fun e w' => e = .returned (.bool (xs.all p)) ∧ ∃ y, w' = over w y := by
  have hB : (w.alloc (.cells #[.func (.func f) first cap] 142)).cell? ⟨w.heap.size, 0, none⟩ = some (.func (.func f) first cap) := by simp
  have hf2 : FnAt (w.alloc (.cells #[.func (.func f) first cap] 142)) f first cap itmV p xs := by rw [alloc_is_over]; exact hf.over _
  have hA2 : itemsAt (· < (w.alloc (.cells #[.func (.func f) first cap] 142)).heap.size) (w.alloc (.cells #[.func (.func f) first cap] 142)) A xs :=
    (hA.keep (Keep.alloc _ _ _)).mono fun j hj => by show j < (w.alloc _).heap.size; rw [World.size_alloc]; exact Nat.lt_succ_of_lt hj
  have hc := c105 106 (enters_of Try.func106 (by kernel_rfl) rfl) #[] #[.pointer (some ⟨w.heap.size, 0, none⟩)] xs (fun x => !p x) A c _ hA2 (c106 f hent first cap _ _ hB xs p hf2) hl
  have HC := Lib.hid hc
  have hall : xs.all p = !xs.any fun x => !p x := all_any p xs
  have HAL := Lib.hid hall
  clear hc hall hB hf2 hA2
  go_enter Try.func93, Try.ntmps93
  go_wp2_with fail
  refine HC.out.mono ?_
  rintro e w1 ⟨rfl, z, rfl⟩
  cases hp : xs.any fun x => !p x
  all_goals
    rw [hp] at HAL
    go_wp2_with fail
    go_ret
    refine ⟨by rw [HAL.out]; rfl, below_over ?_⟩
    repeat' (first | exact Below.refl _ _ | (refine below_ov ?_ ?_) | (refine Below.alloc ?_ ?_ _) | (refine below_drewN' ?_ _) | (refine Below.drew ?_) | (refine below_set ?_ _ _ ?_) | (simp; done) | (simp; omega) | omega)
set_option maxRecDepth 100000 in
set_option maxHeartbeats 1000000 in
theorem c109 (f : Nat) (hent : ∀ args w, (callFunc f args).run Try.prog w = .ok (.enter f args) w) (first cap : Array Value) (B : Nat) (w : World)
    (hB : w.cell? ⟨B, 0, none⟩ = some (.func (.func f) first cap)) (xs : List Crt) (p : Crt → Bool) (hf : FnAt w f first cap crtV p xs) :
    FnAt w 109 #[] #[.pointer (some ⟨B, 0, none⟩)] crtV (fun x => !p x) xs := fun q hq y => by
  have hl := lt_of_cell hB
  have hfq := hf q hq { y with heap := y.heap.push (.cells #[.int .i64 q.num, .int .i64 q.item, .int .i64 q.by_, .int .i64 q.day, .int .i64 q.valid, .int .i64 q.diff.lo, .int .i64 q.diff.hi] 90) }
  rw [← alloc_over] at hfq
  simp only [crtV] at hfq ⊢
  have HF := Lib.hid hfq
  have hs : ∀ m, B < w.heap.size + m := fun m => by omega
  have hs2 : ∀ m k, B < w.heap.size + m + k := fun m k => by omega
  clear hfq hf
  change Calls Try.prog 109 #[.agg #[.int .i64 q.num, .int .i64 q.item, .int .i64 q.by_, .int .i64 q.day, .int .i64 q.valid, .int .i64 q.diff.lo, .int .i64 q.diff.hi], .pointer (some ⟨B, 0, none⟩)] _ _
  cases hp : p q
  all_goals
    rw [hp] at HF
    go_enter Try.func109, Try.ntmps109
    go_wp2_with fail
    refine HF.out.mono ?_
    rintro e w1 ⟨rfl, z, rfl⟩
    go_wp2_with fail
    go_ret
    refine ⟨rfl, below_over ?_⟩
    repeat' (first | exact Below.refl _ _ | (refine below_ov ?_ ?_) | (refine Below.alloc ?_ ?_ _) | (refine below_drewN' ?_ _) | (refine Below.drew ?_) | (refine below_set ?_ _ _ ?_) | (simp; done) | (simp; omega) | omega)

set_option maxRecDepth 100000 in
set_option maxHeartbeats 1000000 in
theorem c95 (f : Nat) (hent : ∀ args w, (callFunc f args).run Try.prog w = .ok (.enter f args) w) (first cap : Array Value) (xs : List Crt) (p : Crt → Bool) (A : Option Addr) (c : Nat) (w : World)
    (hA : certsAt (· < w.heap.size) w A xs) (hf : FnAt w f first cap crtV p xs) (hl : xs.length ≤ 100) :
    Calls Try.prog 95 #[.slice A xs.length c, .func (.func f) first cap] w fun e w' => e = .returned (.bool (xs.all p)) ∧ ∃ y, w' = over w y := by
  have hB : (w.alloc (.cells #[.func (.func f) first cap] 116)).cell? ⟨w.heap.size, 0, none⟩ = some (.func (.func f) first cap) := by simp
  have hf2 : FnAt (w.alloc (.cells #[.func (.func f) first cap] 116)) f first cap crtV p xs := by rw [alloc_is_over]; exact hf.over _
  have hA2 : certsAt (· < (w.alloc (.cells #[.func (.func f) first cap] 116)).heap.size) (w.alloc (.cells #[.func (.func f) first cap] 116)) A xs :=
    (hA.keep (Keep.alloc _ _ _)).mono fun j hj => by show j < (w.alloc _).heap.size; rw [World.size_alloc]; exact Nat.lt_succ_of_lt hj
  have hc := c108 109 (enters_of Try.func109 (by kernel_rfl) rfl) #[] #[.pointer (some ⟨w.heap.size, 0, none⟩)] xs (fun x => !p x) A c _ hA2 (c109 f hent first cap _ _ hB xs p hf2) hl
  have HC := Lib.hid hc
  have hall : xs.all p = !xs.any fun x => !p x := all_any p xs
  have HAL := Lib.hid hall
  clear hc hall hB hf2 hA2
  go_enter Try.func95, Try.ntmps95
  go_wp2_with fail
  refine HC.out.mono ?_
  rintro e w1 ⟨rfl, z, rfl⟩
  cases hp : xs.any fun x => !p x
  all_goals
    rw [hp] at HAL
    go_wp2_with fail
    go_ret
    refine ⟨by rw [HAL.out]; rfl, below_over ?_⟩
    repeat' (first | exact Below.refl _ _ | (refine below_ov ?_ ?_) | (refine Below.alloc ?_ ?_ _) | (refine below_drewN' ?_ _) | (refine Below.drew ?_) | (refine below_set ?_ _ _ ?_) | (simp; done) | (simp; omega) | omega)
end Go.Proofs.Ytmcnpfjichbijaa

