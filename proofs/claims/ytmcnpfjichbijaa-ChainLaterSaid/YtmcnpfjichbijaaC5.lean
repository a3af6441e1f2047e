/- A list is tested by a function. -/
import Derived.Test.YtmcnpfjichbijaaC4
import Derived.Lib.Hide
set_option linter.unusedSimpArgs false
set_option linter.unusedVariables false
namespace Go.Proofs.Ytmcnpfjichbijaa
open Go Go.Proofs Go.RowKit Go.Shelf


/-- The value of an item. -/
def itmV (x : Itm) : Value := .agg #[.int .i64 x.drift, .bool x.std, .int .i64 x.val.lo, .int .i64 x.val.hi]

/-- A function that tells p of what is encoded, whatever the call makes beside. -/
def FnAt {α : Type} (w : World) (f : Nat) (first cap : Array Value) (enc : α → Value) (p : α → Bool) (xs : List α) : Prop :=
  ∀ x ∈ xs, ∀ y, Calls Try.prog f (first.push (enc x) ++ cap) (over w y) fun e w' => e = .returned (.bool (p x)) ∧ ∃ z, w' = over (over w y) z

/-- The place of the first one, or -1. -/
def findI {α : Type} (p : α → Bool) (xs : List α) : Int := match xs.findIdx? p with | some i => i | none => -1

theorem findI_none {α : Type} {p : α → Bool} {xs : List α} (h : ∀ x ∈ xs, p x = false) : findI p xs = -1 := by
  unfold findI
  rw [List.findIdx?_eq_none_iff.2 (by simpa using h)]

theorem findI_some {α : Type} {p : α → Bool} {xs : List α} {i : Nat} (hi : i < xs.length) (hp : p xs[i] = true) (h : ∀ x ∈ xs.take i, p x = false) : findI p xs = i := by
  unfold findI
  rw [List.findIdx?_eq_some_iff_getElem.2 ⟨hi, hp, fun j hj => by
    have := h xs[j] (List.mem_iff_getElem.2 ⟨j, by simp; omega, by simp⟩)
    simp [this]⟩]

theorem findI_ge {α : Type} (p : α → Bool) (xs : List α) : decide (0 ≤ findI p xs) = xs.any p := by
  unfold findI
  cases h : xs.findIdx? p with
  | none =>
    have := List.findIdx?_eq_none_iff.1 h
    have h2 : xs.any p = false := List.any_eq_false.2 fun x hx => by simp [this x hx]
    simp [h2]
  | some i =>
    have ⟨hi, hp, _⟩ := List.findIdx?_eq_some_iff_getElem.1 h
    have h2 : xs.any p = true := List.any_eq_true.2 ⟨xs[i], List.getElem_mem hi, hp⟩
    simp [h2]

set_option maxRecDepth 100000 in
set_option maxHeartbeats 1000000 in
theorem c115 (f : Nat) (hent : ∀ args w, (callFunc f args).run Try.prog w = .ok (.enter f args) w) (first cap : Array Value) (xs : List Itm) (p : Itm → Bool) (A : Option Addr) (c : Nat) (w : World)
    (hA : itemsAt (· < w.heap.size) w A xs) (hf : FnAt w f first cap itmV p xs) (hl : xs.length ≤ 100) :
    Calls Try.prog 115 #[.slice A xs.length c, .func (.func f) first cap] w fun e w' => e = .returned (.int .i64 (findI p xs)) ∧ ∃ y, w' = over w y := by
  go_enter Try.func115, Try.ntmps115
  go_wp2_with fail
  go_loopw [8] (fun t wr => ∃ (i : Nat) (y : World), i ≤ xs.length ∧ t = .int .i64 i ∧ (∀ x ∈ xs.take i, p x = false) ∧ wr = over w y) (fun t _ => xs.length - (intOf t).toNat)
  case atStart =>
    obtain ⟨y, hy⟩ := over_refl w
    exact ⟨0, y, Nat.zero_le _, rfl, by simp, hy⟩
  case round =>
    obtain ⟨i, y, hi, rfl, hno, rfl⟩ := hrel
    have HN := Lib.hid hno
    clear hno
    by_cases hlt : i < xs.length
    · obtain ⟨b, o, eA, hb, hc⟩ := hA (by omega)
      obtain ⟨q, hq⟩ : ∃ q, q = xs[i] := ⟨_, rfl⟩
      have hqm : q ∈ xs := by rw [hq]; exact List.getElem_mem hlt
      obtain ⟨h1, h2, h3, h4⟩ := hc i q (by simp [hlt, hq])
      have hix := fun c => @idx32 A b o xs.length c eA i hlt
      have hfq := hf q hqm y
      have HQ := Lib.hid hq
      clear hc eA hq hqm
      simp only [itmV] at hfq
      have HF := Lib.hid hfq
      clear hfq
      go_wp2_with fail
      refine HF.out.mono ?_
      rintro e w1 ⟨rfl, z, rfl⟩
      cases hp : p q
      · have hno' : ∀ x ∈ xs.take (i + 1), p x = false := fun x hx => by
          rw [List.take_succ_eq_append_getElem hlt] at hx
          rcases List.mem_append.1 hx with h | h
          · exact HN.out x h
          · rw [List.mem_singleton.1 h, ← HQ.out]; exact hp
        have HP := Lib.hid hno'
        clear hno'
        go_wp2_with fail
        go_roundw
        case rel => exact ⟨i + 1, _, by omega, by go_num, HP.out, rfl⟩
        case measure => simp [intOf]; omega
      · go_wp2_with fail
        go_ret
        refine ⟨?_, _, rfl⟩
        rw [findI_some hlt (by rw [← HQ.out]; exact hp) HN.out]
        rfl
    · go_wp2_with fail
      go_ret
      refine ⟨?_, y, rfl⟩
      rw [findI_none (by have := HN.out; rwa [List.take_of_length_le (by omega)] at this)]
      rfl
set_option maxRecDepth 100000 in
set_option maxHeartbeats 1000000 in
theorem c98 (f : Nat) (hent : ∀ args w, (callFunc f args).run Try.prog w = .ok (.enter f args) w) (first cap : Array Value) (xs : List Crt) (p : Crt → Bool) (A : Option Addr) (c : Nat) (w : World)
    (hA : certsAt (· < w.heap.size) w A xs) (hf : FnAt w f first cap crtV p xs) (hl : xs.length ≤ 100) :
    Calls Try.prog 98 #[.slice A xs.length c, .func (.func f) first cap] w fun e w' => e = .returned (.int .i64 (findI p xs)) ∧ ∃ y, w' = over w y := by
  go_enter Try.func98, Try.ntmps98
  go_wp2_with fail
  go_loopw [8] (fun t wr => ∃ (i : Nat) (y : World), i ≤ xs.length ∧ t = .int .i64 i ∧ (∀ x ∈ xs.take i, p x = false) ∧ wr = over w y) (fun t _ => xs.length - (intOf t).toNat)
  case atStart =>
    obtain ⟨y, hy⟩ := over_refl w
    exact ⟨0, y, Nat.zero_le _, rfl, by simp, hy⟩
  case round =>
    obtain ⟨i, y, hi, rfl, hno, rfl⟩ := hrel
    have HN := Lib.hid hno
    clear hno
    by_cases hlt : i < xs.length
    · obtain ⟨b, o, eA, hb, hc⟩ := hA (by omega)
      obtain ⟨q, hq⟩ : ∃ q, q = xs[i] := ⟨_, rfl⟩
      have hqm : q ∈ xs := by rw [hq]; exact List.getElem_mem hlt
      obtain ⟨h1, h2, h3, h4, h5, h6, h7⟩ := hc i q (by simp [hlt, hq])
      have hix := fun c => @idx33 A b o xs.length c eA i hlt
      have hfq := hf q hqm y
      have HQ := Lib.hid hq
      clear hc eA hq hqm
      simp only [crtV] at hfq
      have HF := Lib.hid hfq
      clear hfq
      go_wp2_with fail
      refine HF.out.mono ?_
      rintro e w1 ⟨rfl, z, rfl⟩
      cases hp : p q
      · have hno' : ∀ x ∈ xs.take (i + 1), p x = false := fun x hx => by
          rw [List.take_succ_eq_append_getElem hlt] at hx
          rcases List.mem_append.1 hx with h | h
          · exact HN.out x h
          · rw [List.mem_singleton.1 h, ← HQ.out]; exact hp
        have HP := Lib.hid hno'
        clear hno'
        go_wp2_with fail
        go_roundw
        case rel => exact ⟨i + 1, _, by omega, by go_num, HP.out, rfl⟩
        case measure => simp [intOf]; omega
      · go_wp2_with fail
        go_ret
        refine ⟨?_, _, rfl⟩
        rw [findI_some hlt (by rw [← HQ.out]; exact hp) HN.out]
        rfl
    · go_wp2_with fail
      go_ret
      refine ⟨?_, y, rfl⟩
      rw [findI_none (by have := HN.out; rwa [List.take_of_length_le (by omega)] at this)]
      rfl
set_option maxRecDepth 100000 in
set_option maxHeartbeats 1000000 in
theorem c81 (f : Nat) (hent : ∀ args w, (callFunc f args).run Try.prog w = .ok (.enter f args) w) (first cap : Array Value) (xs : List Int) (p : Int → Bool) (A : Option Addr) (c : Nat) (w : World)
    (hA : numsAt (· < w.heap.size) w A xs) (hf : FnAt w f first cap (fun n => .int .i64 n) p xs) (hl : xs.length ≤ 100) :
    Calls Try.prog 81 #[.slice A xs.length c, .func (.func f) first cap] w fun e w' => e = .returned (.int .i64 (findI p xs)) ∧ ∃ y, w' = over w y := by
  go_enter Try.func81, Try.ntmps81
  go_wp2_with fail
  go_loopw [8] (fun t wr => ∃ (i : Nat) (y : World), i ≤ xs.length ∧ t = .int .i64 i ∧ (∀ x ∈ xs.take i, p x = false) ∧ wr = over w y) (fun t _ => xs.length - (intOf t).toNat)
  case atStart =>
    obtain ⟨y, hy⟩ := over_refl w
    exact ⟨0, y, Nat.zero_le _, rfl, by simp, hy⟩
  case round =>
    obtain ⟨i, y, hi, rfl, hno, rfl⟩ := hrel
    have HN := Lib.hid hno
    clear hno
    by_cases hlt : i < xs.length
    · obtain ⟨b, o, eA, hb, hc⟩ := hA (by omega)
      obtain ⟨q, hq⟩ : ∃ q, q = xs[i] := ⟨_, rfl⟩
      have hqm : q ∈ xs := by rw [hq]; exact List.getElem_mem hlt
      have h1 := hc i q (by simp [hlt, hq])
      have hix := fun c => @idx26 A b o xs.length c eA i hlt
      have hfq := hf q hqm y
      have HQ := Lib.hid hq
      clear hc eA hq hqm
      have HF := Lib.hid hfq
      clear hfq
      go_wp2_with fail
      refine HF.out.mono ?_
      rintro e w1 ⟨rfl, z, rfl⟩
      cases hp : p q
      · have hno' : ∀ x ∈ xs.take (i + 1), p x = false := fun x hx => by
          rw [List.take_succ_eq_append_getElem hlt] at hx
          rcases List.mem_append.1 hx with h | h
          · exact HN.out x h
          · rw [List.mem_singleton.1 h, ← HQ.out]; exact hp
        have HP := Lib.hid hno'
        clear hno'
        go_wp2_with fail
        go_roundw
        case rel => exact ⟨i + 1, _, by omega, by go_num, HP.out, rfl⟩
        case measure => simp [intOf]; omega
      · go_wp2_with fail
        go_ret
        refine ⟨?_, _, rfl⟩
        rw [findI_some hlt (by rw [← HQ.out]; exact hp) HN.out]
        rfl
    · go_wp2_with fail
      go_ret
      refine ⟨?_, y, rfl⟩
      rw [findI_none (by have := HN.out; rwa [List.take_of_length_le (by omega)] at this)]
      rfl

set_option maxRecDepth 100000 in
set_option maxHeartbeats 1000000 in
theorem c105 (f : Nat) (hent : ∀ args w, (callFunc f args).run Try.prog w = .ok (.enter f args) w) (first cap : Array Value) (xs : List Itm) (p : Itm → Bool) (A : Option Addr) (c : Nat) (w : World)
    (hA : itemsAt (· < w.heap.size) w A xs) (hf : FnAt w f first cap itmV p xs) (hl : xs.length ≤ 100) :
    Calls Try.prog 105 #[.slice A xs.length c, .func (.func f) first cap] w fun e w' => e = .returned (.bool (xs.any p)) ∧ ∃ y, w' = over w y := by
  have hi := findI_ge p xs
  have HI := Lib.hid hi
  clear hi
  cases h : xs.any p
  all_goals
    rw [h] at HI
    have HX := Lib.hid HI.out
    have hI2 := HI.out
    clear h
    go_enter Try.func105, Try.ntmps105
    go_wp2_with (go_at_call 115; refine (c115 f hent first cap xs p A c _ hA hf hl).mono ?_; rintro e w' ⟨rfl, x, rfl⟩)
    go_ret
    exact ⟨rfl, _, rfl⟩
set_option maxRecDepth 100000 in
set_option maxHeartbeats 1000000 in
theorem c108 (f : Nat) (hent : ∀ args w, (callFunc f args).run Try.prog w = .ok (.enter f args) w) (first cap : Array Value) (xs : List Crt) (p : Crt → Bool) (A : Option Addr) (c : Nat) (w : World)
    (hA : certsAt (· < w.heap.size) w A xs) (hf : FnAt w f first cap crtV p xs) (hl : xs.length ≤ 100) :
    Calls Try.prog 108 #[.slice A xs.length c, .func (.func f) first cap] w fun e w' => e = .returned (.bool (xs.any p)) ∧ ∃ y, w' = over w y := by
  have hi := findI_ge p xs
  have HI := Lib.hid hi
  clear hi
  cases h : xs.any p
  all_goals
    rw [h] at HI
    have HX := Lib.hid HI.out
    have hI2 := HI.out
    clear h
    go_enter Try.func108, Try.ntmps108
    go_wp2_with (go_at_call 98; refine (c98 f hent first cap xs p A c _ hA hf hl).mono ?_; rintro e w' ⟨rfl, x, rfl⟩)
    go_ret
    exact ⟨rfl, _, rfl⟩

theorem all_any {α : Type} (p : α → Bool) : ∀ xs : List α, xs.all p = !xs.any fun x => !p x
  | [] => rfl
  | x :: xs => by rw [List.all_cons, List.any_cons, all_any p xs]; cases p x <;> rfl

theorem alloc_over (w y : World) (o : Obj) : (over w y).alloc o = over w { y with heap := y.heap.push o } := by
  show ({ over w y with heap := (w.heap ++ y.heap).push o } : World) = { w with heap := w.heap ++ y.heap.push o, drawn := y.drawn }
  rw [← Array.append_push]
  rfl

theorem alloc_is_over (w : World) (o : Obj) : w.alloc o = over w { w with heap := #[o] } := by
  show ({ w with heap := w.heap.push o } : World) = { w with heap := w.heap ++ #[o], drawn := w.drawn }
  rw [← Array.push_eq_append]

theorem FnAt.over {α : Type} {w : World} {f : Nat} {first cap : Array Value} {enc : α → Value} {p : α → Bool} {xs : List α} (h : FnAt w f first cap enc p xs) (z : World) : FnAt (over w z) f first cap enc p xs := fun x hx y => by
  refine (show Calls Try.prog f (first.push (enc x) ++ cap) (Ytmcnpfjichbijaa.over (Ytmcnpfjichbijaa.over w z) y) _ by rw [over_over]; exact h x hx _).mono ?_
  rintro e w' ⟨rfl, u, rfl⟩
  exact ⟨rfl, u, by rw [over_over w z y]⟩

set_option maxRecDepth 100000 in
set_option maxHeartbeats 1000000 in
theorem c106 (f : Nat) (hent : ∀ args w, (callFunc f args).run Try.prog w = .ok (.enter f args) w) (first cap : Array Value) (B : Nat) (w : World)
    (hB : w.cell? ⟨B, 0, none⟩ = some (.func (.func f) first cap)) (xs : List Itm) (p : Itm → Bool) (hf : FnAt w f first cap itmV p xs) :
    FnAt w 106 #[] #[.pointer (some ⟨B, 0, none⟩)] itmV (fun x => !p x) xs := fun q hq y => by
  have hl := lt_of_cell hB
  have hfq := hf q hq { y with heap := y.heap.push (.cells #[.int .i64 q.drift, .bool q.std, .int .i64 q.val.lo, .int .i64 q.val.hi] 103) }
  rw [← alloc_over] at hfq
  simp only [itmV] at hfq ⊢
  have HF := Lib.hid hfq
  have hs : ∀ m, B < w.heap.size + m := fun m => by omega
  have hs2 : ∀ m k, B < w.heap.size + m + k := fun m k => by omega
  clear hfq hf
  change Calls Try.prog 106 #[.agg #[.int .i64 q.drift, .bool q.std, .int .i64 q.val.lo, .int .i64 q.val.hi], .pointer (some ⟨B, 0, none⟩)] _ _
  cases hp : p q
  all_goals
    rw [hp] at HF
    go_enter Try.func106, Try.ntmps106
    go_wp2_with fail
    refine HF.out.mono ?_
    rintro e w1 ⟨rfl, z, rfl⟩
    go_wp2_with fail
    go_ret
    refine ⟨rfl, below_over ?_⟩
    repeat' (first | exact Below.refl _ _ | (refine below_ov ?_ ?_) | (refine Below.alloc ?_ ?_ _) | (refine below_drewN' ?_ _) | (refine Below.drew ?_) | (refine below_set ?_ _ _ ?_) | (simp; done) | (simp; omega) | omega)

set_option maxRecDepth 100000 in
set_option maxHeartbeats 1000000 in
theorem c93 (f : Nat) (hent : ∀ args w, (callFunc f args).run Try.prog w = .ok (.enter f args) w) (first cap : Array Value) (xs : List Itm) (p : Itm → Bool) (A : Option Addr) (c : Nat) (w : World)
    (hA : itemsAt (· < w.heap.size) w A xs) (hf : FnAt w f first cap itmV p xs) (hl : xs.length ≤ 100) :
    Calls Try.prog 93 #[.slice A xs.length c, .func (.func f) first cap] w fun e w' => e = .returned (.bool (xs.all p)) ∧ ∃ y, w' = over w y := by
  have hB : (w.alloc (.cells #[.func (.func f) first cap] 142)).cell? ⟨w.heap.size, 0, none⟩ = some (.func (.func f) first cap) := by simp
  have hf2 : FnAt (w.alloc (.cells #[.func (.func f) first cap] 142)) f first cap itmV p xs := by rw [alloc_is_over]; exact hf.over _
  have hA2 : itemsAt (· < (w.alloc (.cells #[.func (.func f) first cap] 142)).heap.size) (w.alloc (.cells #[.func (.func f) first cap] 142)) A xs :=
    (hA.keep (Keep.alloc _ _ _)).mono fun j hj => by show j < (w.alloc _).heap.size; rw [World.size_alloc]; exact Nat.lt_succ_of_lt hj
  have hc := c105 106 (enters_of Try.func106 (by kernel_rfl) rfl) #[] #[.pointer (some ⟨w.heap.size, 0, none⟩)] xs (fun x => !p x) A c _ hA2 (c106 f hent first cap _ _ hB xs p hf2) hl
  have HC := Lib.hid hc
  have hall : xs.all p = !xs.any fun x => !p x := all_any p xs
  have HAL := Lib.hid hall
  clear hc hall hB hf2 hA2
  go_enter Try.func93, Try.ntmps93
  go_wp2_with fail
  refine HC.out.mono ?_
  rintro e w1 ⟨rfl, z, rfl⟩
  cases hp : xs.any fun x => !p x
  all_goals
    rw [hp] at HAL
    go_wp2_with fail
    go_ret
    refine ⟨by rw [HAL.out]; rfl, below_over ?_⟩
    repeat' (first | exact Below.refl _ _ | (refine below_ov ?_ ?_) | (refine Below.alloc ?_ ?_ _) | (refine below_drewN' ?_ _) | (refine Below.drew ?_) | (refine below_set ?_ _ _ ?_) | (simp; done) | (simp; omega) | omega)
set_option maxRecDepth 100000 in
set_option maxHeartbeats 1000000 in
theorem c109 (f : Nat) (hent : ∀ args w, (callFunc f args).run Try.prog w = .ok (.enter f args) w) (first cap : Array Value) (B : Nat) (w : World)
    (hB : w.cell? ⟨B, 0, none⟩ = some (.func (.func f) first cap)) (xs : List Crt) (p : Crt → Bool) (hf : FnAt w f first cap crtV p xs) :
    FnAt w 109 #[] #[.pointer (some ⟨B, 0, none⟩)] crtV (fun x => !p x) xs := fun q hq y => by
  have hl := lt_of_cell hB
  have hfq := hf q hq { y with heap := y.heap.push (.cells #[.int .i64 q.num, .int .i64 q.item, .int .i64 q.by_, .int .i64 q.day, .int .i64 q.valid, .int .i64 q.diff.lo, .int .i64 q.diff.hi] 90) }
  rw [← alloc_over] at hfq
  simp only [crtV] at hfq ⊢
  have HF := Lib.hid hfq
  have hs : ∀ m, B < w.heap.size + m := fun m => by omega
  have hs2 : ∀ m k, B < w.heap.size + m + k := fun m k => by omega
  clear hfq hf
  change Calls Try.prog 109 #[.agg #[.int .i64 q.num, .int .i64 q.item, .int .i64 q.by_, .int .i64 q.day, .int .i64 q.valid, .int .i64 q.diff.lo, .int .i64 q.diff.hi], .pointer (some ⟨B, 0, none⟩)] _ _
  cases hp : p q
  all_goals
    rw [hp] at HF
    go_enter Try.func109, Try.ntmps109
    go_wp2_with fail
    refine HF.out.mono ?_
    rintro e w1 ⟨rfl, z, rfl⟩
    go_wp2_with fail
    go_ret
    refine ⟨rfl, below_over ?_⟩
    repeat' (first | exact Below.refl _ _ | (refine below_ov ?_ ?_) | (refine Below.alloc ?_ ?_ _) | (refine below_drewN' ?_ _) | (refine Below.drew ?_) | (refine below_set ?_ _ _ ?_) | (simp; done) | (simp; omega) | omega)

set_option maxRecDepth 100000 in
set_option maxHeartbeats 1000000 in
theorem c95 (f : Nat) (hent : ∀ args w, (callFunc f args).run Try.prog w = .ok (.enter f args) w) (first cap : Array Value) (xs : List Crt) (p : Crt → Bool) (A : Option Addr) (c : Nat) (w : World)
    (hA : certsAt (· < w.heap.size) w A xs) (hf : FnAt w f first cap crtV p xs) (hl : xs.length ≤ 100) :
    Calls Try.prog 95 #[.slice A xs.length c, .func (.func f) first cap] w fun e w' => e = .returned (.bool (xs.all p)) ∧ ∃ y, w' = over w y := by
  have hB : (w.alloc (.cells #[.func (.func f) first cap] 116)).cell? ⟨w.heap.size, 0, none⟩ = some (.func (.func f) first cap) := by simp
  have hf2 : FnAt (w.alloc (.cells #[.func (.func f) first cap] 116)) f first cap crtV p xs := by rw [alloc_is_over]; exact hf.over _
  have hA2 : certsAt (· < (w.alloc (.cells #[.func (.func f) first cap] 116)).heap.size) (w.alloc (.cells #[.func (.func f) first cap] 116)) A xs :=
    (hA.keep (Keep.alloc _ _ _)).mono fun j hj => by show j < (w.alloc _).heap.size; rw [World.size_alloc]; exact Nat.lt_succ_of_lt hj
  have hc := c108 109 (enters_of Try.func109 (by kernel_rfl) rfl) #[] #[.pointer (some ⟨w.heap.size, 0, none⟩)] xs (fun x => !p x) A c _ hA2 (c109 f hent first cap _ _ hB xs p hf2) hl
  have HC := Lib.hid hc
  have hall : xs.all p = !xs.any fun x => !p x := all_any p xs
  have HAL := Lib.hid hall
  clear hc hall hB hf2 hA2
  go_enter Try.func95, Try.ntmps95
  go_wp2_with fail
  refine HC.out.mono ?_
  rintro e w1 ⟨rfl, z, rfl⟩
  cases hp : xs.any fun x => !p x
  all_goals
    rw [hp] at HAL
    go_wp2_with fail
    go_ret
    refine ⟨by rw [HAL.out]; rfl, below_over ?_⟩
    repeat' (first | exact Below.refl _ _ | (refine below_ov ?_ ?_) | (refine Below.alloc ?_ ?_ _) | (refine below_drewN' ?_ _) | (refine Below.drew ?_) | (refine below_set ?_ _ _ ?_) | (simp; done) | (simp; omega) | omega)
end Go.Proofs.Ytmcnpfjichbijaa

