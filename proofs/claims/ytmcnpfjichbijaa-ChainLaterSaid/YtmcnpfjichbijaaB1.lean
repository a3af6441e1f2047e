/- Chains compared. -/
import Derived.Test.YtmcnpfjichbijaaC22
import Derived.Test.YtmcnpfjichbijaaL1
set_option linter.unusedSimpArgs false
set_option linter.unusedVariables false
namespace Go.Proofs.Ytmcnpfjichbijaa
open Go Go.Proofs Go.RowKit Go.Shelf


/-- The first one that is not 0. -/
def orI (x y : Int) : Int := if x ≠ 0 then x else y
theorem orI_ne {x y : Int} (h : x ≠ 0) : orI x y = x := by unfold orI; rw [if_pos h]
theorem orI_z {x y : Int} (h : x = 0) : orI x y = y := by unfold orI; rw [if_neg (by simp [h])]

set_option maxRecDepth 100000 in
set_option maxHeartbeats 1000000 in
theorem c91 (x y : Int) (b c : Nat) (w : World) (h0 : w.cell? ⟨b, 0, none⟩ = some (.int .i64 x)) (h1 : w.cell? ⟨b, 1, none⟩ = some (.int .i64 y)) :
    Calls Try.prog 91 #[.slice (some ⟨b, 0, none⟩) 2 c] w fun e w' => e = .returned (.int .i64 (orI x y)) ∧ w' = w := by
  go_enter Try.func91, Try.ntmps91
  go_wp2_with fail
  go_loop [8] (fun t => ∃ i : Nat, i ≤ 2 ∧ t = .int .i64 i ∧ (0 < i → x = 0) ∧ (1 < i → y = 0)) (fun t => 2 - (intOf t).toNat)
  case atStart => exact ⟨0, by omega, rfl, by omega, by omega⟩
  case round =>
    obtain ⟨i, hi, rfl, hx, hy⟩ := hrel
    have HX := Lib.hid hx
    have HY := Lib.hid hy
    clear hx hy
    match i, hi with
    | 0, _ =>
      cases hz : (x != 0)
      · go_wp2_with fail
        go_round
        case rel => exact ⟨1, by omega, by go_num, fun _ => by simpa using hz, by omega⟩
        case measure => simp [intOf]
      · go_wp2_with fail
        go_ret
        exact ⟨by rw [orI_ne (by simpa using hz)]; rfl, rfl⟩
    | 1, _ =>
      have hx0 := HX.out (by omega)
      have HX0 := Lib.hid hx0
      clear hx0
      cases hz : (y != 0)
      · go_wp2_with fail
        go_round
        case rel => exact ⟨2, by omega, by go_num, fun _ => HX0.out, fun _ => by simpa using hz⟩
        case measure => simp [intOf]
      · go_wp2_with fail
        go_ret
        exact ⟨by rw [orI_z HX0.out]; rfl, rfl⟩
    | 2, _ =>
      go_wp2_with fail
      go_ret
      exact ⟨by rw [orI_z (HX.out (by omega)), HY.out (by omega)]; rfl, rfl⟩

theorem cmpL_drop (a b : List Int) (i : Nat) (h1 : i < a.length) (h2 : i < b.length) : cmpL (a.drop i) (b.drop i) = if a[i] < b[i] then -1 else if b[i] < a[i] then 1 else cmpL (a.drop (i + 1)) (b.drop (i + 1)) := by
  rw [List.drop_eq_getElem_cons h1, List.drop_eq_getElem_cons h2]
  rfl
theorem cmpL_drop_short (a b : List Int) (i : Nat) (h1 : i < a.length) (h2 : b.length ≤ i) : cmpL (a.drop i) (b.drop i) = 1 := by
  rw [List.drop_eq_getElem_cons h1, List.drop_of_length_le h2]
  rfl
theorem cmpL_drop_end (a b : List Int) (i : Nat) (h1 : a.length ≤ i) (h2 : i ≤ b.length) (h3 : i = a.length) : cmpL (a.drop i) (b.drop i) = if a.length < b.length then -1 else 0 := by
  rw [List.drop_of_length_le h1]
  by_cases h : i < b.length
  · rw [List.drop_eq_getElem_cons h, if_pos (by omega)]; rfl
  · rw [List.drop_of_length_le (by omega), if_neg (by omega)]; rfl

set_option maxRecDepth 100000 in
set_option maxHeartbeats 1000000 in
theorem c92 {A B : Option Addr} {ca cb : Nat} {l m : List Int} {w : World} {S T : Nat → Prop} (hA : numsAt S w A l) (hB : numsAt T w B m) (hl : l.length ≤ 2000) (hm : m.length ≤ 2000) :
    Calls Try.prog 92 #[.slice A l.length ca, .slice B m.length cb] w fun e w' => e = .returned (.int .i64 (cmpL l m)) ∧ w' = w := by
  go_enter Try.func92, Try.ntmps92
  go_wp2_with fail
  go_loop [11] (fun t => ∃ i : Nat, i ≤ l.length ∧ i ≤ m.length ∧ t = .int .i64 i ∧ cmpL l m = cmpL (l.drop i) (m.drop i)) (fun t => l.length - (intOf t).toNat)
  case atStart => exact ⟨0, Nat.zero_le _, Nat.zero_le _, rfl, by simp⟩
  case round =>
    obtain ⟨i, hi, hj, rfl, hc⟩ := hrel
    have HC := Lib.hid hc
    clear hc
    by_cases hlt : i < l.length
    · obtain ⟨Ba, Oa, eA, _, ha⟩ := hA (by omega)
      obtain ⟨x, hx⟩ : ∃ x, x = l[i] := ⟨_, rfl⟩
      have ca' := ha i x (by simp [hlt, hx])
      have ix := fun c => @idx26 A Ba Oa l.length c eA i hlt
      have HX := Lib.hid hx
      clear eA ha hx
      by_cases hlt2 : i < m.length
      · obtain ⟨Bb, Ob, eB, _, hb⟩ := hB (by omega)
        obtain ⟨y, hy⟩ : ∃ y, y = m[i] := ⟨_, rfl⟩
        have cb' := hb i y (by simp [hlt2, hy])
        have iy := fun c => @idx26 B Bb Ob m.length c eB i hlt2
        have hcd := cmpL_drop l m i hlt hlt2
        rw [← hy, ← HX.out] at hcd
        have HCD := Lib.hid hcd
        clear eB hb hy hcd
        have hcmp := Try.cmp_Compare_int x y w
        by_cases h1 : x < y
        · have hv : Lib.compareInt x y = -1 := by simp [Lib.compareInt, h1]
          rw [hv] at hcmp
          have HCMP := Lib.hid hcmp
          clear hcmp hv
          go_wp2_with (go_at_call 104; refine HCMP.out.mono ?_; rintro e w' ⟨rfl, rfl⟩)
          go_ret
          exact ⟨by rw [HC.out, HCD.out, if_pos (by omega)]; rfl, rfl⟩
        · by_cases h2 : y < x
          · have hv : Lib.compareInt x y = 1 := by simp [Lib.compareInt, h1, h2]
            rw [hv] at hcmp
            have HCMP := Lib.hid hcmp
            clear hcmp hv
            go_wp2_with (go_at_call 104; refine HCMP.out.mono ?_; rintro e w' ⟨rfl, rfl⟩)
            go_ret
            exact ⟨by rw [HC.out, HCD.out, if_neg (by omega), if_pos (by omega)]; rfl, rfl⟩
          · have hv : Lib.compareInt x y = 0 := by simp [Lib.compareInt, h1, h2]
            rw [hv] at hcmp
            have HCMP := Lib.hid hcmp
            clear hcmp hv
            go_wp2_with (go_at_call 104; refine HCMP.out.mono ?_; rintro e w' ⟨rfl, rfl⟩)
            go_round
            case rel => exact ⟨i + 1, by omega, by omega, by go_num, by rw [HC.out, HCD.out, if_neg (by omega), if_neg (by omega)]⟩
            case measure => simp [intOf]; omega
      · have hcs := cmpL_drop_short l m i hlt (by omega)
        have HCS := Lib.hid hcs
        clear hcs
        go_wp2_with fail
        go_ret
        exact ⟨by rw [HC.out, HCS.out]; rfl, rfl⟩
    · have hce := cmpL_drop_end l m i (by omega) hj (by omega)
      have HCE := Lib.hid hce
      clear hce
      by_cases h : (l.length : Int) < (m.length : Int)
      · go_wp2_with fail
        go_ret
        exact ⟨by rw [HC.out, HCE.out, if_pos (by omega)]; rfl, rfl⟩
      · go_wp2_with fail
        go_ret
        exact ⟨by rw [HC.out, HCE.out, if_neg (by omega)]; rfl, rfl⟩

theorem before_or (a b : List Int) : beforeI a b = orI ((a.length : Int) - b.length) (cmpL a b) := by
  unfold beforeI orI
  by_cases h : a.length = b.length
  · rw [if_neg (by simp [h]), if_neg (by simp [h])]
  · rw [if_pos h, if_pos (by omega)]

set_option maxRecDepth 100000 in
set_option maxHeartbeats 1000000 in
theorem c67 {A B : Option Addr} {ca cb : Nat} {l m : List Int} {w : World} {S T : Nat → Prop} (hA : numsAt S w A l) (hB : numsAt T w B m) (hl : l.length ≤ 2000) (hm : m.length ≤ 2000) :
    Calls Try.prog 67 #[.slice A l.length ca, .slice B m.length cb] w fun e w' => e = .returned (.int .i64 (beforeI l m)) ∧ ∃ x, w' = over w x := by
  have hc := c92 (ca := ca) (cb := cb) hA hB hl hm
  have HC := Lib.hid hc
  have HB := Lib.hid (before_or l m)
  clear hc hA hB
  generalize cmpL l m = v at *
  go_enter Try.func67, Try.ntmps67
  go_wp2_with (first | (go_at_call 92; refine HC.out.mono ?_; rintro e w' ⟨rfl, rfl⟩) | (go_at_call 91; refine (c91 ((l.length : Int) - m.length) v _ _ _ (by simp [go_sem]) (by simp [go_sem])).mono ?_; rintro e w' ⟨rfl, rfl⟩))
  go_ret
  exact ⟨by rw [HB.out]; rfl, below_over (by repeat' (first | exact Below.refl _ _ | (refine below_ov ?_ ?_) | (refine Below.alloc ?_ ?_ _) | (refine below_drewN' ?_ _) | (refine Below.drew ?_) | (refine below_set ?_ _ _ ?_) | (simp; done) | (simp; omega) | omega))⟩

set_option maxRecDepth 100000 in
set_option maxHeartbeats 1000000 in
theorem c65 (H B : Nat) (nums : List Int) (h : Int → Bool) (c : Crt) (w : World) (hB : w.cell? ⟨B, 0, none⟩ = some (.map (some H))) (hm : boolsAt w H nums h) :
    Calls Try.prog 65 #[crtV c, .pointer (some ⟨B, 0, none⟩)] w fun e w' => e = .returned (.bool (decide (c.num ∈ nums) && h c.num)) ∧ ∃ x, w' = over w x := by
  have hl := fun o => (hm.keepTo (Keep.alloc (fun _ => True) w o) trivial).get c.num
  have ls := lt_of_cell hB
  generalize (decide (c.num ∈ nums) && h c.num) = r at hl ⊢
  have HM := Lib.hid hm
  clear hm
  simp only [crtV]
  go_enter Try.func65, Try.ntmps65
  go_wp2_with fail
  go_ret
  exact ⟨rfl, below_over (by repeat' (first | exact Below.refl _ _ | (refine below_ov ?_ ?_) | (refine Below.alloc ?_ ?_ _) | (refine below_drewN' ?_ _) | (refine Below.drew ?_) | (refine below_set ?_ _ _ ?_) | (simp; done) | (simp; omega) | omega))⟩
end Go.Proofs.Ytmcnpfjichbijaa

