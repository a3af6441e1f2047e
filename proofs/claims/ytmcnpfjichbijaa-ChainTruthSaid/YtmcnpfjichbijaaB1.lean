/- Chains compared. -/
import Derived.Test.YtmcnpfjichbijaaC20
import Derived.Test.YtmcnpfjichbijaaL1
import Derived.Test.YtmcnpfjichbijaaT1

set_option linter.unusedSimpArgs false
set_option linter.unusedVariables false
namespace Go.Proofs.Ytmcnpfjichbijaa
open Go Go.Proofs Go.RowKit Go.Shelf


/-- The first one that is not 0. -/
def orI (x y : Int) : Int := if x ≠ 0 then x else y
theorem orI_ne {x y : Int} (h : x ≠ 0) : orI x y = x := by unfold orI; rw [if_pos h]
theorem orI_z {x y : Int} (h : x = 0) : orI x y = y := by unfold orI; rw [if_neg (by simp [h])]

set_option maxRecDepth 100000 in
set_option maxHeartbeats 1000000 in
theorem c91 (x y : Int) (b c : Nat) (w : World) (h0 : w.cell? ⟨b, 0, none⟩ = some (.int .i64 x)) (h1 : w.cell? ⟨b, 1, none⟩ = some (.int .i64 y)) :
    Calls Try.prog 91 #[.slice (some ⟨b, 0, none⟩) 2 c] w fun e w' => e = .returned (.int .i64 (orI x y)) ∧ w' = w := by
  go_enter Try.func91, Try.ntmps91
  go_wp2_with fail
  go_loop [8] (fun t => ∃ i : Nat, i ≤ 2 ∧ t = .int .i64 i ∧ (0 < i → x = 0) ∧ (1 < i → y = 0)) (fun t => 2 - (intOf t).toNat)
  case atStart => exact ⟨0, by omega, rfl, by omega, by omega⟩
  case round =>
    obtain ⟨i, hi, rfl, hx, hy⟩ := hrel
    have HX := Lib.hid hx
    have HY := Lib.hid hy
    clear hx hy
    match i, hi with
    | 0, _ =>
      cases hz : (x != 0)
      · go_wp2_with fail
        go_round
        case rel => exact ⟨1, by omega, by go_num, fun _ => by simpa using hz, by omega⟩
        case measure => simp [intOf]
      · go_wp2_with fail
        go_ret
        exact ⟨by rw [orI_ne (by simpa using hz)]; rfl, rfl⟩
    | 1, _ =>
      have hx0 := HX.out (by omega)
      have HX0 := Lib.hid hx0
      clear hx0
      cases hz : (y != 0)
      · go_wp2_with fail
        go_round
        case rel => exact ⟨2, by omega, by go_num, fun _ => HX0.out, fun _ => by simpa using hz⟩
        case measure => simp [intOf]
      · go_wp2_with fail
        go_ret
        exact ⟨by rw [orI_z HX0.out]; rfl, rfl⟩
    | 2, _ =>
      go_wp2_with fail
      go_ret
      exact ⟨by rw [orI_z (HX.out (by omega)), HY.out (by omega)]; rfl, rfl⟩

theorem cmpL_drop (a b : List Int) (i : Nat) (h1 : i < a.length) (h2 : i < b.length) : cmpL (a.drop i) (b.drop i) = if a[i] < b[i] then -1 else if b[i] < a[i] then 1 else cmpL (a.drop (i + 1)) (b.drop (i + 1)) := by
  rw [List.drop_eq_getElem_cons h1, List.drop_eq_getElem_cons h2]
  rfl
theorem cmpL_drop_short (a b : List Int) (i : Nat) (h1 : i < a.length) (h2 : b.length ≤ i) : cmpL (a.drop i) (b.drop i) = 1 := by
  rw [List.drop_eq_getElem_cons h1, List.drop_of_length_le h2]
  rfl
theorem cmpL_drop_end (a b : List Int) (i : Nat) (h1 : a.length ≤ i) (h2 : i ≤ b.length) (h3 : i = a.length) : cmpL (a.drop i) (b.drop i) = if a.length < b.length then -1 else 0 := by
  rw [List.drop_of_length_le h1]
  by_cases h : i < b.length
  · rw [List.drop_eq_getElem_cons h, if_pos (by omega)]; rfl
  · rw [List.drop_of_length_le (by omega), if_neg (by omega)]; rfl

set_option maxRecDepth 100000 in
set_option maxHeartbeats 1000000 in
theorem c92 {A B : Option Addr} {ca cb : Nat} {l m : List Int} {w : World} {S T : Nat → Prop} (hA : numsAt S w A l) (hB : numsAt T w B m) (hl : l.length ≤ 2000) (hm : m.length ≤ 2000) :
    Calls Try.prog 92 #[.slice A l.length ca, .slice B m.length cb] w fun e w' => e = .returned (.int .i64 (cmpL l m)) ∧ w' = w := by
  go_enter Try.func92, Try.ntmps92
  go_wp2_with fail
  go_loop [11] (fun t => ∃ i : Nat, i ≤ l.length ∧ i ≤ m.length ∧ t = .int .i64 i ∧ cmpL l m = cmpL (l.drop i) (m.drop i)) (fun t => l.length - (intOf t).toNat)
  case atStart => exact ⟨0, Nat.zero_le _, Nat.zero_le _, rfl, by simp⟩
  case round =>
    obtain ⟨i, hi, hj, rfl, hc⟩ := hrel
    have HC := Lib.hid hc
    clear hc
    by_cases hlt : i < l.length
    · obtain ⟨Ba, Oa, eA, _, ha⟩ := hA (by omega)
      obtain ⟨x, hx⟩ : ∃ x, x = l[i] := ⟨_, rfl⟩
      have ca' := ha i x (by simp [hlt, hx])
      have ix := fun c => @idx26 A Ba Oa l.length c eA i hlt
      have HX := Lib.hid hx
      clear eA ha hx
      by_cases hlt2 : i < m.length
      · obtain ⟨Bb, Ob, eB, _, hb⟩ := hB (by omega)
        obtain ⟨y, hy⟩ : ∃ y, y = m[i] := ⟨_, rfl⟩
        have cb' := hb i y (by simp [hlt2, hy])
        have iy := fun c => @idx26 B Bb Ob m.length c eB i hlt2
        have hcd := cmpL_drop l m i hlt hlt2
        rw [← hy, ← HX.out] at hcd
        have HCD := Lib.hid hcd
        clear eB hb hy hcd
        have hcmp := Try.cmp_Compare_int x y w
        by_cases h1 : x < y
        · have hv : Lib.compareInt x y = -1 := by simp [Lib.compareInt, h1]
          rw [hv] at hcmp
          have HCMP := Lib.hid hcmp
          clear hcmp hv
          go_wp2_with (go_at_call 104; refine HCMP.out.mono ?_; rintro e w' ⟨rfl, rfl⟩)
          go_ret
          exact ⟨by rw [HC.out, HCD.out, if_pos (by omega)]; rfl, rfl⟩
        · by_cases h2 : y < x
          · have hv : Lib.compareInt x y = 1 := by simp [Lib.compareInt, h1, h2]
            rw [hv] at hcmp
            have HCMP := Lib.hid hcmp
            clear hcmp hv
            go_wp2_with (go_at_call 104; refine HCMP.out.mono ?_; rintro e w' ⟨rfl, rfl⟩)
            go_ret
            exact ⟨by rw [HC.out, HCD.out, if_neg (by omega), if_pos (by omega)]; rfl, rfl⟩
          · have hv : Lib.compareInt x y = 0 := by simp [Lib.compareInt, h1, h2]
            rw [hv] at hcmp
            have HCMP := Lib.hid hcmp
            clear hcmp hv
            go_wp2_with (go_at_call 104; refine HCMP.out.mono ?_; rintro e w' ⟨rfl, rfl⟩)
            go_round
            case rel => exact ⟨i + 1, by omega, by omega, by go_num, by rw [HC.out, HCD.out, if_neg (by omega), if_neg (by omega)]⟩
            case measure => simp [intOf]; omega
      · have hcs := cmpL_drop_short l m i hlt (by omega)
        have HCS := Lib.hid hcs
        clear hcs
        go_wp2_with fail
        go_ret
        exact ⟨by rw [HC.out, HCS.out]; rfl, rfl⟩
    · have hce := cmpL_drop_end l m i (by omega) hj (by omega)
      have HCE := Lib.hid hce
      clear hce
      by_cases h : (l.length : Int) < (m.length : Int)
      · go_wp2_with fail
        go_ret
        exact ⟨by rw [HC.out, HCE.out, if_pos (by omega)]; rfl, rfl⟩
      · go_wp2_with fail
        go_ret
        exact ⟨by rw [HC.out, HCE.out, if_neg (by omega)]; rfl, rfl⟩

theorem before_or (a b : List Int) : beforeI a b = orI ((a.length : Int) - b.length) (cmpL a b) := by
  unfold beforeI orI
  by_cases h : a.length = b.length
  · rw [if_neg (by simp [h]), if_neg (by simp [h])]
  · rw [if_pos h, if_pos (by omega)]

set_option maxRecDepth 100000 in
set_option maxHeartbeats 1000000 in
theorem c67 {A B : Option Addr} {ca cb : Nat} {l m : List Int} {w : World} {S T : Nat → Prop} (hA : numsAt S w A l) (hB : numsAt T w B m) (hl : l.length ≤ 2000) (hm : m.length ≤ 2000) :
    Calls Try.prog 67 #[.slice A l.length ca, .slice B m.length cb] w fun e w' => e = .returned (.int .i64 (beforeI l m)) ∧ ∃ x, w' = over w x := by
  have hc := c92 (ca := ca) (cb := cb) hA hB hl hm
  have HC := Lib.hid hc
  have HB := Lib.hid (before_or l m)
  clear hc hA hB
  generalize cmpL l m = v at *
  go_enter Try.func67, Try.ntmps67
  go_wp2_with (first | (go_at_call 92; refine HC.out.mono ?_; rintro e w' ⟨rfl, rfl⟩) | (go_at_call 91; refine (c91 ((l.length : Int) - m.length) v _ _ _ (by simp [go_sem]) (by simp [go_sem])).mono ?_; rintro e w' ⟨rfl, rfl⟩))
  go_ret
  exact ⟨by rw [HB.out]; rfl, below_over (by repeat' (first | exact Below.refl _ _ | (refine below_ov ?_ ?_) | (refine Below.alloc ?_ ?_ _) | (refine below_drewN' ?_ _) | (refine Below.drew ?_) | (refine below_set ?_ _ _ ?_) | (simp; done) | (simp; omega) | omega))⟩

set_option maxRecDepth 100000 in
set_option maxHeartbeats 1000000 in
theorem c65 (H B : Nat) (nums : List Int) (h : Int → Bool) (c : Crt) (w : World) (hB : w.cell? ⟨B, 0, none⟩ = some (.map (some H))) (hm : boolsAt w H nums h) :
    Calls Try.prog 65 #[crtV c, .pointer (some ⟨B, 0, none⟩)] w fun e w' => e = .returned (.bool (decide (c.num ∈ nums) && h c.num)) ∧ ∃ x, w' = over w x := by
  have hl := fun o => (hm.keepTo (Keep.alloc (fun _ => True) w o) trivial).get c.num
  have ls := lt_of_cell hB
  generalize (decide (c.num ∈ nums) && h c.num) = r at hl ⊢
  have HM := Lib.hid hm
  clear hm
  simp only [crtV]
  go_enter Try.func65, Try.ntmps65
  go_wp2_with fail
  go_ret
  exact ⟨rfl, below_over (by repeat' (first | exact Below.refl _ _ | (refine below_ov ?_ ?_) | (refine Below.alloc ?_ ?_ _) | (refine below_drewN' ?_ _) | (refine Below.drew ?_) | (refine below_set ?_ _ _ ?_) | (simp; done) | (simp; omega) | omega))⟩
end Go.Proofs.Ytmcnpfjichbijaa


/- Lists in slices; maps of lists: what the best chain's walk keeps. -/
set_option linter.unusedSimpArgs false
set_option linter.unusedVariables false
namespace Go.Proofs.Ytmcnpfjichbijaa
open Go Go.Proofs Go.RowKit Go.Shelf


/-- A slice that is none or holds a list. -/
def listV (S : Nat → Prop) (w : World) (v : Value) (l : List Int) : Prop :=
  (l = [] ∧ v = .slice none 0 0) ∨ (l ≠ [] ∧ ∃ b o c, v = .slice (some ⟨b, o, none⟩) l.length c ∧ S b ∧ ∀ i n, l[i]? = some n → w.cell? ⟨b, o + i, none⟩ = some (.int .i64 n))

theorem listV.keep {S T : Nat → Prop} {w w' : World} {v : Value} {l : List Int} (h : listV S w v l) (k : Keep T w w') (hT : ∀ j, S j → T j) : listV S w' v l := by
  rcases h with h | ⟨h1, b, o, c, h2, h3, h4⟩
  · exact .inl h
  · exact .inr ⟨h1, b, o, c, h2, h3, fun i n hn => k.cell (h4 i n hn) (hT b h3)⟩
theorem listV.mono {S T : Nat → Prop} {w : World} {v : Value} {l : List Int} (h : listV S w v l) (hT : ∀ j, S j → T j) : listV T w v l := by
  rcases h with h | ⟨h1, b, o, c, h2, h3, h4⟩
  · exact .inl h
  · exact .inr ⟨h1, b, o, c, h2, hT b h3, h4⟩
/-- Its parts. -/
theorem listV.parts {S : Nat → Prop} {w : World} {v : Value} {l : List Int} (h : listV S w v l) : ∃ A c, v = .slice A l.length c ∧ numsAt S w A l ∧ (l = [] → A = none ∧ c = 0) ∧ (l ≠ [] → A.isSome = true) := by
  rcases h with ⟨rfl, rfl⟩ | ⟨h1, b, o, c, rfl, h3, h4⟩
  · exact ⟨none, 0, rfl, fun h => by simp at h, fun _ => ⟨rfl, rfl⟩, fun h => absurd rfl h⟩
  · exact ⟨some ⟨b, o, none⟩, c, rfl, fun _ => ⟨b, o, rfl, h3, h4⟩, fun h => absurd h h1, fun _ => rfl⟩

/-- A map of lists. -/
def endsAt (S : Nat → Prop) (w : World) (E : Nat) (f : Int → List Int) : Prop := ∃ g, isMap w E g ∧ ∀ n, listV S w ((g n).getD (.slice none 0 0)) (f n)

theorem underlying117 : Try.prog.underlying 117 = some (.map 3 26) := by kernel_rfl
theorem zero26 (w : World) : (zeroValue 26).run Try.prog w = .ok (.slice none 0 0) w := by kernel_rfl

theorem endsAt.get {S : Nat → Prop} {w : World} {E : Nat} {f : Int → List Int} (h : endsAt S w E f) (n : Int) :
    ∃ v, listV S w v (f n) ∧ ∀ w', Keep (fun j => j < w.heap.size) w w' → (Instr.lookup 117 (.map (some E)) (.int .i64 n) false).run Try.prog w' = .ok v w' := by
  obtain ⟨g, hg, h⟩ := h
  refine ⟨_, h n, fun w' k => ?_⟩
  have := run_lookup_map underlying117 underlying3 (hg.keep k hg.lt) (zero26 w') n false
  simpa using this
theorem endsAt.keep {S T : Nat → Prop} {w w' : World} {E : Nat} {f : Int → List Int} (h : endsAt S w E f) (k : Keep T w w') (hE : T E) (hS : ∀ j, S j → T j) : endsAt S w' E f := by
  obtain ⟨g, hg, h⟩ := h
  exact ⟨g, hg.keep k hE, fun n => (h n).keep k hS⟩
theorem endsAt.mono {S T : Nat → Prop} {w : World} {E : Nat} {f : Int → List Int} (h : endsAt S w E f) (hS : ∀ j, S j → T j) : endsAt T w E f := by
  obtain ⟨g, hg, h⟩ := h
  exact ⟨g, hg, fun n => (h n).mono hS⟩

/-- A box that holds a list. -/
def ListBox (S : Nat → Prop) (W : World) (B : Nat) (l : List Int) : Prop := ∃ v, W.cell? ⟨B, 0, none⟩ = some v ∧ listV S W v l ∧ W.frozen? ⟨B, 0, none⟩ = false

/-- The state of the best chain's loop. -/
structure BSt (b : Bk) (k : Wk) (H : Nat) (w1 : World) (i : Nat) (wr : World) : Prop where
  bel : Below w1.heap.size w1 wr
  b9 : wr.cell? ⟨w1.heap.size, 0, none⟩ = some (.map (some H))
  b11 : wr.cell? ⟨w1.heap.size + 1, 0, none⟩ = some (.func (.func 65) #[] #[.pointer (some ⟨w1.heap.size, 0, none⟩)])
  b12 : wr.cell? ⟨w1.heap.size + 1 + 1 + 1, 0, none⟩ = some (.map (some (w1.heap.size + 1 + 1)))
  ends : endsAt (fun j => w1.heap.size + 3 < j ∧ j < wr.heap.size) wr (w1.heap.size + 1 + 1) (endsU b i)

/-- The box of the best one, while a range over a function goes on. -/
def BestBox (Z : Nat) (l : List Int) (W : World) : Prop := ListBox (fun j => Z < j ∧ j < W.heap.size) W Z l

theorem listBox_own {β : Type} (Z n : Nat) (f : β → List Int) : OwnFrom n (fun s W => BestBox Z (f s) W) := by
  rintro s A C row ⟨v, hc, hv, hf⟩ hg hr
  refine ⟨v, cell_kept hc hg (fun r e => (hr r e).2), ?_, (frozen_kept hc hg (fun r e => (hr r e).2)).trans hf⟩
  rcases hv with h | ⟨h1, b, o, c, h2, h3, h4⟩
  · exact .inl h
  · exact .inr ⟨h1, b, o, c, h2, ⟨h3.1, Nat.lt_of_lt_of_le h3.2 hg.size⟩, fun i m hm => cell_kept (h4 i m hm) hg (fun r e => (hr r e).2)⟩

theorem BestBox.keep {Z : Nat} {l : List Int} {W W' : World} (h : BestBox Z l W) (k : Keep (fun j => j < W.heap.size) W W') : BestBox Z l W' := by
  obtain ⟨v, hc, hv, hf⟩ := h
  have l := lt_of_cell hc
  refine ⟨v, k.cell hc l, (hv.keep k fun j hj => hj.2).mono fun j hj => ⟨hj.1, by have := k.size; omega⟩, ?_⟩
  rw [World.frozen?_of_block (k.block Z l l)]; exact hf

/-- A new list is stored in the box. -/
theorem BestBox.put {Z : Nat} {l l' : List Int} {W : World} {v : Value} (h : BestBox Z l W) (hv : listV (fun j => Z < j ∧ j < W.heap.size) W v l') : BestBox Z l' (W.setCell ⟨Z, 0, none⟩ v) := by
  obtain ⟨v0, hc, _, hf⟩ := h
  refine ⟨v, World.cell?_setCell_same' _ _ _ (by rw [hc]; rfl), ?_, by rw [World.frozen?_setCell]; exact hf⟩
  rcases hv with h | ⟨h1, b, o, c, h2, h3, h4⟩
  · exact .inl h
  · refine .inr ⟨h1, b, o, c, h2, by simpa using h3, fun i m hm => ?_⟩
    rw [World.cell?_setCell_other _ _ _ _ (by intro e; have := congrArg Addr.block e; simp at this; omega)]
    exact h4 i m hm
end Go.Proofs.Ytmcnpfjichbijaa

