/- The document's own: the error of a book, walked. -/
import Derived.Test.YtmcnpfjichbijaaR1
import Derived.BigRegion
set_option linter.unusedSimpArgs false
set_option linter.unusedVariables false
namespace Go.Proofs.Ytmcnpfjichbijaa
open Go Go.Proofs Go.RowKit Go.Shelf


/-- A book's box, and what it points at. -/
structure Bx (b : Bk) (Ai Ac : Option Addr) (ci cc g : Nat) (w : World) : Prop where
  lg : g < w.heap.size
  c0 : w.cell? ⟨g, 0, none⟩ = some (.slice Ai b.items.length ci)
  c1 : w.cell? ⟨g, 1, none⟩ = some (.slice Ac b.certs.length cc)
  its : itemsAt (· < w.heap.size) w Ai b.items
  cts : certsAt (· < w.heap.size) w Ac b.certs

theorem Bx.on {b : Bk} {Ai Ac : Option Addr} {ci cc g : Nat} {w w' : World} (h : Bx b Ai Ac ci cc g w) (hb : Below w.heap.size w w') : Bx b Ai Ac ci cc g w' := by
  have k : Keep (· < w.heap.size) w w' := Keep.of_below hb fun _ h _ => h
  have hs := k.size
  exact ⟨by have := h.lg; omega, k.cell h.c0 h.lg, k.cell h.c1 h.lg, (h.its.keep k).mono fun j hj => by omega, (h.cts.keep k).mono fun j hj => by omega⟩

theorem Bx.made {b : Bk} {Ai Ac : Option Addr} {ci cc : Nat} {w : World} (t : TypeId) (hI : itemsAt (· < w.heap.size) w Ai b.items) (hC : certsAt (· < w.heap.size) w Ac b.certs) :
    Bx b Ai Ac ci cc w.heap.size (w.alloc (.cells #[.slice Ai b.items.length ci, .slice Ac b.certs.length cc] t)) := by
  have k : Keep (· < w.heap.size) w (w.alloc (.cells #[.slice Ai b.items.length ci, .slice Ac b.certs.length cc] t)) := Keep.alloc _ _ _
  have hs : (w.alloc (.cells #[.slice Ai b.items.length ci, .slice Ac b.certs.length cc] t)).heap.size = w.heap.size + 1 := by simp
  exact ⟨by omega, by simp [go_sem], by simp [go_sem], (hI.keep k).mono fun j hj => by omega, (hC.keep k).mono fun j hj => by omega⟩

/-- The items up to i are as described. -/
def ItsOk (b : Bk) (i : Nat) : Prop := ∀ x ∈ b.items.take i, itmOk x = true
def CtsOk (b : Bk) (i : Nat) : Prop := ∀ x ∈ b.certs.take i, crtOk b x = true
def ClsOk (b : Bk) (i : Nat) : Prop := ∀ x ∈ b.certs.take i, ∀ y ∈ b.certs, clash x y = false
def ClOk (b : Bk) (x : Crt) (i : Nat) : Prop := ∀ y ∈ b.certs.take i, clash x y = false

theorem ItsOk.succ {b : Bk} {i : Nat} (h : ItsOk b i) (hi : i < b.items.length) (hx : itmOk b.items[i] = true) : ItsOk b (i + 1) := fun x hm => by
  rw [List.take_succ_eq_append_getElem hi] at hm
  rcases List.mem_append.1 hm with h1 | h1
  · exact h x h1
  · rw [List.mem_singleton.1 h1]; exact hx
theorem CtsOk.succ {b : Bk} {i : Nat} (h : CtsOk b i) (hi : i < b.certs.length) (hx : crtOk b b.certs[i] = true) : CtsOk b (i + 1) := fun x hm => by
  rw [List.take_succ_eq_append_getElem hi] at hm
  rcases List.mem_append.1 hm with h1 | h1
  · exact h x h1
  · rw [List.mem_singleton.1 h1]; exact hx
theorem ClsOk.succ {b : Bk} {i : Nat} (h : ClsOk b i) (hi : i < b.certs.length) (hx : ClOk b b.certs[i] b.certs.length) : ClsOk b (i + 1) := fun x hm => by
  rw [List.take_succ_eq_append_getElem hi] at hm
  rcases List.mem_append.1 hm with h1 | h1
  · exact h x h1
  · rw [List.mem_singleton.1 h1]; unfold ClOk at hx; rw [List.take_length] at hx; exact hx
theorem ClOk.succ {b : Bk} {x : Crt} {i : Nat} (h : ClOk b x i) (hi : i < b.certs.length) (hx : clash x b.certs[i] = false) : ClOk b x (i + 1) := fun y hm => by
  rw [List.take_succ_eq_append_getElem hi] at hm
  rcases List.mem_append.1 hm with h1 | h1
  · exact h y h1
  · rw [List.mem_singleton.1 h1]; exact hx

theorem crtOk_flat (b : Bk) (n i y d v l h : Int) : crtOk b ⟨n, i, y, d, v, ⟨l, h⟩⟩ = (inB n 1 999 && inB i 0 ((b.items.length : Int) - 1) && !stdOf b i && inB y 0 ((b.items.length : Int) - 1) && !(y == i) && inB d 0 1000 && inB v 0 1000 && spanOk ⟨l, h⟩) := rfl

set_option maxRecDepth 100000 in
set_option maxHeartbeats 1000000 in
theorem c45_3 (Ai Ac : Option Addr) (ci cc : Nat) (b : Bk) (w : World) (hl : b.items.length ≤ 1000) (hl2 : b.certs.length ≤ 1000) (h3 : 8 < b.items.length ∨ 24 < b.certs.length) :
    Calls Try.prog 45 #[.agg #[.slice Ai b.items.length ci, .slice Ac b.certs.length cc]] w fun e w' => e = .returned (.int .i64 3) ∧ ∃ x, w' = over w x := by
  by_cases h1 : 8 < b.items.length
  · have h1' : (8 : Int) < (b.items.length : Int) := by omega
    clear h3
    go_enter Try.func45, Try.ntmps45
    go_wp2_with fail
    go_ret
    exact ⟨rfl, below_over (by repeat' (first | exact Below.refl _ _ | (refine below_ov ?_ ?_) | (refine Below.alloc ?_ ?_ _) | (refine below_drewN' ?_ _) | (refine Below.drew ?_) | (refine below_set ?_ _ _ ?_) | (simp; done) | (simp; omega) | omega))⟩
  · have h2 : 24 < b.certs.length := by omega
    have h1' : ¬ (8 : Int) < (b.items.length : Int) := by omega
    have h2' : (24 : Int) < (b.certs.length : Int) := by omega
    clear h3
    go_enter Try.func45, Try.ntmps45
    go_wp2_with fail
    go_ret
    exact ⟨rfl, below_over (by repeat' (first | exact Below.refl _ _ | (refine below_ov ?_ ?_) | (refine Below.alloc ?_ ?_ _) | (refine below_drewN' ?_ _) | (refine Below.drew ?_) | (refine below_set ?_ _ _ ?_) | (simp; done) | (simp; omega) | omega))⟩

set_option maxRecDepth 100000 in
set_option maxHeartbeats 6000000 in
theorem c45 (Ai Ac : Option Addr) (ci cc : Nat) (b : Bk) (w : World) (hI : itemsAt (· < w.heap.size) w Ai b.items) (hC : certsAt (· < w.heap.size) w Ac b.certs) (h3 : ¬ (8 < b.items.length ∨ 24 < b.certs.length)) :
    Calls Try.prog 45 #[.agg #[.slice Ai b.items.length ci, .slice Ac b.certs.length cc]] w fun e w' => e = .returned (.int .i64 (fault b)) ∧ ∃ x, w' = over w x := by
  have h1' : ¬ (8 : Int) < (b.items.length : Int) := by omega
  have h2' : ¬ (24 : Int) < (b.certs.length : Int) := by omega
  have hl : b.items.length ≤ 8 := by omega
  have hl2 : b.certs.length ≤ 24 := by omega
  have HB := Lib.hid (Bx.made (ci := ci) (cc := cc) 25 hI hC)
  have hb0 := HB.out.c0
  have hb1 := HB.out.c1
  have H3 := Lib.hid h3
  clear h3 hI hC
  go_enter Try.func45, Try.ntmps45
  go_wp2_with fail
  clear hb0 hb1
  have hbw : Below w.heap.size w (w.alloc (.cells #[.slice Ai b.items.length ci, .slice Ac b.certs.length cc] 25)) := by repeat' (first | exact Below.refl _ _ | (refine below_ov ?_ ?_) | (refine Below.alloc ?_ ?_ _) | (refine below_drewN' ?_ _) | (refine Below.drew ?_) | (refine below_set ?_ _ _ ?_) | (simp; done) | (simp; omega) | omega)
  have HW := Lib.hid hbw
  clear hbw
  generalize w.alloc (.cells #[.slice Ai b.items.length ci, .slice Ac b.certs.length cc] 25) = w1 at HB HW ⊢
  go_loopw [3] (fun t wr => ∃ i : Nat, i ≤ b.items.length ∧ t = .int .i64 i ∧ ItsOk b i ∧ Bx b Ai Ac ci cc w.heap.size wr ∧ Below w.heap.size w wr) (fun t _ => b.items.length - (intOf t).toNat)
  case atStart => exact ⟨0, Nat.zero_le _, rfl, fun x h => by simp at h, HB.out, HW.out⟩
  case round =>
    obtain ⟨i, hi, rfl, hok, hbx, hbel⟩ := hrel
    have HBX := Lib.hid hbx
    have HBEL := Lib.hid hbel
    have HOK := Lib.hid hok
    have c0 := hbx.c0
    have c1 := hbx.c1
    have lg := hbx.lg
    clear hok HB HW hbel hbx
    by_cases hlt : i < b.items.length
    · as_aux_lemma =>
      obtain ⟨Bi, Bo, eI, hSI, hits⟩ := HBX.out.its (by omega)
      obtain ⟨⟨d, s, ⟨lo, hi'⟩⟩, hx⟩ : ∃ x, x = b.items[i] := ⟨_, rfl⟩
      obtain ⟨i0, i1, i2, i3⟩ := hits i ⟨d, s, ⟨lo, hi'⟩⟩ (by simp [hlt, hx])
      have hix := fun c => @idx22 Ai Bi Bo b.items.length c eI i hlt
      dsimp only at i0 i1 i2 i3
      have hmem : (⟨d, s, ⟨lo, hi'⟩⟩ : Itm) ∈ b.items := by rw [hx]; exact List.getElem_mem hlt
      have hf1 : itmOk ⟨d, s, ⟨lo, hi'⟩⟩ = false → fault b = 1 := fun h => fault_one H3.out (.inl ⟨_, hmem, h⟩)
      have hnx : itmOk ⟨d, s, ⟨lo, hi'⟩⟩ = true → ItsOk b (i + 1) := fun h => HOK.out.succ hlt (by rw [← hx]; exact h)
      have hie : itmOk ⟨d, s, ⟨lo, hi'⟩⟩ = (inB d 0 100 && spanOk ⟨lo, hi'⟩ && (s || (lo == 0 && hi' == 0))) := rfl
      rw [hie] at hf1 hnx
      have HF1 := Lib.hid hf1
      have HNX := Lib.hid hnx
      have li := lt_of_cell i0
      clear hits eI hmem hf1 hnx hie hx
      cases e1 : inB d 0 100
      · as_aux_lemma =>
        rw [e1] at HF1
        go_wp2_with (first | (go_at_call 56; refine (c56 _ _ _ _).mono ?_; rintro e w' ⟨rfl, rfl⟩) | (go_at_call 74; refine (c74 _ _ _).mono ?_; rintro e w' ⟨rfl, x, rfl⟩))
        go_ret
        exact ⟨by rw [HF1.out (by simp)]; rfl, below_over (HBEL.out.trans (by repeat' (first | exact Below.refl _ _ | (refine below_ov ?_ ?_) | (refine Below.alloc ?_ ?_ _) | (refine below_drewN' ?_ _) | (refine Below.drew ?_) | (refine below_set ?_ _ _ ?_) | (simp; done) | (simp; omega) | omega)))⟩
      · cases e2 : spanOk ⟨lo, hi'⟩
        · as_aux_lemma =>
          rw [e1, e2] at HF1
          go_wp2_with (first | (go_at_call 56; refine (c56 _ _ _ _).mono ?_; rintro e w' ⟨rfl, rfl⟩) | (go_at_call 74; refine (c74 _ _ _).mono ?_; rintro e w' ⟨rfl, x, rfl⟩))
          go_ret
          exact ⟨by rw [HF1.out (by simp)]; rfl, below_over (HBEL.out.trans (by repeat' (first | exact Below.refl _ _ | (refine below_ov ?_ ?_) | (refine Below.alloc ?_ ?_ _) | (refine below_drewN' ?_ _) | (refine Below.drew ?_) | (refine below_set ?_ _ _ ?_) | (simp; done) | (simp; omega) | omega)))⟩
        · cases s
          · cases e3 : (lo == 0)
            · have e3' : (lo != 0) = true := by simp [bne, e3]
              rw [e1, e2, e3] at HF1
              go_wp2_with (first | (go_at_call 56; refine (c56 _ _ _ _).mono ?_; rintro e w' ⟨rfl, rfl⟩) | (go_at_call 74; refine (c74 _ _ _).mono ?_; rintro e w' ⟨rfl, x, rfl⟩))
              go_ret
              exact ⟨by rw [HF1.out (by simp)]; rfl, below_over (HBEL.out.trans (by repeat' (first | exact Below.refl _ _ | (refine below_ov ?_ ?_) | (refine Below.alloc ?_ ?_ _) | (refine below_drewN' ?_ _) | (refine Below.drew ?_) | (refine below_set ?_ _ _ ?_) | (simp; done) | (simp; omega) | omega)))⟩
            · have e3' : (lo != 0) = false := by simp [bne, e3]
              cases e4 : (hi' == 0)
              · have e4' : (hi' != 0) = true := by simp [bne, e4]
                rw [e1, e2, e3, e4] at HF1
                go_wp2_with (first | (go_at_call 56; refine (c56 _ _ _ _).mono ?_; rintro e w' ⟨rfl, rfl⟩) | (go_at_call 74; refine (c74 _ _ _).mono ?_; rintro e w' ⟨rfl, x, rfl⟩))
                go_ret
                exact ⟨by rw [HF1.out (by simp)]; rfl, below_over (HBEL.out.trans (by repeat' (first | exact Below.refl _ _ | (refine below_ov ?_ ?_) | (refine Below.alloc ?_ ?_ _) | (refine below_drewN' ?_ _) | (refine Below.drew ?_) | (refine below_set ?_ _ _ ?_) | (simp; done) | (simp; omega) | omega)))⟩
              · have e4' : (hi' != 0) = false := by simp [bne, e4]
                rw [e1, e2, e3, e4] at HNX
                go_wp2_with (first | (go_at_call 56; refine (c56 _ _ _ _).mono ?_; rintro e w' ⟨rfl, rfl⟩) | (go_at_call 74; refine (c74 _ _ _).mono ?_; rintro e w' ⟨rfl, x, rfl⟩))
                go_roundw
                case rel => exact ⟨i + 1, by omega, by go_num, HNX.out (by simp), HBX.out.on (by repeat' (first | exact Below.refl _ _ | (refine below_ov ?_ ?_) | (refine Below.alloc ?_ ?_ _) | (refine below_drewN' ?_ _) | (refine Below.drew ?_) | (refine below_set ?_ _ _ ?_) | (simp; done) | (simp; omega) | omega)), HBEL.out.trans (by repeat' (first | exact Below.refl _ _ | (refine below_ov ?_ ?_) | (refine Below.alloc ?_ ?_ _) | (refine below_drewN' ?_ _) | (refine Below.drew ?_) | (refine below_set ?_ _ _ ?_) | (simp; done) | (simp; omega) | omega))⟩
                case measure => simp [intOf]; omega
          · rw [e1, e2] at HNX
            go_wp2_with (first | (go_at_call 56; refine (c56 _ _ _ _).mono ?_; rintro e w' ⟨rfl, rfl⟩) | (go_at_call 74; refine (c74 _ _ _).mono ?_; rintro e w' ⟨rfl, x, rfl⟩))
            go_roundw
            case rel => exact ⟨i + 1, by omega, by go_num, HNX.out (by simp), HBX.out.on (by repeat' (first | exact Below.refl _ _ | (refine below_ov ?_ ?_) | (refine Below.alloc ?_ ?_ _) | (refine below_drewN' ?_ _) | (refine Below.drew ?_) | (refine below_set ?_ _ _ ?_) | (simp; done) | (simp; omega) | omega)), HBEL.out.trans (by repeat' (first | exact Below.refl _ _ | (refine below_ov ?_ ?_) | (refine Below.alloc ?_ ?_ _) | (refine below_drewN' ?_ _) | (refine Below.drew ?_) | (refine below_set ?_ _ _ ?_) | (simp; done) | (simp; omega) | omega))⟩
            case measure => simp [intOf]; omega
    · as_aux_lemma =>
      have hall : ∀ x ∈ b.items, itmOk x = true := by have := HOK.out; unfold ItsOk at this; rwa [List.take_of_length_le (by omega)] at this
      have HALL := Lib.hid hall
      clear hall HOK
      go_wp2_with fail
      go_loopw [5] (fun t w2 => ∃ i : Nat, i ≤ b.certs.length ∧ t = .int .i64 i ∧ CtsOk b i ∧ Bx b Ai Ac ci cc w.heap.size w2 ∧ Below w.heap.size w w2) (fun t _ => b.certs.length - (intOf t).toNat)
      case atStart => exact ⟨0, Nat.zero_le _, rfl, fun x h => by simp at h, HBX.out, HBEL.out⟩
      case round =>
        clear c0 c1 lg HBX HBEL hlt hi
        obtain ⟨i, hi, rfl, hok, hbx, hbel⟩ := hrel
        have HBX := Lib.hid hbx
        have HBEL := Lib.hid hbel
        have HOK := Lib.hid hok
        have c0 := hbx.c0
        have c1 := hbx.c1
        have lg := hbx.lg
        clear hok hbel hbx
        by_cases hlt : i < b.certs.length
        · as_aux_lemma =>
          obtain ⟨Bc, Co, eC, hSC, hcs⟩ := HBX.out.cts (by omega)
          obtain ⟨⟨n, it, y, d, v, ⟨lo, hi'⟩⟩, hx⟩ : ∃ x, x = b.certs[i] := ⟨_, rfl⟩
          obtain ⟨q0, q1, q2, q3, q4, q5, q6⟩ := hcs i ⟨n, it, y, d, v, ⟨lo, hi'⟩⟩ (by simp [hlt, hx])
          have hix := fun c => @idx23 Ac Bc Co b.certs.length c eC i hlt
          dsimp only at q0 q1 q2 q3 q4 q5 q6
          have hmem : (⟨n, it, y, d, v, ⟨lo, hi'⟩⟩ : Crt) ∈ b.certs := by rw [hx]; exact List.getElem_mem hlt
          have hf1 : crtOk b ⟨n, it, y, d, v, ⟨lo, hi'⟩⟩ = false → fault b = 1 := fun h => fault_one H3.out (.inr ⟨_, hmem, h⟩)
          have hnx : crtOk b ⟨n, it, y, d, v, ⟨lo, hi'⟩⟩ = true → CtsOk b (i + 1) := fun h => HOK.out.succ hlt (by rw [← hx]; exact h)
          rw [crtOk_flat] at hf1 hnx
          have HF1 := Lib.hid hf1
          have HNX := Lib.hid hnx
          have li := lt_of_cell q0
          clear hcs eC hmem hf1 hnx hx
          cases e1 : inB n 1 999
          · as_aux_lemma =>
            rw [e1] at HF1
            go_wp2_with (first | (go_at_call 56; refine (c56 _ _ _ _).mono ?_; rintro e w' ⟨rfl, rfl⟩) | (go_at_call 74; refine (c74 _ _ _).mono ?_; rintro e w' ⟨rfl, x, rfl⟩))
            go_ret
            exact ⟨by rw [HF1.out (by simp)]; rfl, below_over (HBEL.out.trans (by repeat' (first | exact Below.refl _ _ | (refine below_ov ?_ ?_) | (refine Below.alloc ?_ ?_ _) | (refine below_drewN' ?_ _) | (refine Below.drew ?_) | (refine below_set ?_ _ _ ?_) | (simp; done) | (simp; omega) | omega)))⟩
          cases e2 : inB it 0 ((b.items.length : Int) - 1)
          · as_aux_lemma =>
            rw [e1, e2] at HF1
            go_wp2_with (first | (go_at_call 56; refine (c56 _ _ _ _).mono ?_; rintro e w' ⟨rfl, rfl⟩) | (go_at_call 74; refine (c74 _ _ _).mono ?_; rintro e w' ⟨rfl, x, rfl⟩))
            go_ret
            exact ⟨by rw [HF1.out (by simp)]; rfl, below_over (HBEL.out.trans (by repeat' (first | exact Below.refl _ _ | (refine below_ov ?_ ?_) | (refine Below.alloc ?_ ?_ _) | (refine below_drewN' ?_ _) | (refine Below.drew ?_) | (refine below_set ?_ _ _ ?_) | (simp; done) | (simp; omega) | omega)))⟩
          cases e3 : inB y 0 ((b.items.length : Int) - 1)
          · as_aux_lemma =>
            rw [e1, e2, e3] at HF1
            go_wp2_with (first | (go_at_call 56; refine (c56 _ _ _ _).mono ?_; rintro e w' ⟨rfl, rfl⟩) | (go_at_call 74; refine (c74 _ _ _).mono ?_; rintro e w' ⟨rfl, x, rfl⟩))
            go_ret
            exact ⟨by rw [HF1.out (by simp)]; rfl, below_over (HBEL.out.trans (by repeat' (first | exact Below.refl _ _ | (refine below_ov ?_ ?_) | (refine Below.alloc ?_ ?_ _) | (refine below_drewN' ?_ _) | (refine Below.drew ?_) | (refine below_set ?_ _ _ ?_) | (simp; done) | (simp; omega) | omega)))⟩
          cases e4 : (y == it)
          · have h0 := e2
            simp only [inB, decide_eq_true_eq] at h0
            obtain ⟨m, hm⟩ := Int.eq_ofNat_of_zero_le h0.1
            subst hm
            have hml : m < b.items.length := by omega
            obtain ⟨Bi, Bo, eI, hSI, hits⟩ := HBX.out.its (by omega)
            have hstd := (hits m b.items[m] (by simp [hml])).2.1
            have hix2 := fun c => @idx22 Ai Bi Bo b.items.length c eI m hml
            have hsd : stdOf b (m : Int) = b.items[m].std := by unfold stdOf; simp [hml]
            generalize b.items[m].std = sv at hstd hsd
            have l2 := lt_of_cell hstd
            have HSD := Lib.hid hsd
            clear h0 eI hits hsd
            cases sv
            · cases e6 : inB d 0 1000
              · rw [e1, e2, e3, e4, e6] at HF1
                go_wp2_with (first | (go_at_call 56; refine (c56 _ _ _ _).mono ?_; rintro e w' ⟨rfl, rfl⟩) | (go_at_call 74; refine (c74 _ _ _).mono ?_; rintro e w' ⟨rfl, x, rfl⟩))
                go_ret
                exact ⟨by rw [HF1.out (by simp)]; rfl, below_over (HBEL.out.trans (by repeat' (first | exact Below.refl _ _ | (refine below_ov ?_ ?_) | (refine Below.alloc ?_ ?_ _) | (refine below_drewN' ?_ _) | (refine Below.drew ?_) | (refine below_set ?_ _ _ ?_) | (simp; done) | (simp; omega) | omega)))⟩
              cases e7 : inB v 0 1000
              · rw [e1, e2, e3, e4, e6, e7] at HF1
                go_wp2_with (first | (go_at_call 56; refine (c56 _ _ _ _).mono ?_; rintro e w' ⟨rfl, rfl⟩) | (go_at_call 74; refine (c74 _ _ _).mono ?_; rintro e w' ⟨rfl, x, rfl⟩))
                go_ret
                exact ⟨by rw [HF1.out (by simp)]; rfl, below_over (HBEL.out.trans (by repeat' (first | exact Below.refl _ _ | (refine below_ov ?_ ?_) | (refine Below.alloc ?_ ?_ _) | (refine below_drewN' ?_ _) | (refine Below.drew ?_) | (refine below_set ?_ _ _ ?_) | (simp; done) | (simp; omega) | omega)))⟩
              cases e8 : spanOk ⟨lo, hi'⟩
              · rw [e1, e2, e3, e4, e6, e7, e8] at HF1
                go_wp2_with (first | (go_at_call 56; refine (c56 _ _ _ _).mono ?_; rintro e w' ⟨rfl, rfl⟩) | (go_at_call 74; refine (c74 _ _ _).mono ?_; rintro e w' ⟨rfl, x, rfl⟩))
                go_ret
                exact ⟨by rw [HF1.out (by simp)]; rfl, below_over (HBEL.out.trans (by repeat' (first | exact Below.refl _ _ | (refine below_ov ?_ ?_) | (refine Below.alloc ?_ ?_ _) | (refine below_drewN' ?_ _) | (refine Below.drew ?_) | (refine below_set ?_ _ _ ?_) | (simp; done) | (simp; omega) | omega)))⟩
              rw [e1, e2, e3, e4, e6, e7, e8] at HNX
              go_wp2_with (first | (go_at_call 56; refine (c56 _ _ _ _).mono ?_; rintro e w' ⟨rfl, rfl⟩) | (go_at_call 74; refine (c74 _ _ _).mono ?_; rintro e w' ⟨rfl, x, rfl⟩))
              go_roundw
              case rel => exact ⟨i + 1, by omega, by go_num, HNX.out (by rw [HSD.out]; rfl), HBX.out.on (by repeat' (first | exact Below.refl _ _ | (refine below_ov ?_ ?_) | (refine Below.alloc ?_ ?_ _) | (refine below_drewN' ?_ _) | (refine Below.drew ?_) | (refine below_set ?_ _ _ ?_) | (simp; done) | (simp; omega) | omega)), HBEL.out.trans (by repeat' (first | exact Below.refl _ _ | (refine below_ov ?_ ?_) | (refine Below.alloc ?_ ?_ _) | (refine below_drewN' ?_ _) | (refine Below.drew ?_) | (refine below_set ?_ _ _ ?_) | (simp; done) | (simp; omega) | omega))⟩
              case measure => simp [intOf]; omega
            · go_wp2_with (first | (go_at_call 56; refine (c56 _ _ _ _).mono ?_; rintro e w' ⟨rfl, rfl⟩) | (go_at_call 74; refine (c74 _ _ _).mono ?_; rintro e w' ⟨rfl, x, rfl⟩))
              go_ret
              exact ⟨by rw [HF1.out (by rw [HSD.out]; simp)]; rfl, below_over (HBEL.out.trans (by repeat' (first | exact Below.refl _ _ | (refine below_ov ?_ ?_) | (refine Below.alloc ?_ ?_ _) | (refine below_drewN' ?_ _) | (refine Below.drew ?_) | (refine below_set ?_ _ _ ?_) | (simp; done) | (simp; omega) | omega)))⟩
          · rw [e4] at HF1
            go_wp2_with (first | (go_at_call 56; refine (c56 _ _ _ _).mono ?_; rintro e w' ⟨rfl, rfl⟩) | (go_at_call 74; refine (c74 _ _ _).mono ?_; rintro e w' ⟨rfl, x, rfl⟩))
            go_ret
            exact ⟨by rw [HF1.out (by simp)]; rfl, below_over (HBEL.out.trans (by repeat' (first | exact Below.refl _ _ | (refine below_ov ?_ ?_) | (refine Below.alloc ?_ ?_ _) | (refine below_drewN' ?_ _) | (refine Below.drew ?_) | (refine below_set ?_ _ _ ?_) | (simp; done) | (simp; omega) | omega)))⟩
        · as_aux_lemma =>
          have hall2 : ∀ x ∈ b.certs, crtOk b x = true := by have := HOK.out; unfold CtsOk at this; rwa [List.take_of_length_le (by omega)] at this
          have HALL2 := Lib.hid hall2
          clear hall2 HOK
          go_wp2_with fail
          go_loopw [7] (fun t w2 => ∃ i : Nat, i ≤ b.certs.length ∧ t = .int .i64 i ∧ ClsOk b i ∧ Bx b Ai Ac ci cc w.heap.size w2 ∧ Below w.heap.size w w2) (fun t _ => b.certs.length - (intOf t).toNat)
          case atStart => exact ⟨0, Nat.zero_le _, rfl, fun x h => by simp at h, HBX.out, HBEL.out⟩
          case round =>
            clear c0 c1 lg HBX HBEL hlt hi
            obtain ⟨i, hi, rfl, hok, hbx, hbel⟩ := hrel
            have HBX := Lib.hid hbx
            have HBEL := Lib.hid hbel
            have HOK := Lib.hid hok
            have c0 := hbx.c0
            have c1 := hbx.c1
            have lg := hbx.lg
            clear hok hbel hbx
            by_cases hlt : i < b.certs.length
            · as_aux_lemma =>
              obtain ⟨Bc, Co, eC, hSC, hcs⟩ := HBX.out.cts (by omega)
              obtain ⟨⟨n, it, y, d, v, ⟨lo, hi'⟩⟩, hx⟩ : ∃ x, x = b.certs[i] := ⟨_, rfl⟩
              have hix := fun c => @idx23 Ac Bc Co b.certs.length c eC i hlt
              have hqs := hcs i ⟨n, it, y, d, v, ⟨lo, hi'⟩⟩ (by simp [hlt, hx])
              have hmem : (⟨n, it, y, d, v, ⟨lo, hi'⟩⟩ : Crt) ∈ b.certs := by rw [hx]; exact List.getElem_mem hlt
              have hnx : ClOk b ⟨n, it, y, d, v, ⟨lo, hi'⟩⟩ b.certs.length → ClsOk b (i + 1) := fun h => HOK.out.succ hlt (by rw [← hx]; exact h)
              have HQS := Lib.hid hqs
              have HCS := Lib.hid hcs
              have HEC := Lib.hid eC
              have HMEM := Lib.hid hmem
              have HNX := Lib.hid hnx
              have lC : Bc < wr.heap.size := hSC
              clear hqs hcs eC hmem hnx hx
              go_wp2_with fail
              obtain ⟨wo, rfl⟩ : ∃ wo : World, wo = wr := ⟨_, rfl⟩
              go_loopw [8] (fun t w2 => ∃ k : Nat, k ≤ b.certs.length ∧ t = .int .i64 k ∧ ClOk b ⟨n, it, y, d, v, ⟨lo, hi'⟩⟩ k ∧ Below wo.heap.size wo w2) (fun t _ => b.certs.length - (intOf t).toNat)
              case atStart => exact ⟨0, Nat.zero_le _, rfl, fun x h => by simp at h, Below.refl _ _⟩
              case round =>
                obtain ⟨k, hk, rfl, hcl, hbw⟩ := hrel
                have HCL := Lib.hid hcl
                have HBW := Lib.hid hbw
                have hbx2 := HBX.out.on hbw
                have d0 := hbx2.c0
                have d1 := hbx2.c1
                have lg2 := hbx2.lg
                have kw : Keep (· < wo.heap.size) wo wr := Keep.of_below hbw fun _ h _ => h
                clear hcl hbw hbx2 c0 c1 lg
                by_cases hlt2 : k < b.certs.length
                · as_aux_lemma =>
                  obtain ⟨p0, p1, p2, p3, p4, p5, p6⟩ := HQS.out
                  have q0 := kw.cell p0 lC
                  have q1 := kw.cell p1 lC
                  have q2 := kw.cell p2 lC
                  have q3 := kw.cell p3 lC
                  have q4 := kw.cell p4 lC
                  have q5 := kw.cell p5 lC
                  have q6 := kw.cell p6 lC
                  clear p0 p1 p2 p3 p4 p5 p6
                  obtain ⟨⟨n', it', y', d', v', ⟨lo', hi''⟩⟩, hx⟩ : ∃ x, x = b.certs[k] := ⟨_, rfl⟩
                  obtain ⟨p0, p1, p2, p3, p4, p5, p6⟩ := HCS.out k ⟨n', it', y', d', v', ⟨lo', hi''⟩⟩ (by simp [hlt2, hx])
                  dsimp only at p0 p1 p2 p3 p4 p5 p6
                  have r0 := kw.cell p0 lC
                  have r1 := kw.cell p1 lC
                  have r2 := kw.cell p2 lC
                  have r3 := kw.cell p3 lC
                  have r4 := kw.cell p4 lC
                  have r5 := kw.cell p5 lC
                  have r6 := kw.cell p6 lC
                  have lC2 := lt_of_cell q0
                  clear p0 p1 p2 p3 p4 p5 p6 kw
                  have hix2 := fun c => @idx23 Ac Bc Co b.certs.length c HEC.out k hlt2
                  have hmem : (⟨n', it', y', d', v', ⟨lo', hi''⟩⟩ : Crt) ∈ b.certs := by rw [hx]; exact List.getElem_mem hlt2
                  have hf6 : clash ⟨n, it, y, d, v, ⟨lo, hi'⟩⟩ ⟨n', it', y', d', v', ⟨lo', hi''⟩⟩ = true → fault b = 6 := fun h => fault_clash H3.out HALL.out HALL2.out ⟨_, HMEM.out, _, hmem, h⟩
                  have hnx : clash ⟨n, it, y, d, v, ⟨lo, hi'⟩⟩ ⟨n', it', y', d', v', ⟨lo', hi''⟩⟩ = false → ClOk b ⟨n, it, y, d, v, ⟨lo, hi'⟩⟩ (k + 1) := fun h => HCL.out.succ hlt2 (by rw [← hx]; exact h)
                  have hce : clash ⟨n, it, y, d, v, ⟨lo, hi'⟩⟩ ⟨n', it', y', d', v', ⟨lo', hi''⟩⟩ = ((n == n' && ((⟨n, it, y, d, v, ⟨lo, hi'⟩⟩ : Crt) != ⟨n', it', y', d', v', ⟨lo', hi''⟩⟩)) || (decide (n' < n) && decide (d < d'))) := rfl
                  have hne := run_ne58 ⟨n, it, y, d, v, ⟨lo, hi'⟩⟩ ⟨n', it', y', d', v', ⟨lo', hi''⟩⟩
                  simp only [crtV] at hne
                  rw [hce] at hf6 hnx
                  generalize ((⟨n, it, y, d, v, ⟨lo, hi'⟩⟩ : Crt) != ⟨n', it', y', d', v', ⟨lo', hi''⟩⟩) = ne at hne hf6 hnx
                  have HF6 := Lib.hid hf6
                  have HNX2 := Lib.hid hnx
                  have HNE := Lib.hid hne
                  clear hf6 hnx hce hx hmem hne
                  go_wp2_with fail
                  go_region
                  · as_aux_lemma =>
                    generalize hw3 : World.drew _ = w3
                    have HB3 := Lib.hid (show Below wr.heap.size wr w3 by rw [← hw3]; repeat' (first | exact Below.refl _ _ | (refine below_ov ?_ ?_) | (refine Below.alloc ?_ ?_ _) | (refine below_drewN' ?_ _) | (refine Below.drew ?_) | (refine below_set ?_ _ _ ?_) | (simp; done) | (simp; omega) | omega))
                    have ls : wr.heap.size + 1 < w3.heap.size := by rw [← hw3]; simp
                    have ls0 : wr.heap.size < w3.heap.size := by omega
                    have x0 : w3.cell? ⟨wr.heap.size, 0, none⟩ = some (.int .i64 n) := by rw [← hw3]; simp [go_sem]
                    have y0 : w3.cell? ⟨wr.heap.size + 1, 0, none⟩ = some (.int .i64 n') := by rw [← hw3]; simp [go_sem]
                    have x1 : w3.cell? ⟨wr.heap.size, 1, none⟩ = some (.int .i64 it) := by rw [← hw3]; simp [go_sem]
                    have y1 : w3.cell? ⟨wr.heap.size + 1, 1, none⟩ = some (.int .i64 it') := by rw [← hw3]; simp [go_sem]
                    have x2 : w3.cell? ⟨wr.heap.size, 2, none⟩ = some (.int .i64 y) := by rw [← hw3]; simp [go_sem]
                    have y2 : w3.cell? ⟨wr.heap.size + 1, 2, none⟩ = some (.int .i64 y') := by rw [← hw3]; simp [go_sem]
                    have x3 : w3.cell? ⟨wr.heap.size, 3, none⟩ = some (.int .i64 d) := by rw [← hw3]; simp [go_sem]
                    have y3 : w3.cell? ⟨wr.heap.size + 1, 3, none⟩ = some (.int .i64 d') := by rw [← hw3]; simp [go_sem]
                    have x4 : w3.cell? ⟨wr.heap.size, 4, none⟩ = some (.int .i64 v) := by rw [← hw3]; simp [go_sem]
                    have y4 : w3.cell? ⟨wr.heap.size + 1, 4, none⟩ = some (.int .i64 v') := by rw [← hw3]; simp [go_sem]
                    have x5 : w3.cell? ⟨wr.heap.size, 5, none⟩ = some (.int .i64 lo) := by rw [← hw3]; simp [go_sem]
                    have y5 : w3.cell? ⟨wr.heap.size + 1, 5, none⟩ = some (.int .i64 lo') := by rw [← hw3]; simp [go_sem]
                    have x6 : w3.cell? ⟨wr.heap.size, 6, none⟩ = some (.int .i64 hi') := by rw [← hw3]; simp [go_sem]
                    have y6 : w3.cell? ⟨wr.heap.size + 1, 6, none⟩ = some (.int .i64 hi'') := by rw [← hw3]; simp [go_sem]
                    clear hw3 hix hix2 q0 q1 q2 q3 q4 q5 q6 r0 r1 r2 r3 r4 r5 r6 d0 d1 HCS HQS
                    have hne := HNE.out
                    cases e1 : (n == n')
                    · as_aux_lemma =>
                      rw [e1] at HF6 HNX2
                      clear x1 x2 x4 x5 x6 y1 y2 y4 y5 y6 hne
                      cases e3 : decide (n' < n)
                      · as_aux_lemma =>
                        rw [e3] at HF6 HNX2
                        go_wp2_with fail
                        go_roundw
                        case rel => exact ⟨k + 1, by omega, by go_num, HNX2.out (by simp), HBW.out.trans (HB3.out.mono (by have := HBW.out.size; omega))⟩
                        case measure => simp [intOf]; omega
                      · as_aux_lemma =>
                        rw [e3] at HF6 HNX2
                        cases e4 : decide (d < d')
                        · as_aux_lemma =>
                          rw [e4] at HF6 HNX2
                          go_wp2_with fail
                          go_roundw
                          case rel => exact ⟨k + 1, by omega, by go_num, HNX2.out (by simp), HBW.out.trans (HB3.out.mono (by have := HBW.out.size; omega))⟩
                          case measure => simp [intOf]; omega
                        · as_aux_lemma =>
                          rw [e4] at HF6 HNX2
                          go_wp2_with fail
                          go_ret
                          exact ⟨by rw [HF6.out (by simp)]; rfl, below_over (HBEL.out.trans ((HBW.out.trans (HB3.out.mono (by have := HBW.out.size; omega))).mono (by have := HBEL.out.size; omega)))⟩
                    · as_aux_lemma =>
                      rw [e1] at HF6 HNX2
                      cases ne
                      · cases e3 : decide (n' < n)
                        · as_aux_lemma =>
                          rw [e3] at HF6 HNX2
                          go_wp2_with fail
                          go_roundw
                          case rel => exact ⟨k + 1, by omega, by go_num, HNX2.out (by simp), HBW.out.trans (HB3.out.mono (by have := HBW.out.size; omega))⟩
                          case measure => simp [intOf]; omega
                        · exact absurd e3 (by simp at e1 ⊢; omega)
                      · as_aux_lemma =>
                        clear HNX2
                        go_wp2_with fail
                        go_ret
                        exact ⟨by rw [HF6.out (by simp)]; rfl, below_over (HBEL.out.trans ((HBW.out.trans (HB3.out.mono (by have := HBW.out.size; omega))).mono (by have := HBEL.out.size; omega)))⟩
                  · as_aux_lemma =>
                    generalize hw3 : World.drew _ = w3
                    have HB3 := Lib.hid (show Below wr.heap.size wr w3 by rw [← hw3]; repeat' (first | exact Below.refl _ _ | (refine below_ov ?_ ?_) | (refine Below.alloc ?_ ?_ _) | (refine below_drewN' ?_ _) | (refine Below.drew ?_) | (refine below_set ?_ _ _ ?_) | (simp; done) | (simp; omega) | omega))
                    have ls : wr.heap.size + 1 < w3.heap.size := by rw [← hw3]; simp
                    have ls0 : wr.heap.size < w3.heap.size := by omega
                    have x0 : w3.cell? ⟨wr.heap.size, 0, none⟩ = some (.int .i64 n') := by rw [← hw3]; simp [go_sem]
                    have y0 : w3.cell? ⟨wr.heap.size + 1, 0, none⟩ = some (.int .i64 n) := by rw [← hw3]; simp [go_sem]
                    have x1 : w3.cell? ⟨wr.heap.size, 1, none⟩ = some (.int .i64 it') := by rw [← hw3]; simp [go_sem]
                    have y1 : w3.cell? ⟨wr.heap.size + 1, 1, none⟩ = some (.int .i64 it) := by rw [← hw3]; simp [go_sem]
                    have x2 : w3.cell? ⟨wr.heap.size, 2, none⟩ = some (.int .i64 y') := by rw [← hw3]; simp [go_sem]
                    have y2 : w3.cell? ⟨wr.heap.size + 1, 2, none⟩ = some (.int .i64 y) := by rw [← hw3]; simp [go_sem]
                    have x3 : w3.cell? ⟨wr.heap.size, 3, none⟩ = some (.int .i64 d') := by rw [← hw3]; simp [go_sem]
                    have y3 : w3.cell? ⟨wr.heap.size + 1, 3, none⟩ = some (.int .i64 d) := by rw [← hw3]; simp [go_sem]
                    have x4 : w3.cell? ⟨wr.heap.size, 4, none⟩ = some (.int .i64 v') := by rw [← hw3]; simp [go_sem]
                    have y4 : w3.cell? ⟨wr.heap.size + 1, 4, none⟩ = some (.int .i64 v) := by rw [← hw3]; simp [go_sem]
                    have x5 : w3.cell? ⟨wr.heap.size, 5, none⟩ = some (.int .i64 lo') := by rw [← hw3]; simp [go_sem]
                    have y5 : w3.cell? ⟨wr.heap.size + 1, 5, none⟩ = some (.int .i64 lo) := by rw [← hw3]; simp [go_sem]
                    have x6 : w3.cell? ⟨wr.heap.size, 6, none⟩ = some (.int .i64 hi'') := by rw [← hw3]; simp [go_sem]
                    have y6 : w3.cell? ⟨wr.heap.size + 1, 6, none⟩ = some (.int .i64 hi') := by rw [← hw3]; simp [go_sem]
                    clear hw3 hix hix2 q0 q1 q2 q3 q4 q5 q6 r0 r1 r2 r3 r4 r5 r6 d0 d1 HCS HQS
                    have hne := HNE.out
                    cases e1 : (n == n')
                    · as_aux_lemma =>
                      rw [e1] at HF6 HNX2
                      clear x1 x2 x4 x5 x6 y1 y2 y4 y5 y6 hne
                      cases e3 : decide (n' < n)
                      · as_aux_lemma =>
                        rw [e3] at HF6 HNX2
                        go_wp2_with fail
                        go_roundw
                        case rel => exact ⟨k + 1, by omega, by go_num, HNX2.out (by simp), HBW.out.trans (HB3.out.mono (by have := HBW.out.size; omega))⟩
                        case measure => simp [intOf]; omega
                      · as_aux_lemma =>
                        rw [e3] at HF6 HNX2
                        cases e4 : decide (d < d')
                        · as_aux_lemma =>
                          rw [e4] at HF6 HNX2
                          go_wp2_with fail
                          go_roundw
                          case rel => exact ⟨k + 1, by omega, by go_num, HNX2.out (by simp), HBW.out.trans (HB3.out.mono (by have := HBW.out.size; omega))⟩
                          case measure => simp [intOf]; omega
                        · as_aux_lemma =>
                          rw [e4] at HF6 HNX2
                          go_wp2_with fail
                          go_ret
                          exact ⟨by rw [HF6.out (by simp)]; rfl, below_over (HBEL.out.trans ((HBW.out.trans (HB3.out.mono (by have := HBW.out.size; omega))).mono (by have := HBEL.out.size; omega)))⟩
                    · as_aux_lemma =>
                      rw [e1] at HF6 HNX2
                      cases ne
                      · cases e3 : decide (n' < n)
                        · as_aux_lemma =>
                          rw [e3] at HF6 HNX2
                          go_wp2_with fail
                          go_roundw
                          case rel => exact ⟨k + 1, by omega, by go_num, HNX2.out (by simp), HBW.out.trans (HB3.out.mono (by have := HBW.out.size; omega))⟩
                          case measure => simp [intOf]; omega
                        · exact absurd e3 (by simp at e1 ⊢; omega)
                      · as_aux_lemma =>
                        clear HNX2
                        go_wp2_with fail
                        go_ret
                        exact ⟨by rw [HF6.out (by simp)]; rfl, below_over (HBEL.out.trans ((HBW.out.trans (HB3.out.mono (by have := HBW.out.size; omega))).mono (by have := HBEL.out.size; omega)))⟩
                · as_aux_lemma =>
                  have hce := HCL.out
                  have hke : k = b.certs.length := by omega
                  rw [hke] at hce
                  have HN := Lib.hid (HNX.out hce)
                  clear hce hke
                  go_wp2_with fail
                  go_roundw
                  case rel => exact ⟨i + 1, by omega, by go_num, HN.out, HBX.out.on HBW.out, HBEL.out.trans (HBW.out.mono (by have := HBEL.out.size; omega))⟩
                  case measure => simp [intOf]; omega
            · go_wp2_with fail
              go_ret
              have := HOK.out
              unfold ClsOk at this
              rw [List.take_of_length_le (by omega)] at this
              exact ⟨by rw [fault_none H3.out HALL.out HALL2.out this]; rfl, below_over HBEL.out⟩
end Go.Proofs.Ytmcnpfjichbijaa

