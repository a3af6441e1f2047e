/- A book's error; a book with bad certificates. -/
import Derived.Test.YtmcnpfjichbijaaC8
set_option linter.unusedSimpArgs false
set_option linter.unusedVariables false
namespace Go.Proofs.Ytmcnpfjichbijaa
open Go Go.Proofs Go.RowKit Go.Shelf


/-- What reading returns. -/
def ReadAll (b : Bk) (w : World) (e : Ending) (w' : World) : Prop :=
  (fault b ≠ 0 ∧ e = .returned (.tuple #[.pointer none, .int .i64 (fault b)]) ∧ ∃ x, w' = over w x) ∨
  (fault b = 0 ∧ ∃ k : Wk, e = .returned (.tuple #[.pointer (some ⟨k.W, 0, none⟩), .int .i64 0]) ∧ Made b (fun _ => false) w w' k)

theorem c69 (Ai Ac : Option Addr) (ci cc : Nat) (b : Bk) (w : World) (hA : bookAt (· < w.heap.size) w Ai Ac b) (hl : b.items.length ≤ 1000) (hl2 : b.certs.length ≤ 1000) :
    Calls Try.prog 69 #[.agg #[.slice Ai b.items.length ci, .slice Ac b.certs.length cc]] w (ReadAll b w) := by
  by_cases h3 : 8 < b.items.length ∨ 24 < b.certs.length
  · refine (c69_3 Ai Ac ci cc b w hl hl2 h3).mono ?_
    rintro e w' ⟨rfl, h⟩
    have : fault b = 3 := by unfold fault; rw [if_pos h3]
    exact .inl ⟨by omega, by rw [this], h⟩
  · by_cases h1 : (b.items.all itmOk && b.certs.all (crtOk b)) = false
    · refine (c69_1 Ai Ac ci cc b w hA (by omega) (by omega) h1).mono ?_
      rintro e w' ⟨rfl, h⟩
      have : fault b = 1 := by unfold fault; rw [if_neg h3, if_pos h1]
      exact .inl ⟨by omega, by rw [this], h⟩
    · refine (c69_0 Ai Ac ci cc b w hA (by omega) (by omega) (by simpa using h1)).mono ?_
      rintro e w' (⟨rfl, h6, h⟩ | h)
      · exact .inl ⟨by omega, by rw [h6], h⟩
      · exact .inr h

set_option maxRecDepth 100000 in
set_option maxHeartbeats 1000000 in
theorem c40 (Ai Ac : Option Addr) (ci cc : Nat) (b : Bk) (w : World) (hA : bookAt (· < w.heap.size) w Ai Ac b) (hl : b.items.length ≤ 1000) (hl2 : b.certs.length ≤ 1000) :
    Calls Try.prog 40 #[.agg #[.slice Ai b.items.length ci, .slice Ac b.certs.length cc]] w fun e w' => e = .returned (.int .i64 (fault b)) ∧ ∃ x, w' = over w x := by
  have hk : Keep (· < w.heap.size) w (w.alloc (.cells #[.slice Ai b.items.length ci, .slice Ac b.certs.length cc] 35)) := Keep.alloc _ _ _
  have hlt : ∀ j, j < w.heap.size → j < (w.alloc (.cells #[.slice Ai b.items.length ci, .slice Ac b.certs.length cc] 35)).heap.size := fun j hj => by rw [World.size_alloc]; omega
  have hc := c69 Ai Ac ci cc b _ ⟨(hA.1.keep hk).mono hlt, (hA.2.keep hk).mono hlt⟩ hl hl2
  have HC := Lib.hid hc
  clear hc hA hk hlt
  go_enter Try.func40, Try.ntmps40
  go_wp2_with fail
  refine HC.out.mono ?_
  rintro e w1 (⟨h0, rfl, x, rfl⟩ | ⟨h0, k, rfl, hm⟩)
  · have H0 := Lib.hid h0
    clear h0
    go_wp2_with fail
    go_ret
    exact ⟨rfl, below_over (by repeat' (first | exact Below.refl _ _ | (refine below_ov ?_ ?_) | (refine Below.alloc ?_ ?_ _) | (refine below_drewN' ?_ _) | (refine Below.drew ?_) | (refine below_set ?_ _ _ ?_) | (simp; done) | (simp; omega) | omega))⟩
  · have H0 := Lib.hid h0
    have HM := Lib.hid hm
    clear h0 hm
    go_wp2_with fail
    go_ret
    refine ⟨by rw [H0.out]; rfl, below_over (Below.trans (Below.alloc (Below.refl _ _) (Nat.le_refl _) _) (HM.out.bel.mono ?_))⟩
    simp

/-- What a book with bad ones returns. -/
def WithTo (b : Bk) (l : List Int) (w : World) (e : Ending) (w' : World) : Prop :=
  (errOf b l ≠ 0 ∧ e = .returned (.tuple #[.pointer none, .int .i64 (errOf b l)]) ∧ ∃ x, w' = over w x) ∨
  (errOf b l = 0 ∧ ∃ k : Wk, e = .returned (.tuple #[.pointer (some ⟨k.W, 0, none⟩), .int .i64 0]) ∧ Made b (fun n => decide (n ∈ l)) w w' k)

def Wk.wb (k : Wk) (f : Int → Bool) : Wk := { k with bad := f }

theorem keep_items {S T : Nat → Prop} {w w' : World} {A : Option Addr} {l : List Itm} (h : itemsAt S w A l) (k : Keep T w w') (hT : ∀ j, S j → T j) : itemsAt S w' A l := fun hl => by
  obtain ⟨b, o, e, hS, hc⟩ := h hl
  exact ⟨b, o, e, hS, fun i x hx => by obtain ⟨h1, h2, h3, h4⟩ := hc i x hx; exact ⟨k.cell h1 (hT _ hS), k.cell h2 (hT _ hS), k.cell h3 (hT _ hS), k.cell h4 (hT _ hS)⟩⟩
theorem keep_certs {S T : Nat → Prop} {w w' : World} {A : Option Addr} {l : List Crt} (h : certsAt S w A l) (k : Keep T w w') (hT : ∀ j, S j → T j) : certsAt S w' A l := fun hl => by
  obtain ⟨b, o, e, hS, hc⟩ := h hl
  exact ⟨b, o, e, hS, fun i x hx => by obtain ⟨h1, h2, h3, h4, h5, h6, h7⟩ := hc i x hx; exact ⟨k.cell h1 (hT _ hS), k.cell h2 (hT _ hS), k.cell h3 (hT _ hS), k.cell h4 (hT _ hS), k.cell h5 (hT _ hS), k.cell h6 (hT _ hS), k.cell h7 (hT _ hS)⟩⟩
theorem keep_nums {S T : Nat → Prop} {w w' : World} {A : Option Addr} {l : List Int} (h : numsAt S w A l) (k : Keep T w w') (hT : ∀ j, S j → T j) : numsAt S w' A l := fun hl => by
  obtain ⟨b, o, e, hS, hc⟩ := h hl
  exact ⟨b, o, e, hS, fun i n hn => k.cell (hc i n hn) (hT _ hS)⟩

theorem Made.lt {b : Bk} {f : Int → Bool} {w w' : World} {k : Wk} (h : Made b f w w' k) : k.W < w'.heap.size := lt_of_cell h.at_.c0

theorem Made.set {b : Bk} {f : Int → Bool} {w w' : World} {k : Wk} (h : Made b f w w' k) (m : Nat) (hm : m ≤ 999) : Made b (fun n => n == (m : Int) || f n) w (w'.setCell ⟨k.W, 4 + m, none⟩ (.bool true)) (k.wb fun n => n == (m : Int) || f n) := by
  have hlt := h.lt
  have kp : Keep (fun j => j ≠ k.W) w' (w'.setCell ⟨k.W, 4 + m, none⟩ (.bool true)) := Keep.setCell _ _ _ (by simp)
  have hsz : (w'.setCell ⟨k.W, 4 + m, none⟩ (.bool true)).heap.size = w'.heap.size := by simp
  have other : ∀ (o : Nat) v, o ≠ 4 + m → w'.cell? ⟨k.W, o, none⟩ = some v → (w'.setCell ⟨k.W, 4 + m, none⟩ (.bool true)).cell? ⟨k.W, o, none⟩ = some v := fun o v ho hv =>
    Eq.trans (World.cell?_setCell_other (w := w') (a := ⟨k.W, 4 + m, none⟩) (b := ⟨k.W, o, none⟩) _ (by simp <;> omega)) hv
  have hW := h.hW
  have hMW := h.hMW
  have ii := keep_items h.its kp fun j hj => by have := hj; omega
  have cc := keep_certs h.cts kp fun j hj => by have := hj; omega
  have nn := keep_nums h.nms kp fun j hj => by have := hj.1; omega
  have hsW := h.bel.size
  have O := h.ok
  refine ⟨h.kb, h.kn, h.kc, rfl, ⟨O.nl, O.il, O.cl, O.num, O.rng, O.day, O.by_, O.item, O.cap⟩, ⟨(show k.W < (w'.setCell _ _).heap.size by rw [hsz]; exact hlt), (show k.M < (w'.setCell _ _).heap.size by rw [hsz]; omega), other 0 _ (by omega) h.at_.c0, other 1 _ (by omega) h.at_.c1, other 2 _ (by omega) h.at_.c2, other 3 _ (by omega) h.at_.c3, fun n hn => ?_, ?_, ?_, ?_, ?_⟩, hW, h.hM, hMW, fun o => ?_, ii, cc, ?_, ?_⟩
  · by_cases hnm : n = m
    · subst hnm
      simp only [Wk.wb, beq_self_eq_true, Bool.true_or]
      exact World.cell?_setCell_same' _ _ _ (by rw [h.at_.bad n hn]; rfl)
    · have hne : ((n : Int) == (m : Int)) = false := by simp; omega
      simp only [Wk.wb, hne, Bool.false_or]
      rw [← h.kf]
      exact other _ _ (by omega) (h.at_.bad n hn)
  · exact ii.mono fun j hj => (show j < (w'.setCell _ _).heap.size by rw [hsz]; have := hj; omega)
  · exact cc.mono fun j hj => (show j < (w'.setCell _ _).heap.size by rw [hsz]; have := hj; omega)
  · exact nn.mono fun j hj => (show j < (w'.setCell _ _).heap.size by rw [hsz]; exact hj.2)
  · exact h.at_.mp.keep kp (by omega)
  · rw [World.frozen?_setCell]; exact h.fz o
  · exact nn.mono fun j hj => ⟨hj.1, by rw [hsz]; exact hj.2⟩
  · refine h.bel.trans ⟨rfl, rfl, rfl, by rw [hsz]; exact Nat.le_refl _, fun j hj => Below.heap_setCell _ _ _ _ (by simp; omega)⟩

theorem Made.of {b : Bk} {f : Int → Bool} {w w1 w' : World} {k : Wk} (h : Made b f w1 w' k) (hb : Below w.heap.size w w1) : Made b f w w' k := by
  have hs := hb.size
  have h1 := h.hW
  have h2 := h.hM
  exact ⟨h.kb, h.kn, h.kc, h.kf, h.ok, h.at_, by omega, by omega, h.hMW, h.fz, h.its, h.cts, h.nms, hb.trans (h.bel.mono hs)⟩

theorem Made.on {b : Bk} {f : Int → Bool} {w w1 w' : World} {k : Wk} (h : Made b f w w1 k) (hb : Below w1.heap.size w1 w') : Made b f w w' k := by
  have kp : Keep (· < w1.heap.size) w1 w' := Keep.of_below hb fun _ h _ => h
  have hs := hb.size
  have hlt := h.lt
  have hMW := h.hMW
  have hwb := h.bel.size
  refine ⟨h.kb, h.kn, h.kc, h.kf, h.ok, (h.at_.keep kp).mono fun j hj => (show j < w'.heap.size by have := hj; omega), h.hW, h.hM, h.hMW, fun o => ?_, keep_items h.its kp fun j hj => (show j < w1.heap.size by have := hj; omega), keep_certs h.cts kp fun j hj => (show j < w1.heap.size by have := hj; omega), ?_, h.bel.trans (hb.mono hwb)⟩
  · have h1 := h.fz o
    have hb := kp.block k.W hlt hlt
    unfold World.frozen? at h1 ⊢
    rw [hb]; exact h1
  · exact (keep_nums h.nms kp fun j hj => hj.2).mono fun j hj => ⟨hj.1, by have := hj.2; omega⟩

theorem badOk_not {l : List Int} {i : Nat} (h : i < l.length) (hn : ¬ ((1 ≤ l[i] ∧ l[i] ≤ 999) ∧ (0 < i → l[i - 1] < l[i]))) : badOk l = false := by
  unfold badOk
  exact decide_eq_false fun hc => hn (hc i h)

theorem errOf_two {b : Bk} {l : List Int} (h0 : fault b = 0) (h : badOk l = false) : errOf b l = 2 := by
  unfold errOf; rw [if_neg (by omega), h]; simp

set_option maxRecDepth 100000 in
set_option maxHeartbeats 1000000 in
theorem c50 (Ai Ac Ab : Option Addr) (ci cc cb : Nat) (b : Bk) (l : List Int) (w : World) (hA : bookAt (· < w.heap.size) w Ai Ac b) (hB : numsAt (· < w.heap.size) w Ab l) (hl : b.items.length ≤ 1000) (hl2 : b.certs.length ≤ 1000) (hl3 : l.length ≤ 1000) :
    Calls Try.prog 50 #[.agg #[.slice Ai b.items.length ci, .slice Ac b.certs.length cc], .slice Ab l.length cb] w (WithTo b l w) := by
  have hk : Keep (· < w.heap.size) w (w.alloc (.cells #[.slice Ai b.items.length ci, .slice Ac b.certs.length cc] 35)) := Keep.alloc _ _ _
  have hlt : ∀ j, j < w.heap.size → j < (w.alloc (.cells #[.slice Ai b.items.length ci, .slice Ac b.certs.length cc] 35)).heap.size := fun j hj => by rw [World.size_alloc]; omega
  have hc := c69 Ai Ac ci cc b _ ⟨(hA.1.keep hk).mono hlt, (hA.2.keep hk).mono hlt⟩ hl hl2
  have HC := Lib.hid hc
  have HB := Lib.hid hB
  clear hc hA hk hlt hB
  go_enter Try.func50, Try.ntmps50
  go_wp2_with fail
  refine HC.out.mono ?_
  rintro e w1 (⟨h0, rfl, x, rfl⟩ | ⟨h0, k, rfl, hm⟩)
  · have hne : ((fault b : Int) != 0) = true := by simp [h0]
    have H0 := Lib.hid h0
    clear h0
    go_wp2_with fail
    go_ret2
    have he : errOf b l = fault b := by unfold errOf; rw [if_pos H0.out]
    exact .inl ⟨by rw [he]; exact H0.out, by rw [he]; rfl, below_over (by repeat' (first | exact Below.refl _ _ | (refine below_ov ?_ ?_) | (refine Below.alloc ?_ ?_ _) | (refine below_drewN' ?_ _) | (refine Below.drew ?_) | (refine below_set ?_ _ _ ?_) | (simp; done) | (simp; omega) | omega))⟩
  · have H0 := Lib.hid h0
    have hm2 : Made b (fun _ => false) w w1 k := hm.of ((Below.refl _ _).alloc (Nat.le_refl _) _)
    have HM := Lib.hid hm2
    clear h0 hm hm2
    go_wp2_with fail
    go_loopw [20] (fun t wr => ∃ i : Nat, i ≤ l.length ∧ t = .int .i64 i ∧ Made b (fun n => decide (n ∈ l.take i)) w wr (k.wb fun n => decide (n ∈ l.take i)) ∧ (∀ j, ∀ (h : j < l.length), j < i → (1 ≤ l[j] ∧ l[j] ≤ 999) ∧ (0 < j → l[j - 1] < l[j]))) (fun t _ => l.length - (intOf t).toNat)
    case atStart =>
      refine ⟨0, Nat.zero_le _, rfl, ?_, fun j h h' => by omega⟩
      have h1 := HM.out
      have : k.wb (fun n => decide (n ∈ l.take 0)) = k := by
        have := h1.kf
        obtain ⟨⟩ := k
        simp only [Wk.wb] at *
        subst this
        simp
      rw [this]
      simpa using h1
    case round =>
      obtain ⟨i, hi, rfl, hmade, hall⟩ := hrel
      have hwb := hmade.bel.size
      by_cases hlt : i < l.length
      · obtain ⟨nb, no, eN, hSn, hcs⟩ := HB.out.keep (Keep.of_below (S := (· < w.heap.size)) hmade.bel fun _ h _ => h) (by omega)
        obtain ⟨q, hq⟩ : ∃ q, q = l[i] := ⟨_, rfl⟩
        have hcq := hcs i q (by simp [hlt, hq])
        have hix := fun c => @idx26 Ab nb no l.length c eN i hlt
        have ln := lt_of_cell hcq
        have HQ := Lib.hid hq
        have HALL := Lib.hid hall
        clear hq hall
        cases hn : inB q 1 999
        · have HN := Lib.hid hn
          have HMD := Lib.hid hmade
          clear hcs eN
          clear hmade
          go_wp2_with (go_at_call 80; refine (c80 _ _).mono ?_; rintro e w' ⟨rfl, rfl⟩)
          go_ret2
          have he : errOf b l = 2 := errOf_two H0.out (badOk_not hlt fun hc => by
            have h1 := HN.out
            rw [HQ.out] at h1
            simp [inB] at h1
            omega)
          exact .inl ⟨by omega, by rw [he]; rfl, below_over HMD.out.bel⟩
        · have HN := Lib.hid hn
          have hq1 : 1 ≤ q ∧ q ≤ 999 := by simpa [inB] using hn
          obtain ⟨hq1, hq2⟩ := hq1
          have hW := hmade.lt
          simp only [Wk.wb] at hW
          obtain ⟨m, hm⟩ := Int.eq_ofNat_of_zero_le (show 0 ≤ q by omega)
          have hbm := hmade.at_.bad m (by omega)
          have hfz := hmade.fz
          simp only [Wk.wb] at hbm hfz
          have hqm : q.toNat = m := by omega
          obtain ⟨bb, hbb⟩ : ∃ bb, decide ((m : Int) ∈ l.take i) = bb := ⟨_, rfl⟩
          rw [hbb] at hbm
          have hset := hmade.set m (by omega)
          have hfin : (0 < i → l[i - 1]'(by omega) < l[i]) → ∃ i' : Nat, i' ≤ l.length ∧ (Value.int .i64 ((i : Int) + 1)) = .int .i64 i' ∧ Made b (fun n => decide (n ∈ l.take i')) w (wr.setCell ⟨k.W, 4 + m, none⟩ (.bool true)) (k.wb fun n => decide (n ∈ l.take i')) ∧
              (∀ j, ∀ (h : j < l.length), j < i' → (1 ≤ l[j] ∧ l[j] ≤ 999) ∧ (0 < j → l[j - 1] < l[j])) := fun hr => by
            refine ⟨i + 1, by omega, by simp, ?_, fun j h hj => ?_⟩
            · have hff : (fun n : Int => decide (n ∈ l.take (i + 1))) = fun n => n == (m : Int) || decide (n ∈ l.take i) := by
                funext n
                rw [List.take_succ_eq_append_getElem hlt, ← HQ.out, hm]
                by_cases h1 : n = (m : Int)
                · subst h1; simp
                · have h2 : ¬ n = Int.ofNat m := h1
                  simp [h1]
              rw [hff]
              exact hset
            · by_cases hji : j < i
              · exact HALL.out j h hji
              · have : j = i := by omega
                subst this
                exact ⟨by rw [← HQ.out]; omega, hr⟩
          have HFIN := Lib.hid hfin
          have HMD := Lib.hid hmade
          have HM1 := Lib.hid hm
          have HB2 := Lib.hid hbb
          clear hfin hmade hset hn hm hbb
          by_cases hi0 : i = 0
          · have hi1 : decide ((0 : Int) < (i : Int)) = false := by simp; omega
            have hi2 : decide (0 < i) = false := by simp; omega
            have HI0 := Lib.hid hi0
            clear hcs eN hi0
            have hn := HN.out
            go_wp2_with (go_at_call 80; refine (c80 _ _).mono ?_; rintro e w' ⟨rfl, rfl⟩)
            go_roundw
            case rel => exact HFIN.out fun h => by have := HI0.out; omega
            case measure => simp [intOf]; omega
          · have hi1 : decide ((0 : Int) < (i : Int)) = true := by simp; omega
            have hi2 : decide (0 < i) = true := by simp; omega
            obtain ⟨j, hj⟩ : ∃ j : Nat, (i : Int) - 1 = j := ⟨i - 1, by omega⟩
            have hjlt : j < l.length := by omega
            obtain ⟨p, hp⟩ : ∃ p, p = l[j] := ⟨_, rfl⟩
            have hcp := hcs j p (by simp [hjlt, hp])
            have hixp := fun c => @idx26 Ab nb no l.length c eN j hjlt
            have HI0 := Lib.hid hi0
            have HP := Lib.hid hp
            clear hcs eN hi0 hp
            have hn := HN.out
            cases hdd : decide (q ≤ p)
            · have HDD := Lib.hid hdd
              go_wp2_with (go_at_call 80; refine (c80 _ _).mono ?_; rintro e w' ⟨rfl, rfl⟩)
              go_roundw
              case rel =>
                refine HFIN.out fun h => ?_
                have h1 := of_decide_eq_false HDD.out
                have ej : i - 1 = j := by omega
                simp only [ej, ← HP.out, ← HQ.out]
                omega
              case measure => simp [intOf]; omega
            · have HDD := Lib.hid hdd
              go_wp2_with (go_at_call 80; refine (c80 _ _).mono ?_; rintro e w' ⟨rfl, rfl⟩)
              go_ret2
              have he : errOf b l = 2 := errOf_two H0.out (badOk_not hlt fun hc => by
                have h1 := of_decide_eq_true HDD.out
                have h2 := hc.2 (by have := HI0.out; omega)
                have ej : i - 1 = j := by omega
                simp only [ej, ← HP.out, ← HQ.out] at h2
                omega)
              exact .inl ⟨by omega, by rw [he]; rfl, below_over HMD.out.bel⟩
      · rw [List.take_of_length_le (by omega)] at hmade
        have HMD := Lib.hid hmade
        have HALL := Lib.hid hall
        clear hmade hall
        go_wp2_with fail
        go_ret2
        have he : errOf b l = 0 := by
          unfold errOf
          rw [if_neg (by have := H0.out; omega), if_pos]
          exact decide_eq_true fun i h => HALL.out i h (by omega)
        exact .inr ⟨he, k.wb fun n => decide (n ∈ l), rfl, HMD.out⟩
end Go.Proofs.Ytmcnpfjichbijaa

