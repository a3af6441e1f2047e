/- asked: a book, an item on a day. -/
import Derived.Test.YtmcnpfjichbijaaC13
set_option linter.unusedSimpArgs false
set_option linter.unusedVariables false
namespace Go.Proofs.Ytmcnpfjichbijaa
open Go Go.Proofs Go.RowKit Go.Shelf

attribute [local go_sem] Oper.semAt_some

/-- What asking returns. -/
def AskTo (b : Bk) (item at_ : Int) (w : World) (e : Ending) (w' : World) : Prop :=
  (askErr b item at_ ≠ 0 ∧ e = .returned (.tuple #[.pointer none, .map none, .int .i64 (askErr b item at_)]) ∧ ∃ x, w' = over w x) ∨
  (askErr b item at_ = 0 ∧ ∃ (k : Wk) (H : Nat), e = .returned (.tuple #[.pointer (some ⟨k.W, 0, none⟩), .map (some H), .int .i64 0]) ∧ Made b (fun _ => false) w w' k ∧ boolsAt w' H k.nums (holds b fun _ => false) ∧ w.heap.size ≤ H ∧ k.W < H)

theorem Gone.block {B : Nat} {w w' : World} (h : Gone B w w') {b o : Nat} {v : Value} (hc : w.cell? ⟨b, o, none⟩ = some v) : w'.heap[b]? = w.heap[b]? := by
  obtain ⟨c, t, f, hb⟩ := cells_at hc
  rw [h.other _ _ hb (fun x e => by cases e), hb]

theorem Made.gone {b : Bk} {f : Int → Bool} {w w1 w' : World} {k : Wk} {B : Nat} (h : Made b f w w1 k) (hg : Gone B w1 w') (hB : w.heap.size ≤ B) : Made b f w w' k := by
  have hsz := hg.size
  have A := h.at_
  have ii : ∀ {S}, itemsAt S w1 k.Ai k.b.items → itemsAt S w' k.Ai k.b.items := fun h hl => by
    obtain ⟨b, o, e, hS, hc⟩ := h hl
    exact ⟨b, o, e, hS, fun i x hx => by obtain ⟨h1, h2, h3, h4⟩ := hc i x hx; exact ⟨hg.cell h1, hg.cell h2, hg.cell h3, hg.cell h4⟩⟩
  have cc : ∀ {S}, certsAt S w1 k.Ac k.b.certs → certsAt S w' k.Ac k.b.certs := fun h hl => by
    obtain ⟨b, o, e, hS, hc⟩ := h hl
    exact ⟨b, o, e, hS, fun i x hx => by obtain ⟨h1, h2, h3, h4, h5, h6, h7⟩ := hc i x hx; exact ⟨hg.cell h1, hg.cell h2, hg.cell h3, hg.cell h4, hg.cell h5, hg.cell h6, hg.cell h7⟩⟩
  have nn : ∀ {S}, numsAt S w1 k.An k.nums → numsAt S w' k.An k.nums := fun h hl => by
    obtain ⟨b, o, e, hS, hc⟩ := h hl
    exact ⟨b, o, e, hS, fun i n hn => hg.cell (hc i n hn)⟩
  refine ⟨h.kb, h.kn, h.kc, h.kf, h.ok, ⟨by rw [hsz]; exact A.sW, by rw [hsz]; exact A.sM, hg.cell A.c0, hg.cell A.c1, hg.cell A.c2, hg.cell A.c3, fun n hn => hg.cell (A.bad n hn), ?_, ?_, ?_, hg.isMap A.mp⟩, h.hW, h.hM, h.hMW, fun o => ?_, ii h.its, cc h.cts, ?_, h.bel.trans (hg.below.mono hB)⟩
  · rw [hsz]; exact ii A.items
  · rw [hsz]; exact cc A.certs
  · rw [hsz]; exact nn A.ns
  · have h1 := h.fz o
    have hb := hg.block A.c0
    unfold World.frozen? at h1 ⊢
    rw [hb]; exact h1
  · rw [hsz]; exact nn h.nms

set_option maxRecDepth 100000 in
set_option maxHeartbeats 1000000 in
theorem c58 (Ai Ac : Option Addr) (ci cc : Nat) (b : Bk) (item at_ : Int) (w : World) (hA : bookAt (· < w.heap.size) w Ai Ac b) (hl : b.items.length ≤ 1000) (hl2 : b.certs.length ≤ 1000) :
    Calls Try.prog 58 #[.agg #[.slice Ai b.items.length ci, .slice Ac b.certs.length cc], .int .i64 item, .int .i64 at_] w (AskTo b item at_ w) := by
  have hk : Keep (· < w.heap.size) w (w.alloc (.cells #[.slice Ai b.items.length ci, .slice Ac b.certs.length cc] 35)) := Keep.alloc _ _ _
  have hlt : ∀ j, j < w.heap.size → j < (w.alloc (.cells #[.slice Ai b.items.length ci, .slice Ac b.certs.length cc] 35)).heap.size := fun j hj => by rw [World.size_alloc]; omega
  have hc := c69 Ai Ac ci cc b _ ⟨(hA.1.keep hk).mono hlt, (hA.2.keep hk).mono hlt⟩ hl hl2
  have HC := Lib.hid hc
  clear hc hA hk hlt
  refine (callsIn_wide (n := 10)).1 ?_
  refine callsIn_of_wp_marks Try.func58 rfl trivial ?_ rfl
  refine wpIn_wide.2 ?_
  simp only [Try.ntmps58, List.size_toArray, List.length_cons, List.length_nil, Nat.reduceAdd, Nat.reduceSub, Array.replicate_succ, Array.replicate_zero, List.push_toArray, List.append_toArray, List.nil_append, List.cons_append]
  go_wp2_with fail
  refine HC.out.mono ?_
  rintro e w1 (⟨h0, rfl, x, rfl⟩ | ⟨h0, k, rfl, hm⟩)
  · have hne : ((fault b : Int) != 0) = true := by simp [h0]
    have H0 := Lib.hid h0
    clear h0
    go_wp2_with fail
    refine leaves_marks (B := w.heap.size) (ds := []) trivial fun w' hg => ⟨_, results_tmp3 rfl _ _ _, ?_⟩
    have he : askErr b item at_ = fault b := by unfold askErr; rw [if_pos H0.out]
    refine .inl ⟨by rw [he]; exact H0.out, by rw [he]; rfl, below_over (Below.trans ?_ hg.below)⟩
    repeat' (first | exact Below.refl _ _ | (refine below_ov ?_ ?_) | (refine Below.alloc ?_ ?_ _) | (refine below_drewN' ?_ _) | (refine Below.drew ?_) | (refine below_set ?_ _ _ ?_) | (simp; done) | (simp; omega) | omega)
  · have H0 := Lib.hid h0
    have hm2 : Made b (fun _ => false) w w1 k := hm.of ((Below.refl _ _).alloc (Nat.le_refl _) _)
    have HM := Lib.hid hm2
    have hc0 := hm2.at_.c0
    have hc1 := hm2.at_.c1
    have hkb := hm2.kb
    rw [hkb] at hc0 hc1
    have hil := hm2.ok.il
    rw [hkb] at hil
    have l0 := lt_of_cell hc0
    clear h0 hm hm2 hkb
    cases hi1 : inB item 0 ((b.items.length : Int) - 1)
    · have HI1 := Lib.hid hi1
      go_wp2_with (go_at_call 82; refine (c82 _ _ _ _ _ _ _ _ (by omega)).mono ?_; rintro e w' ⟨rfl, x, rfl⟩)
      refine leaves_marks (B := w.heap.size) (ds := []) trivial fun w' hg => ⟨_, results_tmp3 rfl _ _ _, ?_⟩
      have he : askErr b item at_ = 2 := by unfold askErr; rw [if_neg (by have := H0.out; omega), if_pos (by rw [HI1.out]; rfl)]
      have hs := HM.out.bel.size
      refine .inl ⟨by omega, by rw [he]; rfl, below_over (Below.trans (below_ov HM.out.bel hs) hg.below)⟩
    · cases hi2 : inB at_ 0 1000
      · have HI2 := Lib.hid hi2
        go_wp2_with (first | (go_at_call 82; refine (c82 _ _ _ _ _ _ _ _ (by omega)).mono ?_; rintro e w' ⟨rfl, x, rfl⟩) | (go_at_call 83; refine (c83 _ _).mono ?_; rintro e w' ⟨rfl, rfl⟩))
        refine leaves_marks (B := w.heap.size) (ds := []) trivial fun w' hg => ⟨_, results_tmp3 rfl _ _ _, ?_⟩
        have he : askErr b item at_ = 2 := by unfold askErr; rw [if_neg (by have := H0.out; omega), if_pos (by rw [HI2.out]; simp)]
        have hs := HM.out.bel.size
        refine .inl ⟨by omega, by rw [he]; rfl, below_over (Below.trans (below_ov HM.out.bel hs) hg.below)⟩
      · have HI1 := Lib.hid hi1
        have HI2 := Lib.hid hi2
        go_wp2_with (first | (go_at_call 82; refine (c82 _ _ _ _ _ _ _ _ (by omega)).mono ?_; rintro e w' ⟨rfl, x, rfl⟩) | (go_at_call 83; refine (c83 _ _).mono ?_; rintro e w' ⟨rfl, rfl⟩))
        generalize hw2 : over w1 x = w2
        have hb2 : Below w1.heap.size w1 w2 := by rw [← hw2]; exact over_below _ _
        clear hw2 hc0 hc1 l0
        have HM2 := Lib.hid (HM.out.on hb2)
        refine (c51 k HM.out.ok w2 HM2.out.at_).mono ?_
        rintro e w3 ⟨H, rfl, hH, hb3, hHs⟩
        rw [HM.out.held] at hH
        have hs3 := hb3.size
        have HM3 := Lib.hid (HM2.out.on hb3)
        have lH := hH.lt
        have HH := Lib.hid hH
        have hc0 := HM3.out.at_.c0
        rw [HM.out.kb] at hc0
        have lW := lt_of_cell hc0
        have lW2 := HM2.out.lt
        simp only [inB, decide_eq_true_eq] at hi1
        obtain ⟨m, hmi⟩ := Int.eq_ofNat_of_zero_le hi1.1
        have hml : m < b.items.length := by omega
        have hits := HM3.out.at_.items
        rw [HM.out.kb] at hits
        obtain ⟨Bi, Bo, eBi, hSI, hits⟩ := hits (by omega)
        obtain ⟨i1, i2, i3, i4⟩ := hits m b.items[m] (by simp [hml])
        have hix := fun c => @idx32 k.Ai Bi Bo b.items.length c eBi m hml
        rw [show ((m : Nat) : Int) = item from hmi.symm] at hix
        have hstd : stdOf b item = b.items[m].std := by unfold stdOf; rw [hmi]; simp [hml]
        have HST := Lib.hid hstd
        have HMI := Lib.hid hmi
        have li := lt_of_cell i1
        have li2 : Bi < w3.heap.size + 1 := by omega
        have lW3 : k.W < w3.heap.size + 1 := by omega
        clear hits eBi hH hi1 hi2 hmi hstd
        generalize hsv : b.items[m].std = sv at i2 HST
        go_wp2_with fail
        refine (c66 _ _ _ _ _).mono ?_
        rintro e w4 ⟨rfl, rfl⟩
        go_wp2_with fail
        generalize hW0 : World.alloc (World.alloc _ _) _ = W0
        have kw : Keep (fun _ => True) w3 W0 := by
          rw [← hW0]
          exact (((((Keep.alloc _ _ _).trans (Keep.alloc _ _ _)).trans (Keep.alloc _ _ _)).trans (Keep.alloc _ _ _)).trans (Keep.alloc _ _ _)).trans (Keep.alloc _ _ _)
        have hs0 : W0.heap.size = w3.heap.size + 6 := by rw [← hW0]; simp
        have d0 : W0.cell? ⟨w3.heap.size, 0, none⟩ = some (.map (some H)) := by rw [← hW0]; simp [go_sem]
        have d1 : W0.cell? ⟨w3.heap.size + 1, 0, none⟩ = some (.bool sv) := by rw [← hW0]; simp [go_sem]
        have d2 : W0.cell? ⟨w3.heap.size + 2, 0, none⟩ = some (.pointer (some ⟨k.W, 0, none⟩)) := by rw [← hW0]; simp [go_sem]
        have d3 : W0.cell? ⟨w3.heap.size + 3, 0, none⟩ = some (.int .i64 item) := by rw [← hW0]; simp [go_sem]
        have d4 : W0.cell? ⟨w3.heap.size + 4, 0, none⟩ = some (.int .i64 at_) := by rw [← hW0]; simp [go_sem]
        have d5 : W0.cell? ⟨w3.heap.size + 5, 0, none⟩ = some (.int .i64 1000) := by rw [← hW0]; simp [go_sem]
        have e1 : W0.frozen? ⟨w3.heap.size + 1, 0, none⟩ = false := by rw [← hW0]; simp [go_sem]
        clear hW0
        have hb2 : ∀ j, j < w3.heap.size → but W0.heap.size (w3.heap.size + 1) j := fun j h => ⟨by omega, by omega⟩
        have hat3 : k.At (but W0.heap.size (w3.heap.size + 1)) W0 := (HM3.out.at_.mono fun j hj => hb2 j hj).keep (kw.mono fun _ _ => trivial)
        have HS0 := Lib.hid hs0
        have hs1 : w3.heap.size + 6 ≤ W0.heap.size := by omega
        have hs2 : W0.heap.size ≤ w3.heap.size + 6 := by omega
        clear hs0
        refine ofLoop (p := 49) (s := 13) k HM.out.ok (w3.heap.size + 1) (Bw := w3.heap.size + 2) (Bb := w3.heap.size + 5) (Bi := w3.heap.size + 3) (Bd := w3.heap.size + 4) (item := item) (day := at_) (below := 1000)
          ⟨hat3, ⟨by omega, by omega⟩, ⟨by omega, by omega⟩, ⟨by omega, by omega⟩, ⟨by omega, by omega⟩, d2, d5, d3, d4⟩ rfl
          (fun pre W => BoolAt W (w3.heap.size + 1) (anyH sv (holds b fun _ => false) (ids pre)))
          (boolAt_own _ _ _) ⟨by simpa [anyH, ids] using d1, e1⟩ ?assign ?body ?done
        case assign =>
          intro l c W K hK
          simp only [crtV, crtCs] at hK ⊢
          gi_wp2
          exact hK
        case body =>
          rintro l pre x Bx W hatW hI hBx hBc hkp
          obtain ⟨hI1, hI2⟩ := hI
          have hbx := hkp.cell d0 ⟨by omega, by omega⟩
          have hmp := (HH.out.keep kw trivial).keep hkp ⟨by omega, by omega⟩
          have hmem := (List.mem_filter.1 x.2).1
          have hx := HM.out.ok.num x.1 hmem
          have hlx := boolsAt.get hmp x.1
          rw [decide_eq_true hmem, Bool.true_and] at hlx
          have hcc : W.cell? ⟨Bx, 0, none⟩ = some (.int .i64 x.1) := by unfold World.cell?; rw [hBc]; simp [crtCs, hx]
          have hlt2 := lt_of_cell hI1
          have HX := Lib.hid hx
          clear hx hBc hmem
          simp only [crtV, List.setIfInBounds_toArray, List.set_cons_succ, List.set_cons_zero]
          have hfin : ∀ c, c = (anyH sv (holds b fun _ => false) (ids pre) || holds b (fun _ => false) x.1) →
              KeepsFrom W0.heap.size W (W.setCell ⟨w3.heap.size + 1, 0, none⟩ (.bool c)) ∧ Keep (but W0.heap.size (w3.heap.size + 1)) W (W.setCell ⟨w3.heap.size + 1, 0, none⟩ (.bool c)) ∧
                BoolAt (W.setCell ⟨w3.heap.size + 1, 0, none⟩ (.bool c)) (w3.heap.size + 1) (anyH sv (holds b fun _ => false) (ids (pre ++ [x]))) := fun c hc => by
            refine ⟨(KeepsOthers.setCell _ _ _).from _, Keep.setCell _ _ _ (fun h => h.2 rfl), ?_⟩
            rw [ids_snoc, anyH_snoc, ← hc]
            exact BoolAt.set ⟨hI1, hI2⟩ c
          have HF := Lib.hid hfin
          clear hfin
          cases hb : anyH sv (holds b fun _ => false) (ids pre) <;> rw [hb] at hI1 HF <;> clear hb
          · gi_wp2
            exact HF.out _ (by simp)
          · gi_wp2
            exact HF.out _ (by simp)
        case done =>
          rintro D xs W hD hids ⟨hI1, hI2⟩ hkp hDk
          have hre : anyH sv (holds b fun _ => false) (ids xs) = reach b item at_ := by
            unfold anyH reach
            rw [hids, HST.out, HM.out.kc, HM.out.kn]
          rw [hre] at hI1
          have HRE := Lib.hid hre
          have hbx := hkp.cell d0 ⟨by omega, by omega⟩
          have k3W : Keep (· < w3.heap.size) w3 W := (kw.mono fun _ _ => trivial).trans (hkp.mono fun j hj => hb2 j hj)
          have HM5 := Lib.hid (HM3.out.on (k3W.below fun j hj => ⟨hj, hj⟩))
          have hH5 := HH.out.keep k3W lH
          have HH5 := Lib.hid hH5
          have hsW := k3W.size
          have hbs := HM3.out.bel.size
          have hmk : ∀ n, Marks (w.heap.size) (W.drewN n) [{ target := .collected D, args := #[] }] := fun n =>
            ⟨⟨D, rfl, by omega, hDk, by simp⟩, trivial⟩
          have HMK := Lib.hid hmk
          clear hids hre hH5 hmk
          cases hr : reach b item at_ <;> rw [hr] at hI1
          · have HR := Lib.hid hr
            clear hr
            go_wp2_with fail
            refine leaves_marks (HMK.out 0) fun w' hg => ⟨_, results_tmp3 rfl _ _ _, ?_⟩
            have he : askErr b item at_ = 10 := by unfold askErr; rw [if_neg (by have := H0.out; omega), if_neg (by rw [HI1.out, HI2.out]; simp), HR.out]; rfl
            exact .inl ⟨by omega, by rw [he]; rfl, below_over (HM5.out.bel.trans hg.below)⟩
          · have HR := Lib.hid hr
            clear hr
            go_wp2_with fail
            go_quiet (fail)
            go_wp2_with fail
            refine leaves_marks (HMK.out _) fun w' hg => ⟨_, results_tmp3 rfl _ _ _, ?_⟩
            have he : askErr b item at_ = 0 := by unfold askErr; rw [if_neg (by have := H0.out; omega), if_neg (by rw [HI1.out, HI2.out]; simp), HR.out]; rfl
            have hmd := fun n => HM5.out.on (below_drewN' (Below.refl W.heap.size W) n)
            refine .inr ⟨he, k, H, rfl, (hmd _).gone hg (Nat.le_refl _), ?_, by have := HM2.out.bel.size; omega, by omega⟩
            exact hg.isMap HH5.out
end Go.Proofs.Ytmcnpfjichbijaa

