/- Hung, walked. -/
import Derived.Test.YtmcnpfjichbijaaC10
import Derived.Laws.EntriesVeiled

set_option linter.unusedSimpArgs false
set_option linter.unusedVariables false
namespace Go.Proofs.Ytmcnpfjichbijaa
open Go Go.Proofs Go.RowKit Go.Shelf

open Go.Lib Go.Sort

theorem errOf_nil {b : Bk} {l : List Int} (h : errOf b l = 0) : errOf b [] = 0 := by
  unfold errOf at *
  by_cases hf : fault b ≠ 0
  · rw [if_pos hf] at h; exact absurd h hf
  · rw [if_neg hf, if_pos]
    exact decide_eq_true fun i h => by simp at h

set_option maxRecDepth 100000 in
set_option maxHeartbeats 1000000 in
theorem c19 (Ai Ac Ab : Option Addr) (ci cc cb : Nat) (b : Bk) (l : List Int) (w : World) (hA : bookAt (· < w.heap.size) w Ai Ac b) (hB : numsAt (· < w.heap.size) w Ab l) (hl : b.items.length ≤ 1000) (hl2 : b.certs.length ≤ 1000) (hl3 : l.length ≤ 1000) :
    Calls Try.prog 19 #[.agg #[.slice Ai b.items.length ci, .slice Ac b.certs.length cc], .slice Ab l.length cb] w
      (ListTo (errOf b l) ((numsOf b).filter (hungB b l)) w) := by
  have hk : Keep (· < w.heap.size) w (w.alloc (.cells #[.slice Ai b.items.length ci, .slice Ac b.certs.length cc] 35)) := Keep.alloc _ _ _
  have hlt : ∀ j, j < w.heap.size → j < (w.alloc (.cells #[.slice Ai b.items.length ci, .slice Ac b.certs.length cc] 35)).heap.size := fun j hj => by rw [World.size_alloc]; omega
  have hc := c50 Ai Ac Ab ci cc cb b l _ ⟨(hA.1.keep hk).mono hlt, (hA.2.keep hk).mono hlt⟩ ((hB.keep hk).mono hlt) hl hl2 hl3
  have HA := Lib.hid hA
  have HC := Lib.hid hc
  clear hc hA hk hlt hB
  go_enter Try.func19, Try.ntmps19
  go_wp2_with fail
  refine HC.out.mono ?_
  rintro e w1 (⟨h0, rfl, x, rfl⟩ | ⟨h0, k, rfl, hm⟩)
  · have hne : ((errOf b l : Int) != 0) = true := by simp [h0]
    have H0 := Lib.hid h0
    clear h0
    go_wp2_with fail
    go_ret2
    exact .inl ⟨H0.out, rfl, below_over (by repeat' (first | exact Below.refl _ _ | (refine below_ov ?_ ?_) | (refine Below.alloc ?_ ?_ _) | (refine below_drewN' ?_ _) | (refine Below.drew ?_) | (refine below_set ?_ _ _ ?_) | (simp; done) | (simp; omega) | omega))⟩
  · have H0 := Lib.hid h0
    have hbox0 : w1.cell? ⟨w.heap.size, 0, none⟩ = some (.slice Ai b.items.length ci) := (Keep.of_below (S := (· < w.heap.size + 1)) hm.bel fun j h _ => by simpa using h).cell (by simp [go_sem]) (Nat.lt_succ_self _)
    have hbox1 : w1.cell? ⟨w.heap.size, 1, none⟩ = some (.slice Ac b.certs.length cc) := (Keep.of_below (S := (· < w.heap.size + 1)) hm.bel fun j h _ => by simpa using h).cell (by simp [go_sem]) (Nat.lt_succ_self _)
    have hs1 := hm.bel.size
    rw [World.size_alloc] at hs1
    have hm2 : Made b (fun n => decide (n ∈ l)) w w1 k := hm.of ((Below.refl _ _).alloc (Nat.le_refl _) _)
    have HM := Lib.hid hm2
    have HB0 := Lib.hid hbox0
    have HB1 := Lib.hid hbox1
    clear h0 hm hm2 hbox0 hbox1
    go_wp2_with fail
    generalize hw2 : w1.alloc (Obj.cells #[Value.pointer (some ⟨k.W, 0, none⟩)] 91) = w2
    have hb2 : Below w1.heap.size w1 w2 := by rw [← hw2]; exact (Below.refl _ _).alloc (Nat.le_refl _) _
    have hs2 : w2.heap.size = w1.heap.size + 1 := by rw [← hw2]; simp
    have hp2 : w2.cell? ⟨w1.heap.size, 0, none⟩ = some (.pointer (some ⟨k.W, 0, none⟩)) := by rw [← hw2]; simp [go_sem]
    clear hw2
    have HM2 := Lib.hid (HM.out.on hb2)
    refine (c51 k HM.out.ok w2 HM2.out.at_).mono ?_
    rintro e w3 ⟨H1, rfl, hH1, hb3, hHs1⟩
    rw [HM.out.held] at hH1
    have hs3 := hb3.size
    have k23 : Keep (· < w2.heap.size) w2 w3 := Keep.of_below hb3 fun _ h _ => h
    have k12 : Keep (· < w1.heap.size) w1 w2 := Keep.of_below hb2 fun _ h _ => h
    have x0 := (k23.cell (k12.cell HB0.out (by omega)) (by omega))
    have x1 := (k23.cell (k12.cell HB1.out (by omega)) (by omega))
    have p3 := k23.cell hp2 (by omega)
    have HM3 := Lib.hid (HM2.out.on hb3)
    have lH1 := hH1.lt
    have HH1 := Lib.hid hH1
    have hlw : w.heap.size < w3.heap.size := by omega
    clear hH1 hHs1
    go_wp2_with fail
    generalize hw4 : w3.alloc (Obj.cells #[Value.map (some H1)] 94) = w4
    have hb4 : Below w3.heap.size w3 w4 := by rw [← hw4]; exact (Below.refl _ _).alloc (Nat.le_refl _) _
    have hs4 : w4.heap.size = w3.heap.size + 1 := by rw [← hw4]; simp
    have hq4 : w4.cell? ⟨w3.heap.size, 0, none⟩ = some (.map (some H1)) := by rw [← hw4]; simp [go_sem]
    clear hw4
    have k34 : Keep (· < w3.heap.size) w3 w4 := Keep.of_below hb4 fun _ h _ => h
    have p4 := k34.cell p3 (by omega)
    have HM4 := Lib.hid (HM3.out.on hb4)
    have HH4 := Lib.hid (HH1.out.keep k34 lH1)
    have hbw4 := HM4.out.bel
    have kw4 : Keep (· < w.heap.size) w w4 := Keep.of_below hbw4 fun _ h _ => h
    have hsw4 := hbw4.size
    have hlt4 : ∀ j, j < w.heap.size → j < w4.heap.size := fun j hj => by omega
    have hc2 := c50 Ai Ac none ci cc 0 b [] w4 ⟨(HA.out.1.keep kw4).mono hlt4, (HA.out.2.keep kw4).mono hlt4⟩ (fun h => by simp at h) hl hl2 (by simp)
    have HE := errOf_nil H0.out
    refine Calls.mono (f := 50) hc2 ?_
    rintro e w5 (⟨h0, _⟩ | ⟨h0, k2, rfl, hm5⟩)
    · exact absurd HE h0
    clear h0 hc2 HE
    have hb5 := hm5.bel
    have hs5 := hb5.size
    have k45 : Keep (· < w4.heap.size) w4 w5 := Keep.of_below hb5 fun _ h _ => h
    have p5 := k45.cell p4 (by omega)
    have q5 := k45.cell hq4 (by omega)
    have HH5 := Lib.hid (HH4.out.keep k45 (by omega))
    have HM5 := Lib.hid (HM4.out.on hb5)
    have HN5 := Lib.hid hm5
    clear hm5
    go_wp2_with fail
    refine (c51 k2 HN5.out.ok w5 HN5.out.at_).mono ?_
    rintro e w6 ⟨H2, rfl, hH2, hb6, hHs2⟩
    rw [HN5.out.held, HN5.out.kn, ← HM.out.kn] at hH2
    have hs6 := hb6.size
    have k56 : Keep (· < w5.heap.size) w5 w6 := Keep.of_below hb6 fun _ h _ => h
    have p6 := k56.cell p5 (by omega)
    have q6 := k56.cell q5 (by omega)
    have HH6 := Lib.hid (HH5.out.keep k56 (by omega))
    have HM6 := Lib.hid (HM5.out.on hb6)
    have lH2 := hH2.lt
    have HG6 := Lib.hid hH2
    have hc3 := HM6.out.at_.c3
    have lc3 := lt_of_cell hc3
    have la := lt_of_cell p6
    have lb : w1.heap.size < w6.heap.size + 1 := by omega
    have lc : k.W < w6.heap.size + 1 := by omega
    have lH2' := hH2.lt
    clear hH2
    have hmf : ∀ (fn : Fn) (first cap : Array Value) (w : World), (Instr.makeFunc fn first cap).run Try.prog w = .ok (.func fn first cap) w := fun _ _ _ _ => rfl
    go_wp2_with fail
    generalize hw7 : (w6.alloc (Obj.cells #[Value.map (some H2)] 94)).alloc _ = w7
    have hb7 : Below w6.heap.size w6 w7 := by rw [← hw7]; exact ((Below.refl _ _).alloc (Nat.le_refl _) _).alloc (by simp) _
    have hs7 : w7.heap.size = w6.heap.size + 2 := by rw [← hw7]; simp
    have r7 : w7.cell? ⟨w6.heap.size, 0, none⟩ = some (.map (some H2)) := by rw [← hw7]; simp [go_sem]
    have t7 : w7.cell? ⟨w6.heap.size + 1, 0, none⟩ = some (.func (.func 52) #[] #[.pointer (some ⟨w6.heap.size, 0, none⟩), .pointer (some ⟨w3.heap.size, 0, none⟩), .pointer (some ⟨w1.heap.size, 0, none⟩)]) := by rw [← hw7]; simp [go_sem]
    clear hw7
    have k67 : Keep (· < w6.heap.size) w6 w7 := Keep.of_below hb7 fun _ h _ => h
    have p7 := k67.cell p6 (by omega)
    have q7 := k67.cell q6 (by omega)
    have HH7 := Lib.hid (HH6.out.keep k67 (by omega))
    have HG7 := Lib.hid (HG6.out.keep k67 lH2)
    have HM7 := Lib.hid (HM6.out.on hb7)
    have hnl := HM.out.ok.nl
    refine (c54 (HM7.out.at_.ns) (by omega)).mono ?_
    rintro e w8 ⟨A8, c8, rfl, own8, hb8⟩
    have hs8 := hb8.size
    have P7 := Lib.hid p7
    have Q7 := Lib.hid q7
    have R7 := Lib.hid r7
    have T7 := Lib.hid t7
    have hcl := c53' 55 (enters_of Try.func55 (by kernel_rfl) rfl) #[.pointer (some ⟨w6.heap.size + 1, 0, none⟩)] (fun n => !(decide (n ∈ k.nums) && hungB b l n)) c8 w7.heap.size A8 k.nums w8 hs8 own8 (by omega)
      fun W n hk => by
        have k1 : Keep (fun j => j < w7.heap.size) w7 W := (Keep.of_below hb8 fun _ h _ => h).trans hk
        have hat := HM7.out.at_.keep k1
        refine c55 52 (enters_of Try.func52 (by kernel_rfl) rfl) _ (w6.heap.size + 1) n (decide (n ∈ k.nums) && hungB b l n) W (k1.cell T7.out (by omega)) ?_
        have := c52 H2 H1 w6.heap.size w3.heap.size w1.heap.size k (· < w7.heap.size) _ _ n W (k1.cell R7.out (by omega)) (k1.cell Q7.out (by omega)) (k1.cell P7.out (by omega)) (HG7.out.keep k1 (by omega)) (HH7.out.keep k1 (by omega)) HM.out.ok hat
        rw [HM.out.kf] at this
        exact this
    have hfil : (k.nums.filter fun x => !(!(decide (x ∈ k.nums) && hungB b l x))) = (numsOf b).filter (hungB b l) := by
      rw [HM.out.kn]
      refine List.filter_congr fun x hx => ?_
      simp [hx]
    rw [hfil] at hcl
    have HCL := Lib.hid hcl
    clear hcl hfil own8 p7 q7 r7 t7
    have HB8 := Lib.hid hb8
    have HM8 := Lib.hid (HM7.out.on hb8)
    go_wp2_with fail
    refine HCL.out.mono ?_
    rintro e w9 ⟨A9, c9, rfl, hk9, hn9⟩
    have HN9 := Lib.hid hn9
    clear hn9
    go_wp2_with fail
    go_ret2
    have hbs := HM8.out.bel.size
    refine .inr ⟨H0.out, A9, c9, rfl, HN9.out.mono fun j hj => ⟨by omega, hj.2⟩, below_over ?_⟩
    exact HM8.out.bel.trans (hk9.below fun j hj => ⟨by omega, by omega⟩)
end Go.Proofs.Ytmcnpfjichbijaa


/- asked: a book, an item on a day. -/
set_option linter.unusedSimpArgs false
set_option linter.unusedVariables false
namespace Go.Proofs.Ytmcnpfjichbijaa
open Go Go.Proofs Go.RowKit Go.Shelf

attribute [local go_sem] Oper.semAt_some

/-- What asking returns. -/
def AskTo (b : Bk) (item at_ : Int) (w : World) (e : Ending) (w' : World) : Prop :=
  (askErr b item at_ ≠ 0 ∧ e = .returned (.tuple #[.pointer none, .map none, .int .i64 (askErr b item at_)]) ∧ ∃ x, w' = over w x) ∨
  (askErr b item at_ = 0 ∧ ∃ (k : Wk) (H : Nat), e = .returned (.tuple #[.pointer (some ⟨k.W, 0, none⟩), .map (some H), .int .i64 0]) ∧ Made b (fun _ => false) w w' k ∧ boolsAt w' H k.nums (holds b fun _ => false) ∧ w.heap.size ≤ H ∧ k.W < H)

theorem Gone.block {B : Nat} {w w' : World} (h : Gone B w w') {b o : Nat} {v : Value} (hc : w.cell? ⟨b, o, none⟩ = some v) : w'.heap[b]? = w.heap[b]? := by
  obtain ⟨c, t, f, hb⟩ := cells_at hc
  rw [h.other _ _ hb (fun x e => by cases e), hb]

theorem Made.gone {b : Bk} {f : Int → Bool} {w w1 w' : World} {k : Wk} {B : Nat} (h : Made b f w w1 k) (hg : Gone B w1 w') (hB : w.heap.size ≤ B) : Made b f w w' k := by
  have hsz := hg.size
  have A := h.at_
  have ii : ∀ {S}, itemsAt S w1 k.Ai k.b.items → itemsAt S w' k.Ai k.b.items := fun h hl => by
    obtain ⟨b, o, e, hS, hc⟩ := h hl
    exact ⟨b, o, e, hS, fun i x hx => by obtain ⟨h1, h2, h3, h4⟩ := hc i x hx; exact ⟨hg.cell h1, hg.cell h2, hg.cell h3, hg.cell h4⟩⟩
  have cc : ∀ {S}, certsAt S w1 k.Ac k.b.certs → certsAt S w' k.Ac k.b.certs := fun h hl => by
    obtain ⟨b, o, e, hS, hc⟩ := h hl
    exact ⟨b, o, e, hS, fun i x hx => by obtain ⟨h1, h2, h3, h4, h5, h6, h7⟩ := hc i x hx; exact ⟨hg.cell h1, hg.cell h2, hg.cell h3, hg.cell h4, hg.cell h5, hg.cell h6, hg.cell h7⟩⟩
  have nn : ∀ {S}, numsAt S w1 k.An k.nums → numsAt S w' k.An k.nums := fun h hl => by
    obtain ⟨b, o, e, hS, hc⟩ := h hl
    exact ⟨b, o, e, hS, fun i n hn => hg.cell (hc i n hn)⟩
  refine ⟨h.kb, h.kn, h.kc, h.kf, h.ok, ⟨by rw [hsz]; exact A.sW, by rw [hsz]; exact A.sM, hg.cell A.c0, hg.cell A.c1, hg.cell A.c2, hg.cell A.c3, fun n hn => hg.cell (A.bad n hn), ?_, ?_, ?_, hg.isMap A.mp⟩, h.hW, h.hM, h.hMW, fun o => ?_, ii h.its, cc h.cts, ?_, h.bel.trans (hg.below.mono hB)⟩
  · rw [hsz]; exact ii A.items
  · rw [hsz]; exact cc A.certs
  · rw [hsz]; exact nn A.ns
  · have h1 := h.fz o
    have hb := hg.block A.c0
    unfold World.frozen? at h1 ⊢
    rw [hb]; exact h1
  · rw [hsz]; exact nn h.nms

set_option maxRecDepth 100000 in
set_option maxHeartbeats 1000000 in
theorem c58 (Ai Ac : Option Addr) (ci cc : Nat) (b : Bk) (item at_ : Int) (w : World) (hA : bookAt (· < w.heap.size) w Ai Ac b) (hl : b.items.length ≤ 1000) (hl2 : b.certs.length ≤ 1000) :
    Calls Try.prog 58 #[.agg #[.slice Ai b.items.length ci, .slice Ac b.certs.length cc], .int .i64 item, .int .i64 at_] w (AskTo b item at_ w) := by
  have hk : Keep (· < w.heap.size) w (w.alloc (.cells #[.slice Ai b.items.length ci, .slice Ac b.certs.length cc] 35)) := Keep.alloc _ _ _
  have hlt : ∀ j, j < w.heap.size → j < (w.alloc (.cells #[.slice Ai b.items.length ci, .slice Ac b.certs.length cc] 35)).heap.size := fun j hj => by rw [World.size_alloc]; omega
  have hc := c69 Ai Ac ci cc b _ ⟨(hA.1.keep hk).mono hlt, (hA.2.keep hk).mono hlt⟩ hl hl2
  have HC := Lib.hid hc
  clear hc hA hk hlt
  refine (callsIn_wide (n := 10)).1 ?_
  refine callsIn_of_wp_marks Try.func58 rfl trivial ?_ rfl
  refine wpIn_wide.2 ?_
  simp only [Try.ntmps58, List.size_toArray, List.length_cons, List.length_nil, Nat.reduceAdd, Nat.reduceSub, Array.replicate_succ, Array.replicate_zero, List.push_toArray, List.append_toArray, List.nil_append, List.cons_append]
  go_wp2_with fail
  refine HC.out.mono ?_
  rintro e w1 (⟨h0, rfl, x, rfl⟩ | ⟨h0, k, rfl, hm⟩)
  · have hne : ((fault b : Int) != 0) = true := by simp [h0]
    have H0 := Lib.hid h0
    clear h0
    go_wp2_with fail
    refine leaves_marks (B := w.heap.size) (ds := []) trivial fun w' hg => ⟨_, results_tmp3 rfl _ _ _, ?_⟩
    have he : askErr b item at_ = fault b := by unfold askErr; rw [if_pos H0.out]
    refine .inl ⟨by rw [he]; exact H0.out, by rw [he]; rfl, below_over (Below.trans ?_ hg.below)⟩
    repeat' (first | exact Below.refl _ _ | (refine below_ov ?_ ?_) | (refine Below.alloc ?_ ?_ _) | (refine below_drewN' ?_ _) | (refine Below.drew ?_) | (refine below_set ?_ _ _ ?_) | (simp; done) | (simp; omega) | omega)
  · have H0 := Lib.hid h0
    have hm2 : Made b (fun _ => false) w w1 k := hm.of ((Below.refl _ _).alloc (Nat.le_refl _) _)
    have HM := Lib.hid hm2
    have hc0 := hm2.at_.c0
    have hc1 := hm2.at_.c1
    have hkb := hm2.kb
    rw [hkb] at hc0 hc1
    have hil := hm2.ok.il
    rw [hkb] at hil
    have l0 := lt_of_cell hc0
    clear h0 hm hm2 hkb
    cases hi1 : inB item 0 ((b.items.length : Int) - 1)
    · have HI1 := Lib.hid hi1
      go_wp2_with (go_at_call 82; refine (c82 _ _ _ _ _ _ _ _ (by omega)).mono ?_; rintro e w' ⟨rfl, x, rfl⟩)
      refine leaves_marks (B := w.heap.size) (ds := []) trivial fun w' hg => ⟨_, results_tmp3 rfl _ _ _, ?_⟩
      have he : askErr b item at_ = 2 := by unfold askErr; rw [if_neg (by have := H0.out; omega), if_pos (by rw [HI1.out]; rfl)]
      have hs := HM.out.bel.size
      refine .inl ⟨by omega, by rw [he]; rfl, below_over (Below.trans (below_ov HM.out.bel hs) hg.below)⟩
    · cases hi2 : inB at_ 0 1000
      · have HI2 := Lib.hid hi2
        go_wp2_with (first | (go_at_call 82; refine (c82 _ _ _ _ _ _ _ _ (by omega)).mono ?_; rintro e w' ⟨rfl, x, rfl⟩) | (go_at_call 83; refine (c83 _ _).mono ?_; rintro e w' ⟨rfl, rfl⟩))
        refine leaves_marks (B := w.heap.size) (ds := []) trivial fun w' hg => ⟨_, results_tmp3 rfl _ _ _, ?_⟩
        have he : askErr b item at_ = 2 := by unfold askErr; rw [if_neg (by have := H0.out; omega), if_pos (by rw [HI2.out]; simp)]
        have hs := HM.out.bel.size
        refine .inl ⟨by omega, by rw [he]; rfl, below_over (Below.trans (below_ov HM.out.bel hs) hg.below)⟩
      · have HI1 := Lib.hid hi1
        have HI2 := Lib.hid hi2
        go_wp2_with (first | (go_at_call 82; refine (c82 _ _ _ _ _ _ _ _ (by omega)).mono ?_; rintro e w' ⟨rfl, x, rfl⟩) | (go_at_call 83; refine (c83 _ _).mono ?_; rintro e w' ⟨rfl, rfl⟩))
        generalize hw2 : over w1 x = w2
        have hb2 : Below w1.heap.size w1 w2 := by rw [← hw2]; exact over_below _ _
        clear hw2 hc0 hc1 l0
        have HM2 := Lib.hid (HM.out.on hb2)
        refine (c51 k HM.out.ok w2 HM2.out.at_).mono ?_
        rintro e w3 ⟨H, rfl, hH, hb3, hHs⟩
        rw [HM.out.held] at hH
        have hs3 := hb3.size
        have HM3 := Lib.hid (HM2.out.on hb3)
        have lH := hH.lt
        have HH := Lib.hid hH
        have hc0 := HM3.out.at_.c0
        rw [HM.out.kb] at hc0
        have lW := lt_of_cell hc0
        have lW2 := HM2.out.lt
        simp only [inB, decide_eq_true_eq] at hi1
        obtain ⟨m, hmi⟩ := Int.eq_ofNat_of_zero_le hi1.1
        have hml : m < b.items.length := by omega
        have hits := HM3.out.at_.items
        rw [HM.out.kb] at hits
        obtain ⟨Bi, Bo, eBi, hSI, hits⟩ := hits (by omega)
        obtain ⟨i1, i2, i3, i4⟩ := hits m b.items[m] (by simp [hml])
        have hix := fun c => @idx32 k.Ai Bi Bo b.items.length c eBi m hml
        rw [show ((m : Nat) : Int) = item from hmi.symm] at hix
        have hstd : stdOf b item = b.items[m].std := by unfold stdOf; rw [hmi]; simp [hml]
        have HST := Lib.hid hstd
        have HMI := Lib.hid hmi
        have li := lt_of_cell i1
        have li2 : Bi < w3.heap.size + 1 := by omega
        have lW3 : k.W < w3.heap.size + 1 := by omega
        clear hits eBi hH hi1 hi2 hmi hstd
        generalize hsv : b.items[m].std = sv at i2 HST
        go_wp2_with fail
        refine (c66 _ _ _ _ _).mono ?_
        rintro e w4 ⟨rfl, rfl⟩
        go_wp2_with fail
        generalize hW0 : World.alloc (World.alloc _ _) _ = W0
        have kw : Keep (fun _ => True) w3 W0 := by
          rw [← hW0]
          exact (((((Keep.alloc _ _ _).trans (Keep.alloc _ _ _)).trans (Keep.alloc _ _ _)).trans (Keep.alloc _ _ _)).trans (Keep.alloc _ _ _)).trans (Keep.alloc _ _ _)
        have hs0 : W0.heap.size = w3.heap.size + 6 := by rw [← hW0]; simp
        have d0 : W0.cell? ⟨w3.heap.size, 0, none⟩ = some (.map (some H)) := by rw [← hW0]; simp [go_sem]
        have d1 : W0.cell? ⟨w3.heap.size + 1, 0, none⟩ = some (.bool sv) := by rw [← hW0]; simp [go_sem]
        have d2 : W0.cell? ⟨w3.heap.size + 2, 0, none⟩ = some (.pointer (some ⟨k.W, 0, none⟩)) := by rw [← hW0]; simp [go_sem]
        have d3 : W0.cell? ⟨w3.heap.size + 3, 0, none⟩ = some (.int .i64 item) := by rw [← hW0]; simp [go_sem]
        have d4 : W0.cell? ⟨w3.heap.size + 4, 0, none⟩ = some (.int .i64 at_) := by rw [← hW0]; simp [go_sem]
        have d5 : W0.cell? ⟨w3.heap.size + 5, 0, none⟩ = some (.int .i64 1000) := by rw [← hW0]; simp [go_sem]
        have e1 : W0.frozen? ⟨w3.heap.size + 1, 0, none⟩ = false := by rw [← hW0]; simp [go_sem]
        clear hW0
        have hb2 : ∀ j, j < w3.heap.size → but W0.heap.size (w3.heap.size + 1) j := fun j h => ⟨by omega, by omega⟩
        have hat3 : k.At (but W0.heap.size (w3.heap.size + 1)) W0 := (HM3.out.at_.mono fun j hj => hb2 j hj).keep (kw.mono fun _ _ => trivial)
        have HS0 := Lib.hid hs0
        have hs1 : w3.heap.size + 6 ≤ W0.heap.size := by omega
        have hs2 : W0.heap.size ≤ w3.heap.size + 6 := by omega
        clear hs0
        refine ofLoop (p := 49) (s := 13) k HM.out.ok (w3.heap.size + 1) (Bw := w3.heap.size + 2) (Bb := w3.heap.size + 5) (Bi := w3.heap.size + 3) (Bd := w3.heap.size + 4) (item := item) (day := at_) (below := 1000)
          ⟨hat3, ⟨by omega, by omega⟩, ⟨by omega, by omega⟩, ⟨by omega, by omega⟩, ⟨by omega, by omega⟩, d2, d5, d3, d4⟩ rfl
          (fun pre W => BoolAt W (w3.heap.size + 1) (anyH sv (holds b fun _ => false) (ids pre)))
          (boolAt_own _ _ _) ⟨by simpa [anyH, ids] using d1, e1⟩ ?assign ?body ?done
        case assign =>
          intro l c W K hK
          simp only [crtV, crtCs] at hK ⊢
          gi_wp2
          exact hK
        case body =>
          rintro l pre x Bx W hatW hI hBx hBc hkp
          obtain ⟨hI1, hI2⟩ := hI
          have hbx := hkp.cell d0 ⟨by omega, by omega⟩
          have hmp := (HH.out.keep kw trivial).keep hkp ⟨by omega, by omega⟩
          have hmem := (List.mem_filter.1 x.2).1
          have hx := HM.out.ok.num x.1 hmem
          have hlx := boolsAt.get hmp x.1
          rw [decide_eq_true hmem, Bool.true_and] at hlx
          have hcc : W.cell? ⟨Bx, 0, none⟩ = some (.int .i64 x.1) := by unfold World.cell?; rw [hBc]; simp [crtCs, hx]
          have hlt2 := lt_of_cell hI1
          have HX := Lib.hid hx
          clear hx hBc hmem
          simp only [crtV, List.setIfInBounds_toArray, List.set_cons_succ, List.set_cons_zero]
          have hfin : ∀ c, c = (anyH sv (holds b fun _ => false) (ids pre) || holds b (fun _ => false) x.1) →
              KeepsFrom W0.heap.size W (W.setCell ⟨w3.heap.size + 1, 0, none⟩ (.bool c)) ∧ Keep (but W0.heap.size (w3.heap.size + 1)) W (W.setCell ⟨w3.heap.size + 1, 0, none⟩ (.bool c)) ∧
                BoolAt (W.setCell ⟨w3.heap.size + 1, 0, none⟩ (.bool c)) (w3.heap.size + 1) (anyH sv (holds b fun _ => false) (ids (pre ++ [x]))) := fun c hc => by
            refine ⟨(KeepsOthers.setCell _ _ _).from _, Keep.setCell _ _ _ (fun h => h.2 rfl), ?_⟩
            rw [ids_snoc, anyH_snoc, ← hc]
            exact BoolAt.set ⟨hI1, hI2⟩ c
          have HF := Lib.hid hfin
          clear hfin
          cases hb : anyH sv (holds b fun _ => false) (ids pre) <;> rw [hb] at hI1 HF <;> clear hb
          · gi_wp2
            exact HF.out _ (by simp)
          · gi_wp2
            exact HF.out _ (by simp)
        case done =>
          rintro D xs W hD hids ⟨hI1, hI2⟩ hkp hDk
          have hre : anyH sv (holds b fun _ => false) (ids xs) = reach b item at_ := by
            unfold anyH reach
            rw [hids, HST.out, HM.out.kc, HM.out.kn]
          rw [hre] at hI1
          have HRE := Lib.hid hre
          have hbx := hkp.cell d0 ⟨by omega, by omega⟩
          have k3W : Keep (· < w3.heap.size) w3 W := (kw.mono fun _ _ => trivial).trans (hkp.mono fun j hj => hb2 j hj)
          have HM5 := Lib.hid (HM3.out.on (k3W.below fun j hj => ⟨hj, hj⟩))
          have hH5 := HH.out.keep k3W lH
          have HH5 := Lib.hid hH5
          have hsW := k3W.size
          have hbs := HM3.out.bel.size
          have hmk : ∀ n, Marks (w.heap.size) (W.drewN n) [{ target := .collected D, args := #[] }] := fun n =>
            ⟨⟨D, rfl, by omega, hDk, by simp⟩, trivial⟩
          have HMK := Lib.hid hmk
          clear hids hre hH5 hmk
          cases hr : reach b item at_ <;> rw [hr] at hI1
          · have HR := Lib.hid hr
            clear hr
            go_wp2_with fail
            refine leaves_marks (HMK.out 0) fun w' hg => ⟨_, results_tmp3 rfl _ _ _, ?_⟩
            have he : askErr b item at_ = 10 := by unfold askErr; rw [if_neg (by have := H0.out; omega), if_neg (by rw [HI1.out, HI2.out]; simp), HR.out]; rfl
            exact .inl ⟨by omega, by rw [he]; rfl, below_over (HM5.out.bel.trans hg.below)⟩
          · have HR := Lib.hid hr
            clear hr
            go_wp2_with fail
            go_quiet (fail)
            go_wp2_with fail
            refine leaves_marks (HMK.out _) fun w' hg => ⟨_, results_tmp3 rfl _ _ _, ?_⟩
            have he : askErr b item at_ = 0 := by unfold askErr; rw [if_neg (by have := H0.out; omega), if_neg (by rw [HI1.out, HI2.out]; simp), HR.out]; rfl
            have hmd := fun n => HM5.out.on (below_drewN' (Below.refl W.heap.size W) n)
            refine .inr ⟨he, k, H, rfl, (hmd _).gone hg (Nat.le_refl _), ?_, by have := HM2.out.bel.size; omega, by omega⟩
            exact hg.isMap HH5.out
end Go.Proofs.Ytmcnpfjichbijaa

