/- Hung, walked. -/
import Derived.Test.YtmcnpfjichbijaaC12
import Derived.Laws.EntriesVeiled
set_option linter.unusedSimpArgs false
set_option linter.unusedVariables false
namespace Go.Proofs.Ytmcnpfjichbijaa
open Go Go.Proofs Go.RowKit Go.Shelf

open Go.Lib Go.Sort

theorem errOf_nil {b : Bk} {l : List Int} (h : errOf b l = 0) : errOf b [] = 0 := by
  unfold errOf at *
  by_cases hf : fault b ≠ 0
  · rw [if_pos hf] at h; exact absurd h hf
  · rw [if_neg hf, if_pos]
    exact decide_eq_true fun i h => by simp at h

set_option maxRecDepth 100000 in
set_option maxHeartbeats 1000000 in
theorem c19 (Ai Ac Ab : Option Addr) (ci cc cb : Nat) (b : Bk) (l : List Int) (w : World) (hA : bookAt (· < w.heap.size) w Ai Ac b) (hB : numsAt (· < w.heap.size) w Ab l) (hl : b.items.length ≤ 1000) (hl2 : b.certs.length ≤ 1000) (hl3 : l.length ≤ 1000) :
    Calls Try.prog 19 #[.agg #[.slice Ai b.items.length ci, .slice Ac b.certs.length cc], .slice Ab l.length cb] w
      (ListTo (errOf b l) ((numsOf b).filter (hungB b l)) w) := by
  have hk : Keep (· < w.heap.size) w (w.alloc (.cells #[.slice Ai b.items.length ci, .slice Ac b.certs.length cc] 35)) := Keep.alloc _ _ _
  have hlt : ∀ j, j < w.heap.size → j < (w.alloc (.cells #[.slice Ai b.items.length ci, .slice Ac b.certs.length cc] 35)).heap.size := fun j hj => by rw [World.size_alloc]; omega
  have hc := c50 Ai Ac Ab ci cc cb b l _ ⟨(hA.1.keep hk).mono hlt, (hA.2.keep hk).mono hlt⟩ ((hB.keep hk).mono hlt) hl hl2 hl3
  have HA := Lib.hid hA
  have HC := Lib.hid hc
  clear hc hA hk hlt hB
  go_enter Try.func19, Try.ntmps19
  go_wp2_with fail
  refine HC.out.mono ?_
  rintro e w1 (⟨h0, rfl, x, rfl⟩ | ⟨h0, k, rfl, hm⟩)
  · have hne : ((errOf b l : Int) != 0) = true := by simp [h0]
    have H0 := Lib.hid h0
    clear h0
    go_wp2_with fail
    go_ret2
    exact .inl ⟨H0.out, rfl, below_over (by repeat' (first | exact Below.refl _ _ | (refine below_ov ?_ ?_) | (refine Below.alloc ?_ ?_ _) | (refine below_drewN' ?_ _) | (refine Below.drew ?_) | (refine below_set ?_ _ _ ?_) | (simp; done) | (simp; omega) | omega))⟩
  · have H0 := Lib.hid h0
    have hbox0 : w1.cell? ⟨w.heap.size, 0, none⟩ = some (.slice Ai b.items.length ci) := (Keep.of_below (S := (· < w.heap.size + 1)) hm.bel fun j h _ => by simpa using h).cell (by simp [go_sem]) (Nat.lt_succ_self _)
    have hbox1 : w1.cell? ⟨w.heap.size, 1, none⟩ = some (.slice Ac b.certs.length cc) := (Keep.of_below (S := (· < w.heap.size + 1)) hm.bel fun j h _ => by simpa using h).cell (by simp [go_sem]) (Nat.lt_succ_self _)
    have hs1 := hm.bel.size
    rw [World.size_alloc] at hs1
    have hm2 : Made b (fun n => decide (n ∈ l)) w w1 k := hm.of ((Below.refl _ _).alloc (Nat.le_refl _) _)
    have HM := Lib.hid hm2
    have HB0 := Lib.hid hbox0
    have HB1 := Lib.hid hbox1
    clear h0 hm hm2 hbox0 hbox1
    go_wp2_with fail
    generalize hw2 : w1.alloc (Obj.cells #[Value.pointer (some ⟨k.W, 0, none⟩)] 91) = w2
    have hb2 : Below w1.heap.size w1 w2 := by rw [← hw2]; exact (Below.refl _ _).alloc (Nat.le_refl _) _
    have hs2 : w2.heap.size = w1.heap.size + 1 := by rw [← hw2]; simp
    have hp2 : w2.cell? ⟨w1.heap.size, 0, none⟩ = some (.pointer (some ⟨k.W, 0, none⟩)) := by rw [← hw2]; simp [go_sem]
    clear hw2
    have HM2 := Lib.hid (HM.out.on hb2)
    refine (c51 k HM.out.ok w2 HM2.out.at_).mono ?_
    rintro e w3 ⟨H1, rfl, hH1, hb3, hHs1⟩
    rw [HM.out.held] at hH1
    have hs3 := hb3.size
    have k23 : Keep (· < w2.heap.size) w2 w3 := Keep.of_below hb3 fun _ h _ => h
    have k12 : Keep (· < w1.heap.size) w1 w2 := Keep.of_below hb2 fun _ h _ => h
    have x0 := (k23.cell (k12.cell HB0.out (by omega)) (by omega))
    have x1 := (k23.cell (k12.cell HB1.out (by omega)) (by omega))
    have p3 := k23.cell hp2 (by omega)
    have HM3 := Lib.hid (HM2.out.on hb3)
    have lH1 := hH1.lt
    have HH1 := Lib.hid hH1
    have hlw : w.heap.size < w3.heap.size := by omega
    clear hH1 hHs1
    go_wp2_with fail
    generalize hw4 : w3.alloc (Obj.cells #[Value.map (some H1)] 94) = w4
    have hb4 : Below w3.heap.size w3 w4 := by rw [← hw4]; exact (Below.refl _ _).alloc (Nat.le_refl _) _
    have hs4 : w4.heap.size = w3.heap.size + 1 := by rw [← hw4]; simp
    have hq4 : w4.cell? ⟨w3.heap.size, 0, none⟩ = some (.map (some H1)) := by rw [← hw4]; simp [go_sem]
    clear hw4
    have k34 : Keep (· < w3.heap.size) w3 w4 := Keep.of_below hb4 fun _ h _ => h
    have p4 := k34.cell p3 (by omega)
    have HM4 := Lib.hid (HM3.out.on hb4)
    have HH4 := Lib.hid (HH1.out.keep k34 lH1)
    have hbw4 := HM4.out.bel
    have kw4 : Keep (· < w.heap.size) w w4 := Keep.of_below hbw4 fun _ h _ => h
    have hsw4 := hbw4.size
    have hlt4 : ∀ j, j < w.heap.size → j < w4.heap.size := fun j hj => by omega
    have hc2 := c50 Ai Ac none ci cc 0 b [] w4 ⟨(HA.out.1.keep kw4).mono hlt4, (HA.out.2.keep kw4).mono hlt4⟩ (fun h => by simp at h) hl hl2 (by simp)
    have HE := errOf_nil H0.out
    refine Calls.mono (f := 50) hc2 ?_
    rintro e w5 (⟨h0, _⟩ | ⟨h0, k2, rfl, hm5⟩)
    · exact absurd HE h0
    clear h0 hc2 HE
    have hb5 := hm5.bel
    have hs5 := hb5.size
    have k45 : Keep (· < w4.heap.size) w4 w5 := Keep.of_below hb5 fun _ h _ => h
    have p5 := k45.cell p4 (by omega)
    have q5 := k45.cell hq4 (by omega)
    have HH5 := Lib.hid (HH4.out.keep k45 (by omega))
    have HM5 := Lib.hid (HM4.out.on hb5)
    have HN5 := Lib.hid hm5
    clear hm5
    go_wp2_with fail
    refine (c51 k2 HN5.out.ok w5 HN5.out.at_).mono ?_
    rintro e w6 ⟨H2, rfl, hH2, hb6, hHs2⟩
    rw [HN5.out.held, HN5.out.kn, ← HM.out.kn] at hH2
    have hs6 := hb6.size
    have k56 : Keep (· < w5.heap.size) w5 w6 := Keep.of_below hb6 fun _ h _ => h
    have p6 := k56.cell p5 (by omega)
    have q6 := k56.cell q5 (by omega)
    have HH6 := Lib.hid (HH5.out.keep k56 (by omega))
    have HM6 := Lib.hid (HM5.out.on hb6)
    have lH2 := hH2.lt
    have HG6 := Lib.hid hH2
    have hc3 := HM6.out.at_.c3
    have lc3 := lt_of_cell hc3
    have la := lt_of_cell p6
    have lb : w1.heap.size < w6.heap.size + 1 := by omega
    have lc : k.W < w6.heap.size + 1 := by omega
    have lH2' := hH2.lt
    clear hH2
    have hmf : ∀ (fn : Fn) (first cap : Array Value) (w : World), (Instr.makeFunc fn first cap).run Try.prog w = .ok (.func fn first cap) w := fun _ _ _ _ => rfl
    go_wp2_with fail
    generalize hw7 : (w6.alloc (Obj.cells #[Value.map (some H2)] 94)).alloc _ = w7
    have hb7 : Below w6.heap.size w6 w7 := by rw [← hw7]; exact ((Below.refl _ _).alloc (Nat.le_refl _) _).alloc (by simp) _
    have hs7 : w7.heap.size = w6.heap.size + 2 := by rw [← hw7]; simp
    have r7 : w7.cell? ⟨w6.heap.size, 0, none⟩ = some (.map (some H2)) := by rw [← hw7]; simp [go_sem]
    have t7 : w7.cell? ⟨w6.heap.size + 1, 0, none⟩ = some (.func (.func 52) #[] #[.pointer (some ⟨w6.heap.size, 0, none⟩), .pointer (some ⟨w3.heap.size, 0, none⟩), .pointer (some ⟨w1.heap.size, 0, none⟩)]) := by rw [← hw7]; simp [go_sem]
    clear hw7
    have k67 : Keep (· < w6.heap.size) w6 w7 := Keep.of_below hb7 fun _ h _ => h
    have p7 := k67.cell p6 (by omega)
    have q7 := k67.cell q6 (by omega)
    have HH7 := Lib.hid (HH6.out.keep k67 (by omega))
    have HG7 := Lib.hid (HG6.out.keep k67 lH2)
    have HM7 := Lib.hid (HM6.out.on hb7)
    have hnl := HM.out.ok.nl
    refine (c54 (HM7.out.at_.ns) (by omega)).mono ?_
    rintro e w8 ⟨A8, c8, rfl, own8, hb8⟩
    have hs8 := hb8.size
    have P7 := Lib.hid p7
    have Q7 := Lib.hid q7
    have R7 := Lib.hid r7
    have T7 := Lib.hid t7
    have hcl := c53' 55 (enters_of Try.func55 (by kernel_rfl) rfl) #[.pointer (some ⟨w6.heap.size + 1, 0, none⟩)] (fun n => !(decide (n ∈ k.nums) && hungB b l n)) c8 w7.heap.size A8 k.nums w8 hs8 own8 (by omega)
      fun W n hk => by
        have k1 : Keep (fun j => j < w7.heap.size) w7 W := (Keep.of_below hb8 fun _ h _ => h).trans hk
        have hat := HM7.out.at_.keep k1
        refine c55 52 (enters_of Try.func52 (by kernel_rfl) rfl) _ (w6.heap.size + 1) n (decide (n ∈ k.nums) && hungB b l n) W (k1.cell T7.out (by omega)) ?_
        have := c52 H2 H1 w6.heap.size w3.heap.size w1.heap.size k (· < w7.heap.size) _ _ n W (k1.cell R7.out (by omega)) (k1.cell Q7.out (by omega)) (k1.cell P7.out (by omega)) (HG7.out.keep k1 (by omega)) (HH7.out.keep k1 (by omega)) HM.out.ok hat
        rw [HM.out.kf] at this
        exact this
    have hfil : (k.nums.filter fun x => !(!(decide (x ∈ k.nums) && hungB b l x))) = (numsOf b).filter (hungB b l) := by
      rw [HM.out.kn]
      refine List.filter_congr fun x hx => ?_
      simp [hx]
    rw [hfil] at hcl
    have HCL := Lib.hid hcl
    clear hcl hfil own8 p7 q7 r7 t7
    have HB8 := Lib.hid hb8
    have HM8 := Lib.hid (HM7.out.on hb8)
    go_wp2_with fail
    refine HCL.out.mono ?_
    rintro e w9 ⟨A9, c9, rfl, hk9, hn9⟩
    have HN9 := Lib.hid hn9
    clear hn9
    go_wp2_with fail
    go_ret2
    have hbs := HM8.out.bel.size
    refine .inr ⟨H0.out, A9, c9, rfl, HN9.out.mono fun j hj => ⟨by omega, hj.2⟩, below_over ?_⟩
    exact HM8.out.bel.trans (hk9.below fun j hj => ⟨by omega, by omega⟩)
end Go.Proofs.Ytmcnpfjichbijaa

