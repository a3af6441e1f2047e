/- Held, walked. -/
import Derived.Test.YtmcnpfjichbijaaC11
set_option linter.unusedSimpArgs false
set_option linter.unusedVariables false
namespace Go.Proofs.Ytmcnpfjichbijaa
open Go Go.Proofs Go.RowKit Go.Shelf

open Go.Lib Go.Sort

theorem Made.held {b : Bk} {f : Int → Bool} {w w' : World} {k : Wk} (h : Made b f w w' k) : heldUpto k k.nums = holds b f := by
  have hs : heldStep k = holdStep b f := by
    funext hh n j
    unfold heldStep holdStep
    rw [h.kb, h.kc, h.kn, h.kf]
  unfold heldUpto holds
  rw [hs, h.kn]

theorem c54 {A : Option Addr} {cn : Nat} {l : List Int} {w : World} (h : numsAt (· < w.heap.size) w A l) (hl : l.length ≤ 100) :
    Calls Try.prog 54 #[.slice A l.length cn] w fun e w' => ∃ A' c', e = .returned (.slice A' l.length c') ∧ w'.ownsRow w.heap.size 3 1 (.slice A' l.length c') l.length (l.map (Value.int .i64)) ∧ Below w.heap.size w w' := by
  rcases Nat.eq_zero_or_pos l.length with h0 | h0
  · have hnil := List.length_eq_zero_iff.1 h0
    subst hnil
    cases A with
    | none =>
      refine (Try.slices_Clone_int_nil 0 cn w).mono ?_
      rintro e w' ⟨rfl, rfl⟩
      exact ⟨none, 0, rfl, ⟨rfl, .inl ⟨rfl, rfl⟩⟩, Below.refl _ _⟩
    | some a =>
      refine (Try.slices_Clone_int_zero a cn w).mono ?_
      rintro e w' ⟨v', rfl, ho, hne, hb⟩
      rcases ho.2 with ⟨h1, _⟩ | ⟨g, cap, cur, h1, _⟩
      · exact absurd h1 hne
      · subst h1; exact ⟨some ⟨g, 0, none⟩, cap, rfl, ho, hb⟩
  · obtain ⟨b, o, rfl, hb, hc⟩ := h h0
    refine (Try.slices_Clone_int b o l.length cn l w (Nat.le_refl _) (by omega) fun j hj => ?_).mono ?_
    · rw [hc j l[j] (by simp [hj])]
      simp [List.getD, hj]
    · rintro e w' ⟨v', rfl, ho, hne, hb⟩
      rw [List.take_length] at ho
      obtain ⟨g, cap, rfl, _, _⟩ := ho.form h0
      exact ⟨some ⟨g, 0, none⟩, cap, rfl, ho, hb⟩

set_option maxRecDepth 100000 in
set_option maxHeartbeats 1000000 in
theorem c53_nil (g : Nat) (eg : ∀ args w, (callFunc g args).run Try.prog w = .ok (.enter g args) w) (lb : Array Value) (w : World) :
    Calls Try.prog 53 #[.slice none 0 0, .func (.func g) #[] lb] w fun e w' => e = .returned (.slice none 0 0) ∧ ∃ x, w' = over w x := by
  have hc := c81 g eg #[] lb [] (fun _ => false) none 0 w (fun h => by simp at h) (fun x hx => by cases hx) (by simp)
  have HC := Lib.hid hc
  clear hc
  go_enter Try.func53, Try.ntmps53
  go_wp2_with fail
  refine HC.out.mono ?_
  rintro e w1 ⟨rfl, x, rfl⟩
  go_wp2_with fail
  go_ret
  exact ⟨rfl, _, rfl⟩

theorem c53' (g : Nat) (eg : ∀ args w, (callFunc g args).run Try.prog w = .ok (.enter g args) w) (lb : Array Value) (p : Int → Bool) (cap base : Nat) (A : Option Addr) (l : List Int) (w : World) (hbase : base ≤ w.heap.size)
    (own : w.ownsRow base 3 1 (.slice A l.length cap) l.length (l.map (Value.int .i64))) (hl : l.length ≤ 100)
    (hp : ∀ W n, Keep (fun j => j < base) w W → Calls Try.prog g (#[.int .i64 n] ++ lb) W fun e w' => e = .returned (.bool (p n)) ∧ w' = W) :
    Calls Try.prog 53 #[.slice A l.length cap, .func (.func g) #[] lb] w fun e w' => ∃ A' c',
      e = .returned (.slice A' (l.filter fun x => !p x).length c') ∧ Keep (fun j => j < base) w w' ∧ numsAt (fun j => base ≤ j ∧ j < w'.heap.size) w' A' (l.filter fun x => !p x) := by
  rcases own.2 with ⟨h1, h2⟩ | ⟨g', cap', cur, h1, h2, h3, h4⟩
  · have hnil := List.length_eq_zero_iff.1 h2
    subst hnil
    cases h1
    refine (c53_nil g eg lb w).mono ?_
    rintro e w' ⟨rfl, x, rfl⟩
    exact ⟨none, 0, rfl, Keep.over _ _ _, fun h => by simp at h⟩
  · cases h1
    refine (c53 g eg lb p g' cap base l w own hl fun W n hk => hp W n (hk.mono fun j hj => by omega)).mono ?_
    rintro e w' ⟨rfl, hk, hn⟩
    have hlt := (Array.getElem?_eq_some_iff.1 h3).1
    have hs := hk.size
    exact ⟨_, _, rfl, hk.mono fun j hj => by omega, hn.mono fun j hj => by omega⟩

/-- A list is handed back, or an error. -/
def ListTo (err : Int) (L : List Int) (w : World) (e : Ending) (w' : World) : Prop :=
  (err ≠ 0 ∧ e = .returned (.tuple #[.slice none 0 0, .int .i64 err]) ∧ ∃ x, w' = over w x) ∨
  (err = 0 ∧ ∃ A c, e = .returned (.tuple #[.slice A L.length c, .int .i64 0]) ∧ numsAt (fun j => w.heap.size ≤ j ∧ j < w'.heap.size) w' A L ∧ ∃ x, w' = over w x)

set_option maxRecDepth 100000 in
set_option maxHeartbeats 1000000 in
theorem c34 (Ai Ac Ab : Option Addr) (ci cc cb : Nat) (b : Bk) (l : List Int) (w : World) (hA : bookAt (· < w.heap.size) w Ai Ac b) (hB : numsAt (· < w.heap.size) w Ab l) (hl : b.items.length ≤ 1000) (hl2 : b.certs.length ≤ 1000) (hl3 : l.length ≤ 1000) :
    Calls Try.prog 34 #[.agg #[.slice Ai b.items.length ci, .slice Ac b.certs.length cc], .slice Ab l.length cb] w
      (ListTo (errOf b l) ((numsOf b).filter (holds b fun n => decide (n ∈ l))) w) := by
  have hk : Keep (· < w.heap.size) w (w.alloc (.cells #[.slice Ai b.items.length ci, .slice Ac b.certs.length cc] 35)) := Keep.alloc _ _ _
  have hlt : ∀ j, j < w.heap.size → j < (w.alloc (.cells #[.slice Ai b.items.length ci, .slice Ac b.certs.length cc] 35)).heap.size := fun j hj => by rw [World.size_alloc]; omega
  have hc := c50 Ai Ac Ab ci cc cb b l _ ⟨(hA.1.keep hk).mono hlt, (hA.2.keep hk).mono hlt⟩ ((hB.keep hk).mono hlt) hl hl2 hl3
  have HC := Lib.hid hc
  clear hc hA hk hlt hB
  go_enter Try.func34, Try.ntmps34
  go_wp2_with fail
  refine HC.out.mono ?_
  rintro e w1 (⟨h0, rfl, x, rfl⟩ | ⟨h0, k, rfl, hm⟩)
  · have hne : ((errOf b l : Int) != 0) = true := by simp [h0]
    have H0 := Lib.hid h0
    clear h0
    go_wp2_with fail
    go_ret2
    exact .inl ⟨H0.out, rfl, below_over (by repeat' (first | exact Below.refl _ _ | (refine below_ov ?_ ?_) | (refine Below.alloc ?_ ?_ _) | (refine below_drewN' ?_ _) | (refine Below.drew ?_) | (refine below_set ?_ _ _ ?_) | (simp; done) | (simp; omega) | omega))⟩
  · have H0 := Lib.hid h0
    have hm2 : Made b (fun n => decide (n ∈ l)) w w1 k := hm.of ((Below.refl _ _).alloc (Nat.le_refl _) _)
    have HM := Lib.hid hm2
    clear h0 hm hm2
    go_wp2_with fail
    refine (c51 k HM.out.ok w1 HM.out.at_).mono ?_
    rintro e w2 ⟨H, rfl, hH, hb2, hHs⟩
    have hm3 := HM.out.on hb2
    rw [HM.out.held] at hH
    have HH := Lib.hid hH
    have HM3 := Lib.hid hm3
    have hc3 := hm3.at_.c3
    have l3 := lt_of_cell hc3
    clear hH hm3 hHs
    go_wp2_with fail
    have kb : Keep (fun _ => True) w2 (w2.alloc (Obj.cells #[Value.map (some H)] 94)) := Keep.alloc _ _ _
    have hsb : (w2.alloc (Obj.cells #[Value.map (some H)] 94)).heap.size = w2.heap.size + 1 := by simp
    have hbox : (w2.alloc (Obj.cells #[Value.map (some H)] 94)).cell? ⟨w2.heap.size, 0, none⟩ = some (.map (some H)) := by simp [go_sem]
    have hnum : numsAt (· < (w2.alloc (Obj.cells #[Value.map (some H)] 94)).heap.size) (w2.alloc (Obj.cells #[Value.map (some H)] 94)) k.An k.nums :=
      (HM3.out.at_.ns.keep (kb.mono fun _ _ => trivial)).mono fun j hj => by have := hj; omega
    have hmap : boolsAt (w2.alloc (Obj.cells #[Value.map (some H)] 94)) H k.nums (holds b fun n => decide (n ∈ l)) := HH.out.keep kb trivial
    have hHlt := HH.out.lt
    have hbw : Below w.heap.size w (w2.alloc (Obj.cells #[Value.map (some H)] 94)) := HM3.out.bel.alloc HM3.out.bel.size _
    have HBW := Lib.hid hbw
    generalize (w2.alloc (Obj.cells #[Value.map (some H)] 94)) = w3 at hnum hbox hmap hsb HBW ⊢
    clear kb hbw
    have HBX := Lib.hid hbox
    have HMP := Lib.hid hmap
    have hnl := HM.out.ok.nl
    refine (c54 hnum (by omega)).mono ?_
    rintro e w4 ⟨A4, c4, rfl, own4, hb4⟩
    have h4s := hb4.size
    have hcl := c53' 64 (enters_of Try.func64 (by kernel_rfl) rfl) #[.pointer (some ⟨w2.heap.size, 0, none⟩)] (fun n => !(decide (n ∈ k.nums) && holds b (fun n => decide (n ∈ l)) n)) c4 w3.heap.size A4 k.nums w4 h4s own4 (by omega)
      fun W n hk => by
        have k1 : Keep (fun j => j < w3.heap.size) w3 W := (Keep.of_below hb4 fun _ h _ => h).trans hk
        exact c64 H w2.heap.size k.nums (holds b fun n => decide (n ∈ l)) n W (k1.cell HBX.out (by omega)) (HMP.out.keep k1 (by omega))
    have hfil : (k.nums.filter fun x => !(!(decide (x ∈ k.nums) && holds b (fun n => decide (n ∈ l)) x))) = (numsOf b).filter (holds b fun n => decide (n ∈ l)) := by
      rw [HM.out.kn]
      refine List.filter_congr fun x hx => ?_
      simp [hx]
    rw [hfil] at hcl
    have HCL := Lib.hid hcl
    have HF := Lib.hid hfil
    clear hcl hfil own4 hnum hbox hmap
    go_wp2_with fail
    refine HCL.out.mono ?_
    rintro e w5 ⟨A5, c5, rfl, hk5, hn5⟩
    have HN5 := Lib.hid hn5
    clear hn5
    go_wp2_with fail
    go_ret2
    have hbs := HBW.out.size
    refine .inr ⟨H0.out, A5, c5, rfl, HN5.out.mono fun j hj => ⟨by omega, hj.2⟩, below_over ?_⟩
    exact (HBW.out.trans (hb4.mono hbs)).trans (hk5.below fun j hj => ⟨by omega, by omega⟩)
end Go.Proofs.Ytmcnpfjichbijaa

