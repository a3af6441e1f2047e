/- The reference's held ones. -/
import Derived.Test.YtmcnpfjichbijaaL6
import Derived.Test.YtmcnpfjichbijaaT1
import Derived.Test.YtmcnpfjichbijaaR2
set_option linter.unusedSimpArgs false
set_option linter.unusedVariables false
namespace Go.Proofs.Ytmcnpfjichbijaa
open Go Go.Proofs Go.RowKit Go.Shelf


theorem refTo_length (b : Bk) (bad : List Int) : ∀ k, (refTo b bad k).length ≤ k
  | 0 => by simp [refTo]
  | k + 1 => by
    have := refTo_length b bad k
    unfold refTo
    split
    · simp; omega
    · omega

def hasTo (b : Bk) (bad : List Int) (k j : Nat) : Bool := (b.certs.take j).any fun c => c.num == ((k + 1 : Nat) : Int) && refHolds b c bad (refTo b bad k)
theorem hasTo_succ (b : Bk) (bad : List Int) (k j : Nat) (h : j < b.certs.length) : hasTo b bad k (j + 1) = (hasTo b bad k j || (b.certs[j].num == ((k + 1 : Nat) : Int) && refHolds b b.certs[j] bad (refTo b bad k))) := by
  unfold hasTo
  rw [List.take_add_one, List.getElem?_eq_getElem h, List.any_append]
  simp
theorem refTo_hit {b : Bk} {bad : List Int} {k : Nat} (h : hasTo b bad k b.certs.length = true) : refTo b bad (k + 1) = refTo b bad k ++ [((k + 1 : Nat) : Int)] := by
  unfold hasTo at h
  rw [List.take_length] at h
  rw [show refTo b bad (k + 1) = if refIs b bad (refTo b bad k) (k + 1) then refTo b bad k ++ [(k + 1 : Int)] else refTo b bad k from rfl, if_pos (show refIs b bad (refTo b bad k) (k + 1) = true from h)]; rfl
theorem refTo_miss {b : Bk} {bad : List Int} {k : Nat} (h : hasTo b bad k b.certs.length = false) : refTo b bad (k + 1) = refTo b bad k := by
  unfold hasTo at h
  rw [List.take_length] at h
  rw [show refTo b bad (k + 1) = if refIs b bad (refTo b bad k) (k + 1) then refTo b bad k ++ [(k + 1 : Int)] else refTo b bad k from rfl, if_neg]
  intro h2
  have : refIs b bad (refTo b bad k) (k + 1) = false := h
  rw [this] at h2; cases h2

/-- What the call returns. -/
def HldTo (L : List Int) (w : World) (e : Ending) (w' : World) : Prop :=
  ∃ A c, e = .returned (.slice A L.length c) ∧ numsAt (fun j => w.heap.size ≤ j ∧ j < w'.heap.size) w' A L ∧ ∃ x, w' = over w x

theorem c57o (Ai Ac Ab Ah : Option Addr) (ci cc cb ch : Nat) (b : Bk) (q : Crt) (bad held : List Int) (w : World) (hI : itemsAt (· < w.heap.size) w Ai b.items) (hC : certsAt (· < w.heap.size) w Ac b.certs)
    (hB : numsAt (· < w.heap.size) w Ab bad) (hH : numsAt (· < w.heap.size) w Ah held) (hl1 : bad.length ≤ 2000) (hl2 : held.length ≤ 2000) (hl3 : b.certs.length ≤ 1000) (hl4 : b.items.length ≤ 1000)
    (hb0 : 0 ≤ q.by_) (hb1 : q.by_ < b.items.length) (hv : ∀ c ∈ b.certs, 0 ≤ c.day ∧ c.day ≤ 1000 ∧ 0 ≤ c.valid ∧ c.valid ≤ 1000) (z : World) :
    Calls Try.prog 57 #[.agg #[.slice Ai b.items.length ci, .slice Ac b.certs.length cc], .agg #[.int .i64 q.num, .int .i64 q.item, .int .i64 q.by_, .int .i64 q.day, .int .i64 q.valid, .int .i64 q.diff.lo, .int .i64 q.diff.hi], .slice Ab bad.length cb, .slice Ah held.length ch] (over w z)
      fun e w' => e = .returned (.bool (refHolds b q bad held)) ∧ ∃ x, w' = over (over w z) x := by
  have hm : ∀ j, j < w.heap.size → j < (over w z).heap.size := fun j hj => by rw [over_size]; omega
  exact c57 Ai Ac Ab Ah ci cc cb ch b q.num q.item q.by_ q.day q.valid q.diff.lo q.diff.hi bad held (over w z) ((hI.keep (Keep.over _ _ _)).mono hm) ((hC.keep (Keep.over _ _ _)).mono hm) ((hB.keep (Keep.over _ _ _)).mono hm) ((hH.keep (Keep.over _ _ _)).mono hm) hl1 hl2 hl3 hl4 hb0 hb1 hv

set_option maxRecDepth 100000 in
set_option maxHeartbeats 4000000 in
theorem c24 (Ai Ac Ab : Option Addr) (ci cc cb : Nat) (b : Bk) (bad : List Int) (w : World) (hI : itemsAt (· < w.heap.size) w Ai b.items) (hC : certsAt (· < w.heap.size) w Ac b.certs)
    (hB : numsAt (· < w.heap.size) w Ab bad) (hl1 : bad.length ≤ 2000) (hl3 : b.certs.length ≤ 1000) (hl4 : b.items.length ≤ 1000)
    (hb : ∀ c ∈ b.certs, 0 ≤ c.by_ ∧ c.by_ < b.items.length) (hv : ∀ c ∈ b.certs, 0 ≤ c.day ∧ c.day ≤ 1000 ∧ 0 ≤ c.valid ∧ c.valid ≤ 1000) :
    Calls Try.prog 24 #[.agg #[.slice Ai b.items.length ci, .slice Ac b.certs.length cc], .slice Ab bad.length cb] w (HldTo (refTo b bad 999) w) := by
  have HI := Lib.hid hI
  have HCT := Lib.hid hC
  have HB := Lib.hid hB
  have HV := Lib.hid hv
  have HBY := Lib.hid hb
  clear hI hC hB hv hb
  go_enter Try.func24, Try.ntmps24
  go_wp2_with fail
  go_loopw [5, 6] (fun s t wr => ∃ (k : Nat) (A : Option Addr) (c : Nat), k ≤ 999 ∧ t = .int .i64 ((k : Int) + 1) ∧ s = .slice A (refTo b bad k).length c ∧ wr.ownsRow (w.heap.size + 1) 3 1 (.slice A (refTo b bad k).length c) (refTo b bad k).length ((refTo b bad k).map (Value.int .i64)) ∧ Below w.heap.size w wr ∧ wr.cell? ⟨w.heap.size, 0, none⟩ = some (.slice Ai b.items.length ci) ∧ wr.cell? ⟨w.heap.size, 1, none⟩ = some (.slice Ac b.certs.length cc)) (fun _ t _ => 1000 - (intOf t).toNat)
  case atStart => exact ⟨0, none, 0, by omega, by go_num, rfl, World.ownsRow_nil _ _ _ _, by repeat' (first | exact Below.refl _ _ | (refine below_ov ?_ ?_) | (refine Below.alloc ?_ ?_ _) | (refine below_drewN' ?_ _) | (refine Below.drew ?_) | (refine below_set ?_ _ _ ?_) | (simp; done) | (simp; omega) | omega), by simp [go_sem], by simp [go_sem]⟩
  case round =>
    obtain ⟨k, A, c, hk, rfl, rfl, hown, hbel, a0, a1⟩ := hrel
    have HO := Lib.hid hown
    have HBE := Lib.hid hbel
    have la := lt_of_cell a0
    have hrl := refTo_length b bad k
    clear hown hbel
    by_cases hlt : k < 999
    · have hle : decide ((k : Int) + 1 ≤ 999) = true := by simp; omega
      have hle' : (k : Int) + 1 ≤ 999 := by omega
      have kw : Keep (· < w.heap.size) w wr := Keep.of_below HBE.out fun _ h _ => h
      have hm : ∀ j, j < w.heap.size → j < wr.heap.size := fun j hj => by omega
      have hc57 := fun (q : Crt) (h0 : 0 ≤ q.by_) (h1 : q.by_ < b.items.length) => c57o Ai Ac Ab A ci cc cb c b q bad (refTo b bad k) wr ((HI.out.keep kw).mono hm) ((HCT.out.keep kw).mono hm) ((HB.out.keep kw).mono hm) ((nums_of_own HO.out).mono fun j hj => hj.2) hl1 (by omega) hl3 hl4 h0 h1 HV.out
      have HC57 := Lib.hid hc57
      have HC1 := Lib.hid ((HCT.out.keep kw).mono hm)
      clear hc57 kw hm hle
      go_wp2_with fail
      go_loopw [7, 8] (fun u t wr2 => ∃ (j : Nat) (y : World), j ≤ b.certs.length ∧ t = .int .i64 j ∧ u = .bool (hasTo b bad k j) ∧ wr2 = over wr y) (fun _ t _ => b.certs.length - (intOf t).toNat)
      case atStart =>
        obtain ⟨y, hy⟩ := over_refl wr
        exact ⟨0, y, Nat.zero_le _, rfl, by simp [hasTo], hy⟩
      case round =>
        obtain ⟨j, y, hj, rfl, rfl, rfl⟩ := hrel
        by_cases hjl : j < b.certs.length
        · have hsucc := hasTo_succ b bad k j hjl
          obtain ⟨q, hq⟩ : ∃ q, q = b.certs[j] := ⟨_, rfl⟩
          rw [← hq] at hsucc
          have hmem : q ∈ b.certs := by rw [hq]; exact List.getElem_mem hjl
          obtain ⟨b0, b1⟩ := HBY.out q hmem
          obtain ⟨Bc, Co, eC, hSC, hcs⟩ := HC1.out (by omega)
          obtain ⟨q0, q1, q2, q3, q4, q5, q6⟩ := hcs j q (by simp [hjl, hq])
          have hix := fun c => @idx23 Ac Bc Co b.certs.length c eC j hjl
          have lc := lt_of_cell q0
          have hc57 := fun z => HC57.out q b0 b1 z
          generalize refHolds b q bad (refTo b bad k) = rh at hc57 hsucc
          have HC57q := Lib.hid hc57
          have HS := Lib.hid hsucc
          clear hsucc hq hmem hcs eC hc57
          generalize hu : hasTo b bad k j = u at HS
          have HU := Lib.hid hu
          clear hu
          cases u
          · cases hnum : (q.num == ((k + 1 : Nat) : Int))
            · have hne : (q.num == (k : Int) + 1) = false := by rw [← hnum]; rfl
              have HN := Lib.hid hnum
              clear hnum
              go_wp2_with fail
              refine wp_region_over2 (by kernel_rfl) (by kernel_rfl) ?_
              repeat (go_big_quiet_step (exact calls_over_of (HC57q.out _)))
              refine wpQuiet_nil ?_
              rintro w' ⟨z, rfl⟩
              go_wp2_with fail
              go_roundw
              case rel => exact ⟨j + 1, z, by omega, by go_num, by rw [HS.out, HN.out]; rfl, rfl⟩
              case measure => simp [intOf]; omega
            · have heq : (q.num == (k : Int) + 1) = true := by rw [← hnum]; rfl
              have HN := Lib.hid hnum
              clear hnum
              go_wp2_with fail
              refine wp_region_over2 (by kernel_rfl) (by kernel_rfl) ?_
              repeat (go_big_quiet_step (exact calls_over_of (HC57q.out _)))
              refine wpQuiet_nil ?_
              rintro w' ⟨z, rfl⟩
              go_wp2_with fail
              go_roundw
              case rel => exact ⟨j + 1, z, by omega, by go_num, by rw [HS.out, HN.out]; simp, rfl⟩
              case measure => simp [intOf]; omega
          · go_wp2_with fail
            refine wp_region_over2 (by kernel_rfl) (by kernel_rfl) ?_
            repeat (go_big_quiet_step (fail))
            refine wpQuiet_nil ?_
            rintro w' ⟨z, rfl⟩
            go_wp2_with fail
            go_roundw
            case rel => exact ⟨j + 1, z, by omega, by go_num, by rw [HS.out]; simp, rfl⟩
            case measure => simp [intOf]; omega
        · have hje : j = b.certs.length := by omega
          subst hje
          have hb2 : Below w.heap.size w (over wr y) := HBE.out.trans ((over_below wr y).mono HBE.out.size)
          have hown2 : (over wr y).ownsRow (w.heap.size + 1) 3 1 (.slice A (refTo b bad k).length c) (refTo b bad k).length ((refTo b bad k).map (Value.int .i64)) := HO.out.kept (over_grown wr y) (by
            rcases hh : (Value.slice A (refTo b bad k).length c).ownBlock with _ | g
            · exact .inl rfl
            · exact .inr (by simp))
          have d0 : (over wr y).cell? ⟨w.heap.size, 0, none⟩ = some (.slice Ai b.items.length ci) := (Keep.over (fun _ => True) wr y).cell a0 trivial
          have d1 : (over wr y).cell? ⟨w.heap.size, 1, none⟩ = some (.slice Ac b.certs.length cc) := (Keep.over (fun _ => True) wr y).cell a1 trivial
          have HB2 := Lib.hid hb2
          have HO2 := Lib.hid hown2
          clear hb2 hown2 a0 a1 HO HBE HC57 HC1
          generalize over wr y = V at *
          have lV := lt_of_cell d0
          cases hu : hasTo b bad k b.certs.length
          · have HM := Lib.hid (refTo_miss hu)
            clear hu
            go_wp2_with fail
            go_roundw
            case rel => exact ⟨k + 1, A, c, by omega, by go_num, by rw [HM.out], by rw [HM.out]; exact HO2.out, HB2.out, d0, d1⟩
            case measure => simp [intOf]; omega
          · have HM := Lib.hid (refTo_hit hu)
            clear hu
            obtain ⟨i0, hi0, hz0, hz1, hz2⟩ := info3o
            have HI0 := Lib.hid (And.intro hi0 (And.intro hz0 (And.intro hz1 hz2)))
            clear hi0 hz0 hz1 hz2
            go_wp2_with (at_builtin; refine wpList_append_own _ rfl _ _ 26 rfl (w.heap.size + 1) 3 i0 (.int .i64 0) 1 8 und26 HI0.out.1 HI0.out.2.1 HI0.out.2.2.1 HI0.out.2.2.2 rfl (by decide) (.slice A (refTo b bad k).length c) (refTo b bad k).length _ rfl (HO2.out.alloc _) ⟨V.heap.size, 0, none⟩ 1 1 [.int .i64 ((k : Int) + 1)] rfl rfl (cell_one_new _ _ _) ?one ?h63 ?hb ?base ?_)
            case one => intro u hu; simp at hu; rw [hu]; rfl
            case h63 => simp only [maxLen]; omega
            case hb => omega
            case base => simp; omega
            intro v' w1 hown hgr _
            obtain ⟨A', c', e⟩ : ∃ A' c', v' = .slice A' ((refTo b bad k).length + 1) c' := by
              rcases hown.2 with ⟨h1, h2⟩ | ⟨g, cap, cur, h1, _⟩
              · omega
              · exact ⟨_, _, h1⟩
            subst e
            have hne : some w.heap.size ≠ (Value.slice A (refTo b bad k).length c).ownBlock := fun e => by have := (HO2.out.lt _ e.symm).1; omega
            have kp : Keep (fun j => j = w.heap.size) V w1 := (Keep.alloc _ _ _).trans (Keep.grown hgr fun r hr h => by rw [h] at hr; exact hne hr.symm)
            have e0 := kp.cell d0 rfl
            have e1 := kp.cell d1 rfl
            have hb1 : Below w.heap.size w w1 := (HB2.out.alloc HB2.out.size _).grown hgr (by simp; omega) (fun k hk => by have := (HO2.out.lt _ hk).1; omega)
            have HB1 := Lib.hid hb1
            have HO1 := Lib.hid hown
            clear hown hgr hb1 kp hne d0 d1
            go_wp2_with fail
            go_roundw
            case rel => exact ⟨k + 1, A', c', by omega, by go_num, by rw [HM.out]; simp, by rw [HM.out]; simpa using HO1.out, HB1.out, e0, e1⟩
            case measure => simp [intOf]; omega
    · have hle' : ¬ (k : Int) + 1 ≤ 999 := by omega
      go_wp2_with fail
      go_ret
      have hk9 : k = 999 := by omega
      subst hk9
      exact ⟨A, c, rfl, (nums_of_own HO.out).mono fun j hj => ⟨by omega, hj.2⟩, below_over HBE.out⟩
end Go.Proofs.Ytmcnpfjichbijaa

