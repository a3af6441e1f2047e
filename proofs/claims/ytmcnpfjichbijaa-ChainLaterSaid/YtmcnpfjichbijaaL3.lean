/- The document's examples: a list copied; the house. -/
import Derived.Test.YtmcnpfjichbijaaL2
import Derived.Test.YtmcnpfjichbijaaB3
import Derived.Deep.Upon
import Derived.OwnWalk
set_option linter.unusedSimpArgs false
set_option linter.unusedVariables false
namespace Go.Proofs.Ytmcnpfjichbijaa
open Go Go.Proofs Go.RowKit Go.Shelf


theorem info3o : ∃ i, Try.prog.info? 3 = some i ∧ i.zero = some (.int .i64 0) ∧ i.size = 1 ∧ i.bytes = 8 := by
  have h : (Try.prog.info? 3).map (fun i => (i.zero, i.size, i.bytes)) = some (some (.int .i64 0), 1, 8) := by kernel_rfl
  exact info_parts h

/-- What a copy's call returns. -/
def CopyTo (l : List Int) (w : World) (e : Ending) (w' : World) : Prop :=
  ∃ A' c', e = .returned (.slice A' l.length c') ∧ numsAt (fun j => w.heap.size ≤ j ∧ j < w'.heap.size) w' A' l ∧ ∃ x, w' = over w x

set_option maxRecDepth 100000 in
set_option maxHeartbeats 1000000 in
theorem c21 {A : Option Addr} {cn : Nat} {l : List Int} {w : World} (h : numsAt (· < w.heap.size) w A l) (hl : l.length ≤ 2000) (hA : A = none → cn = 0) :
    Calls Try.prog 21 #[.slice A l.length cn] w (CopyTo l w) := by
  obtain ⟨i0, hi, hz0, hz1, hz2⟩ := info3o
  have h0 : (w.alloc (.cells #[] 3)).ownsRow w.heap.size 3 1 (.slice (some ⟨w.heap.size, 0, none⟩) 0 0) 0 [] := ⟨rfl, .inr ⟨w.heap.size, 0, #[], rfl, Nat.le_refl _, heap_alloc_new w _, Nat.le_refl _, Nat.zero_le _, rfl, rfl⟩⟩
  cases A with
  | none =>
    have hnil : l = [] := by
      rcases Nat.eq_zero_or_pos l.length with h | hp
      · exact List.length_eq_zero_iff.1 h
      · obtain ⟨_, _, e, _⟩ := h hp; cases e
    subst hnil
    cases hA rfl
    go_enter Try.func21, Try.ntmps21
    go_wp2_with (at_builtin; refine wpList_append_own_none rfl _ _ 26 rfl w.heap.size 3 i0 1 und26 hi _ 0 [] rfl h0 rfl ?_)
    go_ret
    exact ⟨_, _, rfl, fun h => by simp at h, below_over ((Below.refl _ w).alloc (Nat.le_refl _) _)⟩
  | some a =>
    have hns : ∀ j u, (l.map (Value.int .i64))[j]? = some u → (w.alloc (.cells #[] 3)).cell? (a.add j) = some u := by
      intro j u hj
      simp at hj
      obtain ⟨n, hn, rfl⟩ := hj
      have hlt := (List.getElem?_eq_some_iff.1 hn).1
      obtain ⟨b, o, e, hS, hns⟩ := h (by omega)
      cases e
      have ea : Addr.add ⟨b, o, none⟩ j = ⟨b, o + j, none⟩ := by unfold Addr.add; split <;> simp_all
      rw [ea, World.cell?_alloc_past _ _ _ hS]
      exact hns j n hn
    have HNS := Lib.hid hns
    clear hns h
    go_enter Try.func21, Try.ntmps21
    go_wp2_with (at_builtin; refine wpList_append_own _ rfl _ _ 26 rfl w.heap.size 3 i0 (.int .i64 0) 1 8 und26 hi hz0 hz1 hz2 rfl (by decide) _ 0 [] rfl h0 a l.length cn (l.map (Value.int .i64)) rfl ?len HNS.out ?one ?h63 ?hb ?base ?_)
    case len => simp
    case one => intro u hu; obtain ⟨n, _, rfl⟩ := List.mem_map.1 hu; rfl
    case h63 => simp only [maxLen]; omega
    case hb => omega
    case base => simp
    intro v' w1 hown hgr hnil
    obtain ⟨A', c', e⟩ : ∃ A' c', v' = .slice A' (0 + l.length) c' := by
      rcases hown.2 with ⟨h1, h2⟩ | ⟨g, cap, cur, h1, _⟩
      · exact ⟨none, 0, by rw [h1, h2]⟩
      · exact ⟨_, _, by rw [Nat.zero_add]; exact h1⟩
    subst e
    have hown' : w1.ownsRow w.heap.size 3 1 (.slice A' l.length c') l.length (l.map (Value.int .i64)) := by simpa using hown
    have HOWN := Lib.hid hown'
    have hb : Below w.heap.size w w1 := ((Below.refl _ w).alloc (Nat.le_refl _) _).grown hgr (by simp) (by rintro k hk; simp [Value.ownBlock] at hk; omega)
    have HB := Lib.hid hb
    clear hgr hown hnil hown' hb
    simp only [Nat.zero_add]
    go_wp2_with fail
    go_ret
    exact ⟨A', c', rfl, nums_of_own HOWN.out, below_over HB.out⟩
end Go.Proofs.Ytmcnpfjichbijaa

