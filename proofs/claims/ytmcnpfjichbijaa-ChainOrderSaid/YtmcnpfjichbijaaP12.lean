/- The row: ChainOrder. -/
import Derived.Test.YtmcnpfjichbijaaP3
import Derived.Test.YtmcnpfjichbijaaL26
set_option linter.unusedVariables false
namespace Go.Proofs.Ytmcnpfjichbijaa
open Go Go.Proofs Go.ChangeShapes Go.WideShapes Go.ChangeAt Go.RowKit Go.Deep Go.Joins
open Go.ChangeMaps (open_string shut_string)

set_option maxRecDepth 100000 in
theorem open_book_cap {H : Type} {enc : TypeId × Value → H} {w : World} {base b0 : Nat} {held : Bool} {r : Reach} {v : Value} {d : DataW H} {p : List MemPlace} (hv : Value.okWide Try.prog w r b0 25 v)
    (h : DataW.Trod enc Try.prog w base (fun _ => true) held 25 v d p) :
    ∃ Ai ci Ac cc b, v = .agg #[.slice Ai b.items.length ci, .slice Ac b.certs.length cc] ∧ b.items.length ≤ 9223372036854775807 ∧ b.certs.length ≤ 9223372036854775807 ∧ bookAt (· < w.heap.size) w Ai Ac b ∧ b.certs.length ≤ cc := by
  obtain ⟨c0, c1, y0, y1, m, rfl, rfl, rfl, hy0, hy1⟩ := open_agg2 Try.underlying25 (by kernel_rfl) cells25 hv h
  obtain ⟨Ai, ci, l1, e1, h1, hI⟩ := open_items hy0
  obtain ⟨Ac, cc, l2, e2, h2, hC⟩ := open_certs hy1
  have hs := open_slice Try.underlying23 hy1
  simp at e1 e2
  subst e1 e2
  simp only [maxLen] at h1 h2
  refine ⟨Ai, ci, Ac, cc, ⟨l1, l2⟩, rfl, by show l1.length ≤ _; omega, by show l2.length ≤ _; omega, ⟨hI, hC⟩, ?_⟩
  show l2.length ≤ cc
  rcases hs with ⟨e, _⟩ | ⟨a, len, cap, m', n, D, Pl, e, _, hlc, _⟩
  · simp at e; rw [e.2.1]; simp
  · simp at e
    rw [e.2.1, e.2.2]; exact hlc

set_option maxRecDepth 100000 in
theorem lifted12 (os : Os) (started : os.Started) (H : Type) (enc : TypeId × Value → H) :
    ReturnsInHanded {} Try.checked os 12 .any (Rows.chainOrderSpec.pre6 enc Try.prog Try.f12 Rows.chainOrderRow.domain false) (Rows.chainOrderSpec.post enc Try.prog Try.f12 false true false false) := by
  refine returnsInHanded_of_change (C := Try.checked) own started (by kernel_rfl) Try.func12
    (ChangeSpec.witness6 (enc := enc) (C := Try.checked) false ⟨#[], #[.agg #[.slice none 0 0, .slice none 0 0], .int .u8 0, .int .u8 0, .int .u8 0, .int .u16 0], []⟩ 8 (by kernel_rfl) (by kernel_rfl) (by kernel_rfl) (by kernel_rfl)) ?_
  intro W base args ds gs before hval0 hW hcnd _
  have hval : ∀ (j : Nat) t v, Try.f12.params[j]? = some t → args[j]? = some v → Value.okWide Try.prog W .any base t v := hval0
  have hW' := hW
  obtain ⟨p, q, hA0, hV, rfl, hfz, hnd⟩ := hW
  have hA : DataW.TrodAll enc Try.prog W 0 (fun _ => true) true Try.f12.params.toList args.toList ds p := hA0
  rw [Try.params12] at hA hval
  obtain ⟨v0, vs0, d0, ds0, p0, q0, hargs, rfl, rfl, h0, r0⟩ := trodAll_cons hA
  obtain ⟨v1, vs1, d1, ds1, p1, q1, rfl, rfl, rfl, h1, r1⟩ := trodAll_cons r0
  obtain ⟨v2, vs2, d2, ds2, p2, q2, rfl, rfl, rfl, h2, r2⟩ := trodAll_cons r1
  obtain ⟨v3, vs3, d3, ds3, p3, q3, rfl, rfl, rfl, h3, r3⟩ := trodAll_cons r2
  obtain ⟨v4, vs4, d4, ds4, p4, q4, rfl, rfl, rfl, h4, r4⟩ := trodAll_cons r3
  obtain ⟨rfl, rfl, rfl⟩ := trodAll_nil r4
  obtain rfl : args = #[v0, v1, v2, v3, v4] := by cases args; simp_all
  obtain ⟨rfl, rfl⟩ := trodVars_none hV
  have k0 := h0
  have lt0 : ∀ x ∈ p0, x.block < W.heap.size := by obtain ⟨m, hm⟩ := k0; exact DataW.trod_lt m _ _ _ hm
  obtain ⟨Ai, ci, Ac, cc, b, rfl, hl1, hl2, hbk, hcc⟩ := open_book_cap (hval 0 25 v0 rfl rfl) h0
  obtain ⟨x1, rfl, rfl, rfl, w1⟩ := open_int Try.underlying5 (hval 1 5 v1 rfl rfl) h1
  obtain ⟨x2, rfl, rfl, rfl, w2⟩ := open_int Try.underlying5 (hval 2 5 v2 rfl rfl) h2
  obtain ⟨x3, rfl, rfl, rfl, w3⟩ := open_int Try.underlying5 (hval 3 5 v3 rfl rfl) h3
  obtain ⟨x4, rfl, rfl, rfl, w4⟩ := open_int Try.underlying64 (hval 4 64 v4 rfl rfl) h4
  clear hA0 hval0
  refine (c12 Ai Ac ci cc b x1 x2 x3 x4 W hbk hl1 hl2 hcc w1 w2 w3 w4).mono fun e W' ⟨he, xx, hx⟩ => ?_
  have bel : Below W.heap.size W W' := hx ▸ over_below _ _
  subst he
  exact ⟨_, rfl, _, _, _, [], _, [], hW', trodAll_mk1 (shut_bool Try.underlying4 _), (trodAll_cons_mk (Below.trod laidOut (by kernel_rfl) (of_decide_eq_true (by kernel_rfl)) k0 bel lt0) (trodAll_cons_mk (shut_int Try.underlying5 w1) (trodAll_cons_mk (shut_int Try.underlying5 w2) (trodAll_cons_mk (shut_int Try.underlying5 w3) (trodAll_cons_mk (shut_int Try.underlying64 w4) trodAll_mk0))))), rfl, bel.frame _, fun h => by cases h⟩

theorem over12 : Rows.chainOrderRow.holds Try.pinned (OpenSpec.ofChange Rows.chainOrderSpec) :=
  OpenClaim.holds_of_wide 12 Try.f12 rfl rfl rfl rfl rfl rfl rfl ⟨rfl, rfl, rfl, rfl, rfl⟩ rfl rfl rfl rfl rfl (by kernel_rfl) Try.func12 (by kernel_rfl)
    (of_decide_eq_true (by kernel_rfl)) (by unfold Func.isWrapper; first | (rw [if_pos (by decide +kernel)]; kernel_rfl) | (rw [if_neg (by decide +kernel)]; exact ⟨rfl, rfl⟩))
    (fun os started H enc _ => lifted12 os started H enc)

theorem chainOrder : Rows.ChainOrderSaid := over12
#print axioms chainOrder
end Go.Proofs.Ytmcnpfjichbijaa
