/- The row: ChainMore. -/
import Derived.Test.YtmcnpfjichbijaaP3
import Derived.SizedLaws
import Derived.Test.YtmcnpfjichbijaaL14
set_option linter.unusedVariables false
namespace Go.Proofs.Ytmcnpfjichbijaa
open Go Go.Proofs Go.ChangeShapes Go.WideShapes Go.ChangeAt Go.RowKit Go.Deep Go.Joins
open Go.ChangeMaps (open_string shut_string)

set_option maxRecDepth 100000 in
theorem open_book_sized {H : Type} {enc : TypeId × Value → H} {w : World} {base b0 : Nat} {held : Bool} {r : Reach} {v : Value} {d : DataW H} {p : List MemPlace} (hv : Value.okWide Try.prog w r b0 25 v)
    (h : DataW.Trod enc Try.prog w base (fun _ => true) held 25 v d p) :
    ∃ Ai ci Ac cc b, v = .agg #[.slice Ai b.items.length ci, .slice Ac b.certs.length cc] ∧ b.items.length ≤ 9223372036854775807 ∧ b.certs.length ≤ 9223372036854775807 ∧ bookAt (· < w.heap.size) w Ai Ac b ∧ (Ac = none → cc = 0) ∧
      ((∀ n ∈ d.weights Try.prog 25, n ≤ reachBytes) → b.certs.length * 56 ≤ 140737488351232) := by
  obtain ⟨c0, c1, y0, y1, m, rfl, rfl, rfl, hy0, hy1⟩ := open_agg2 Try.underlying25 (by kernel_rfl) cells25 hv h
  obtain ⟨Ai, ci, l1, e1, h1, hI⟩ := open_items hy0
  obtain ⟨Ac, cc, l2, e2, h2, hC⟩ := open_certs hy1
  have hs := open_slice Try.underlying23 hy1
  simp at e1 e2
  subst e1 e2
  simp only [maxLen] at h1 h2
  refine ⟨Ai, ci, Ac, cc, ⟨l1, l2⟩, rfl, by show l1.length ≤ _; omega, by show l2.length ≤ _; omega, ⟨hI, hC⟩, ?_, ?_⟩
  · rintro rfl
    rcases hs with ⟨e, _⟩ | ⟨a, len, cap, m', n, D, Pl, e, _⟩
    · simp at e; exact e.2
    · simp at e
  · intro hw
    show l2.length * 56 ≤ _
    rcases hs with ⟨e, _⟩ | ⟨a, len, cap, m', n, D, Pl, e, _, _, _, _, hx, _⟩
    · simp at e; rw [e.2.1]; simp
    · simp at e
      rw [e.2.1]
      have hb : Try.prog.bytesOf 58 = 56 := by kernel_rfl
      have hu : Try.prog.underlying 25 = some (.struct _) := Try.underlying25
      have := hw ((len + (m' - len)) * 56) (by
        simp only [DataW.weights, hu]
        rw [hx]
        simp [DataW.weightsEach, DataW.weights, Try.underlying23, hb])
      simp only [reachBytes] at this
      have h3 : len * 56 ≤ (len + (m' - len)) * 56 := Nat.mul_le_mul_right _ (by omega)
      omega

set_option maxRecDepth 100000 in
theorem open_crt1 {H : Type} {enc : TypeId × Value → H} {w : World} {base b0 : Nat} {held : Bool} {r : Reach} {v : Value} {d : DataW H} {p : List MemPlace} (hv : Value.okWide Try.prog w r b0 58 v)
    (h : DataW.Trod enc Try.prog w base (fun _ => true) held 58 v d p) : ∃ q : Crt, v = .agg #[.int .i64 q.num, .int .i64 q.item, .int .i64 q.by_, .int .i64 q.day, .int .i64 q.valid, .int .i64 q.diff.lo, .int .i64 q.diff.hi] := by
  obtain ⟨cs, rfl, hsz⟩ := okWide_struct Try.underlying58 hv
  obtain ⟨fuel, hf⟩ := h
  obtain ⟨q, e⟩ := open_crt hf
  refine ⟨q, ?_⟩
  have : cs.toList = [.int .i64 q.num, .int .i64 q.item, .int .i64 q.by_, .int .i64 q.day, .int .i64 q.valid, .int .i64 q.diff.lo, .int .i64 q.diff.hi] := e
  have := congrArg List.toArray this
  simp only [Array.toArray_toList] at this
  rw [this]

set_option maxRecDepth 100000 in
theorem lifted6 (os : Os) (started : os.Started) (H : Type) (enc : TypeId × Value → H) :
    ReturnsInHanded {} Try.checked os 6 .any (Rows.chainMoreSpec.pre6 enc Try.prog Try.f6 Rows.chainMoreRow.domain false) (Rows.chainMoreSpec.post enc Try.prog Try.f6 false true false false) := by
  refine returnsInHanded_of_change_sized (C := Try.checked) own started (by kernel_rfl) Try.func6
    (ChangeSpec.witness6 (enc := enc) (C := Try.checked) false ⟨#[], #[.agg #[.slice none 0 0, .slice none 0 0], .agg #[.int .i64 0, .int .i64 0, .int .i64 0, .int .i64 0, .int .i64 0, .int .i64 0, .int .i64 0], .int .u8 0, .int .u16 0], []⟩ 8 (by kernel_rfl) (by kernel_rfl) (by kernel_rfl) (by kernel_rfl)) ?_
  intro W base args ds gs before hval0 hW hcnd hsz0 _
  have hval : ∀ (j : Nat) t v, Try.f6.params[j]? = some t → args[j]? = some v → Value.okWide Try.prog W .any base t v := hval0
  have hW' := hW
  obtain ⟨p, q, hA0, hV, rfl, hfz, hnd⟩ := hW
  have hA : DataW.TrodAll enc Try.prog W 0 (fun _ => true) true Try.f6.params.toList args.toList ds p := hA0
  rw [Try.params6] at hA hval
  obtain ⟨v0, vs0, d0, ds0, p0, q0, hargs, rfl, rfl, h0, r0⟩ := trodAll_cons hA
  obtain ⟨v1, vs1, d1, ds1, p1, q1, rfl, rfl, rfl, h1, r1⟩ := trodAll_cons r0
  obtain ⟨v2, vs2, d2, ds2, p2, q2, rfl, rfl, rfl, h2, r2⟩ := trodAll_cons r1
  obtain ⟨v3, vs3, d3, ds3, p3, q3, rfl, rfl, rfl, h3, r3⟩ := trodAll_cons r2
  obtain ⟨rfl, rfl, rfl⟩ := trodAll_nil r3
  obtain rfl : args = #[v0, v1, v2, v3] := by cases args; simp_all
  obtain ⟨rfl, rfl⟩ := trodVars_none hV
  have k0 := h0
  have lt0 : ∀ x ∈ p0, x.block < W.heap.size := by obtain ⟨m, hm⟩ := k0; exact DataW.trod_lt m _ _ _ hm
  obtain ⟨Ai, ci, Ac, cc, b, rfl, hl1, hl2', hbk, hAc, hsb⟩ := open_book_sized (hval 0 25 v0 rfl rfl) h0
  have hl2 : b.certs.length * 56 ≤ 140737488351232 := hsb fun n hn => of_decide_eq_true (List.all_eq_true.1 hsz0 n (DataW.weights_mem_each (P := Try.prog) (j := 0) (t := 25) (d := d0) (by rw [Try.params6]; rfl) rfl n hn))
  have k1 := h1
  have lt1 : ∀ x ∈ p1, x.block < W.heap.size := by obtain ⟨m, hm⟩ := k1; exact DataW.trod_lt m _ _ _ hm
  obtain ⟨qc, rfl⟩ := open_crt1 (hval 1 58 v1 rfl rfl) h1
  obtain ⟨x2, rfl, rfl, rfl, w2⟩ := open_int Try.underlying5 (hval 2 5 v2 rfl rfl) h2
  obtain ⟨x3, rfl, rfl, rfl, w3⟩ := open_int Try.underlying64 (hval 3 64 v3 rfl rfl) h3
  clear hA0 hval0
  refine (c6 Ai Ac ci cc b qc x2 x3 W hbk hl1 hl2 hAc w2 w3).mono fun e W' ⟨he, xx, hx⟩ => ?_
  have bel : Below W.heap.size W W' := hx ▸ over_below _ _
  subst he
  exact ⟨_, rfl, _, _, _, [], _, [], hW', trodAll_mk1 (shut_bool Try.underlying4 _), (trodAll_cons_mk (Below.trod laidOut (by kernel_rfl) (of_decide_eq_true (by kernel_rfl)) k0 bel lt0) (trodAll_cons_mk (Below.trod laidOut (by kernel_rfl) (of_decide_eq_true (by kernel_rfl)) k1 bel lt1) (trodAll_cons_mk (shut_int Try.underlying5 w2) (trodAll_cons_mk (shut_int Try.underlying64 w3) trodAll_mk0)))), rfl, bel.frame _, fun h => by cases h⟩

theorem over6 : Rows.chainMoreRow.holds Try.pinned (OpenSpec.ofChange Rows.chainMoreSpec) :=
  OpenClaim.holds_of_wide 6 Try.f6 rfl rfl rfl rfl rfl rfl rfl ⟨rfl, rfl, rfl, rfl, rfl⟩ rfl rfl rfl rfl rfl (by kernel_rfl) Try.func6 (by kernel_rfl)
    (of_decide_eq_true (by kernel_rfl)) (by unfold Func.isWrapper; first | (rw [if_pos (by decide +kernel)]; kernel_rfl) | (rw [if_neg (by decide +kernel)]; exact ⟨rfl, rfl⟩))
    (fun os started H enc _ => lifted6 os started H enc)

theorem chainMore : Rows.ChainMoreSaid := over6
#print axioms chainMore
end Go.Proofs.Ytmcnpfjichbijaa
