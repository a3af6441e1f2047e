/- The row: ChainTruth. -/
import Derived.Test.YtmcnpfjichbijaaP3
import Derived.Test.YtmcnpfjichbijaaL31
set_option linter.unusedVariables false
namespace Go.Proofs.Ytmcnpfjichbijaa
open Go Go.Proofs Go.ChangeShapes Go.WideShapes Go.ChangeAt Go.RowKit Go.Deep Go.Joins
open Go.ChangeMaps (open_string shut_string)

theorem cells64' : Try.prog.cellsOf 64 = 1 := by kernel_rfl
theorem open_wordsT {H : Type} {enc : TypeId × Value → H} {w : World} {base fuel : Nat} {held : Bool} {cs : List Value} {x : DataW H × List MemPlace} (h : DataW.trod enc Try.prog w base (fun _ => true) held fuel 72 cs = some x) :
    ∃ A c l, cs = [.slice A l.length c] ∧ wordsOk l ∧ wordsAt (· < w.heap.size) w A l := by
  rcases open_slice Try.underlying72 h with ⟨h1, _⟩ | ⟨a, len, cap, m, n, D, Pl, hcs, hb, hl, hm, hmm, hx, hi⟩
  · exact ⟨none, 0, [], h1, ⟨by simp, fun n hn => by simp at hn⟩, fun h => by simp at h⟩
  · simp at hmm
    obtain ⟨l, hll, hp⟩ := list_of (p := fun i (t : Int) => (0 ≤ t ∧ t ≤ 65535) ∧ w.cell? ⟨a.block, a.off + i, none⟩ = some (.int .u16 t)) len fun i hil => by
      obtain ⟨cs', hc, ht'⟩ := hi i (by omega)
      obtain ⟨t, rfl, hw⟩ := DataW.trod_int Try.underlying64 ht'
      obtain ⟨_, hcl, hat⟩ := World.cells?_some hc
      refine ⟨t, ?_, ?_⟩
      · have hw1 := hw.2
        simp [Lit.wf, IntKind.min, IntKind.max, IntKind.bits, IntKind.signed] at hw1; omega
      · have := hat 0 (by rw [cells64']; omega)
        rw [cells64', Nat.mul_one] at this
        have h3 : (a.add i).add 0 = a.add i := by simp [Addr.add]
        rw [h3] at this
        exact cell_add this
    subst hll
    refine ⟨some a, cap, l, hcs, ⟨by simp only [maxLen] at hm; omega, fun n hn => ?_⟩, fun h0 => ⟨a.block, a.off, ?_, lt_of_cell (hp 0 l[0] (by simp [h0])).2, fun i n hn => (hp i n hn).2⟩⟩
    · obtain ⟨i, hi⟩ := List.mem_iff_getElem?.1 hn
      exact (hp i n hi).1
    · obtain ⟨cs', hc, ht'⟩ := hi 0 (by omega)
      obtain ⟨t, rfl, _⟩ := DataW.trod_int Try.underlying64 ht'
      obtain ⟨_, hcl, hat⟩ := World.cells?_some hc
      have := hat 0 (by rw [cells64']; omega)
      rw [Nat.zero_mul] at this
      have := World.cell?_spot (a := a) (by simpa [Addr.add] using this)
      obtain ⟨b, o, s⟩ := a
      simp at this
      subst this; rfl

set_option maxRecDepth 100000 in
theorem open_words {H : Type} {enc : TypeId × Value → H} {w : World} {base b0 : Nat} {held : Bool} {r : Reach} {v : Value} {d : DataW H} {p : List MemPlace} (hv : Value.okWide Try.prog w r b0 72 v)
    (h : DataW.Trod enc Try.prog w base (fun _ => true) held 72 v d p) :
    ∃ A c l, v = .slice A l.length c ∧ wordsOk l ∧ wordsAt (· < w.heap.size) w A l := by
  obtain ⟨a0, len0, cap0, rfl⟩ := okWide_slice Try.underlying72 hv
  obtain ⟨fuel, hf⟩ := h
  obtain ⟨A, c, l, e, h2, h3⟩ := open_wordsT hf
  simp [Value.cells] at e
  obtain ⟨rfl, rfl, rfl⟩ := e
  exact ⟨_, _, l, rfl, h2, h3⟩

set_option maxRecDepth 100000 in
theorem lifted11 (os : Os) (started : os.Started) (H : Type) (enc : TypeId × Value → H) :
    ReturnsInHanded {} Try.checked os 11 .any (Rows.chainTruthSpec.pre6 enc Try.prog Try.f11 Rows.chainTruthRow.domain false) (Rows.chainTruthSpec.post enc Try.prog Try.f11 false true false false) := by
  refine returnsInHanded_of_change (C := Try.checked) own started (by kernel_rfl) Try.func11
    (ChangeSpec.witness6 (enc := enc) (C := Try.checked) false ⟨#[], #[.agg #[.slice none 0 0, .slice none 0 0], .slice none 0 0, .int .u16 0], []⟩ 8 (by kernel_rfl) (by kernel_rfl) (by kernel_rfl) (by kernel_rfl)) ?_
  intro W base args ds gs before hval0 hW hcnd _
  have hval : ∀ (j : Nat) t v, Try.f11.params[j]? = some t → args[j]? = some v → Value.okWide Try.prog W .any base t v := hval0
  have hW' := hW
  obtain ⟨p, q, hA0, hV, rfl, hfz, hnd⟩ := hW
  have hA : DataW.TrodAll enc Try.prog W 0 (fun _ => true) true Try.f11.params.toList args.toList ds p := hA0
  rw [Try.params11] at hA hval
  obtain ⟨v0, vs0, d0, ds0, p0, q0, hargs, rfl, rfl, h0, r0⟩ := trodAll_cons hA
  obtain ⟨v1, vs1, d1, ds1, p1, q1, rfl, rfl, rfl, h1, r1⟩ := trodAll_cons r0
  obtain ⟨v2, vs2, d2, ds2, p2, q2, rfl, rfl, rfl, h2, r2⟩ := trodAll_cons r1
  obtain ⟨rfl, rfl, rfl⟩ := trodAll_nil r2
  obtain rfl : args = #[v0, v1, v2] := by cases args; simp_all
  obtain ⟨rfl, rfl⟩ := trodVars_none hV
  have k0 := h0
  have lt0 : ∀ x ∈ p0, x.block < W.heap.size := by obtain ⟨m, hm⟩ := k0; exact DataW.trod_lt m _ _ _ hm
  have k1 := h1
  have lt1 : ∀ x ∈ p1, x.block < W.heap.size := by obtain ⟨m, hm⟩ := k1; exact DataW.trod_lt m _ _ _ hm
  obtain ⟨Ai, ci, Ac, cc, b, rfl, hl1, hl2, hbk⟩ := open_book (hval 0 25 v0 rfl rfl) h0
  obtain ⟨Aw, cw, ws, rfl, hwo, hws⟩ := open_words (hval 1 72 v1 rfl rfl) h1
  obtain ⟨x2, rfl, rfl, rfl, w2⟩ := open_int Try.underlying64 (hval 2 64 v2 rfl rfl) h2
  clear hA0 hval0
  refine (c11 Ai Ac Aw ci cc cw b ws x2 W hbk hws hwo hl1 hl2 w2).mono fun e W' ⟨he, xx, hx⟩ => ?_
  have bel : Below W.heap.size W W' := hx ▸ over_below _ _
  subst he
  exact ⟨_, rfl, _, _, _, [], _, [], hW', trodAll_mk1 (shut_bool Try.underlying4 _), (trodAll_cons_mk (Below.trod laidOut (by kernel_rfl) (of_decide_eq_true (by kernel_rfl)) k0 bel lt0) (trodAll_cons_mk (Below.trod laidOut (by kernel_rfl) (of_decide_eq_true (by kernel_rfl)) k1 bel lt1) (trodAll_cons_mk (shut_int Try.underlying64 w2) trodAll_mk0))), rfl, bel.frame _, fun h => by cases h⟩

theorem over11 : Rows.chainTruthRow.holds Try.pinned (OpenSpec.ofChange Rows.chainTruthSpec) :=
  OpenClaim.holds_of_wide 11 Try.f11 rfl rfl rfl rfl rfl rfl rfl ⟨rfl, rfl, rfl, rfl, rfl⟩ rfl rfl rfl rfl rfl (by kernel_rfl) Try.func11 (by kernel_rfl)
    (of_decide_eq_true (by kernel_rfl)) (by unfold Func.isWrapper; first | (rw [if_pos (by decide +kernel)]; kernel_rfl) | (rw [if_neg (by decide +kernel)]; exact ⟨rfl, rfl⟩))
    (fun os started H enc _ => lifted11 os started H enc)

theorem chainTruth : Rows.ChainTruthSaid := over11
#print axioms chainTruth
end Go.Proofs.Ytmcnpfjichbijaa
