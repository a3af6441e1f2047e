/- Certificates copied, and some of them deleted. -/
import Derived.Test.YtmcnpfjichbijaaL6
import Derived.Shelf.SlicesE.Clone
import Derived.Lib.SliceRun
set_option linter.unusedSimpArgs false
set_option linter.unusedVariables false
namespace Go.Proofs.Ytmcnpfjichbijaa
open Go Go.Proofs Go.RowKit Go.Shelf

open Go.Lib

def Try.laysC71_ren : Go.Shelf.Ren := ⟨fun | 41 => 71 | n => n, fun | 22 => 33 | 23 => 90 | 4 => 4 | n => n, fun | n => n⟩
theorem Try.laysC71 : Go.Proofs.SlLaysE0.n41 Try.prog Try.laysC71_ren := {
  mixed := by kernel_rfl
  f41 := ⟨Try.f71.name, by decide, Try.func71.trans (congrArg some (by kernel_rfl))⟩
  t4 := Try.underlying4
  a4 := Try.isAgg4
  z4 := Try.sizeOf4
  v4 := Try.zeroValue4
  t22 := Try.underlying33
  a22 := Try.isAgg33
  z22 := Try.sizeOf33
  v22 := Try.zeroValue33 }

theorem crtLs_one (c : Crt) : ∀ u ∈ crtLs c, u.oneCell' = true := by
  intro u hu; simp [crtLs] at hu; rcases hu with rfl | rfl | rfl | rfl | rfl | rfl | rfl <;> rfl

/-- A certificate lies at a place. -/
def crtIn (w : World) (g o : Nat) (c : Crt) : Prop := ∀ t, t < 7 → w.cell? ⟨g, o + t, none⟩ = (crtLs c)[t]?

theorem certsAt.rows {S : Nat → Prop} {w : World} {A : Option Addr} {l : List Crt} (h : certsAt S w A l) (hl : 0 < l.length) : ∃ g o, A = some ⟨g, o, none⟩ ∧ S g ∧ ∀ j u, (l.flatMap crtLs)[j]? = some u → w.cell? ⟨g, o + j, none⟩ = some u := by
  obtain ⟨g, o, e, hS, hc⟩ := h hl
  refine ⟨g, o, e, hS, fun j u hj => ?_⟩
  have hlt := (List.getElem?_eq_some_iff.1 hj).1
  rw [row_length (n := 7) fun _ => rfl] at hlt
  obtain ⟨x, hx⟩ : ∃ x, l[j / 7]? = some x := ⟨l[j / 7]'(by omega), by simp⟩
  have := row_get (f := crtLs) (n := 7) (fun _ => rfl) l (j / 7) (j % 7) x hx (Nat.mod_lt _ (by omega))
  rw [show j / 7 * 7 + j % 7 = j by omega, hj] at this
  obtain ⟨h0, h1, h2, h3, h4, h5, h6⟩ := hc _ x hx
  have hm : j % 7 < 7 := Nat.mod_lt _ (by omega)
  have hj' : o + j = o + j / 7 * 7 + j % 7 := by omega
  rw [hj', this]
  generalize j % 7 = m at hm
  rcases m with _ | _ | _ | _ | _ | _ | _ | m
  · exact h0
  · exact h1
  · exact h2
  · exact h3
  · exact h4
  · exact h5
  · exact h6
  · omega

theorem c71 {A : Option Addr} {cn : Nat} {l : List Crt} {w : World} (h : certsAt (· < w.heap.size) w A l) (h0 : 0 < l.length) (hl : l.length ≤ 100) :
    Calls Try.prog 71 #[.slice A l.length cn] w fun e w' => ∃ g c', e = .returned (.slice (some ⟨g, 0, none⟩) l.length c') ∧ w'.ownsRow w.heap.size 90 7 (.slice (some ⟨g, 0, none⟩) l.length c') l.length (l.flatMap crtLs) ∧ Below w.heap.size w w' := by
  obtain ⟨b, o, rfl, hb, hc⟩ := h.rows h0
  obtain ⟨i0, hi0, hz0, hz1, hz2⟩ := info_parts info90
  have := AnyE.slices_Clone Try.laysC71 i0 _ 7 56 hi0 hz0 hz1 hz2 rfl (by omega) Try.sizeOf90 b o l.length cn (l.flatMap crtLs) w (row_length (f := crtLs) (n := 7) (fun _ => rfl) l) (by simp only [maxLen]; omega) (by omega) hc
    (fun u hu => by obtain ⟨c, _, hu⟩ := List.mem_flatMap.1 hu; exact crtLs_one c u hu)
  refine Calls.mono (f := 71) this ?_
  rintro e w' ⟨v', rfl, ho, hne, hb⟩
  obtain ⟨g, cap, rfl, _, _⟩ := ho.form h0
  exact ⟨g, cap, rfl, ho, hb⟩

/-- The deleting call's world: how far it has come. -/
structure DlS (blk : Nat) (l : List Crt) (p : Crt → Bool) (w : World) (i j : Nat) (W : World) : Prop where
  kp : Keep (fun x => x ≠ blk) w W
  lt : blk < w.heap.size
  cnt : i = ((l.take j).filter fun x => !p x).length
  ij : i < j
  jl : j ≤ l.length
  done : ∀ t c, ((l.take j).filter fun x => !p x)[t]? = some c → crtIn W blk (t * 7) c
  rest : ∀ t c, j ≤ t → l[t]? = some c → crtIn W blk (t * 7) c
  ex : ∀ o, o < l.length * 7 → (W.cell? ⟨blk, o, none⟩).isSome = true
  fz : ∀ o, W.frozen? ⟨blk, o, none⟩ = false

variable {blk : Nat} {l : List Crt} {p : Crt → Bool} {w : World} {i j : Nat} {W : World}

theorem DlS.on (h : DlS blk l p w i j W) {W' : World} (hb : Below W.heap.size W W') : DlS blk l p w i j W' := by
  have k : Keep (· < W.heap.size) W W' := Keep.of_below hb fun _ h _ => h
  have hs := h.kp.size
  have hl := h.lt
  have hbl : blk < W.heap.size := by omega
  have hc : ∀ o, W'.cell? ⟨blk, o, none⟩ = W.cell? ⟨blk, o, none⟩ := fun o => by unfold World.cell?; rw [k.block blk hbl hbl]
  exact ⟨h.kp.trans (Keep.of_below hb fun j hj hlt => by omega), h.lt, h.cnt, h.ij, h.jl, fun t c ht u hu => by rw [hc]; exact h.done t c ht u hu, fun t c ht hc' u hu => by rw [hc]; exact h.rest t c ht hc' u hu,
    fun o ho => by rw [hc]; exact h.ex o ho, fun o => by rw [World.frozen?_of_block (w := W) (k.block _ hbl hbl)]; exact h.fz o⟩
theorem DlS.skip (h : DlS blk l p w i j W) {q : Crt} (hq : l[j]? = some q) (hp : p q = true) : DlS blk l p w i (j + 1) W := by
  have hj := (List.getElem?_eq_some_iff.1 hq).1
  have e : (l.take (j + 1)).filter (fun x => !p x) = (l.take j).filter (fun x => !p x) := by
    rw [List.take_add_one, hq, List.filter_append]; simp [hp]
  have := h.ij
  exact ⟨h.kp, h.lt, by rw [e]; exact h.cnt, by omega, by omega, by rw [e]; exact h.done, fun t c ht hc => h.rest t c (by omega) hc, h.ex, h.fz⟩
/-- Seven cells of a certificate are stored. -/
def putC (W : World) (g o : Nat) (c : Crt) : World :=
  ((((((W.setCell ⟨g, o, none⟩ (.int .i64 c.num)).setCell ⟨g, o + 1, none⟩ (.int .i64 c.item)).setCell ⟨g, o + 2, none⟩ (.int .i64 c.by_)).setCell ⟨g, o + 3, none⟩ (.int .i64 c.day)).setCell ⟨g, o + 4, none⟩ (.int .i64 c.valid)).setCell ⟨g, o + 5, none⟩ (.int .i64 c.diff.lo)).setCell ⟨g, o + 6, none⟩ (.int .i64 c.diff.hi)
theorem putC_setCells (W : World) (g o : Nat) (c : Crt) : putC W g o c = W.setCells g o (crtLs c) := rfl
theorem setCells_keep (b : Nat) : ∀ (vs : List Value) (o : Nat) (w : World), Keep (fun j => j ≠ b) w (w.setCells b o vs)
  | [], _, w => Keep.refl _ w
  | v :: vs, o, w => (Keep.setCell w ⟨b, o, none⟩ v (fun h => h rfl)).trans (setCells_keep b vs (o + 1) _)
theorem setCells_some (b : Nat) (vs : List Value) (o : Nat) (w : World) (x : Addr) (h : (w.cell? x).isSome = true) : ((w.setCells b o vs).cell? x).isSome = true := isSome_setCells b vs o w x h

theorem DlS.put (h : DlS blk l p w i j W) {q : Crt} (hq : l[j]? = some q) (hp : p q = false) : DlS blk l p w (i + 1) (j + 1) (putC W blk (i * 7) q) := by
  have hj := (List.getElem?_eq_some_iff.1 hq).1
  have e : (l.take (j + 1)).filter (fun x => !p x) = (l.take j).filter (fun x => !p x) ++ [q] := by
    rw [List.take_add_one, hq, List.filter_append]; simp [hp]
  have hij := h.ij
  rw [putC_setCells]
  have hlen : (crtLs q).length = 7 := rfl
  have out : ∀ o, (o < i * 7 ∨ i * 7 + 7 ≤ o) → (W.setCells blk (i * 7) (crtLs q)).cell? ⟨blk, o, none⟩ = W.cell? ⟨blk, o, none⟩ := fun o ho =>
    World.cell?_setCells_out blk _ _ _ _ fun _ _ => by rw [hlen]; exact ho
  refine ⟨h.kp.trans (setCells_keep _ _ _ _), h.lt, by rw [e, h.cnt]; simp, by omega, by omega, fun t c ht u hu => ?_, fun t c ht hc u hu => ?_, fun o ho => ?_, fun o => by rw [World.frozen?_setCells]; exact h.fz o⟩
  · rw [e] at ht
    by_cases hti : t < i
    · rw [List.getElem?_append_left (by rw [← h.cnt]; exact hti)] at ht
      rw [out _ (.inl (by omega))]
      exact h.done t c ht u hu
    · have hlt := (List.getElem?_eq_some_iff.1 ht).1
      simp only [List.length_append, List.length_singleton, ← h.cnt] at hlt
      obtain rfl : t = i := by omega
      rw [List.getElem?_append_right (by rw [← h.cnt]; exact Nat.le_refl _), ← h.cnt] at ht
      simp at ht
      subst ht
      have := World.cell?_setCells_in blk (crtLs q) (t * 7) W (fun k hk => by rw [hlen] at hk; exact h.ex _ (by omega)) u (by rw [hlen]; exact hu)
      rw [this]
      rw [List.getElem?_eq_getElem]
  · rw [out _ (.inr (by omega))]
    exact h.rest t c (by omega) hc u hu
  · exact setCells_some _ _ _ _ _ (h.ex o ho)

/-- 'clear' on certificates: their block turns alone, and only behind the place. -/
theorem run_clear_crts (w : World) (ty : TypeId) (b o n c : Nat) (hn : 0 < n) (hc : ∀ k, k < n * 7 → (w.cell? ⟨b, o + k, none⟩).isSome = true) (hf : ∀ k, w.frozen? ⟨b, k, none⟩ = false) :
    ∃ vs, vs.length = n * 7 ∧ (Builtin.clear_ #[33] ty #[.slice (some ⟨b, o, none⟩) n c]).run Try.prog w = .ok (.tuple #[]) (w.setCells b o vs) := by
  have hz : ∀ w, (zeroValue 90).run Try.prog w = .ok (.agg #[.int .i64 0, .int .i64 0, .int .i64 0, .int .i64 0, .int .i64 0, .int .i64 0, .int .i64 0]) w := fun w => by kernel_rfl
  have hcl : (Value.agg #[.int .i64 0, .int .i64 0, .int .i64 0, .int .i64 0, .int .i64 0, .int .i64 0, .int .i64 0]).cells = #[.int .i64 0, .int .i64 0, .int .i64 0, .int .i64 0, .int .i64 0, .int .i64 0, .int .i64 0] := rfl
  have hlen : (Builtin.zeroCells #[.int .i64 0, .int .i64 0, .int .i64 0, .int .i64 0, .int .i64 0, .int .i64 0, .int .i64 0] n).toList.length = n * 7 := by simp [Builtin.zeroCells]
  refine ⟨_, hlen, ?_⟩
  have h1 : ∀ v ∈ (Builtin.zeroCells #[.int .i64 0, .int .i64 0, .int .i64 0, .int .i64 0, .int .i64 0, .int .i64 0, .int .i64 0] n).toList, v.oneCell' = true := fun v hv => by
    simp only [Builtin.zeroCells, Array.toList_map, List.mem_map] at hv
    obtain ⟨k, _, rfl⟩ := hv
    have : k % 7 < 7 := Nat.mod_lt _ (by omega)
    have hh : ∀ m : Nat, m < 7 → ((#[.int .i64 0, .int .i64 0, .int .i64 0, .int .i64 0, .int .i64 0, .int .i64 0, .int .i64 0] : Array Value)[m]!).oneCell' = true := fun m hm => by
      rcases m with _ | _ | _ | _ | _ | _ | _ | m <;> first | rfl | omega
    exact hh _ this
  have hst := run_storeCells_cells (P := Try.prog) b o _ 0 w (by rw [hlen]; simpa using hc) (by rw [hlen]; intro k _; exact hf _) h1
  simp only [Nat.add_zero] at hst
  obtain ⟨m, rfl⟩ : ∃ m, n = m + 1 := ⟨n - 1, by omega⟩
  simp [Builtin.clear_, run_underlying und33e, hz, hcl, hst]

theorem crtIn.cells {g o : Nat} {c : Crt} (h : crtIn W g o c) : W.cell? ⟨g, o, none⟩ = some (.int .i64 c.num) ∧ W.cell? ⟨g, o + 1, none⟩ = some (.int .i64 c.item) ∧ W.cell? ⟨g, o + 2, none⟩ = some (.int .i64 c.by_) ∧ W.cell? ⟨g, o + 3, none⟩ = some (.int .i64 c.day) ∧
    W.cell? ⟨g, o + 4, none⟩ = some (.int .i64 c.valid) ∧ W.cell? ⟨g, o + 5, none⟩ = some (.int .i64 c.diff.lo) ∧ W.cell? ⟨g, o + 6, none⟩ = some (.int .i64 c.diff.hi) :=
  ⟨h 0 (by omega), h 1 (by omega), h 2 (by omega), h 3 (by omega), h 4 (by omega), h 5 (by omega), h 6 (by omega)⟩

theorem DlS.start {cap base i0 : Nat} (own : w.ownsRow base 90 7 (.slice (some ⟨blk, 0, none⟩) l.length cap) l.length (l.flatMap crtLs)) (hi : i0 < l.length) (hp : p l[i0] = true) (hn : ∀ x ∈ l.take i0, p x = false) : DlS blk l p w i0 (i0 + 1) w := by
  have hrow : ∀ t c, l[t]? = some c → crtIn w blk (t * 7) c := fun t c hc u hu => by
    have hlt := (List.getElem?_eq_some_iff.1 hc).1
    rw [own.cellAt _ (by omega)]
    exact row_get (f := crtLs) (n := 7) (fun _ => rfl) _ _ _ _ hc hu
  have e0 : (l.take i0).filter (fun x => !p x) = l.take i0 := List.filter_eq_self.2 fun x hx => by rw [hn x hx]; rfl
  have e : (l.take (i0 + 1)).filter (fun x => !p x) = l.take i0 := by
    rw [List.take_succ_eq_append_getElem hi, List.filter_append, e0]; simp [hp]
  refine ⟨Keep.refl _ _, (own.lt blk rfl).2, by rw [e]; simp; omega, by omega, by omega, fun t c ht => ?_, fun t c _ hc => hrow t c hc, fun o ho => ?_, fun o => own.frozenAt o⟩
  · rw [e] at ht
    refine hrow t c ?_
    have hlt := (List.getElem?_eq_some_iff.1 ht).1
    rw [List.length_take] at hlt
    rw [List.getElem?_take, if_pos (by omega)] at ht
    exact ht
  · rw [own.cellAt o ho, List.getElem?_eq_getElem (by rw [row_length (n := 7) fun _ => rfl]; exact ho)]
    rfl

theorem DlS.end_ (h : DlS blk l p w i l.length W) {vs : List Value} (hv : vs.length = (l.length - i) * 7) :
    Keep (fun j => j ≠ blk) w (W.setCells blk (i * 7) vs) ∧ certsAt (fun j => j = blk) (W.setCells blk (i * 7) vs) (some ⟨blk, 0, none⟩) (l.filter fun x => !p x) := by
  have hd := h.done
  have hc := h.cnt
  rw [List.take_length] at hd hc
  refine ⟨h.kp.trans (setCells_keep _ _ _ _), fun _ => ⟨blk, 0, rfl, rfl, fun t c ht => ?_⟩⟩
  have hlt := (List.getElem?_eq_some_iff.1 ht).1
  have : crtIn (W.setCells blk (i * 7) vs) blk (t * 7) c := fun u hu => by
    rw [World.cell?_setCells_out blk _ _ _ _ fun _ _ => .inl (by show t * 7 + u < _; omega)]
    exact hd t c ht u hu
  have := this.cells
  rw [Nat.zero_add]
  exact this

set_option maxRecDepth 100000 in
set_option maxHeartbeats 1000000 in
theorem c70 (g : Nat) (eg : ∀ args w, (callFunc g args).run Try.prog w = .ok (.enter g args) w) (lb : Array Value) (p : Crt → Bool) (blk cap base : Nat) (l : List Crt) (w : World)
    (own : w.ownsRow base 90 7 (.slice (some ⟨blk, 0, none⟩) l.length cap) l.length (l.flatMap crtLs)) (hl : l.length ≤ 100)
    (hp : ∀ W q, q ∈ l → Keep (fun j => j ≠ blk) w W → Calls Try.prog g (#[crtV q] ++ lb) W fun e w' => e = .returned (.bool (p q)) ∧ ∃ x, w' = over W x) :
    Calls Try.prog 70 #[.slice (some ⟨blk, 0, none⟩) l.length cap, .func (.func g) #[] lb] w fun e w' =>
      e = .returned (.slice (some ⟨blk, 0, none⟩) (l.filter fun x => !p x).length cap) ∧ Keep (fun j => j ≠ blk) w w' ∧ certsAt (fun j => j = blk) w' (some ⟨blk, 0, none⟩) (l.filter fun x => !p x) := by
  have hlt := (own.lt blk rfl).2
  have hcap : l.length ≤ cap ∧ cap ≤ maxLen := by
    rcases own.2 with ⟨h1, _⟩ | ⟨g', cap', cur, h1, h2, h3, h4, h5, _⟩
    · cases h1
    · cases h1; exact ⟨h4, h5⟩
  have hrow : ∀ t c, l[t]? = some c → crtIn w blk (t * 7) c := fun t c hc u hu => by
    have hlt := (List.getElem?_eq_some_iff.1 hc).1
    rw [own.cellAt _ (by omega)]
    exact row_get (f := crtLs) (n := 7) (fun _ => rfl) _ _ _ _ hc hu
  have hcr : certsAt (fun j => j = blk) w (some ⟨blk, 0, none⟩) l := fun _ => ⟨blk, 0, rfl, rfl, fun t c ht => by
    have := (hrow t c ht).cells
    rw [Nat.zero_add]
    exact this⟩
  have hfi := c98 g eg #[] lb l p (some ⟨blk, 0, none⟩) cap w (hcr.mono fun j hj => by rw [hj]; exact hlt) (fun q hq y => hp (over w y) q hq (Keep.over _ _ _)) hl
  have HFI := Lib.hid hfi
  have HCR := Lib.hid hcr
  have HP := Lib.hid hp
  obtain ⟨hcap1, hcap2⟩ := hcap
  unfold maxLen at hcap2
  cases hf : l.findIdx? p with
  | none =>
    have hno := List.findIdx?_eq_none_iff.1 hf
    have hfn : findI p l = -1 := by unfold findI; rw [hf]
    have e0 : l.filter (fun x => !p x) = l := List.filter_eq_self.2 fun x hx => by rw [hno x hx]; rfl
    rw [e0]
    rw [hfn] at HFI
    clear hf hno hfi hfn hcr hp hrow own e0
    go_enter Try.func70, Try.ntmps70
    go_wp2_with fail
    refine HFI.out.mono ?_
    rintro e w1 ⟨rfl, x, rfl⟩
    go_wp2_with fail
    go_ret
    exact ⟨rfl, Keep.over _ _ _, fun hl0 => by
      obtain ⟨g', o', e', hS', hc'⟩ := (HCR.out.mono (T := (· < w.heap.size)) fun j hj => by rw [hj]; exact hlt).keep (Keep.over _ w x) hl0
      cases e'
      exact ⟨blk, 0, rfl, rfl, hc'⟩⟩
  | some i0 =>
    obtain ⟨hi0, hpi, hno⟩ := List.findIdx?_eq_some_iff_getElem.1 hf
    have hfn : findI p l = (i0 : Int) := by unfold findI; rw [hf]
    rw [hfn] at HFI
    have hst := DlS.start (p := p) own hi0 hpi (fun x hx => by
      obtain ⟨t, ht, rfl⟩ := List.mem_iff_getElem.1 hx
      rw [List.length_take] at ht
      have := hno t (by omega)
      simpa using this)
    have HST := Lib.hid hst
    have hi1 : (((i0 : Nat) : Int) == -1) = false := beq_eq_false_iff_ne.2 (by omega)
    clear hf hno hfi hfn hcr hp hrow own hpi hst
    go_enter Try.func70, Try.ntmps70
    go_wp2_with fail
    refine HFI.out.mono ?_
    rintro e w1 ⟨rfl, x, rfl⟩
    have HS1 := Lib.hid (HST.out.on (over_below w x))
    generalize over w x = w1 at *
    go_wp2_with fail
    go_loopw [5, 6] (fun s t wr => ∃ i j : Nat, s = .int .i64 i ∧ t = .int .i64 j ∧ DlS blk l p w i j wr) (fun _ t _ => l.length - (intOf t).toNat)
    case atStart => exact ⟨i0, i0 + 1, rfl, by go_num, HS1.out⟩
    case round =>
      obtain ⟨i, j, rfl, rfl, hS⟩ := hrel
      have HS := Lib.hid hS
      have hij := hS.ij
      have hjl := hS.jl
      have hbw := hS.kp.size
      clear hS
      by_cases hlt2 : j < l.length
      · obtain ⟨q, hq⟩ : ∃ q, l[j]? = some q := ⟨l[j], by simp [hlt2]⟩
        obtain ⟨q0, q1, q2, q3, q4, q5, q6⟩ := (HS.out.rest j q (Nat.le_refl _) hq).cells
        have hix := fun c => @idx33 (some ⟨blk, 0, none⟩) blk 0 l.length c rfl j hlt2
        have hix2 := fun c => @idx33 (some ⟨blk, 0, none⟩) blk 0 l.length c rfl i (by omega)
        simp only [Nat.zero_add] at hix hix2
        have HQ := Lib.hid hq
        have hb3 : Below wr.heap.size wr (wr.alloc (.cells #[.int .i64 q.num, .int .i64 q.item, .int .i64 q.by_, .int .i64 q.day, .int .i64 q.valid, .int .i64 q.diff.lo, .int .i64 q.diff.hi] 90)) := (Below.refl _ _).alloc (Nat.le_refl _) _
        have HS3 := Lib.hid (HS.out.on hb3)
        have hcall := HP.out _ q (List.mem_of_getElem? hq) HS3.out.kp
        unfold crtV at hcall
        have HCALL := Lib.hid hcall
        have lq := lt_of_cell q0
        clear hq hb3 hcall
        go_wp2_with fail
        refine HCALL.out.mono ?_
        rintro e w2 ⟨rfl, y, rfl⟩
        have HS4 := Lib.hid (HS3.out.on (over_below _ y))
        have p0 : (over (wr.alloc (.cells #[.int .i64 q.num, .int .i64 q.item, .int .i64 q.by_, .int .i64 q.day, .int .i64 q.valid, .int .i64 q.diff.lo, .int .i64 q.diff.hi] 90)) y).cell? ⟨wr.heap.size, 0, none⟩ = some (.int .i64 q.num) := (Keep.over (fun _ => True) _ y).cell (by simp [go_sem]) trivial
        have p1 : (over (wr.alloc (.cells #[.int .i64 q.num, .int .i64 q.item, .int .i64 q.by_, .int .i64 q.day, .int .i64 q.valid, .int .i64 q.diff.lo, .int .i64 q.diff.hi] 90)) y).cell? ⟨wr.heap.size, 1, none⟩ = some (.int .i64 q.item) := (Keep.over (fun _ => True) _ y).cell (by simp [go_sem]) trivial
        have p2 : (over (wr.alloc (.cells #[.int .i64 q.num, .int .i64 q.item, .int .i64 q.by_, .int .i64 q.day, .int .i64 q.valid, .int .i64 q.diff.lo, .int .i64 q.diff.hi] 90)) y).cell? ⟨wr.heap.size, 2, none⟩ = some (.int .i64 q.by_) := (Keep.over (fun _ => True) _ y).cell (by simp [go_sem]) trivial
        have p3 : (over (wr.alloc (.cells #[.int .i64 q.num, .int .i64 q.item, .int .i64 q.by_, .int .i64 q.day, .int .i64 q.valid, .int .i64 q.diff.lo, .int .i64 q.diff.hi] 90)) y).cell? ⟨wr.heap.size, 3, none⟩ = some (.int .i64 q.day) := (Keep.over (fun _ => True) _ y).cell (by simp [go_sem]) trivial
        have p4 : (over (wr.alloc (.cells #[.int .i64 q.num, .int .i64 q.item, .int .i64 q.by_, .int .i64 q.day, .int .i64 q.valid, .int .i64 q.diff.lo, .int .i64 q.diff.hi] 90)) y).cell? ⟨wr.heap.size, 4, none⟩ = some (.int .i64 q.valid) := (Keep.over (fun _ => True) _ y).cell (by simp [go_sem]) trivial
        have p5 : (over (wr.alloc (.cells #[.int .i64 q.num, .int .i64 q.item, .int .i64 q.by_, .int .i64 q.day, .int .i64 q.valid, .int .i64 q.diff.lo, .int .i64 q.diff.hi] 90)) y).cell? ⟨wr.heap.size, 5, none⟩ = some (.int .i64 q.diff.lo) := (Keep.over (fun _ => True) _ y).cell (by simp [go_sem]) trivial
        have p6 : (over (wr.alloc (.cells #[.int .i64 q.num, .int .i64 q.item, .int .i64 q.by_, .int .i64 q.day, .int .i64 q.valid, .int .i64 q.diff.lo, .int .i64 q.diff.hi] 90)) y).cell? ⟨wr.heap.size, 6, none⟩ = some (.int .i64 q.diff.hi) := (Keep.over (fun _ => True) _ y).cell (by simp [go_sem]) trivial
        clear q0 q1 q2 q3 q4 q5 q6 HS3 HCALL hix lq HS hbw
        generalize over (wr.alloc _) y = w2 at *
        generalize wr.heap.size = Z at *
        obtain ⟨z0, e0⟩ := Option.isSome_iff_exists.1 (HS4.out.ex (i * 7) (by omega))
        obtain ⟨z1, e1⟩ := Option.isSome_iff_exists.1 (HS4.out.ex (i * 7 + 1) (by omega))
        obtain ⟨z2, e2⟩ := Option.isSome_iff_exists.1 (HS4.out.ex (i * 7 + 2) (by omega))
        obtain ⟨z3, e3⟩ := Option.isSome_iff_exists.1 (HS4.out.ex (i * 7 + 3) (by omega))
        obtain ⟨z4, e4⟩ := Option.isSome_iff_exists.1 (HS4.out.ex (i * 7 + 4) (by omega))
        obtain ⟨z5, e5⟩ := Option.isSome_iff_exists.1 (HS4.out.ex (i * 7 + 5) (by omega))
        obtain ⟨z6, e6⟩ := Option.isSome_iff_exists.1 (HS4.out.ex (i * 7 + 6) (by omega))
        have f0 := HS4.out.fz (i * 7)
        have f1 := HS4.out.fz (i * 7 + 1)
        have f2 := HS4.out.fz (i * 7 + 2)
        have f3 := HS4.out.fz (i * 7 + 3)
        have f4 := HS4.out.fz (i * 7 + 4)
        have f5 := HS4.out.fz (i * 7 + 5)
        have f6 := HS4.out.fz (i * 7 + 6)
        have lz := lt_of_cell p0
        have lb : blk < w2.heap.size := by have := HS4.out.kp.size; omega
        cases hp : p q
        · have HN := Lib.hid (HS4.out.put HQ.out hp)
          clear hp
          go_wp2_with fail
          go_roundw
          case rel => exact ⟨i + 1, j + 1, by go_num, by go_num, HN.out⟩
          case measure => simp [intOf]; omega
        · have HN := Lib.hid (HS4.out.skip HQ.out hp)
          clear hp e0 e1 e2 e3 e4 e5 e6 f0 f1 f2 f3 f4 f5 f6
          go_wp2_with fail
          go_roundw
          case rel => exact ⟨i, j + 1, rfl, by go_num, HN.out⟩
          case measure => simp [intOf]; omega
      · have hje : j = l.length := by omega
        subst hje
        obtain ⟨vs, hvl, hclr⟩ := run_clear_crts wr 0 blk (i * 7) (l.length - i) (cap - i) (by omega) (fun t ht => HS.out.ex _ (by omega)) (fun t => HS.out.fz t)
        obtain ⟨hk, hce⟩ := HS.out.end_ hvl
        have HK := Lib.hid (And.intro hk hce)
        have hcn := HS.out.cnt
        rw [List.take_length] at hcn
        have HCN := Lib.hid hcn
        have hs1 : ∀ W, (Instr.slice 33 (.slice (some ⟨blk, 0, none⟩) l.length cap) (some (.int .i64 i)) none none).run Try.prog W = .ok (.slice (some ⟨blk, i * 7, none⟩) (l.length - i) (cap - i)) W := fun W => by
          rw [run_slice_l W 33 (some ⟨blk, 0, none⟩) l.length cap und33 .i64 i (by omega) (by omega), size33]
          have hci : ¬ cap = i := by omega
          simp [Result.andThen, sliced, Addr.add, hci]
          intro h; exact h.symm
        clear hk hce hcn hvl
        go_wp2_with fail
        go_ret
        exact ⟨by rw [← HCN.out]; rfl, HK.out.1, HK.out.2⟩
end Go.Proofs.Ytmcnpfjichbijaa

