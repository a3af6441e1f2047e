/- The reference's Get and Without. -/
import Derived.Test.YtmcnpfjichbijaaL20
import Derived.Test.YtmcnpfjichbijaaC24
set_option linter.unusedSimpArgs false
set_option linter.unusedVariables false
namespace Go.Proofs.Ytmcnpfjichbijaa
open Go Go.Proofs Go.RowKit Go.Shelf


theorem getC_find {b : Bk} {n : Int} {i : Nat} {q : Crt} (hq : b.certs[i]? = some q) (hn : q.num = n) (hno : ∀ c ∈ b.certs.take i, c.num ≠ n) : getC b n = q ∧ n ∈ numsOf b := by
  have hi := (List.getElem?_eq_some_iff.1 hq).1
  refine ⟨?_, (mem_numsOf b n).2 ⟨q, List.mem_of_getElem? hq, hn⟩⟩
  unfold getC
  have : b.certs.find? (fun c => c.num == n) = some q := by
    rw [List.find?_eq_some_iff_append]
    refine ⟨by simp [hn], b.certs.take i, b.certs.drop (i + 1), ?_, fun c hc => by simpa using hno c hc⟩
    have := List.take_append_drop i b.certs
    rw [List.drop_eq_getElem_cons hi] at this
    rw [← (List.getElem?_eq_some_iff.1 hq).2]
    exact this.symm
  rw [this]; rfl
theorem getC_none {b : Bk} {n : Int} (hno : ∀ c ∈ b.certs, c.num ≠ n) : getC b n = ⟨0, 0, 0, 0, 0, ⟨0, 0⟩⟩ ∧ n ∉ numsOf b := by
  have : n ∉ numsOf b := fun h => by
    obtain ⟨c, h1, h2⟩ := (mem_numsOf b n).1 h
    exact hno c h1 h2
  exact ⟨getC_not this, this⟩

theorem ret_cell2 {fn : Func} {p q : Tmp} {t : TypeId} {g : Nat} {v u : Value} {w : World} (h : fn.results = #[.cell p t, .tmp q]) (tmps : Array Value) (hp : tmps.getD p undef = .pointer (some ⟨g, 0, none⟩)) (hq : tmps.getD q undef = u)
    (hl : (loadVar t ⟨g, 0, none⟩).run Try.prog w = .ok v w) : (results fn tmps).run Try.prog w = .ok (.tuple #[v, u]) w := by
  have hp' : tmps[p]?.getD undef = .pointer (some ⟨g, 0, none⟩) := by simpa using hp
  have hq' : tmps[q]?.getD undef = u := by simpa using hq
  simp [results, h, hp', hq', asAddr, hl]

theorem below_setCells_w' {B g : Nat} {w W : World} (h : Below B w W) (hg : B ≤ g) : ∀ (vs : List Value) (o : Nat), Below B w (W.setCells g o vs)
  | vs, o => by
    induction vs generalizing W o with
    | nil => exact h
    | cons v vs ih => exact ih (below_set h ⟨g, o, none⟩ v hg) (o + 1)

/-- The seven stores of a certificate over seven cells that are there. -/
theorem load58_put {W : World} {g : Nat} {c : Crt} (hc : ∀ j, j < 7 → (W.cell? ⟨g, j, none⟩).isSome = true) : (loadVar 58 ⟨g, 0, none⟩).run Try.prog (W.setCells g 0 (crtLs c)) = .ok (crtV c) (W.setCells g 0 (crtLs c)) := by
  have h : ∀ (j : Nat) (hj : j < 7), (W.setCells g 0 (crtLs c)).cell? ⟨g, j, none⟩ = some ((crtLs c)[j]'(by simpa [crtLs] using hj)) := fun j hj => by
    have := World.cell?_setCells_in g (crtLs c) 0 W (fun k hk => by rw [Nat.zero_add]; exact hc k (by simpa [crtLs] using hk)) j (by simpa [crtLs] using hj)
    rwa [Nat.zero_add] at this
  have h0 := h 0 (by omega)
  have h1 := h 1 (by omega)
  have h2 := h 2 (by omega)
  have h3 := h 3 (by omega)
  have h4 := h 4 (by omega)
  have h5 := h 5 (by omega)
  have h6 := h 6 (by omega)
  simp only [crtLs, List.getElem_cons_zero, List.getElem_cons_succ] at h0 h1 h2 h3 h4 h5 h6
  unfold crtV
  simp only [crtLs]
  simp [go_sem, h0, h1, h2, h3, h4, h5, h6]

/-- The same world, written out. -/
def put7 (W : World) (g : Nat) (c : Crt) : World :=
  ((((((W.setCell ⟨g, 0, none⟩ (.int .i64 c.num)).setCell ⟨g, 1, none⟩ (.int .i64 c.item)).setCell ⟨g, 2, none⟩ (.int .i64 c.by_)).setCell ⟨g, 3, none⟩ (.int .i64 c.day)).setCell ⟨g, 4, none⟩ (.int .i64 c.valid)).setCell ⟨g, 5, none⟩ (.int .i64 c.diff.lo)).setCell ⟨g, 6, none⟩ (.int .i64 c.diff.hi)
theorem put7_eq (W : World) (g : Nat) (c : Crt) : put7 W g c = W.setCells g 0 (crtLs c) := rfl
set_option maxRecDepth 100000 in
set_option maxHeartbeats 1000000 in
theorem c36 (Ai Ac : Option Addr) (ci cc : Nat) (b : Bk) (n : Int) (w : World) (hA : certsAt (· < w.heap.size) w Ac b.certs) (hl2 : b.certs.length ≤ 1000) :
    Calls Try.prog 36 #[.agg #[.slice Ai b.items.length ci, .slice Ac b.certs.length cc], .int .i64 n] w fun e w' => e = .returned (.tuple #[crtV (getC b n), .bool (decide (n ∈ numsOf b))]) ∧ ∃ x, w' = over w x := by
  have HA := Lib.hid hA
  clear hA
  go_enter Try.func36, Try.ntmps36
  go_wp2_with fail
  have hb : Below w.heap.size w ((w.alloc (.cells #[.slice Ai b.items.length ci, .slice Ac b.certs.length cc] 25)).alloc (.cells #[.int .i64 0, .int .i64 0, .int .i64 0, .int .i64 0, .int .i64 0, .int .i64 0, .int .i64 0] 58)) := by repeat' (first | exact Below.refl _ _ | (refine below_ov ?_ ?_) | (refine Below.alloc ?_ ?_ _) | (refine below_drewN' ?_ _) | (refine Below.drew ?_) | (refine below_set ?_ _ _ ?_) | (simp; done) | (simp; omega) | omega)
  have a0 : ((w.alloc (.cells #[.slice Ai b.items.length ci, .slice Ac b.certs.length cc] 25)).alloc (.cells #[.int .i64 0, .int .i64 0, .int .i64 0, .int .i64 0, .int .i64 0, .int .i64 0, .int .i64 0] 58)).cell? ⟨w.heap.size, 1, none⟩ = some (.slice Ac b.certs.length cc) := by simp [go_sem]
  have hz : ∀ j, j < 7 → ((w.alloc (.cells #[.slice Ai b.items.length ci, .slice Ac b.certs.length cc] 25)).alloc (.cells #[.int .i64 0, .int .i64 0, .int .i64 0, .int .i64 0, .int .i64 0, .int .i64 0, .int .i64 0] 58)).cell? ⟨w.heap.size + 1, j, none⟩ = some (.int .i64 0) := fun j hj => by
    rcases j with _ | _ | _ | _ | _ | _ | _ | j <;> first | (simp [go_sem]; done) | omega
  have hf : ∀ j, ((w.alloc (.cells #[.slice Ai b.items.length ci, .slice Ac b.certs.length cc] 25)).alloc (.cells #[.int .i64 0, .int .i64 0, .int .i64 0, .int .i64 0, .int .i64 0, .int .i64 0, .int .i64 0] 58)).frozen? ⟨w.heap.size + 1, j, none⟩ = false := fun j => by simp [go_sem]
  have lw := lt_of_cell a0
  have hcr : certsAt (· < w.heap.size) ((w.alloc (.cells #[.slice Ai b.items.length ci, .slice Ac b.certs.length cc] 25)).alloc (.cells #[.int .i64 0, .int .i64 0, .int .i64 0, .int .i64 0, .int .i64 0, .int .i64 0, .int .i64 0] 58)) Ac b.certs := HA.out.keep (Keep.of_below hb fun _ h _ => h)
  have HB := Lib.hid hb
  have HZ := Lib.hid (And.intro hz hf)
  have HCR := Lib.hid hcr
  clear hb hz hf hcr
  generalize (w.alloc _).alloc _ = V at *
  go_loop [6] (fun t => ∃ i : Nat, i ≤ b.certs.length ∧ t = .int .i64 i ∧ ∀ c ∈ b.certs.take i, c.num ≠ n) (fun t => b.certs.length - (intOf t).toNat)
  case atStart => exact ⟨0, Nat.zero_le _, rfl, by simp⟩
  case round =>
    obtain ⟨i, hi, rfl, hno⟩ := hrel
    have HNO := Lib.hid hno
    clear hno
    by_cases hlt : i < b.certs.length
    · obtain ⟨q, hq⟩ : ∃ q, b.certs[i]? = some q := ⟨b.certs[i], by simp [hlt]⟩
      obtain ⟨Bc, Co, eC, hSC, hcs⟩ := HCR.out (by omega)
      obtain ⟨q0, q1, q2, q3, q4, q5, q6⟩ := hcs i q hq
      have hixc := fun c => @idx23 Ac Bc Co b.certs.length c eC i hlt
      have lc := lt_of_cell q0
      have HQ := Lib.hid hq
      clear hq hcs eC hSC
      cases hqn : (q.num == n)
      · have hne : q.num ≠ n := by simpa using hqn
        have HN : Hid (∀ c ∈ b.certs.take (i + 1), c.num ≠ n) := Lib.hid fun c hc => by
          rw [List.take_add_one, HQ.out] at hc
          rcases List.mem_append.1 hc with h | h
          · exact HNO.out c h
          · simp at h; subst h; exact hne
        clear hne
        go_wp2_with fail
        go_round
        case rel => exact ⟨i + 1, by omega, by go_num, HN.out⟩
        case measure => simp [intOf]; omega
      · have heq : q.num = n := by simpa using hqn
        have HG := Lib.hid (getC_find HQ.out heq HNO.out)
        have z0 := HZ.out.1 0 (by omega)
        have z1 := HZ.out.1 1 (by omega)
        have z2 := HZ.out.1 2 (by omega)
        have z3 := HZ.out.1 3 (by omega)
        have z4 := HZ.out.1 4 (by omega)
        have z5 := HZ.out.1 5 (by omega)
        have z6 := HZ.out.1 6 (by omega)
        have f0 := HZ.out.2 0
        have f1 := HZ.out.2 1
        have f2 := HZ.out.2 2
        have f3 := HZ.out.2 3
        have f4 := HZ.out.2 4
        have f5 := HZ.out.2 5
        have f6 := HZ.out.2 6
        have lz := lt_of_cell z0
        clear heq
        go_wp2_with fail
        have hld := load58_put (W := V) (g := w.heap.size + 1) (c := q) fun j hj => by rw [HZ.out.1 j hj]; rfl
        have hbl := below_setCells_w' HB.out (show w.heap.size ≤ w.heap.size + 1 by omega) (crtLs q) 0
        rw [← put7_eq] at hld hbl
        have hre : (Value.tuple #[crtV (getC b n), .bool (decide (n ∈ numsOf b))]) = .tuple #[crtV q, .bool true] := by rw [HG.out.1, decide_eq_true HG.out.2]
        rw [hre]
        change bodyPost _ _ _ _ _ (put7 V (w.heap.size + 1) q)
        generalize put7 V (w.heap.size + 1) q = V9 at *
        exact bodyPost_ret (ret_cell2 (g := w.heap.size + 1) (v := crtV q) (u := .bool true) rfl _ rfl rfl hld) rfl ⟨rfl, below_over hbl⟩
    · have HG := Lib.hid (getC_none (n := n) (fun c hc => HNO.out c (by rwa [List.take_of_length_le (by omega)])))
      have z0 := HZ.out.1 0 (by omega)
      have z1 := HZ.out.1 1 (by omega)
      have z2 := HZ.out.1 2 (by omega)
      have z3 := HZ.out.1 3 (by omega)
      have z4 := HZ.out.1 4 (by omega)
      have z5 := HZ.out.1 5 (by omega)
      have z6 := HZ.out.1 6 (by omega)
      have f0 := HZ.out.2 0
      have f1 := HZ.out.2 1
      have f2 := HZ.out.2 2
      have f3 := HZ.out.2 3
      have f4 := HZ.out.2 4
      have f5 := HZ.out.2 5
      have f6 := HZ.out.2 6
      have lz := lt_of_cell z0
      go_wp2_with fail
      have hld := load58_put (W := V) (g := w.heap.size + 1) (c := ⟨0, 0, 0, 0, 0, ⟨0, 0⟩⟩) fun j hj => by rw [HZ.out.1 j hj]; rfl
      have hbl := below_setCells_w' HB.out (show w.heap.size ≤ w.heap.size + 1 by omega) (crtLs ⟨0, 0, 0, 0, 0, ⟨0, 0⟩⟩) 0
      rw [← put7_eq] at hld hbl
      have hre : (Value.tuple #[crtV (getC b n), .bool (decide (n ∈ numsOf b))]) = .tuple #[crtV ⟨0, 0, 0, 0, 0, ⟨0, 0⟩⟩, .bool false] := by rw [HG.out.1, decide_eq_false HG.out.2]
      rw [hre]
      change bodyPost _ _ _ _ _ (put7 V (w.heap.size + 1) ⟨0, 0, 0, 0, 0, ⟨0, 0⟩⟩)
      generalize put7 V (w.heap.size + 1) ⟨0, 0, 0, 0, 0, ⟨0, 0⟩⟩ = V9 at *
      exact bodyPost_ret (ret_cell2 (g := w.heap.size + 1) (v := crtV ⟨0, 0, 0, 0, 0, ⟨0, 0⟩⟩) (u := .bool false) rfl _ rfl rfl hld) rfl ⟨rfl, below_over hbl⟩
end Go.Proofs.Ytmcnpfjichbijaa

