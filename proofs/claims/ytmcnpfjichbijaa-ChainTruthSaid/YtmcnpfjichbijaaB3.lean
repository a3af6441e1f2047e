/- The best chain, walked. -/
import Derived.Test.YtmcnpfjichbijaaB1
import Derived.Lib.SliceRun
import Derived.BigGuardIn
import Derived.Maps.Own
import Derived.Deep.AppendLies
set_option linter.unusedSimpArgs false
set_option linter.unusedVariables false
namespace Go.Proofs.Ytmcnpfjichbijaa
open Go Go.Proofs Go.RowKit Go.Shelf

attribute [local go_sem] Oper.semAt_some

/-- What the best chain's call returns. -/
def bestRes (b : Bk) (item at_ : Int) : List Int := if askErr b item at_ = 0 then bestOf b item at_ else []
def BestTo (b : Bk) (item at_ : Int) (w : World) (e : Ending) (w' : World) : Prop :=
  ∃ A c, e = .returned (.tuple #[.slice A (bestRes b item at_).length c, .int .i64 (askErr b item at_)]) ∧ numsAt (fun j => w.heap.size ≤ j ∧ j < w'.heap.size) w' A (bestRes b item at_) ∧ ∃ x, w' = over w x

theorem BSt.on {b : Bk} {k : Wk} {H i : Nat} {w1 wr W : World} (h : BSt b k H w1 i wr) (hb : Below wr.heap.size wr W) : BSt b k H w1 i W := by
  have kp : Keep (fun j => j < wr.heap.size) wr W := Keep.of_below hb fun _ h _ => h
  have hs := hb.size
  have hs1 := h.bel.size
  have l9 := lt_of_cell h.b9
  have l11 := lt_of_cell h.b11
  have l12 := lt_of_cell h.b12
  obtain ⟨g, hg, hv⟩ := h.ends
  have lE := hg.lt
  exact ⟨h.bel.trans (hb.mono hs1), kp.cell h.b9 l9, kp.cell h.b11 l11, kp.cell h.b12 l12, g, hg.keep kp lE, fun n => ((hv n).keep kp fun j hj => hj.2).mono fun j hj => ⟨hj.1, by omega⟩⟩

theorem info3' : (Try.prog.info? 3).map (fun i => (i.zero, i.size, i.bytes)) = some (some (.int .i64 0), 1, 8) := by kernel_rfl

theorem own_lower {w : World} {base base' e s n : Nat} {v : Value} {xs : List Value} (h : w.ownsRow base e s v n xs) (hb : base' ≤ base) : w.ownsRow base' e s v n xs := by
  refine ⟨h.1, ?_⟩
  rcases h.2 with h1 | ⟨g, cap, cur, h1, h2, h3⟩
  · exact .inl h1
  · exact .inr ⟨g, cap, cur, h1, by omega, h3⟩

theorem listV.nums {S : Nat → Prop} {w : World} {A : Option Addr} {n c : Nat} {l : List Int} (h : listV S w (.slice A n c) l) : numsAt S w A l := fun hl => by
  rcases h with ⟨h1, _⟩ | ⟨_, b, o, c', h2, h3, h4⟩
  · subst h1; simp at hl
  · injection h2 with e1
    exact ⟨b, o, e1, h3, h4⟩
theorem keepsFrom_keep {B : Nat} {W W' : World} (k : Keep (fun j => j < W.heap.size) W W') : KeepsFrom B W W' :=
  ⟨k.size, fun j o _ hj _ => by have l := (Array.getElem?_eq_some_iff.1 hj).1; rw [k.block j l l]; exact hj⟩
theorem bestStep_no {h : Int → Bool} {E : Int → List Int} {n : Int} {r : List Int} {o : Int} (hh : h o = false) : bestStep h E n r o = r := by unfold bestStep; rw [if_neg (by rw [hh]; simp)]
theorem bestStep_nil {h : Int → Bool} {E : Int → List Int} {n : Int} {r : List Int} {o : Int} (hh : h o = true) (hr : r = []) : bestStep h E n r o = E o ++ [n] := by unfold bestStep better; rw [if_pos hh, if_pos (.inl hr)]
theorem bestStep_lt {h : Int → Bool} {E : Int → List Int} {n : Int} {r : List Int} {o : Int} (hh : h o = true) (hr : beforeI (E o ++ [n]) r < 0) : bestStep h E n r o = E o ++ [n] := by unfold bestStep better; rw [if_pos hh, if_pos (.inr hr)]
theorem bestStep_ge {h : Int → Bool} {E : Int → List Int} {n : Int} {r : List Int} {o : Int} (hh : h o = true) (h0 : r ≠ []) (hr : ¬ beforeI (E o ++ [n]) r < 0) : bestStep h E n r o = r := by
  unfold bestStep better; rw [if_pos hh, if_neg (by rintro (h | h); exact h0 h; exact hr h)]

/-- A list, one longer, of the call's own. -/
theorem listV_own {w : World} {base g cap : Nat} {l : List Int} {q : Int} (own : w.ownsRow base 3 1 (.slice (some ⟨g, 0, none⟩) (l.length + 1) cap) (l.length + 1) (l.map (Value.int .i64) ++ [.int .i64 q])) :
    listV (fun j => base ≤ j ∧ j < w.heap.size) w (.slice (some ⟨g, 0, none⟩) (l ++ [q]).length cap) (l ++ [q]) := by
  have own' : w.ownsRow base 3 1 (.slice (some ⟨g, 0, none⟩) (l ++ [q]).length cap) (l ++ [q]).length ((l ++ [q]).map (Value.int .i64)) := by
    rw [List.length_append, List.map_append]; exact own
  obtain ⟨b, o, e, hS, hc⟩ := nums_of_own own' (by simp)
  cases e
  exact .inr ⟨by simp, g, 0, cap, rfl, hS, hc⟩

/-- The box of the last choice: its lists are elder or younger than it. -/
def LastBox (m Z : Nat) (l : List Int) (W : World) : Prop := ListBox (fun j => m < j ∧ j ≠ Z ∧ j < W.heap.size) W Z l

theorem lastBox_own {β : Type} (m Z n : Nat) (f : β → List Int) : OwnFrom n (fun s W => LastBox m Z (f s) W) := by
  rintro s A C row ⟨v, hc, hv, hf⟩ hg hr
  refine ⟨v, cell_kept hc hg (fun r e => (hr r e).2), ?_, (frozen_kept hc hg (fun r e => (hr r e).2)).trans hf⟩
  rcases hv with h | ⟨h1, b, o, c, h2, h3, h4⟩
  · exact .inl h
  · exact .inr ⟨h1, b, o, c, h2, ⟨h3.1, h3.2.1, Nat.lt_of_lt_of_le h3.2.2 hg.size⟩, fun i m hm => cell_kept (h4 i m hm) hg (fun r e => (hr r e).2)⟩
theorem LastBox.keep {m Z : Nat} {l : List Int} {W W' : World} (h : LastBox m Z l W) (k : Keep (fun j => j < W.heap.size) W W') : LastBox m Z l W' := by
  obtain ⟨v, hc, hv, hf⟩ := h
  have l := lt_of_cell hc
  refine ⟨v, k.cell hc l, (hv.keep k fun j hj => hj.2.2).mono fun j hj => ⟨hj.1, hj.2.1, by have := k.size; have := hj.2.2; omega⟩, ?_⟩
  rw [World.frozen?_of_block (k.block Z l l)]; exact hf
theorem LastBox.put {m Z : Nat} {l l' : List Int} {W : World} {v : Value} (h : LastBox m Z l W) (hv : listV (fun j => m < j ∧ j ≠ Z ∧ j < W.heap.size) W v l') : LastBox m Z l' (W.setCell ⟨Z, 0, none⟩ v) := by
  obtain ⟨v0, hc, _, hf⟩ := h
  refine ⟨v, World.cell?_setCell_same' _ _ _ (by rw [hc]; rfl), ?_, by rw [World.frozen?_setCell]; exact hf⟩
  rcases hv with h | ⟨h1, b, o, c, h2, h3, h4⟩
  · exact .inl h
  · refine .inr ⟨h1, b, o, c, h2, by simpa using h3, fun i m hm => ?_⟩
    rw [World.cell?_setCell_other _ _ _ _ (by intro e; have := congrArg Addr.block e; simp at this; exact h3.2.1 this.symm)]
    exact h4 i m hm
theorem lastStep_no {h : Int → Bool} {E : Int → List Int} {r : List Int} {o : Int} (hh : h o = false) : lastStep h E r o = r := by unfold lastStep; rw [if_neg (by rw [hh]; simp)]
theorem lastStep_nil {h : Int → Bool} {E : Int → List Int} {r : List Int} {o : Int} (hh : h o = true) (hr : r = []) : lastStep h E r o = E o := by unfold lastStep better; rw [if_pos hh, if_pos (.inl hr)]
theorem lastStep_lt {h : Int → Bool} {E : Int → List Int} {r : List Int} {o : Int} (hh : h o = true) (hr : beforeI (E o) r < 0) : lastStep h E r o = E o := by unfold lastStep better; rw [if_pos hh, if_pos (.inr hr)]
theorem lastStep_ge {h : Int → Bool} {E : Int → List Int} {r : List Int} {o : Int} (hh : h o = true) (h0 : r ≠ []) (hr : ¬ beforeI (E o) r < 0) : lastStep h E r o = r := by
  unfold lastStep better; rw [if_pos hh, if_neg (by rintro (h | h); exact h0 h; exact hr h)]

theorem BSt.next {b : Bk} {k : Wk} {H i : Nat} {w1 V W2 : World} {q : Int} {l' : List Int} {v : Value} {g : Int → Option Value} {o' : Obj} (h : BSt b k H w1 i V) (kV : Keep (fun j => j < V.heap.size) V W2)
    (hg : isMap W2 (w1.heap.size + 1 + 1) g) (hgv : ∀ n, listV (fun j => w1.heap.size + 3 < j ∧ j < V.heap.size) W2 ((g n).getD (.slice none 0 0)) (endsU b i n)) (hv : listV (fun j => w1.heap.size + 3 < j ∧ j < W2.heap.size) W2 v l')
    (hnext : ∀ n, endsU b (i + 1) n = if n = q then l' else endsU b i n) (hm' : isMap (W2.putObj (w1.heap.size + 1 + 1) o') (w1.heap.size + 1 + 1) (upd g q v)) (ho' : o'.isCells = false) : BSt b k H w1 (i + 1) (W2.putObj (w1.heap.size + 1 + 1) o') := by
  obtain ⟨oh, hHb, ho''⟩ := hg.notCells
  have hc : ∀ a, (W2.putObj (w1.heap.size + 1 + 1) o').cell? a = W2.cell? a := fun a => putObj_cell hHb ho'' ho' a
  have hs := kV.size
  have hsz : (W2.putObj (w1.heap.size + 1 + 1) o').heap.size = W2.heap.size := by simp
  have hs1 := h.bel.size
  have hl : ∀ {S : Nat → Prop} {v : Value} {l : List Int}, listV S W2 v l → listV S (W2.putObj (w1.heap.size + 1 + 1) o') v l := fun {S v l} h => by
    rcases h with h | ⟨h1, b, o, c, h2, h3, h4⟩
    · exact .inl h
    · exact .inr ⟨h1, b, o, c, h2, h3, fun i n hn => by rw [hc]; exact h4 i n hn⟩
  refine ⟨?_, by rw [hc]; exact kV.cell h.b9 (lt_of_cell h.b9), by rw [hc]; exact kV.cell h.b11 (lt_of_cell h.b11), by rw [hc]; exact kV.cell h.b12 (lt_of_cell h.b12), _, hm', fun n => ?_⟩
  · exact below_putObj (h.bel.trans (kV.below fun j hj => ⟨by omega, by omega⟩)) _ (by omega)
  · rw [hnext n]
    unfold upd
    split
    · exact (hl hv).mono fun j hj => ⟨hj.1, by rw [hsz]; exact hj.2⟩
    · exact (hl (hgv n)).mono fun j hj => ⟨hj.1, by rw [hsz]; have := hj.2; omega⟩

theorem endsU_skip (b : Bk) (i : Nat) (q : Int) (hq : (numsOf b)[i]? = some q) (h : held0 b q = false) : endsU b (i + 1) = endsU b i := by
  obtain ⟨hi, rfl⟩ := List.getElem?_eq_some_iff.1 hq
  rw [endsU_succ b i hi]
  funext j
  unfold endsStep
  rw [if_neg (by rintro ⟨_, e⟩; rw [h] at e; cases e)]

set_option maxRecDepth 100000 in
set_option maxHeartbeats 8000000 in
theorem c38 (Ai Ac : Option Addr) (ci cc : Nat) (b : Bk) (item at_ : Int) (w : World) (hA : bookAt (· < w.heap.size) w Ai Ac b) (hl : b.items.length ≤ 1000) (hl2 : b.certs.length ≤ 1000) :
    Calls Try.prog 38 #[.agg #[.slice Ai b.items.length ci, .slice Ac b.certs.length cc], .int .i64 item, .int .i64 at_] w (BestTo b item at_ w) := by
  have hc := fun o => c58 Ai Ac ci cc b item at_ (w.alloc o) (hA.alloc o) hl hl2
  have HC := Lib.hid hc
  clear hc hA
  have hmm := @run_makeMap Try.prog
  have hmf : ∀ (fn : Fn) (first cap : Array Value) (w : World), (Instr.makeFunc fn first cap).run Try.prog w = .ok (.func fn first cap) w := fun _ _ _ _ => rfl
  refine (callsIn_wide (n := 10)).1 ?_
  refine callsIn_of_wp_marks Try.func38 rfl trivial ?_ rfl
  refine wpIn_wide.2 ?_
  simp only [Try.ntmps38, List.size_toArray, List.length_cons, List.length_nil, Nat.reduceAdd, Nat.reduceSub, Array.replicate_succ, Array.replicate_zero, List.push_toArray, List.append_toArray, List.nil_append, List.cons_append]
  go_wp2_with fail
  refine Calls.mono (f := 58) (HC.out _) ?_
  rintro e w1 (⟨h0, rfl, x, rfl⟩ | ⟨h0, k, H, rfl, hm, hH, hs, hkH⟩)
  · have hne : ((askErr b item at_ : Int) != 0) = true := by simp [h0]
    have H0 := Lib.hid h0
    clear h0
    go_wp2_with fail
    refine leaves_marks (B := w.heap.size) (ds := []) trivial fun w' hg => ⟨_, results_tmp2 rfl _ _ _, ?_⟩
    have hr : bestRes b item at_ = [] := by unfold bestRes; rw [if_neg H0.out]
    refine ⟨none, 0, by rw [hr]; rfl, by rw [hr]; exact fun h => by simp at h, below_over (Below.trans ?_ hg.below)⟩
    repeat' (first | exact Below.refl _ _ | (refine below_ov ?_ ?_) | (refine Below.alloc ?_ ?_ _) | (refine below_drewN' ?_ _) | (refine Below.drew ?_) | (refine below_set ?_ _ _ ?_) | (simp; done) | (simp; omega) | omega)
  · have hr := askErr_reach h0
    have HR := Lib.hid hr
    have H0 := Lib.hid h0
    have hm2 : Made b (fun _ => false) w w1 k := hm.of ((Below.refl _ _).alloc (Nat.le_refl _) _)
    have HM := Lib.hid hm2
    have HH := Lib.hid hH
    have c0 := hm2.at_.c0
    rw [hm2.kb] at c0
    have lW := lt_of_cell c0
    obtain ⟨m, hmi⟩ := Int.eq_ofNat_of_zero_le hr.2.1
    have hml : m < b.items.length := by have := hr.2.2.1; omega
    have hits := hm2.at_.items
    rw [hm2.kb] at hits
    obtain ⟨Bi, Bo, eBi, hSI, hits⟩ := hits (by omega)
    have i2 := (hits m b.items[m] (by simp [hml])).2.1
    have hix := fun c => @idx32 k.Ai Bi Bo b.items.length c eBi m hml
    rw [show ((m : Nat) : Int) = item from hmi.symm] at hix
    have hstd : stdOf b item = b.items[m].std := by unfold stdOf; rw [hmi]; simp [hml]
    generalize b.items[m].std = sv at i2 hstd
    have HST := Lib.hid hstd
    have li := lt_of_cell i2
    have c3 := hm2.at_.c3
    have _lt : k.W < w1.heap.size := by omega
    have _lt : k.W < w1.heap.size + 1 := by omega
    have _lt : k.W < w1.heap.size + 1 + 1 := by omega
    have _lt : k.W < w1.heap.size + 1 + 1 + 1 := by omega
    have _lt : k.W < w1.heap.size + 1 + 1 + 1 + 1 := by omega
    have _lt : w1.heap.size < w1.heap.size + 1 := by omega
    have _lt : w1.heap.size < w1.heap.size + 1 + 1 := by omega
    have _lt : w1.heap.size < w1.heap.size + 1 + 1 + 1 := by omega
    have _lt : w1.heap.size < w1.heap.size + 1 + 1 + 1 + 1 := by omega
    have _lt : w1.heap.size + 1 < w1.heap.size + 1 + 1 := by omega
    have _lt : w1.heap.size + 1 < w1.heap.size + 1 + 1 + 1 := by omega
    have _lt : w1.heap.size + 1 < w1.heap.size + 1 + 1 + 1 + 1 := by omega
    have li1 : Bi < w1.heap.size + 1 := by omega
    have hs1 := hm2.bel.size
    have lH := hH.lt
    clear hits eBi hm hm2 hH hr h0 hmi hstd
    cases sv
    · go_wp2_with fail
      have hat : k.At (· < w1.heap.size) w1 := HM.out.at_
      have HAT := Lib.hid hat
      have hkM : k.M < w1.heap.size := hat.sM
      have hnl := HM.out.ok.nl
      have hst0 : BSt b k H w1 0 ((((w1.alloc (.cells #[.map (some H)] 94)).alloc (.cells #[.func (.func 65) #[] #[.pointer (some ⟨w1.heap.size, 0, none⟩)]] 116)).alloc (.map #[] 0)).alloc (.cells #[.map (some (w1.heap.size + 1 + 1))] 117)) := by
        refine ⟨by repeat' (first | exact Below.refl _ _ | (refine below_ov ?_ ?_) | (refine Below.alloc ?_ ?_ _) | (refine below_drewN' ?_ _) | (refine Below.drew ?_) | (refine below_set ?_ _ _ ?_) | (simp; done) | (simp; omega) | omega), by simp [go_sem], by simp [go_sem], by simp [go_sem], ⟨_, (isMap_new' _ _ (by simp)).alloc _, fun n => .inl ⟨rfl, rfl⟩⟩⟩
      have HST0 := Lib.hid hst0
      clear hat hst0
      refine wp_loop (fun a wr => ∃ (i : Nat) (ds : List Deferred) (u14 u15 u16 u17 u18 u52 u53 u54 u55 u56 u57 u58 u59 u60 u61 u62 u63 u64 u65 u66 u67 u68 u69 u70 u71 u72 u73 u74 u75 u76 u77 u78 u79 u80 u81 u82 u83 u84 u85 u86 u87 u88 u89 u90 u91 u92 u93 u94 u95 u96 u97 u98 u99 u100 u101 u102 u103 u104 u105 u106 u107 u108 u109 u110 : Value), i ≤ k.nums.length ∧ Marks (w1.heap.size + 4) wr ds ∧ BSt b k H w1 i wr ∧ a = { tmps := #[.agg #[.slice Ai b.items.length ci, .slice Ac b.certs.length cc], .int .i64 item, .int .i64 at_, .pointer (some ⟨w.heap.size, 0, none⟩), undef, undef, .slice none 0 0, .int .i64 0, .pointer (some ⟨k.W, 0, none⟩), .pointer (some ⟨w1.heap.size, 0, none⟩), .int .i64 0, .pointer (some ⟨w1.heap.size + 1, 0, none⟩), .pointer (some ⟨w1.heap.size + 1 + 1 + 1, 0, none⟩), undef, u14, u15, u16, u17, u18, undef, undef, undef, .tuple #[.pointer (some ⟨k.W, 0, none⟩), .map (some H), .int .i64 0], .agg #[.slice Ai b.items.length ci, .slice Ac b.certs.length cc], .int .i64 item, .int .i64 at_, .tuple #[.pointer (some ⟨k.W, 0, none⟩), .map (some H), .int .i64 0], .pointer (some ⟨k.W, 0, none⟩), .map (some H), .int .i64 0, .bool false, .int .i64 0, .bool false, undef, .bool false, .pointer (some ⟨k.W, 0, none⟩), .pointer (some ⟨k.W, 0, none⟩), .pointer (some ⟨k.W, 0, none⟩), .pointer (some ⟨k.W, 0, none⟩), .slice k.Ai b.items.length k.ci, .int .i64 item, .pointer (some ⟨Bi, Bo + m * 4, none⟩), .pointer (some ⟨Bi, Bo + m * 4 + 1, none⟩), .bool false, .func (.func 65) #[] #[.pointer (some ⟨w1.heap.size, 0, none⟩)], .map (some (w1.heap.size + 1 + 1)), .pointer (some ⟨k.W, 0, none⟩), .pointer (some ⟨k.W, 0, none⟩), .pointer (some ⟨k.W, 3, none⟩), .slice k.An k.nums.length k.cn, .int .i64 ↑k.nums.length, .int .i64 i, u52, u53, u54, u55, u56, u57, u58, u59, u60, u61, u62, u63, u64, u65, u66, u67, u68, u69, u70, u71, u72, u73, u74, u75, u76, u77, u78, u79, u80, u81, u82, u83, u84, u85, u86, u87, u88, u89, u90, u91, u92, u93, u94, u95, u96, u97, u98, u99, u100, u101, u102, u103, u104, u105, u106, u107, u108, u109, u110, undef, undef, undef, undef, undef, undef, undef, undef, undef, undef, undef, undef, undef, undef, undef, undef, undef, undef, undef, undef, undef, undef, undef, undef, undef], defers := ds })
        (fun a _ => k.nums.length - (intOf (a.tmps.getD 51 undef)).toNat) ?start ?round
      case start => exact ⟨0, [], _, _, _, _, _, _, _, _, _, _, _, _, _, _, _, _, _, _, _, _, _, _, _, _, _, _, _, _, _, _, _, _, _, _, _, _, _, _, _, _, _, _, _, _, _, _, _, _, _, _, _, _, _, _, _, _, _, _, _, _, _, _, _, _, Nat.zero_le _, trivial, HST0.out, rfl⟩
      case round => as_aux_lemma =>
        rintro a wr hrel
        obtain ⟨i, hrel⟩ := hrel
        obtain ⟨ds, hrel⟩ := hrel
        obtain ⟨u14, hrel⟩ := hrel
        obtain ⟨u15, hrel⟩ := hrel
        obtain ⟨u16, hrel⟩ := hrel
        obtain ⟨u17, hrel⟩ := hrel
        obtain ⟨u18, hrel⟩ := hrel
        obtain ⟨u52, hrel⟩ := hrel
        obtain ⟨u53, hrel⟩ := hrel
        obtain ⟨u54, hrel⟩ := hrel
        obtain ⟨u55, hrel⟩ := hrel
        obtain ⟨u56, hrel⟩ := hrel
        obtain ⟨u57, hrel⟩ := hrel
        obtain ⟨u58, hrel⟩ := hrel
        obtain ⟨u59, hrel⟩ := hrel
        obtain ⟨u60, hrel⟩ := hrel
        obtain ⟨u61, hrel⟩ := hrel
        obtain ⟨u62, hrel⟩ := hrel
        obtain ⟨u63, hrel⟩ := hrel
        obtain ⟨u64, hrel⟩ := hrel
        obtain ⟨u65, hrel⟩ := hrel
        obtain ⟨u66, hrel⟩ := hrel
        obtain ⟨u67, hrel⟩ := hrel
        obtain ⟨u68, hrel⟩ := hrel
        obtain ⟨u69, hrel⟩ := hrel
        obtain ⟨u70, hrel⟩ := hrel
        obtain ⟨u71, hrel⟩ := hrel
        obtain ⟨u72, hrel⟩ := hrel
        obtain ⟨u73, hrel⟩ := hrel
        obtain ⟨u74, hrel⟩ := hrel
        obtain ⟨u75, hrel⟩ := hrel
        obtain ⟨u76, hrel⟩ := hrel
        obtain ⟨u77, hrel⟩ := hrel
        obtain ⟨u78, hrel⟩ := hrel
        obtain ⟨u79, hrel⟩ := hrel
        obtain ⟨u80, hrel⟩ := hrel
        obtain ⟨u81, hrel⟩ := hrel
        obtain ⟨u82, hrel⟩ := hrel
        obtain ⟨u83, hrel⟩ := hrel
        obtain ⟨u84, hrel⟩ := hrel
        obtain ⟨u85, hrel⟩ := hrel
        obtain ⟨u86, hrel⟩ := hrel
        obtain ⟨u87, hrel⟩ := hrel
        obtain ⟨u88, hrel⟩ := hrel
        obtain ⟨u89, hrel⟩ := hrel
        obtain ⟨u90, hrel⟩ := hrel
        obtain ⟨u91, hrel⟩ := hrel
        obtain ⟨u92, hrel⟩ := hrel
        obtain ⟨u93, hrel⟩ := hrel
        obtain ⟨u94, hrel⟩ := hrel
        obtain ⟨u95, hrel⟩ := hrel
        obtain ⟨u96, hrel⟩ := hrel
        obtain ⟨u97, hrel⟩ := hrel
        obtain ⟨u98, hrel⟩ := hrel
        obtain ⟨u99, hrel⟩ := hrel
        obtain ⟨u100, hrel⟩ := hrel
        obtain ⟨u101, hrel⟩ := hrel
        obtain ⟨u102, hrel⟩ := hrel
        obtain ⟨u103, hrel⟩ := hrel
        obtain ⟨u104, hrel⟩ := hrel
        obtain ⟨u105, hrel⟩ := hrel
        obtain ⟨u106, hrel⟩ := hrel
        obtain ⟨u107, hrel⟩ := hrel
        obtain ⟨u108, hrel⟩ := hrel
        obtain ⟨u109, hrel⟩ := hrel
        obtain ⟨u110, hrel⟩ := hrel
        obtain ⟨hi, hM, hst, ha⟩ := hrel
        subst ha
        clear c0 c3 i2 hix
        have hbel := hst.bel
        have hsz := hbel.size
        have kw : Keep (· < w1.heap.size) w1 wr := Keep.of_below hbel fun _ h _ => h
        have HKW := Lib.hid kw
        have hat := HAT.out.keep kw
        have b9 := hst.b9
        have b11 := hst.b11
        have b12 := hst.b12
        have l12 := lt_of_cell b12
        have HSTR := Lib.hid hst
        by_cases hlt : i < k.nums.length
        · have hmem : k.nums[i] ∈ k.nums := List.getElem_mem hlt
          have htk := List.take_succ_eq_append_getElem hlt
          obtain ⟨q, hq⟩ : ∃ q, q = k.nums[i] := ⟨_, rfl⟩
          rw [← hq] at hmem htk
          obtain ⟨An, Ao, eA, hSA, hns⟩ := hat.ns (by omega)
          have hcell := hns i q (by simp [hlt, hq])
          have hix := fun c => @idx26 k.An An Ao k.nums.length c eA i hlt
          have hlk0 := fun o => run_lookup_map underlying96 underlying3 ((hat.mp.keep (Keep.alloc (fun _ => True) wr o) trivial).keep (Keep.drew (fun _ => True) (wr.alloc o)) trivial) (zero90 (wr.alloc o).drew) q false
          have hlk1 := fun o o' => run_lookup_map underlying96 underlying3 (((hat.mp.keep (Keep.alloc (fun _ => True) wr o) trivial).keep (Keep.alloc (fun _ => True) (wr.alloc o) o') trivial).keep (Keep.drew (fun _ => True) ((wr.alloc o).alloc o')) trivial) (zero90 ((wr.alloc o).alloc o').drew) q false
          simp only [hmem, if_true, Option.getD_some, Bool.false_eq_true, if_false, crtV] at hlk0 hlk1
          have c2 := hat.c2
          have lc := lt_of_cell hcell
          have l2 := lt_of_cell c2
          have HT := Lib.hid htk
          have HMEM := Lib.hid hmem
          have HQ := Lib.hid hq
          have l2' : k.W < wr.heap.size + 1 := by omega
          clear hns eA htk hmem hq kw hst hbel hat
          go_wp2_with fail
          go_region
          generalize hV : World.drew (World.alloc _ _) = V
          have bV : Below wr.heap.size wr V := by rw [← hV]; repeat' (first | exact Below.refl _ _ | (refine below_ov ?_ ?_) | (refine Below.alloc ?_ ?_ _) | (refine below_drewN' ?_ _) | (refine Below.drew ?_) | (refine below_set ?_ _ _ ?_) | (simp; done) | (simp; omega) | omega)
          have sV1 : V.heap.size ≤ wr.heap.size + 1 + 1 := by rw [← hV]; simp
          have sV2 : wr.heap.size + 1 + 1 ≤ V.heap.size := by rw [← hV]; simp
          have v14 : V.cell? ⟨wr.heap.size, 0, none⟩ = some (.int .i64 q) := by rw [← hV]; simp [go_sem]
          have q0 : V.cell? ⟨wr.heap.size + 1, 0, none⟩ = some (.int .i64 (k.cf q).num) := by rw [← hV]; simp [go_sem]
          have q1 : V.cell? ⟨wr.heap.size + 1, 1, none⟩ = some (.int .i64 (k.cf q).item) := by rw [← hV]; simp [go_sem]
          have q2 : V.cell? ⟨wr.heap.size + 1, 2, none⟩ = some (.int .i64 (k.cf q).by_) := by rw [← hV]; simp [go_sem]
          have q3 : V.cell? ⟨wr.heap.size + 1, 3, none⟩ = some (.int .i64 (k.cf q).day) := by rw [← hV]; simp [go_sem]
          have q4 : V.cell? ⟨wr.heap.size + 1, 4, none⟩ = some (.int .i64 (k.cf q).valid) := by rw [← hV]; simp [go_sem]
          have q5 : V.cell? ⟨wr.heap.size + 1, 5, none⟩ = some (.int .i64 (k.cf q).diff.lo) := by rw [← hV]; simp [go_sem]
          have q6 : V.cell? ⟨wr.heap.size + 1, 6, none⟩ = some (.int .i64 (k.cf q).diff.hi) := by rw [← hV]; simp [go_sem]
          clear hV hcell hix hlk0 hlk1 c2 b9 b11 b12
          have kV : Keep (· < wr.heap.size) wr V := Keep.of_below bV fun _ h _ => h
          have HSV := Lib.hid (HSTR.out.on bV)
          have b11 := HSV.out.b11
          have l11 := lt_of_cell b11
          have lq0 := lt_of_cell q0
          have hx := HM.out.ok.num q HMEM.out
          have hHV : boolsAt V H k.nums (held0 b) := (HH.out.keep HKW.out lH).keep kV (by omega)
          have c65' := c65 H w1.heap.size k.nums (held0 b) (k.cf q) V HSV.out.b9 hHV
          rw [show (decide ((k.cf q).num ∈ k.nums) && held0 b (k.cf q).num) = held0 b q from by rw [hx, decide_eq_true HMEM.out, Bool.true_and]] at c65'
          simp only [crtV] at c65'
          have HC65 := Lib.hid c65'
          have HX := Lib.hid hx
          have HHV := Lib.hid hHV
          have hqn : (numsOf b)[i]? = some q := by rw [← HM.out.kn, HQ.out]; simp [hlt]
          have HQN := Lib.hid hqn
          have HMV := Lib.hid (Marks.below bV (Nat.le_refl _) hM)
          have HBV := Lib.hid bV
          have hsV := bV.size
          clear c65' hx hHV kV bV hqn hM
          go_wp2_with fail
          refine HC65.out.mono ?_
          rintro e w' ⟨rfl, x, rfl⟩
          cases hh : held0 b q
          · as_aux_lemma =>
            have HHQ := Lib.hid hh
            go_wp2_with fail
            refine ⟨⟨i + 1, ds, _, _, _, _, _, _, _, _, _, _, _, _, _, _, _, _, _, _, _, _, _, _, _, _, _, _, _, _, _, _, _, _, _, _, _, _, _, _, _, _, _, _, _, _, _, _, _, _, _, _, _, _, _, _, _, _, _, _, _, _, _, _, _, _, by omega, Marks.below (over_below V x) (Nat.le_refl _) HMV.out, ?_, rfl⟩, by simp [intOf]; omega⟩
            have := HSV.out.on (over_below V x)
            exact ⟨this.bel, this.b9, this.b11, this.b12, by rw [endsU_skip b i q HQN.out HHQ.out]; exact this.ends⟩
          · as_aux_lemma =>
            have HHQ := Lib.hid hh
            have lx0 : wr.heap.size < V.heap.size + x.heap.size := by omega
            have lx1 : wr.heap.size + 1 < V.heap.size + x.heap.size := by omega
            have lx2 : wr.heap.size + 1 < V.heap.size := by omega
            have lx3 : wr.heap.size < V.heap.size := by omega
            go_wp2_with fail
            refine (c66 _ _ _ _ _).mono ?_
            rintro e w2 ⟨rfl, rfl⟩
            go_wp2_with fail
            generalize hZ : V.heap.size + x.heap.size = Z
            have hZV : V.heap.size ≤ Z := by omega
            generalize hW0 : World.alloc (World.alloc (World.alloc (World.alloc (World.alloc (over V x) _) _) _) _) _ = W0
            have kw : Keep (fun _ => True) V W0 := by
              rw [← hW0]
              exact (((((Keep.over _ _ _).trans (Keep.alloc _ _ _)).trans (Keep.alloc _ _ _)).trans (Keep.alloc _ _ _)).trans (Keep.alloc _ _ _)).trans (Keep.alloc _ _ _)
            have hs0 : Z + 5 ≤ W0.heap.size := by rw [← hW0, ← hZ]; simp
            have hs1 : W0.heap.size ≤ Z + 5 := by rw [← hW0, ← hZ]; simp
            have dz : W0.cell? ⟨Z, 0, none⟩ = some (.slice none 0 0) := by rw [← hW0, ← hZ]; simp [go_sem]
            have fz : W0.frozen? ⟨Z, 0, none⟩ = false := by rw [← hW0, ← hZ]; simp [go_sem]
            have d2 : W0.cell? ⟨Z + 1, 0, none⟩ = some (.pointer (some ⟨k.W, 0, none⟩)) := by rw [← hW0, ← hZ]; simp [go_sem]
            have d3 : W0.cell? ⟨Z + 1 + 1, 0, none⟩ = some (.int .i64 (k.cf q).by_) := by rw [← hW0, ← hZ]; simp [go_sem]
            have d4 : W0.cell? ⟨Z + 1 + 2, 0, none⟩ = some (.int .i64 (k.cf q).day) := by rw [← hW0, ← hZ]; simp [go_sem]
            have d5 : W0.cell? ⟨Z + 1 + 3, 0, none⟩ = some (.int .i64 q) := by rw [← hW0, ← hZ]; simp [go_sem]
            clear hW0 hZ
            have HKV := Lib.hid kw
            have hb2 : ∀ j, j < V.heap.size → but W0.heap.size Z j := fun j h => ⟨by omega, by omega⟩
            have k1V : Keep (· < w1.heap.size) w1 V := HKW.out.trans (Keep.of_below HBV.out fun j h _ => by omega)
            have hat3 : k.At (but W0.heap.size Z) W0 := ((HAT.out.keep k1V).mono fun j hj => hb2 j (by have : j < w1.heap.size := hj; omega)).keep (kw.mono fun _ _ => trivial)
            have I0 : BestBox Z [] W0 := ⟨_, dz, .inl ⟨rfl, rfl⟩, fz⟩
            have HI0 := Lib.hid I0
            have HAT3 := Lib.hid hat3
            clear k1V dz fz I0 q1 q4 q5 q6 b11
            refine ofLoop (p := 72) (s := 17) k HM.out.ok Z (Bw := Z + 1) (Bb := Z + 1 + 3) (Bi := Z + 1 + 1) (Bd := Z + 1 + 2) (item := (k.cf q).by_) (day := (k.cf q).day) (below := q)
              ⟨hat3, ⟨by omega, by omega⟩, ⟨by omega, by omega⟩, ⟨by omega, by omega⟩, ⟨by omega, by omega⟩, d2, d5, d3, d4⟩ rfl
              (fun pre W => BestBox Z ((ids pre).foldl (bestStep (held0 b) (endsU b i) q) []) W)
              (listBox_own _ _ _) HI0.out ?assign ?body ?done
            case assign =>
              intro l c W K hK
              simp only [crtV, crtCs] at hK ⊢
              gi_wp2
              exact hK
            case body => as_aux_lemma =>
              rintro l pre y Bx W hatW hI hBx hBc hkp
              have hmem := (List.mem_filter.1 y.2).1
              have hyn := HM.out.ok.num y.1 hmem
              have kVW : Keep (fun j => j < V.heap.size) V W := (kw.mono fun _ _ => trivial).trans (hkp.mono fun j hj => hb2 j hj)
              have p14 := kVW.cell v14 lx3
              have p12 := kVW.cell HSV.out.b12 (lt_of_cell HSV.out.b12)
              have p11 := kVW.cell HSV.out.b11 l11
              have p9 := kVW.cell HSV.out.b9 (lt_of_cell HSV.out.b9)
              have hHW : boolsAt W H k.nums (held0 b) := HHV.out.keepTo kVW (lt_of_cell HSV.out.b9 |> fun _ => HHV.out.lt)
              have hcs : ∀ j v, (crtCs (k.cf y.1))[j]? = some v → W.cell? ⟨Bx, j, none⟩ = some v := fun j v hv => by unfold World.cell?; rw [hBc]; exact hv
              have r0 : W.cell? ⟨Bx, 0, none⟩ = some (.int .i64 (k.cf y.1).num) := hcs 0 _ rfl
              have r1 : W.cell? ⟨Bx, 1, none⟩ = some (.int .i64 (k.cf y.1).item) := hcs 1 _ rfl
              have r2 : W.cell? ⟨Bx, 2, none⟩ = some (.int .i64 (k.cf y.1).by_) := hcs 2 _ rfl
              have r3 : W.cell? ⟨Bx, 3, none⟩ = some (.int .i64 (k.cf y.1).day) := hcs 3 _ rfl
              have r4 : W.cell? ⟨Bx, 4, none⟩ = some (.int .i64 (k.cf y.1).valid) := hcs 4 _ rfl
              have r5 : W.cell? ⟨Bx, 5, none⟩ = some (.int .i64 (k.cf y.1).diff.lo) := hcs 5 _ rfl
              have r6 : W.cell? ⟨Bx, 6, none⟩ = some (.int .i64 (k.cf y.1).diff.hi) := hcs 6 _ rfl
              have lBx := lt_of_cell r0
              have hends : endsAt (fun j => w1.heap.size + 3 < j ∧ j < V.heap.size) W (w1.heap.size + 1 + 1) (endsU b i) := by
                obtain ⟨g, hg, hv⟩ := HSV.out.ends
                exact endsAt.keep ⟨g, hg, hv⟩ kVW hg.lt fun j hj => hj.2
              obtain ⟨ev, hev, hlk⟩ := hends.get y.1
              obtain ⟨Ae, ce, rfl, hnumE, hnilE, hsomeE⟩ := hev.parts
              have hlenE := endsU_len b i (by rw [← HM.out.kn]; exact hi) y.1
              have hcandV : bestStep (held0 b) (endsU b i) q ((ids pre).foldl (bestStep (held0 b) (endsU b i) q) []) y.1 = (ids (pre ++ [y])).foldl (bestStep (held0 b) (endsU b i) q) [] := by rw [ids_snoc, List.foldl_append]; rfl
              have HCAND := Lib.hid hcandV
              have hbest24 := bestFold_len (h := held0 b) (n := q) (endsU_len b i (by rw [← HM.out.kn]; exact hi)) (ids pre) [] (by simp)
              generalize hle : endsU b i y.1 = le at *
              have HLE := Lib.hid hle
              clear hle
              generalize (ids pre).foldl (bestStep (held0 b) (endsU b i) q) [] = r at hI HCAND hbest24
              clear hcandV hev hends
              simp only [crtV, List.setIfInBounds_toArray, List.set_cons_succ, List.set_cons_zero]
              gi_wp2_with fail
              refine wp_region_any_of (by kernel_rfl) (by kernel_rfl) ?hL ?hA
              case hL => rintro ⟨a, w, hl⟩; obtain ⟨hl, _⟩ := (show (Exit.outgrown = Exit.normal) ∧ _ from hl); cases hl
              case hA =>
                refine wpAny_of_held (S := fun w' => Keep (fun j => j < W.heap.size) W w') _ _ _ _ ?_
                have S0 : Keep (fun j => j < W.heap.size) W { W with drawn := W.drawn + 1 } := Keep.drew _ W
                have lp12 := lt_of_cell p12
                have lp14 := lt_of_cell p14
                have HLK := Lib.hid hlk
                have HR0 := Lib.hid r0
                have HP12 := Lib.hid p12
                have HP14 := Lib.hid p14
                clear hlk
                refine wpAnyH_take (i := 0) (v := .map (some (w1.heap.size + 1 + 1))) rfl (by kernel_rfl) (by kernel_rfl) (by kernel_rfl) (fun _ _ _ h => h) (Or.inl ⟨by rfl, fun w' hw' => ?_⟩) S0 ?_
                · have := hw'.cell HP12.out lp12; go_simp
                simp only [Act.put, List.getElem_toArray, List.getElem_cons_zero, List.getElem_cons_succ, List.setIfInBounds_toArray, List.set_cons_zero, List.set_cons_succ]
                refine wpAnyH_take (i := 1) (v := .pointer (some ⟨Bx, 0, none⟩)) rfl (by kernel_rfl) (by kernel_rfl) (by kernel_rfl) (fun _ _ _ h => h) (Or.inl ⟨by rfl, fun w' hw' => ?_⟩) S0 ?_
                · go_simp
                simp only [Act.put, List.getElem_toArray, List.getElem_cons_zero, List.getElem_cons_succ, List.setIfInBounds_toArray, List.set_cons_zero, List.set_cons_succ]
                refine wpAnyH_take (i := 2) (v := .int .i64 (k.cf y.1).num) rfl (by kernel_rfl) (by kernel_rfl) (by kernel_rfl) (fun _ _ _ h => h) (Or.inl ⟨by rfl, fun w' hw' => ?_⟩) S0 ?_
                · have := hw'.cell HR0.out lBx; go_simp
                simp only [Act.put, List.getElem_toArray, List.getElem_cons_zero, List.getElem_cons_succ, List.setIfInBounds_toArray, List.set_cons_zero, List.set_cons_succ]
                refine wpAnyH_take (i := 3) (v := .slice Ae le.length ce) rfl (by kernel_rfl) (by kernel_rfl) (by kernel_rfl) (fun _ _ _ h => h) (Or.inl ⟨by rfl, fun w' hw' => ?_⟩) S0 ?_
                · have := HLK.out w' hw'; go_simp
                simp only [Act.put, List.getElem_toArray, List.getElem_cons_zero, List.getElem_cons_succ, List.setIfInBounds_toArray, List.set_cons_zero, List.set_cons_succ]
                refine wpAnyH_take (i := 5) (v := .int .i64 q) rfl (by kernel_rfl) (by kernel_rfl) (by kernel_rfl) (fun _ _ _ h => h) (Or.inl ⟨by rfl, fun w' hw' => ?_⟩) S0 ?_
                · have := hw'.cell HP14.out lp14; go_simp
                simp only [Act.put, List.getElem_toArray, List.getElem_cons_zero, List.getElem_cons_succ, List.setIfInBounds_toArray, List.set_cons_zero, List.set_cons_succ]
                obtain ⟨i0, hi0, hz0, hz1, hz2⟩ := info_parts info3'
                refine wpAnyH_ready (rs := [4, 6]) (by kernel_rfl) (by simp) ?_
                refine AllReadyH.cons rfl (fun K hK => ?_) (AllReadyH.cons rfl (fun K hK => ?_) AllReadyH.nil)
                · go_simp
                  have hnD : numsAt (· < W.drew.heap.size) W.drew Ae le := (hnumE.keep (Keep.drew _ W)).mono fun j hj => by show j < W.heap.size; have := kVW.size; omega
                  refine (c54 hnD (by omega)).mono ?_
                  rintro e w5 ⟨A5, c5, rfl, own5, hb5⟩
                  have k5 : Keep (fun j => j < W.heap.size) W w5 := (Keep.drew _ W).trans (Keep.of_below hb5 fun j h _ => h)
                  have own5' : w5.ownsRow W.heap.size 3 1 (.slice A5 le.length c5) le.length (le.map (Value.int .i64)) := own5
                  have hs5 := k5.size
                  refine hK.out _ _ k5 (fun _ => ?_)
                  refine wpAnyH_ready (rs := [6]) (by kernel_rfl) (by simp) ?_
                  refine AllReadyH.cons rfl (fun K2 hK2 => ?_) AllReadyH.nil
                  go_simp
                  have k6 : Keep (fun j => j < W.heap.size) W (w5.alloc (.cells #[.int .i64 q] 3)) := k5.trans (Keep.alloc _ _ _)
                  refine hK2.out _ _ k6 (fun _ => ?_)
                  refine wpAnyH_ready (rs := [7]) (by kernel_rfl) (by simp) ?_
                  refine AllReadyH.cons rfl (fun K3 hK3 => ?_) AllReadyH.nil
                  refine step_append_lies _ (by rfl) _ _ _ (by rfl) W.heap.size 3 i0 _ 1 8 Try.underlying26 hi0 hz0 hz1 hz2 rfl (by omega) (.slice A5 le.length c5) le.length (le.map (Value.int .i64)) (by rfl) (own5'.alloc _) ⟨w5.heap.size, 0, none⟩ 1 1 [.int .i64 q] (by rfl) (by rfl) (World.news_of_block (cs := #[.int .i64 q]) (t := 3) (fr := (0, 0)) (heap_alloc_new w5 _)) (by simp [Value.oneCell']) (by omega) (Nat.le_trans (show _ ≤ 200 by omega) (by decide)) (by omega) (by simp; omega) (w5.heap.size + 1) (by simp) ?_
                  intro g cap w7 own7 hg7 hat7 hlt7
                  have k7 : Keep (fun j => j < W.heap.size) W w7 := k6.trans (Keep.grown hg7 fun r hr h => by
                    have := (own5'.lt r hr).1
                    have h' : r < W.heap.size := h
                    omega)
                  refine hK3.out _ _ k7 (fun _ => ?_)
                  refine wpAnyH_take (i := 8) (v := .slice (some ⟨g, 0, none⟩) (le.length + 1) cap) rfl (by kernel_rfl) (by kernel_rfl) (by kernel_rfl) (fun _ _ _ h => h) (Or.inl ⟨by rfl, fun w' hw' => ?_⟩) k7 ?_
                  · go_simp
                  simp only [Act.put, List.getElem_toArray, List.getElem_cons_zero, List.getElem_cons_succ, List.setIfInBounds_toArray, List.set_cons_zero, List.set_cons_succ]
                  refine wpAnyH_done (by kernel_rfl) ?_ _
                  have hlv := listV_own own7
                  have HLV := Lib.hid hlv
                  have hBB := hI.keep k7
                  have HBB := Lib.hid hBB
                  have HK7 := Lib.hid k7
                  have c65y := c65 H w1.heap.size k.nums (held0 b) (k.cf y.1) w7 (k7.cell p9 (lt_of_cell p9)) (hHW.keepTo k7 hHW.lt)
                  rw [show (decide ((k.cf y.1).num ∈ k.nums) && held0 b (k.cf y.1).num) = held0 b y.1 from by rw [hyn, decide_eq_true hmem, Bool.true_and]] at c65y
                  simp only [crtV, hyn] at c65y
                  have HC65Y := Lib.hid c65y
                  have s11 := k7.cell p11 (lt_of_cell p11)
                  have t0 := k7.cell HR0.out lBx
                  rw [hyn] at t0
                  have t1 := k7.cell r1 lBx
                  have t2 := k7.cell r2 lBx
                  have t3 := k7.cell r3 lBx
                  have t4 := k7.cell r4 lBx
                  have t5 := k7.cell r5 lBx
                  have t6 := k7.cell r6 lBx
                  have HYN := Lib.hid hyn
                  have hs7 := k7.size
                  have lt0 := lt_of_cell t0
                  have hZ7 : Z < W.heap.size := by have := hkp.size; omega
                  have HHI := Lib.hid hI
                  clear hlv hBB c65y k7 own7 own5' own5 hb5 hg7 hat7 p11 p9 hHW r1 r2 r3 r4 r5 r6 hnD hI hyn hK hK2 hK3 hi0 hz0 hz1 hz2 hnumE
                  clear K K2 K3
                  gi_wp2_with fail
                  refine (CallsIn.inRound l (callsIn_wide.2 HC65Y.out)).mono ?_
                  rintro e w8 ⟨rfl, z, rfl⟩
                  have kfin : Keep (fun j => j < W.heap.size) W (over w7 z) := HK7.out.trans (Keep.over _ _ _)
                  have HKF := Lib.hid kfin
                  have hBZ : BestBox Z r (over w7 z) := HBB.out.keep (Keep.over _ _ _)
                  have HBZ := Lib.hid hBZ
                  have hb3 : ∀ W', Keep (fun j => j < W.heap.size) W W' → Keep (but W0.heap.size Z) W W' := fun W' k => k.mono fun j hj => by have := hkp.size; have := hj.1; omega
                  have HB3 := Lib.hid hb3
                  have hxv : listV (fun j => Z < j ∧ j < (over w7 z).heap.size) (over w7 z) (.slice (some ⟨g, 0, none⟩) (le ++ [q]).length cap) (le ++ [q]) := (HLV.out.keep (Keep.over (fun _ => True) w7 z) fun _ _ => trivial).mono fun j hj => ⟨by have := hj.1; omega, by rw [over_size]; have := hj.2; omega⟩
                  rw [show (le ++ [q]).length = le.length + 1 by simp] at hxv
                  have HXV := Lib.hid hxv
                  clear kfin hBZ hb3 hxv
                  cases hh : held0 b y.1
                  · as_aux_lemma =>
                    have HHY := Lib.hid hh
                    gi_wp2_with fail
                    all_goals first
                      | (rename_i hc _; exact nomatch (Option.some.inj hc))
                      | (have he := HCAND.out; rw [bestStep_no HHY.out] at he; rw [← he]; exact ⟨keepsFrom_keep HKF.out, HB3.out _ HKF.out, HBZ.out⟩)
                  · as_aux_lemma =>
                    have HHY := Lib.hid hh
                    generalize over w7 z = w8 at *
                    obtain ⟨bv, hbc, hbl, hbf⟩ := HBZ.out
                    have hZz := lt_of_cell hbc
                    rcases hbl with ⟨hnil, hbv⟩ | ⟨hne, bb, bo, bc, hbv, hbS, hbcells⟩
                    · as_aux_lemma =>
                      subst hbv
                      have HNIL := Lib.hid hnil
                      have heql := fun W => Lib.run_eql_slice_nil (P := Try.prog) W 26 _ none 0 0 0 0 und26
                      simp only [Option.isNone_none] at heql
                      clear hnil
                      gi_wp2_with fail
                      have he := HCAND.out
                      rw [bestStep_nil HHY.out HNIL.out, HLE.out] at he
                      rw [← he]
                      exact ⟨(keepsFrom_keep HKF.out).trans ((KeepsOthers.setCell _ _ _).from _), (HB3.out _ HKF.out).trans (Keep.setCell _ _ _ (fun h => h.2 rfl)), HBZ.out.put HXV.out⟩
                    · as_aux_lemma =>
                      subst hbv
                      have HNE := Lib.hid hne
                      have heql := fun W => Lib.run_eql_slice_nil (P := Try.prog) W 26 _ (some ⟨bb, bo, none⟩) r.length bc 0 0 und26
                      simp only [Option.isNone_some] at heql
                      have hnr : numsAt (fun j => Z < j ∧ j < w8.heap.size) w8 (some ⟨bb, bo, none⟩) r := fun _ => ⟨bb, bo, rfl, hbS, hbcells⟩
                      have hc67 := c67 (ca := cap) (cb := bc) HXV.out.nums hnr (by simp; omega) (by omega)
                      rw [show (le ++ [q]).length = le.length + 1 by simp] at hc67
                      have HC67 := Lib.hid hc67
                      clear hne hbcells hnr hc67
                      gi_wp2_with fail
                      refine (CallsIn.inRound l (callsIn_wide.2 HC67.out)).mono ?_
                      rintro e w9 ⟨rfl, z9, rfl⟩
                      have hkf9 := HKF.out.trans (Keep.over (fun j => j < W.heap.size) w8 z9)
                      have HKF9 := Lib.hid hkf9
                      have HBZ9 := Lib.hid (HBZ.out.keep (Keep.over (fun j => j < w8.heap.size) w8 z9))
                      have HXV9 := Lib.hid ((HXV.out.keep (Keep.over (fun _ => True) w8 z9) fun _ _ => trivial).mono (T := fun j => Z < j ∧ j < (over w8 z9).heap.size) fun j hj => ⟨hj.1, by rw [over_size]; have := hj.2; omega⟩)
                      clear hkf9
                      cases hlt0 : decide (beforeI (le ++ [q]) r < 0)
                      · as_aux_lemma =>
                        have HLT := Lib.hid hlt0
                        gi_wp2_with fail
                        have he := HCAND.out
                        rw [bestStep_ge HHY.out HNE.out (by rw [HLE.out]; exact of_decide_eq_false HLT.out)] at he
                        rw [← he]
                        exact ⟨keepsFrom_keep HKF9.out, HB3.out _ HKF9.out, HBZ9.out⟩
                      · as_aux_lemma =>
                        have HLT := Lib.hid hlt0
                        gi_wp2_with fail
                        have he := HCAND.out
                        rw [bestStep_lt HHY.out (by rw [HLE.out]; exact of_decide_eq_true HLT.out), HLE.out] at he
                        rw [← he]
                        exact ⟨(keepsFrom_keep HKF9.out).trans ((KeepsOthers.setCell _ _ _).from _), (HB3.out _ HKF9.out).trans (Keep.setCell _ _ _ (fun h => h.2 rfl)), HBZ9.out.put HXV9.out⟩
                · go_simp
                  have k4 : Keep (fun j => j < W.heap.size) W (W.alloc (.cells #[.int .i64 q] 3)).drew := (Keep.alloc _ _ _).trans (Keep.drew _ _)
                  refine hK.out _ _ k4 (fun _ => ?_)
                  refine wpAnyH_ready (rs := [4]) (by kernel_rfl) (by simp) ?_
                  refine AllReadyH.cons rfl (fun K2 hK2 => ?_) AllReadyH.nil
                  go_simp
                  have hsD : (W.alloc (.cells #[.int .i64 q] 3)).drew.heap.size = W.heap.size + 1 := by show (W.alloc _).heap.size = _; simp
                  have hnD : numsAt (· < (W.alloc (.cells #[.int .i64 q] 3)).drew.heap.size) (W.alloc (.cells #[.int .i64 q] 3)).drew Ae le := ((hnumE.mono fun j hj => (show j < W.heap.size by have := kVW.size; omega)).keep k4).mono fun j hj => by rw [hsD]; omega
                  refine (c54 hnD (by omega)).mono ?_
                  rintro e w5 ⟨A5, c5, rfl, own5, hb5⟩
                  have hs5 := hb5.size
                  rw [hsD] at hs5 hb5 own5
                  have k5 : Keep (fun j => j < W.heap.size) W w5 := k4.trans (Keep.of_below hb5 fun j h _ => by omega)
                  have own5' : w5.ownsRow W.heap.size 3 1 (.slice A5 le.length c5) le.length (le.map (Value.int .i64)) := own_lower own5 (by omega)
                  have hnews : ∀ (j : Nat) (u : Value), ([.int .i64 q] : List Value)[j]? = some u → w5.cell? ((⟨W.heap.size, 0, none⟩ : Addr).add j) = some u := fun j u hu => by
                    have h0 : (W.alloc (.cells #[.int .i64 q] 3)).drew.cell? ⟨W.heap.size, 0, none⟩ = some (.int .i64 q) := cell_new' W _ _ _ _ rfl
                    have h1 := (Keep.of_below (S := fun j => j < W.heap.size + 1) hb5 fun j h _ => h).cell h0 (by omega)
                    match j, hu with
                    | 0, hu => simp at hu; subst hu; exact h1
                  refine hK2.out _ _ k5 (fun _ => ?_)
                  refine wpAnyH_ready (rs := [7]) (by kernel_rfl) (by simp) ?_
                  refine AllReadyH.cons rfl (fun K3 hK3 => ?_) AllReadyH.nil
                  refine step_append_lies _ (by rfl) _ _ _ (by rfl) W.heap.size 3 i0 _ 1 8 Try.underlying26 hi0 hz0 hz1 hz2 rfl (by omega) (.slice A5 le.length c5) le.length (le.map (Value.int .i64)) (by rfl) own5' ⟨W.heap.size, 0, none⟩ 1 1 [.int .i64 q] (by rfl) (by rfl) hnews (by simp [Value.oneCell']) (by omega) (Nat.le_trans (show _ ≤ 200 by omega) (by decide)) (by omega) (by omega) w5.heap.size rfl ?_
                  intro g cap w7 own7 hg7 hat7 hlt7
                  have k7 : Keep (fun j => j < W.heap.size) W w7 := k5.trans (Keep.grown hg7 fun r hr h => by
                    have := (own5'.lt r hr).1
                    have h' : r < W.heap.size := h
                    omega)
                  refine hK3.out _ _ k7 (fun _ => ?_)
                  refine wpAnyH_take (i := 8) (v := .slice (some ⟨g, 0, none⟩) (le.length + 1) cap) rfl (by kernel_rfl) (by kernel_rfl) (by kernel_rfl) (fun _ _ _ h => h) (Or.inl ⟨by rfl, fun w' hw' => ?_⟩) k7 ?_
                  · go_simp
                  simp only [Act.put, List.getElem_toArray, List.getElem_cons_zero, List.getElem_cons_succ, List.setIfInBounds_toArray, List.set_cons_zero, List.set_cons_succ]
                  refine wpAnyH_done (by kernel_rfl) ?_ _
                  have hlv := listV_own own7
                  have HLV := Lib.hid hlv
                  have hBB := hI.keep k7
                  have HBB := Lib.hid hBB
                  have HK7 := Lib.hid k7
                  have c65y := c65 H w1.heap.size k.nums (held0 b) (k.cf y.1) w7 (k7.cell p9 (lt_of_cell p9)) (hHW.keepTo k7 hHW.lt)
                  rw [show (decide ((k.cf y.1).num ∈ k.nums) && held0 b (k.cf y.1).num) = held0 b y.1 from by rw [hyn, decide_eq_true hmem, Bool.true_and]] at c65y
                  simp only [crtV, hyn] at c65y
                  have HC65Y := Lib.hid c65y
                  have s11 := k7.cell p11 (lt_of_cell p11)
                  have t0 := k7.cell HR0.out lBx
                  rw [hyn] at t0
                  have t1 := k7.cell r1 lBx
                  have t2 := k7.cell r2 lBx
                  have t3 := k7.cell r3 lBx
                  have t4 := k7.cell r4 lBx
                  have t5 := k7.cell r5 lBx
                  have t6 := k7.cell r6 lBx
                  have HYN := Lib.hid hyn
                  have hs7 := k7.size
                  have lt0 := lt_of_cell t0
                  have hZ7 : Z < W.heap.size := by have := hkp.size; omega
                  have HHI := Lib.hid hI
                  clear hlv hBB c65y k7 own7 own5' own5 hb5 hg7 hat7 p11 p9 hHW r1 r2 r3 r4 r5 r6 hnD hnews hI hyn hK hK2 hK3 hi0 hz0 hz1 hz2 hnumE
                  clear K K2 K3
                  gi_wp2_with fail
                  refine (CallsIn.inRound l (callsIn_wide.2 HC65Y.out)).mono ?_
                  rintro e w8 ⟨rfl, z, rfl⟩
                  have kfin : Keep (fun j => j < W.heap.size) W (over w7 z) := HK7.out.trans (Keep.over _ _ _)
                  have HKF := Lib.hid kfin
                  have hBZ : BestBox Z r (over w7 z) := HBB.out.keep (Keep.over _ _ _)
                  have HBZ := Lib.hid hBZ
                  have hb3 : ∀ W', Keep (fun j => j < W.heap.size) W W' → Keep (but W0.heap.size Z) W W' := fun W' k => k.mono fun j hj => by have := hkp.size; have := hj.1; omega
                  have HB3 := Lib.hid hb3
                  have hxv : listV (fun j => Z < j ∧ j < (over w7 z).heap.size) (over w7 z) (.slice (some ⟨g, 0, none⟩) (le ++ [q]).length cap) (le ++ [q]) := (HLV.out.keep (Keep.over (fun _ => True) w7 z) fun _ _ => trivial).mono fun j hj => ⟨by have := hj.1; omega, by rw [over_size]; have := hj.2; omega⟩
                  rw [show (le ++ [q]).length = le.length + 1 by simp] at hxv
                  have HXV := Lib.hid hxv
                  clear kfin hBZ hb3 hxv
                  cases hh : held0 b y.1
                  · as_aux_lemma =>
                    have HHY := Lib.hid hh
                    gi_wp2_with fail
                    all_goals first
                      | (rename_i hc _; exact nomatch (Option.some.inj hc))
                      | (have he := HCAND.out; rw [bestStep_no HHY.out] at he; rw [← he]; exact ⟨keepsFrom_keep HKF.out, HB3.out _ HKF.out, HBZ.out⟩)
                  · as_aux_lemma =>
                    have HHY := Lib.hid hh
                    generalize over w7 z = w8 at *
                    obtain ⟨bv, hbc, hbl, hbf⟩ := HBZ.out
                    have hZz := lt_of_cell hbc
                    rcases hbl with ⟨hnil, hbv⟩ | ⟨hne, bb, bo, bc, hbv, hbS, hbcells⟩
                    · as_aux_lemma =>
                      subst hbv
                      have HNIL := Lib.hid hnil
                      have heql := fun W => Lib.run_eql_slice_nil (P := Try.prog) W 26 _ none 0 0 0 0 und26
                      simp only [Option.isNone_none] at heql
                      clear hnil
                      gi_wp2_with fail
                      have he := HCAND.out
                      rw [bestStep_nil HHY.out HNIL.out, HLE.out] at he
                      rw [← he]
                      exact ⟨(keepsFrom_keep HKF.out).trans ((KeepsOthers.setCell _ _ _).from _), (HB3.out _ HKF.out).trans (Keep.setCell _ _ _ (fun h => h.2 rfl)), HBZ.out.put HXV.out⟩
                    · as_aux_lemma =>
                      subst hbv
                      have HNE := Lib.hid hne
                      have heql := fun W => Lib.run_eql_slice_nil (P := Try.prog) W 26 _ (some ⟨bb, bo, none⟩) r.length bc 0 0 und26
                      simp only [Option.isNone_some] at heql
                      have hnr : numsAt (fun j => Z < j ∧ j < w8.heap.size) w8 (some ⟨bb, bo, none⟩) r := fun _ => ⟨bb, bo, rfl, hbS, hbcells⟩
                      have hc67 := c67 (ca := cap) (cb := bc) HXV.out.nums hnr (by simp; omega) (by omega)
                      rw [show (le ++ [q]).length = le.length + 1 by simp] at hc67
                      have HC67 := Lib.hid hc67
                      clear hne hbcells hnr hc67
                      gi_wp2_with fail
                      refine (CallsIn.inRound l (callsIn_wide.2 HC67.out)).mono ?_
                      rintro e w9 ⟨rfl, z9, rfl⟩
                      have hkf9 := HKF.out.trans (Keep.over (fun j => j < W.heap.size) w8 z9)
                      have HKF9 := Lib.hid hkf9
                      have HBZ9 := Lib.hid (HBZ.out.keep (Keep.over (fun j => j < w8.heap.size) w8 z9))
                      have HXV9 := Lib.hid ((HXV.out.keep (Keep.over (fun _ => True) w8 z9) fun _ _ => trivial).mono (T := fun j => Z < j ∧ j < (over w8 z9).heap.size) fun j hj => ⟨hj.1, by rw [over_size]; have := hj.2; omega⟩)
                      clear hkf9
                      cases hlt0 : decide (beforeI (le ++ [q]) r < 0)
                      · as_aux_lemma =>
                        have HLT := Lib.hid hlt0
                        gi_wp2_with fail
                        have he := HCAND.out
                        rw [bestStep_ge HHY.out HNE.out (by rw [HLE.out]; exact of_decide_eq_false HLT.out)] at he
                        rw [← he]
                        exact ⟨keepsFrom_keep HKF9.out, HB3.out _ HKF9.out, HBZ9.out⟩
                      · as_aux_lemma =>
                        have HLT := Lib.hid hlt0
                        gi_wp2_with fail
                        have he := HCAND.out
                        rw [bestStep_lt HHY.out (by rw [HLE.out]; exact of_decide_eq_true HLT.out), HLE.out] at he
                        rw [← he]
                        exact ⟨(keepsFrom_keep HKF9.out).trans ((KeepsOthers.setCell _ _ _).from _), (HB3.out _ HKF9.out).trans (Keep.setCell _ _ _ (fun h => h.2 rfl)), HBZ9.out.put HXV9.out⟩
            case done => as_aux_lemma =>
              rintro D xs W hD hids hI hkp hDk
              have hfold : (ids xs).foldl (bestStep (held0 b) (endsU b i) q) [] = (ofN (getC b) (numsOf b) (k.cf q).by_ (k.cf q).day q).foldl (bestStep (held0 b) (endsU b i) q) [] := by rw [hids, HM.out.kc, HM.out.kn]
              rw [hfold] at hI
              have hqmb : q ∈ numsOf b := by rw [← HM.out.kn]; exact HMEM.out
              have hcq : k.cf q = getC b q := by rw [HM.out.kc]
              have hok := HR.out.1.ok hqmb
              rw [← hcq] at hok
              obtain ⟨bn, hbn⟩ := Int.eq_ofNat_of_zero_le hok.b1
              have hbl : bn < b.items.length := by have := hok.b2; omega
              have hat4 := HAT3.out.keep hkp
              have hits := hat4.items
              rw [HM.out.kb] at hits
              obtain ⟨Bj, Bp, eBj, hSJ, hits⟩ := hits (by omega)
              have j2 := (hits bn b.items[bn] (by simp [hbl])).2.1
              have hix := fun c => @idx32 k.Ai Bj Bp b.items.length c eBj bn hbl
              rw [show ((bn : Nat) : Int) = (k.cf q).by_ from hbn.symm] at hix
              have hstq : stdOf b (k.cf q).by_ = b.items[bn].std := by unfold stdOf; rw [hbn]; simp [hbl]
              generalize b.items[bn].std = sv at j2 hstq
              have hend : endOf b (held0 b) (endsU b i) q = if sv then [q] else (ofN (getC b) (numsOf b) (k.cf q).by_ (k.cf q).day q).foldl (bestStep (held0 b) (endsU b i) q) [] := by rw [endOf_fold, ← hcq, hstq]
              have hnext : ∀ n, endsU b (i + 1) n = if n = q then endOf b (held0 b) (endsU b i) q else endsU b i n := fun n => by
                obtain ⟨hi2, hq2⟩ := List.getElem?_eq_some_iff.1 HQN.out
                rw [endsU_succ b i hi2, hq2]
                unfold endsStep
                by_cases e : n = q
                · rw [if_pos ⟨e, HHQ.out⟩, if_pos e]
                · rw [if_neg (fun h => e h.1), if_neg e]
              have HNEXT := Lib.hid hnext
              have HEND := Lib.hid hend
              generalize (ofN (getC b) (numsOf b) (k.cf q).by_ (k.cf q).day q).foldl (bestStep (held0 b) (endsU b i) q) [] = r at hI HEND
              have kVW : Keep (fun j => j < V.heap.size) V W := (kw.mono fun _ _ => trivial).trans (hkp.mono fun j hj => hb2 j hj)
              have p14 := kVW.cell v14 lx3
              have p12 := kVW.cell HSV.out.b12 (lt_of_cell HSV.out.b12)
              have p2 := kVW.cell q2 lx2
              have c0 := hat4.c0
              rw [HM.out.kb] at c0
              have m0 := lt_of_cell c0
              have m1 := lt_of_cell j2
              have m2 := lt_of_cell p14
              have m3 := lt_of_cell p12
              have m4 := lt_of_cell p2
              have hWs := hkp.size
              have HKVW := Lib.hid kVW
              have HKP := Lib.hid hkp
              obtain ⟨bv, hbc, hbl', hbf⟩ := hI
              have hZW := lt_of_cell hbc
              have HBL := Lib.hid hbl'
              have hE1 : endsAt (fun j => w1.heap.size + 3 < j ∧ j < V.heap.size) W (w1.heap.size + 1 + 1) (endsU b i) := by
                obtain ⟨g, hg, hv⟩ := HSV.out.ends
                exact endsAt.keep ⟨g, hg, hv⟩ kVW hg.lt fun j hj => hj.2
              obtain ⟨g, hg, hv⟩ := hE1
              have HG := Lib.hid hg
              have HGV := Lib.hid hv
              have hmD : Marks (w1.heap.size + 4) W ({ target := .collected D, args := #[] } :: ds) := by
                have h1 := HMV.out.keep kw (fun _ _ _ _ => trivial)
                have h2 := h1.keep hkp (fun D' hB' hl' hc' => ⟨hl', fun e => by subst e; obtain ⟨c, t, f, h⟩ := cells_at HI0.out.choose_spec.1; exact hc' c t f h⟩)
                refine h2.cons (by have := HBV.out.size; omega) hDk (fun d hd e => ?_)
                obtain ⟨D', e', hl'⟩ := HMV.out.mem_lt d hd
                rw [e'] at e
                have : D' = D := by simpa using e
                omega
              have HMD := Lib.hid hmD
              clear hids hfold hqmb hcq hok hbn hat4 hits eBj hstq hend hnext kVW hkp hbl' hg hv hmD
              cases sv
              ·
                go_wp2_with fail
                go_quiet (fail)
                generalize hWd : W.drewN nq = Wd
                have kd : Keep (fun j => j < W.heap.size) W Wd := by rw [← hWd]; exact Keep.of_below (below_drewN' (Below.refl _ _) nq) fun _ h _ => h
                have fd : Wd.frozen? ⟨Z, 0, none⟩ = false := by rw [← hWd]; exact hbf
                have sd : W.heap.size ≤ Wd.heap.size := kd.size
                have e14 := kd.cell p14 m2
                have e12 := kd.cell p12 m3
                have ebc := kd.cell hbc hZW
                have hgd := HG.out.keep kd (by omega)
                have kVd : Keep (fun j => j < V.heap.size) V Wd := HKVW.out.trans (kd.mono fun j hj => by have := HKVW.out.size; omega)
                have HKVD := Lib.hid kVd
                have HGD := Lib.hid hgd
                have HGVD := Lib.hid (fun n => (HGV.out n).keep kd fun j hj => by have := HKVW.out.size; omega)
                have HBLD := Lib.hid (HBL.out.keep kd fun j hj => hj.2)
                have HMDD := Lib.hid (HMD.out.keep (kd.mono (T := fun j => j < W.heap.size) fun _ h => h) (fun D' _ hl' _ => hl'))
                have n14 := lt_of_cell e14
                have n12 := lt_of_cell e12
                have nbc := lt_of_cell ebc
                have sV := HKVW.out.size
                have sw1 := HSV.out.bel.size
                have hEV : w1.heap.size + 1 + 1 < V.heap.size := by obtain ⟨g, hg, _⟩ := HSV.out.ends; exact hg.lt
                clear hWd p14 p12 hbc hbf kd kVd c0 hix j2 p2
                go_wp2_with (at_mapUpdate; refine wpList_mapUpdate rfl rfl underlying117 underlying3 rfl rfl rfl hgd ?_; intro o' hm' ho')
                refine ⟨⟨i + 1, { target := .collected D, args := #[] } :: ds, _, _, _, _, _, _, _, _, _, _, _, _, _, _, _, _, _, _, _, _, _, _, _, _, _, _, _, _, _, _, _, _, _, _, _, _, _, _, _, _, _, _, _, _, _, _, _, _, _, _, _, _, _, _, _, _, _, _, _, _, _, _, _, _, by omega, HMDD.out.putObj o' (by omega), ?_, rfl⟩, by simp [intOf]; omega⟩
                refine HSV.out.next HKVD.out HGD.out HGVD.out ?_ HNEXT.out hm' ho'
                rw [HEND.out]
                exact HBLD.out.mono fun j hj => ⟨by have := hj.1; omega, by have := hj.2; omega⟩
              ·
                go_wp2_with fail
                go_quiet (fail)
                generalize hWd : W.drewN nq = Wd
                have kd : Keep (fun j => j < W.heap.size) W Wd := by rw [← hWd]; exact Keep.of_below (below_drewN' (Below.refl _ _) nq) fun _ h _ => h
                have fd : Wd.frozen? ⟨Z, 0, none⟩ = false := by rw [← hWd]; exact hbf
                have sd : W.heap.size ≤ Wd.heap.size := kd.size
                have e14 := kd.cell p14 m2
                have e12 := kd.cell p12 m3
                have ebc := kd.cell hbc hZW
                have hgd := HG.out.keep kd (by omega)
                have kVd : Keep (fun j => j < V.heap.size) V Wd := HKVW.out.trans (kd.mono fun j hj => by have := HKVW.out.size; omega)
                have HKVD := Lib.hid kVd
                have HGD := Lib.hid hgd
                have HGVD := Lib.hid (fun n => (HGV.out n).keep kd fun j hj => by have := HKVW.out.size; omega)
                have HBLD := Lib.hid (HBL.out.keep kd fun j hj => hj.2)
                have HMDD := Lib.hid (HMD.out.keep (kd.mono (T := fun j => j < W.heap.size) fun _ h => h) (fun D' _ hl' _ => hl'))
                have n14 := lt_of_cell e14
                have n12 := lt_of_cell e12
                have nbc := lt_of_cell ebc
                have sV := HKVW.out.size
                have sw1 := HSV.out.bel.size
                have hEV : w1.heap.size + 1 + 1 < V.heap.size := by obtain ⟨g, hg, _⟩ := HSV.out.ends; exact hg.lt
                clear hWd p14 p12 hbc hbf kd kVd c0 hix j2 p2
                go_wp2_with (at_mapUpdate; refine wpList_mapUpdate rfl rfl underlying117 underlying3 rfl rfl rfl (isMap.alloc (isMap.setCell hgd _ _ (show w1.heap.size + 1 + 1 ≠ Z by omega)) _) ?_; intro o' hm' ho')
                have k2 : Keep (fun j => j < Wd.heap.size ∧ j ≠ Z) Wd ((Wd.setCell ⟨Z, 0, none⟩ (.slice (some ⟨Wd.heap.size, 0, none⟩) 1 1)).alloc (.cells #[.int .i64 q] 3)) := (Keep.setCell _ _ _ (fun h => h.2 rfl)).trans (Keep.alloc _ _ _)
                have hsz2 : ((Wd.setCell ⟨Z, 0, none⟩ (.slice (some ⟨Wd.heap.size, 0, none⟩) 1 1)).alloc (.cells #[.int .i64 q] 3)).heap.size = Wd.heap.size + 1 := by simp
                refine ⟨⟨i + 1, { target := .collected D, args := #[] } :: ds, _, _, _, _, _, _, _, _, _, _, _, _, _, _, _, _, _, _, _, _, _, _, _, _, _, _, _, _, _, _, _, _, _, _, _, _, _, _, _, _, _, _, _, _, _, _, _, _, _, _, _, _, _, _, _, _, _, _, _, _, _, _, _, _, by omega, (HMDD.out.keep k2 (fun D' _ hl' hc' => ⟨hl', fun e => by subst e; obtain ⟨c, t, f, h⟩ := cells_at ebc; exact hc' c t f h⟩)).putObj o' (by omega), ?_, rfl⟩, by simp [intOf]; omega⟩
                refine HSV.out.next (HKVD.out.trans (k2.mono fun j hj => ⟨by omega, by omega⟩)) (isMap.alloc (isMap.setCell HGD.out _ _ (show w1.heap.size + 1 + 1 ≠ Z by omega)) _) (fun n => (HGVD.out n).keep k2 fun j hj => ⟨by have := hj.2; omega, by have := hj.2; omega⟩) ?_ HNEXT.out hm' ho'
                rw [HEND.out]
                refine .inr ⟨by simp, Wd.heap.size, 0, 1, rfl, ⟨by omega, by rw [hsz2]; omega⟩, fun t n hn => ?_⟩
                match t, hn with
                | 0, hn =>
                  simp at hn
                  subst hn
                  exact cell_new' _ _ _ _ _ (by simp)
        · as_aux_lemma =>
          have hie : i = k.nums.length := by omega
          have heq : endsU b i = endsOf b := by rw [hie, HM.out.kn]; exact endsU_all b _ (Nat.le_refl _)
          have hends := hst.ends
          rw [heq] at hends
          have HENDS := Lib.hid hends
          have hHr : boolsAt wr H k.nums (held0 b) := HH.out.keep HKW.out lH
          have HHR := Lib.hid hHr
          have HAW := Lib.hid hat
          have hlenE := endsU_len b i (by rw [← HM.out.kn]; exact hi)
          rw [heq] at hlenE
          have HLE0 := Lib.hid hlenE
          have l9 := lt_of_cell b9
          have l11 := lt_of_cell b11
          have HMR := Lib.hid hM
          have hE2 : w1.heap.size + 1 + 1 < wr.heap.size := by obtain ⟨g, hg, _⟩ := hends; exact hg.lt
          clear hst hends heq hie kw hat hHr hM hlenE
          go_wp2_with fail
          refine (c66 _ _ _ _ _).mono ?_
          rintro e w2 ⟨rfl, rfl⟩
          go_wp2_with fail
          generalize hW0 : World.alloc (World.alloc (World.alloc (World.alloc (World.alloc wr _) _) _) _) _ = W0
          have kw : Keep (fun _ => True) wr W0 := by
            rw [← hW0]
            exact ((((Keep.alloc _ _ _).trans (Keep.alloc _ _ _)).trans (Keep.alloc _ _ _)).trans (Keep.alloc _ _ _)).trans (Keep.alloc _ _ _)
          have hs0 : wr.heap.size + 5 ≤ W0.heap.size := by rw [← hW0]; simp
          have hs1' : W0.heap.size ≤ wr.heap.size + 5 := by rw [← hW0]; simp
          have dz : W0.cell? ⟨wr.heap.size, 0, none⟩ = some (.slice none 0 0) := by rw [← hW0]; simp [go_sem]
          have fz : W0.frozen? ⟨wr.heap.size, 0, none⟩ = false := by rw [← hW0]; simp [go_sem]
          have d2 : W0.cell? ⟨wr.heap.size + 1, 0, none⟩ = some (.pointer (some ⟨k.W, 0, none⟩)) := by rw [← hW0]; simp [go_sem]
          have d3 : W0.cell? ⟨wr.heap.size + 1 + 1, 0, none⟩ = some (.int .i64 item) := by rw [← hW0]; simp [go_sem]
          have d4 : W0.cell? ⟨wr.heap.size + 1 + 2, 0, none⟩ = some (.int .i64 at_) := by rw [← hW0]; simp [go_sem]
          have d5 : W0.cell? ⟨wr.heap.size + 1 + 3, 0, none⟩ = some (.int .i64 1000) := by rw [← hW0]; simp [go_sem]
          clear hW0
          generalize hZ : wr.heap.size = Z at *
          have hb2 : ∀ j, j < Z → but W0.heap.size Z j := fun j h => ⟨by omega, by omega⟩
          have hat3 : k.At (but W0.heap.size Z) W0 := (HAW.out.mono fun j hj => hb2 j (by have : j < w1.heap.size := hj; omega)).keep (kw.mono fun _ _ => trivial)
          have I0 : LastBox (w1.heap.size + 3) Z [] W0 := ⟨_, dz, .inl ⟨rfl, rfl⟩, fz⟩
          have HI0 := Lib.hid I0
          have HAT3 := Lib.hid hat3
          clear dz fz I0
          refine ofLoop (p := 115) (s := 20) k HM.out.ok Z (Bw := Z + 1) (Bb := Z + 1 + 3) (Bi := Z + 1 + 1) (Bd := Z + 1 + 2) (item := item) (day := at_) (below := 1000)
            ⟨hat3, ⟨by omega, by omega⟩, ⟨by omega, by omega⟩, ⟨by omega, by omega⟩, ⟨by omega, by omega⟩, d2, d5, d3, d4⟩ rfl
            (fun pre W => LastBox (w1.heap.size + 3) Z ((ids pre).foldl (lastStep (held0 b) (endsOf b)) []) W)
            (lastBox_own _ _ _ _) HI0.out ?assign ?body ?done
          case assign =>
            intro l c W K hK
            simp only [crtV, crtCs] at hK ⊢
            gi_wp2
            exact hK
          case body => as_aux_lemma =>
            rintro l pre y Bx W hatW hI hBx hBc hkp
            have hmem := (List.mem_filter.1 y.2).1
            have hyn := HM.out.ok.num y.1 hmem
            have kVW : Keep (fun j => j < Z) wr W := (kw.mono fun _ _ => trivial).trans (hkp.mono fun j hj => hb2 j hj)
            have p12 := kVW.cell b12 l12
            have p11 := kVW.cell b11 l11
            have p9 := kVW.cell b9 l9
            have hHW : boolsAt W H k.nums (held0 b) := HHR.out.keepTo kVW (by have := HHR.out.lt; omega)
            have hcs : ∀ j v, (crtCs (k.cf y.1))[j]? = some v → W.cell? ⟨Bx, j, none⟩ = some v := fun j v hv => by unfold World.cell?; rw [hBc]; exact hv
            have r0 : W.cell? ⟨Bx, 0, none⟩ = some (.int .i64 (k.cf y.1).num) := hcs 0 _ rfl
            have r1 : W.cell? ⟨Bx, 1, none⟩ = some (.int .i64 (k.cf y.1).item) := hcs 1 _ rfl
            have r2 : W.cell? ⟨Bx, 2, none⟩ = some (.int .i64 (k.cf y.1).by_) := hcs 2 _ rfl
            have r3 : W.cell? ⟨Bx, 3, none⟩ = some (.int .i64 (k.cf y.1).day) := hcs 3 _ rfl
            have r4 : W.cell? ⟨Bx, 4, none⟩ = some (.int .i64 (k.cf y.1).valid) := hcs 4 _ rfl
            have r5 : W.cell? ⟨Bx, 5, none⟩ = some (.int .i64 (k.cf y.1).diff.lo) := hcs 5 _ rfl
            have r6 : W.cell? ⟨Bx, 6, none⟩ = some (.int .i64 (k.cf y.1).diff.hi) := hcs 6 _ rfl
            rw [hyn] at r0
            have lBx := lt_of_cell r0
            have hends : endsAt (fun j => w1.heap.size + 3 < j ∧ j < Z) W (w1.heap.size + 1 + 1) (endsOf b) := HENDS.out.keep kVW hE2 fun j hj => hj.2
            obtain ⟨ev, hev, hlk0⟩ := hends.get y.1
            have hlk := hlk0 W (Keep.refl _ _)
            have hevn := hev.parts
            obtain ⟨Ae, ce, rfl, hnumE, _, _⟩ := hevn
            have hlenE := HLE0.out y.1
            have hcandV : lastStep (held0 b) (endsOf b) ((ids pre).foldl (lastStep (held0 b) (endsOf b)) []) y.1 = (ids (pre ++ [y])).foldl (lastStep (held0 b) (endsOf b)) [] := by rw [ids_snoc, List.foldl_append]; rfl
            have HCAND := Lib.hid hcandV
            have hbest24 := lastFold_len (h := held0 b) HLE0.out (ids pre) [] (by simp)
            have c65y := c65 H w1.heap.size k.nums (held0 b) (k.cf y.1) W p9 hHW
            rw [show (decide ((k.cf y.1).num ∈ k.nums) && held0 b (k.cf y.1).num) = held0 b y.1 from by rw [hyn, decide_eq_true hmem, Bool.true_and]] at c65y
            simp only [crtV, hyn] at c65y
            have HC65Y := Lib.hid c65y
            generalize hle : endsOf b y.1 = le at *
            have HLE := Lib.hid hle
            have HEV := Lib.hid hev
            generalize (ids pre).foldl (lastStep (held0 b) (endsOf b)) [] = r at hI HCAND hbest24
            have HI := Lib.hid hI
            have HYN := Lib.hid hyn
            have hWs := hkp.size
            clear hle hcandV hends hlk0 hev hyn c65y hcs hBc hHW p9 hI hnumE
            simp only [crtV, List.setIfInBounds_toArray, List.set_cons_succ, List.set_cons_zero]
            gi_wp2_with fail
            refine (CallsIn.inRound l (callsIn_wide.2 HC65Y.out)).mono ?_
            rintro e w8 ⟨rfl, z, rfl⟩
            have HKF := Lib.hid (Keep.over (fun j => j < W.heap.size) W z)
            have HBZ := Lib.hid (HI.out.keep HKF.out)
            have hb3 : ∀ W', Keep (fun j => j < W.heap.size) W W' → Keep (but W0.heap.size Z) W W' := fun W' k => k.mono fun j hj => by have := hj.1; omega
            have HB3 := Lib.hid hb3
            have HXV := Lib.hid ((HEV.out.keep HKF.out fun j hj => by have := hj.2; omega).mono (T := fun j => w1.heap.size + 3 < j ∧ j ≠ Z ∧ j < (over W z).heap.size) fun j hj => ⟨hj.1, by have := hj.2; omega, by rw [over_size]; have := hj.2; omega⟩)
            clear hb3
            generalize over W z = w8 at *
            cases hh : held0 b y.1
            · as_aux_lemma =>
              have HHY := Lib.hid hh
              gi_wp2_with fail
              all_goals first
                | (rename_i hc _; exact nomatch (Option.some.inj hc))
                | (have he := HCAND.out; rw [lastStep_no HHY.out] at he; rw [← he]; exact ⟨keepsFrom_keep HKF.out, HB3.out _ HKF.out, HBZ.out⟩)
            · as_aux_lemma =>
              have HHY := Lib.hid hh
              obtain ⟨bv, hbc, hbl, hbf⟩ := HBZ.out
              have hZz := lt_of_cell hbc
              rcases hbl with ⟨hnil, hbv⟩ | ⟨hne, bb, bo, bc, hbv, hbS, hbcells⟩
              · as_aux_lemma =>
                subst hbv
                have HNIL := Lib.hid hnil
                have heql := fun W => Lib.run_eql_slice_nil (P := Try.prog) W 26 _ none 0 0 0 0 und26
                simp only [Option.isNone_none] at heql
                clear hnil
                gi_wp2_with fail
                have he := HCAND.out
                rw [lastStep_nil HHY.out HNIL.out, HLE.out] at he
                rw [← he]
                exact ⟨(keepsFrom_keep HKF.out).trans ((KeepsOthers.setCell _ _ _).from _), (HB3.out _ HKF.out).trans (Keep.setCell _ _ _ (fun h => h.2 rfl)), HBZ.out.put HXV.out⟩
              · as_aux_lemma =>
                subst hbv
                have HNE := Lib.hid hne
                have heql := fun W => Lib.run_eql_slice_nil (P := Try.prog) W 26 _ (some ⟨bb, bo, none⟩) r.length bc 0 0 und26
                simp only [Option.isNone_some] at heql
                have hnr : numsAt (fun j => w1.heap.size + 3 < j ∧ j ≠ Z ∧ j < w8.heap.size) w8 (some ⟨bb, bo, none⟩) r := fun _ => ⟨bb, bo, rfl, hbS, hbcells⟩
                have hc67 := c67 (ca := ce) (cb := bc) HXV.out.nums hnr (by omega) (by omega)
                have HC67 := Lib.hid hc67
                clear hne hbcells hnr hc67
                gi_wp2_with fail
                refine (CallsIn.inRound l (callsIn_wide.2 HC67.out)).mono ?_
                rintro e w9 ⟨rfl, z9, rfl⟩
                have hkf9 := HKF.out.trans (Keep.over (fun j => j < W.heap.size) w8 z9)
                have HKF9 := Lib.hid hkf9
                have HBZ9 := Lib.hid (HBZ.out.keep (Keep.over (fun j => j < w8.heap.size) w8 z9))
                have HXV9 := Lib.hid ((HXV.out.keep (Keep.over (fun _ => True) w8 z9) fun _ _ => trivial).mono (T := fun j => w1.heap.size + 3 < j ∧ j ≠ Z ∧ j < (over w8 z9).heap.size) fun j hj => ⟨hj.1, hj.2.1, by rw [over_size]; have := hj.2.2; omega⟩)
                clear hkf9
                cases hlt0 : decide (beforeI le r < 0)
                · as_aux_lemma =>
                  have HLT := Lib.hid hlt0
                  gi_wp2_with fail
                  have he := HCAND.out
                  rw [lastStep_ge HHY.out HNE.out (by rw [HLE.out]; exact of_decide_eq_false HLT.out)] at he
                  rw [← he]
                  exact ⟨keepsFrom_keep HKF9.out, HB3.out _ HKF9.out, HBZ9.out⟩
                · as_aux_lemma =>
                  have HLT := Lib.hid hlt0
                  gi_wp2_with fail
                  have he := HCAND.out
                  rw [lastStep_lt HHY.out (by rw [HLE.out]; exact of_decide_eq_true HLT.out), HLE.out] at he
                  rw [← he]
                  exact ⟨(keepsFrom_keep HKF9.out).trans ((KeepsOthers.setCell _ _ _).from _), (HB3.out _ HKF9.out).trans (Keep.setCell _ _ _ (fun h => h.2 rfl)), HBZ9.out.put HXV9.out⟩
          case done => as_aux_lemma =>
            rintro D xs W hD hids hI hkp hDk
            have hfold : (ids xs).foldl (lastStep (held0 b) (endsOf b)) [] = bestRes b item at_ := by
              unfold bestRes
              rw [if_pos H0.out, bestOf_fold, if_neg (by rw [HST.out]; simp), hids, HM.out.kc, HM.out.kn]
            have hlen := lastFold_len (h := held0 b) HLE0.out (ids xs) [] (by simp)
            rw [hfold] at hI hlen
            generalize hbr : bestRes b item at_ = r at *
            have HBR := Lib.hid hbr
            obtain ⟨bv, hbc, hbl, hbf⟩ := hI
            obtain ⟨A, c, rfl, hnum, _, _⟩ := hbl.parts
            have hWs := hkp.size
            have hmD : Marks (w1.heap.size + 4) W ({ target := .collected D, args := #[] } :: ds) := by
              have h1 := HMR.out.keep kw (fun _ _ _ _ => trivial)
              have h2 := h1.keep hkp (fun D' hB' hl' hc' => ⟨hl', fun e => by subst e; obtain ⟨c, t, f, h⟩ := cells_at HI0.out.choose_spec.1; exact hc' c t f h⟩)
              refine h2.cons (by omega) hDk (fun d hd e => ?_)
              obtain ⟨D', e', hl'⟩ := HMR.out.mem_lt d hd
              rw [e'] at e
              have : D' = D := by simpa using e
              omega
            have HMD := Lib.hid hmD
            have HNUM := Lib.hid hnum
            have hbW : Below w.heap.size w W := (HM.out.bel.trans (HSTR.out.bel.mono hs1)).trans (((kw.mono (T := fun j => j < Z) fun _ _ => trivial).trans (hkp.mono fun j hj => hb2 j hj)).below fun j hj => ⟨by omega, by omega⟩)
            have HBW := Lib.hid hbW
            have hZW := lt_of_cell hbc
            have hsWw := hbW.size
            clear hids hfold hbr hmD hnum hbW hbl
            go_wp2_with fail
            refine (c54 (HNUM.out.mono fun j hj => hj.2.2) (by omega)).mono ?_
            rintro e w5 ⟨A5, c5, rfl, own5, hb5⟩
            have HO5 := Lib.hid own5
            have HB5 := Lib.hid hb5
            clear own5 hb5
            go_wp2_with fail
            refine leaves_marks (Marks.below HB5.out (Nat.le_refl _) HMD.out) fun w' hg => ⟨_, results_tmp2 rfl _ _ _, ?_⟩
            refine ⟨A5, c5, by rw [HBR.out, H0.out]; rfl, ?_, below_over ((HBW.out.trans (HB5.out.mono hsWw)).trans (hg.below.mono (by omega)))⟩
            rw [HBR.out]
            have hn := nums_of_own HO5.out
            intro hl0
            obtain ⟨bb, o, e, hS, hcc⟩ := hn hl0
            exact ⟨bb, o, e, ⟨by have := hS.1; omega, by rw [hg.size]; exact hS.2⟩, fun i n h => hg.cell (hcc i n h)⟩
    · go_wp2_with fail
      refine leaves_marks (B := w.heap.size) (ds := []) trivial fun w' hg => ⟨_, results_tmp2 rfl _ _ _, ?_⟩
      have hr : bestRes b item at_ = [] := by unfold bestRes bestOf; rw [if_pos H0.out, if_pos HST.out]
      refine ⟨none, 0, by rw [hr, H0.out]; rfl, by rw [hr]; exact fun h => by simp at h, below_over (Below.trans (HM.out.bel.alloc hs1 _) hg.below)⟩
end Go.Proofs.Ytmcnpfjichbijaa

