/- A range over an item's certificates: what the caller owes. -/
import Derived.Test.YtmcnpfjichbijaaC1
import Derived.Shelf.Abstract
import Derived.Test.YtmcnpfjichbijaaTail
set_option linter.unusedSimpArgs false
set_option linter.unusedVariables false
namespace Go.Proofs.Ytmcnpfjichbijaa
open Go Go.Proofs Go.RowKit Go.Shelf

/-- The cells of a certificate. -/
def crtCs (c : Crt) : Array Value := #[.int .i64 c.num, .int .i64 c.item, .int .i64 c.by_, .int .i64 c.day, .int .i64 c.valid, .int .i64 c.diff.lo, .int .i64 c.diff.hi]

/-- The numbers themselves. -/
def ids {p : Int → Prop} (l : List {n : Int // p n}) : List Int := l.map (·.1)

theorem ids_snoc {p : Int → Prop} (l : List {n : Int // p n}) (x : {n : Int // p n}) : ids (l ++ [x]) = ids l ++ [x.1] := by simp [ids]

/-- of: four boxes, and the function value. -/
theorem c66 (W : Option Addr) (item day below : Int) (w : World) :
    Calls Try.prog 66 #[.pointer W, .int .i64 item, .int .i64 day, .int .i64 below] w fun e w' =>
      e = .returned (.func (.func 90) #[] #[.pointer (some ⟨w.heap.size, 0, none⟩), .pointer (some ⟨w.heap.size + 3, 0, none⟩), .pointer (some ⟨w.heap.size + 1, 0, none⟩), .pointer (some ⟨w.heap.size + 2, 0, none⟩)]) ∧
      w' = (((w.alloc (.cells #[.pointer W] 91)).alloc (.cells #[.int .i64 item] 3)).alloc (.cells #[.int .i64 day] 3)).alloc (.cells #[.int .i64 below] 3) := by
  go_enter Try.func66, Try.ntmps66
  go_wp2
  go_ret
  exact ⟨rfl, rfl⟩

theorem keep_own {S : Nat → Prop} {B : Nat} {β : Type} (hS : ∀ k, S k → k < B) {w0 : World} : OwnFrom B (fun (_ : β) W => Keep S w0 W) := fun _ X Y row hs hg hr =>
  hs.trans (Keep.grown hg fun r e hSr => by have := (hr r e).1; have := hS r hSr; omega)

theorem ofLoop {g : Operand} {p : Tmp} {assign body : Code} {Q : Exit → Act → World → Prop} {a : Act} {w0 : World} (k : Wk) (hk : k.Ok) (B : Nat) {Bw Bb Bi Bd : Nat} {item day below : Int}
    (hR : OfReads k (but w0.heap.size B) w0 Bw Bb Bi Bd item day below)
    (hg : a.eval g = .func (.func 90) #[] #[.pointer (some ⟨Bw, 0, none⟩), .pointer (some ⟨Bb, 0, none⟩), .pointer (some ⟨Bi, 0, none⟩), .pointer (some ⟨Bd, 0, none⟩)])
    (Inv : List {n : Int // n ∈ ofN k.cf k.nums item day below} → World → Prop) (hInv : OwnFrom w0.heap.size Inv) (h0 : Inv [] w0) (s : Tmp)
    (hassign : ∀ (l : Nat) (c : Crt) (W : World) (K : Act → World → Prop), K { tmps := (a.tmps.setIfInBounds p (crtV c)).setIfInBounds s (.pointer (some ⟨W.heap.size, 0, none⟩)), defers := [] } (W.alloc (.cells (crtCs c) 90)) →
      assign.wpIn (Fence.wide.inRound l) 8 Try.prog (Exit.then K (fun _ _ _ => False)) { tmps := a.tmps.setIfInBounds p (crtV c), defers := [] } W)
    (hbody : ∀ (l : Nat) pre (x : {n : Int // n ∈ ofN k.cf k.nums item day below}) (Bx : Nat) (W : World), k.At (but w0.heap.size B) W → Inv pre W → w0.heap.size ≤ Bx → W.heap[Bx]? = some (.cells (crtCs (k.cf x.1)) 90) → Keep (but w0.heap.size B) w0 W →
      body.wpIn (Fence.wide.inRound l) 8 Try.prog (fun e _ W' => e = .normal ∧ KeepsFrom w0.heap.size W W' ∧ Keep (but w0.heap.size B) W W' ∧ Inv (pre ++ [x]) W') { tmps := (a.tmps.setIfInBounds p (crtV (k.cf x.1))).setIfInBounds s (.pointer (some ⟨Bx, 0, none⟩)), defers := [] } W)
    (hdone : ∀ (D : Nat) xs (W : World), w0.heap.size ≤ D → ids xs = ofN k.cf k.nums item day below → Inv xs W → Keep (but w0.heap.size B) w0 W → W.heap[D]? = some (.deferred (some [])) →
      Q .normal { a with defers := { target := .collected D, args := #[] } :: a.defers } W) :
    (Code.rangeFunc g #[p] assign body).wp Try.prog Q a w0 := by
  refine (wpIn_wide (n := 10)).1 ?_
  have hbut : ∀ k, but w0.heap.size B k → k < w0.heap.size := fun k h => h.1
  have hseq : SeqStopsK Fence.wide (10 - 1) Try.prog 90 #[.pointer (some ⟨Bw, 0, none⟩), .pointer (some ⟨Bb, 0, none⟩), .pointer (some ⟨Bi, 0, none⟩), .pointer (some ⟨Bd, 0, none⟩)]
      (fun x : {n : Int // n ∈ ofN k.cf k.nums item day below} => #[crtV (k.cf x.1)]) (Keep (but w0.heap.size B)) (fun xs => xs.map (·.1) = ofN k.cf k.nums item day below) (fun _ => True) k.nums.length w0 := by
    intro l J Jx W hW hJ hJx hY hJ0
    refine (c90 (10 - 1) l (but w0.heap.size B) k hk Bw Bb Bi Bd item day below J Jx W hJ hY (hR.keep (Keep.of_below hW fun i h _ => h.1)) hJ0).mono ?_
    rintro e W' ⟨hv, h | ⟨pre, h⟩⟩
    · exact ⟨hv, .inl h⟩
    · exact ⟨hv, .inr ⟨pre, trivial, h⟩⟩
  refine wpIn_rangeFunc_ownH (F := Fence.wide) rfl (by omega) hg trivial (enters_of Try.func90 (by kernel_rfl) rfl) hseq butK_t (butK_b (Nat.le_refl _)) (Below.refl _ _) (fun _ => rfl)
    (fun pre W => Inv pre W ∧ Keep (but w0.heap.size B) w0 W) (fun _ _ _ => False) (OwnFrom.and hInv (keep_own hbut)) (fun _ _ _ _ _ hs _ _ => hs) ⟨h0, Keep.refl _ _⟩
    (fun x a' W => ∃ Bx, w0.heap.size ≤ Bx ∧ W.heap[Bx]? = some (.cells (crtCs (k.cf x.1)) 90) ∧ a' = { tmps := (a.tmps.setIfInBounds p (crtV (k.cf x.1))).setIfInBounds s (.pointer (some ⟨Bx, 0, none⟩)), defers := [] }) ?hAx ?assign ?body ?done ?stop
  case hAx =>
    rintro x a' _ X Y row ⟨Bx, h1, h2, h3⟩ hg hr
    refine ⟨Bx, h1, ?_, h3⟩
    rw [hg.block Bx (Array.getElem?_eq_some_iff.1 h2).1 (fun e => by obtain ⟨_, o, ho, hc⟩ := hr Bx e.symm; rw [h2] at ho; cases ho; cases hc), h2]
  case assign =>
    rintro l pre x W K ⟨hi, hkp⟩ hK
    have := hassign l (k.cf x.1) W K (hK _ _ ((KeepsOthers.alloc _ _).from _) (Keep.alloc _ _ _) ⟨hInv.alloc _ hi, hkp.trans (Keep.alloc _ _ _)⟩ ⟨W.heap.size, hkp.size, World.alloc_heap_new W _, rfl⟩)
    simpa using this
  case body =>
    rintro l pre x a' W _ _ ⟨hi, hkp⟩ ⟨Bx, h1, h2, rfl⟩ hlt
    refine wpIn_mono (hbody l pre x Bx W (hR.at_.keep hkp) hi h1 h2 hkp) ?_
    rintro e a2 W2 ⟨rfl, h3, h4, h5⟩
    exact ⟨h3, h4, h5, hkp.trans h4⟩
  case done =>
    rintro D xs W hD hxs ⟨hi, hkp⟩ hK
    exact hdone D xs W hD hxs hi hkp hK
  case stop =>
    rintro D c pre W _ _ h _
    exact h.elim
end Go.Proofs.Ytmcnpfjichbijaa
