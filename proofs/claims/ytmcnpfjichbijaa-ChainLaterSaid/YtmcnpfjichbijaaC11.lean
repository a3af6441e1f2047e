/- Held: DeleteFunc with a closure that reads. -/
import Derived.Test.YtmcnpfjichbijaaC10
import Derived.Test.YtmcnpfjichbijaaDf
import Derived.Lib.SliceRun
set_option linter.unusedSimpArgs false
set_option linter.unusedVariables false
namespace Go.Proofs.Ytmcnpfjichbijaa
open Go Go.Proofs Go.RowKit Go.Shelf

open Go.Lib Go.Sort

theorem keep_sort {w : World} {blk m : Nat} {dk : Array Int} {os : Array Obj} : Keep (fun j => j ≠ blk) w (sortWorld (Value.int .i64) w blk 0 m dk os) :=
  Keep.grown (grownBy_sortedI dk) fun r hr h => h (by simpa using hr.symm)

theorem c53 (g : Nat) (eg : ∀ args w, (callFunc g args).run Try.prog w = .ok (.enter g args) w) (lb : Array Value) (p : Int → Bool) (blk cap base : Nat) (l : List Int) (w : World)
    (own : w.ownsRow base 3 1 (.slice (some ⟨blk, 0, none⟩) l.length cap) l.length (l.map (Value.int .i64))) (hl : l.length ≤ 100)
    (hp : ∀ W n, Keep (fun j => j ≠ blk) w W → Calls Try.prog g (#[.int .i64 n] ++ lb) W fun e w' => e = .returned (.bool (p n)) ∧ w' = W) :
    Calls Try.prog 53 #[.slice (some ⟨blk, 0, none⟩) l.length cap, .func (.func g) #[] lb] w fun e w' =>
      e = .returned (.slice (some ⟨blk, 0, none⟩) (l.filter fun x => !p x).length cap) ∧ Keep (fun j => j ≠ blk) w w' ∧ numsAt (fun j => j = blk) w' (some ⟨blk, 0, none⟩) (l.filter fun x => !p x) := by
  rcases own.2 with ⟨h1, h2⟩ | ⟨g', cap', cur, h1, h2, h3, h4, h5, h6, h7⟩
  · cases h1
  · cases h1
    have hH := holds_of_blockI (ss := l) h3 (by simpa using h7)
    have e0 : l.toArray.size = l.length := by simp
    have := AnyE.slices_DeleteFunc Try.l53 (Value.int .i64) (fun _ => rfl) p g lb eg 0 Try.zeroValue3 blk 0 cap l.toArray w
      (fun W x hb => (hp W x (Keep.of_below hb fun _ _ h => h)).mono fun e w' h => ⟨h.1, 0, h.2⟩)
      (fun n os dk x _ => (hp _ x keep_sort).mono fun e w' h => ⟨h.1, 0, h.2⟩) hH (by rw [e0]; omega) (by rw [e0]; exact h4)
    rw [e0] at this
    refine Calls.mono (f := 53) this ?_
    rintro e w' ⟨rfl, q, rfl⟩
    have hk : Keep (fun j => j ≠ blk) w (putRow (Value.int .i64) (Sort.ahead w q) blk 0 ((l.filter fun x => !p x) ++ List.replicate (l.length - (l.filter fun x => !p x).length) 0).toArray) := by
      have := keep_sort (w := w) (blk := blk) (m := q) (dk := ((l.filter fun x => !p x) ++ List.replicate (l.length - (l.filter fun x => !p x).length) 0).toArray) (os := #[])
      unfold sortWorld at this
      rwa [grow_empty] at this
    refine ⟨rfl, hk, fun _ => ⟨blk, 0, rfl, rfl, fun i n hn => ?_⟩⟩
    have hi := (List.getElem?_eq_some_iff.1 hn).1
    have hle := List.length_filter_le (fun x => !p x) l
    have hs : ((l.filter fun x => !p x) ++ List.replicate (l.length - (l.filter fun x => !p x).length) 0).toArray.size = l.toArray.size := by simp; omega
    have := cell?_putRow (Value.int .i64) (Sort.ahead w q) blk 0 l.toArray _ (show Holds (Value.int .i64) (Sort.ahead w q) blk 0 l.toArray from hH) hs i (by rw [hs, e0]; omega)
    rw [this]
    congr 2
    rw [getElem!_pos _ _ (by rw [hs, e0]; omega)]
    simp only [List.getElem_toArray]
    rw [List.getElem_append_left hi]
    exact (List.getElem?_eq_some_iff.1 hn).2
end Go.Proofs.Ytmcnpfjichbijaa

