/- A book is read. -/
import Derived.Test.YtmcnpfjichbijaaC4
import Derived.Test.YtmcnpfjichbijaaShelf
import Derived.Deep.RegionHeld3
import Derived.Deep.AppendLies
set_option linter.unusedSimpArgs false
set_option linter.unusedVariables false
namespace Go.Proofs.Ytmcnpfjichbijaa
open Go Go.Proofs Go.RowKit Go.Shelf


/-- The cells of a book that is worked on, when it is made. -/
def workCells (v0 v1 : Value) (m : Option Nat) : Array Value := #[v0, v1, .map m, .slice none 0 0] ++ Array.replicate 1000 (.bool false)

theorem run_build99 (v0 v1 : Value) (m : Option Nat) (w : World) : (Instr.build 99 #[(0, .agg #[v0, v1]), (1, .map m)]).run Try.prog w = .ok (.agg (workCells v0 v1 m)) w := by kernel_rfl

theorem workCells_bad (v0 v1 : Value) (m : Option Nat) (n : Nat) (h : n ≤ 999) : (workCells v0 v1 m)[4 + n]? = some (.bool false) := by
  unfold workCells
  rw [Array.getElem?_append_right (by simp), show 4 + n - (#[v0, v1, Value.map m, Value.slice none 0 0] : Array Value).size = n by simp, Array.getElem?_replicate, if_pos (by omega)]

theorem wpList_build99 {ops : Array Oper} {rest : List Oper} {o : Oper} {a : Act} {w : World} {Q : Exit → Act → World → Prop} {x y : Operand} {v0 v1 : Value} {m : Option Nat}
    (hg : o.guard = none) (hop : o.op = Op.build 99 #[(0, x), (1, y)]) (hx : a.eval x = .agg #[v0, v1]) (hy : a.eval y = .map m)
    (h : wpList Try.prog ops Q rest (a.put o.dst (.agg (workCells v0 v1 m))) w) : wpList Try.prog ops Q (o :: rest) a w := by
  refine wpList_plain hg fun K hK => ?_
  unfold Oper.wp
  have := run_build99 v0 v1 m w
  simp [execOp, hop, hx, hy, this, Result.andThen, Oper.upon]
  exact hK _ _ h

/-- A book lies in two slices. -/
def bookAt (S : Nat → Prop) (w : World) (Ai Ac : Option Addr) (b : Bk) : Prop := itemsAt S w Ai b.items ∧ certsAt S w Ac b.certs

set_option maxRecDepth 100000 in
set_option maxHeartbeats 1000000 in
theorem c69_3 (Ai Ac : Option Addr) (ci cc : Nat) (b : Bk) (w : World) (hl : b.items.length ≤ 1000) (hl2 : b.certs.length ≤ 1000) (h : 8 < b.items.length ∨ 24 < b.certs.length) :
    Calls Try.prog 69 #[.agg #[.slice Ai b.items.length ci, .slice Ac b.certs.length cc]] w fun e w' => e = .returned (.tuple #[.pointer none, .int .i64 3]) ∧ ∃ x, w' = over w x := by
  by_cases h1 : 8 < b.items.length
  · have h1' : (8 : Int) < (b.items.length : Int) := by omega
    go_enter Try.func69, Try.ntmps69
    go_wp2_with fail
    go_ret2
    exact ⟨rfl, below_over (by repeat' (first | exact Below.refl _ _ | (refine below_ov ?_ ?_) | (refine Below.alloc ?_ ?_ _) | (refine below_drewN' ?_ _) | (refine Below.drew ?_) | (refine below_set ?_ _ _ ?_) | (simp; done) | (simp; omega) | omega))⟩
  · have h2 : 24 < b.certs.length := by omega
    have h1' : ¬ (8 : Int) < (b.items.length : Int) := by omega
    have h2' : (24 : Int) < (b.certs.length : Int) := by omega
    go_enter Try.func69, Try.ntmps69
    go_wp2_with fail
    go_ret2
    exact ⟨rfl, below_over (by repeat' (first | exact Below.refl _ _ | (refine below_ov ?_ ?_) | (refine Below.alloc ?_ ?_ _) | (refine below_drewN' ?_ _) | (refine Below.drew ?_) | (refine below_set ?_ _ _ ?_) | (simp; done) | (simp; omega) | omega))⟩

theorem itm_fn (w : World) (xs : List Itm) : FnAt w 94 #[] #[] itmV itmOk xs := fun x _ y => c94 _ _ _ _ _

theorem crt_fn (Ai Ac : Option Addr) (ci cc : Nat) (b : Bk) (nc : Nat) (w : World) (hI : itemsAt (· < w.heap.size) w Ai b.items) (hl : b.items.length ≤ 100) (xs : List Crt) :
    FnAt w 96 #[.agg #[.slice Ai b.items.length ci, .slice Ac nc cc]] #[] crtV (crtOk b) xs := fun x _ y =>
  c96 Ai Ac ci cc b.items b.certs nc _ _ _ _ _ _ _ _ ((hI.keep (Keep.over _ _ y)).mono fun j hj => by show j < (over w y).heap.size; rw [over_size]; omega) hl

set_option maxRecDepth 100000 in
set_option maxHeartbeats 1000000 in
theorem c69_1 (Ai Ac : Option Addr) (ci cc : Nat) (b : Bk) (w : World) (hA : bookAt (· < w.heap.size) w Ai Ac b) (hl : b.items.length ≤ 8) (hl2 : b.certs.length ≤ 24) (h : (b.items.all itmOk && b.certs.all (crtOk b)) = false) :
    Calls Try.prog 69 #[.agg #[.slice Ai b.items.length ci, .slice Ac b.certs.length cc]] w fun e w' => e = .returned (.tuple #[.pointer none, .int .i64 1]) ∧ ∃ x, w' = over w x := by
  obtain ⟨hI, hC⟩ := hA
  have h1' : ¬ (8 : Int) < (b.items.length : Int) := by omega
  have h2' : ¬ (24 : Int) < (b.certs.length : Int) := by omega
  have hk : Keep (· < w.heap.size) w (w.alloc (.cells #[.slice Ai b.items.length ci, .slice Ac b.certs.length cc] 35)) := Keep.alloc _ _ _
  have hlt : ∀ j, j < w.heap.size → j < (w.alloc (.cells #[.slice Ai b.items.length ci, .slice Ac b.certs.length cc] 35)).heap.size := fun j hj => by rw [World.size_alloc]; omega
  have hc := c93 94 (enters_of Try.func94 (by kernel_rfl) rfl) #[] #[] b.items itmOk Ai ci _ ((hI.keep hk).mono hlt) (itm_fn _ _) (by omega)
  have HC := Lib.hid hc
  have hd := fun x => c95 96 (enters_of Try.func96 (by kernel_rfl) rfl) #[.agg #[.slice Ai b.items.length ci, .slice Ac b.certs.length cc]] #[] b.certs (crtOk b) Ac cc (over (w.alloc (.cells #[.slice Ai b.items.length ci, .slice Ac b.certs.length cc] 35)) x)
    (((hC.keep hk).keep (Keep.over _ _ x)).mono fun j hj => by have := hlt j hj; show j < (over _ x).heap.size; rw [over_size]; omega)
    (crt_fn _ _ _ _ _ _ _ (((hI.keep hk).keep (Keep.over _ _ x)).mono fun j hj => by have := hlt j hj; show j < (over _ x).heap.size; rw [over_size]; omega) (by omega) _) (by omega)
  have HD := Lib.hid hd
  clear hc hd hk hlt hI hC
  cases h1 : b.items.all itmOk
  · have HH := Lib.hid h
    clear h
    go_enter Try.func69, Try.ntmps69
    go_wp2_with fail
    refine HC.out.mono ?_
    rintro e w1 ⟨rfl, x, rfl⟩
    go_wp2_with fail
    go_ret2
    exact ⟨rfl, below_over (by repeat' (first | exact Below.refl _ _ | (refine below_ov ?_ ?_) | (refine Below.alloc ?_ ?_ _) | (refine below_drewN' ?_ _) | (refine Below.drew ?_) | (refine below_set ?_ _ _ ?_) | (simp; done) | (simp; omega) | omega))⟩
  · have h2 : b.certs.all (crtOk b) = false := by rw [h1] at h; simpa using h
    have HH := Lib.hid h
    clear h
    go_enter Try.func69, Try.ntmps69
    go_wp2_with fail
    refine HC.out.mono ?_
    rintro e w1 ⟨rfl, x, rfl⟩
    go_wp2_with fail
    refine (HD.out x).mono ?_
    rintro e w1 ⟨rfl, y, rfl⟩
    go_wp2_with fail
    go_ret2
    exact ⟨rfl, below_over (by repeat' (first | exact Below.refl _ _ | (refine below_ov ?_ ?_) | (refine Below.alloc ?_ ?_ _) | (refine below_drewN' ?_ _) | (refine Below.drew ?_) | (refine below_set ?_ _ _ ?_) | (simp; done) | (simp; omega) | omega))⟩
end Go.Proofs.Ytmcnpfjichbijaa

