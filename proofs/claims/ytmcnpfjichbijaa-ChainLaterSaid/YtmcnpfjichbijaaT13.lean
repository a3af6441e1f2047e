/- The document's example, computed. -/
import Derived.Test.YtmcnpfjichbijaaL4
import Derived.Test.YtmcnpfjichbijaaB3
namespace Go.Proofs.Ytmcnpfjichbijaa
open Go

theorem house_nums : numsOf houseB = [1,2,3,4] := by
  have h : firsts houseB.certs = [4, 1, 2, 3] := by decide +kernel
  unfold numsOf
  rw [h]
  simp [List.mergeSort, List.MergeSort.Internal.splitInTwo]

def hoHolds (N : List Int) (f : Int → Bool) : Int → Bool :=
  N.foldl (fun h n j => if j = n then (stdOf houseB (getC houseB n).by_ || (ofN (getC houseB) N (getC houseB n).by_ (getC houseB n).day n).any h) && !f n else h j) fun _ => false
def hoSpan (N : List Int) (sp : Int → Rng) (item day below : Int) : Rng :=
  if stdOf houseB item then (itmOf houseB item).val else (ofN (getC houseB) N item day below).foldl (spanStep houseB (hoHolds N fun _ => false) sp item day) everyR
def hoSpans (N : List Int) : Int → Rng :=
  N.foldl (fun sp n j => if j = n ∧ hoHolds N (fun _ => false) n = true then plusR (hoSpan N sp (getC houseB n).by_ (getC houseB n).day n) (getC houseB n).diff else sp j) fun _ => ⟨0, 0⟩
def hoContra (N : List Int) : Bool := N.any fun n => hoHolds N (fun _ => false) n && decide ((hoSpan N (hoSpans N) (getC houseB n).item (getC houseB n).day 1000).hi < (hoSpan N (hoSpans N) (getC houseB n).item (getC houseB n).day 1000).lo)
def hoEnds (N : List Int) : Int → List Int :=
  N.foldl (fun E n j => if j = n ∧ hoHolds N (fun _ => false) n = true then (if stdOf houseB (getC houseB n).by_ then [n] else (ofN (getC houseB) N (getC houseB n).by_ (getC houseB n).day n).foldl (fun best o => if hoHolds N (fun _ => false) o then better (E o ++ [n]) best else best) []) else E j) fun _ => []
def hoBest (N : List Int) (item at_ : Int) : List Int :=
  if stdOf houseB item then [] else (ofN (getC houseB) N item at_ 1000).foldl (fun best c => if hoHolds N (fun _ => false) c then better (hoEnds N c) best else best) []

theorem ho_holds (f : Int → Bool) : holds houseB f = hoHolds [1,2,3,4] f := by rw [← house_nums]; rfl
theorem ho_held : held0 houseB = hoHolds [1,2,3,4] fun _ => false := ho_holds _
theorem ho_spans : spansOf houseB = hoSpans [1,2,3,4] := by rw [← house_nums]; rfl
theorem ho_spanBy (sp : Int → Rng) (item day below : Int) : spanBy houseB (held0 houseB) sp item day below = hoSpan [1,2,3,4] sp item day below := by rw [← house_nums]; rfl
theorem ho_contra : contra houseB = hoContra [1,2,3,4] := by rw [← house_nums]; rfl
theorem ho_best (i d : Int) : bestOf houseB i d = hoBest [1,2,3,4] i d := by rw [← house_nums]; rfl

theorem house_err : errOf houseB [1] = 0 := by decide +kernel
theorem house_err2 : errOf houseB [1, 3] = 0 := by decide +kernel
theorem house_wrong : (numsOf houseB).filter (holds houseB fun n => decide (n ∈ [1])) = [3, 4] := by
  rw [house_nums, ho_holds]
  decide +kernel
theorem house_hung : (numsOf houseB).filter (hungB houseB [1, 3]) = [2, 4] := by
  unfold hungB
  rw [house_nums, ho_holds, ho_holds]
  decide +kernel
theorem house_ask : askErr houseB 2 25 = 0 := by
  unfold askErr reach
  rw [ho_holds, house_nums]
  decide +kernel
theorem house_ask2 : askErr houseB 2 30 = 0 := by
  unfold askErr reach
  rw [ho_holds, house_nums]
  decide +kernel
theorem house_spanErr : spanErr houseB 2 30 = 0 := by
  unfold spanErr
  rw [house_ask2, ho_contra]
  decide +kernel
theorem house_span : spanRes houseB 2 30 = ⟨1000, 1022⟩ := by
  unfold spanRes spanAt
  rw [house_spanErr, ho_spanBy, ho_spans]
  decide +kernel
theorem house_best : bestRes houseB 2 25 = [1, 2] := by
  unfold bestRes
  rw [house_ask, ho_best]
  decide +kernel

end Go.Proofs.Ytmcnpfjichbijaa
