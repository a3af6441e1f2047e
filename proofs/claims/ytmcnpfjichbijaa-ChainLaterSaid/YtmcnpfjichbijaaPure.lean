/- The plain words: books, certificates, what a book's error is, what holds. No Go here. -/
set_option linter.unusedVariables false
namespace Go.Proofs.Ytmcnpfjichbijaa

structure Rng where
  lo : Int
  hi : Int
  deriving DecidableEq
structure Crt where
  num : Int
  item : Int
  by_ : Int
  day : Int
  valid : Int
  diff : Rng
  deriving DecidableEq
structure Itm where
  drift : Int
  std : Bool
  val : Rng
  deriving DecidableEq
structure Bk where
  items : List Itm
  certs : List Crt
  deriving DecidableEq

/-- A number from lo to hi. -/
def inB (n lo hi : Int) : Bool := decide (lo ≤ n ∧ n ≤ hi)

/-- A certificate is valid on a day. -/
def onB (c : Crt) (day : Int) : Bool := inB day c.day (c.day + c.valid)

def restsB (c o : Crt) : Bool := o.item == c.by_ && decide (o.num < c.num) && onB o c.day

/-- Is an item a standard? -/
def stdOf (b : Bk) (i : Int) : Bool := match b.items[i.toNat]? with | some x => x.std | none => false

/-- A range of values. -/
def spanOk (r : Rng) : Bool := inB r.lo (-100000) 100000 && inB r.hi (-100000) 100000 && decide (r.lo ≤ r.hi)

/-- An item as described. -/
def itmOk (x : Itm) : Bool := inB x.drift 0 100 && spanOk x.val && (x.std || (x.val.lo == 0 && x.val.hi == 0))

/-- A certificate as described. -/
def crtOk (b : Bk) (c : Crt) : Bool :=
  inB c.num 1 999 && inB c.item 0 ((b.items.length : Int) - 1) && !stdOf b c.item && inB c.by_ 0 ((b.items.length : Int) - 1) && c.by_ != c.item && inB c.day 0 1000 && inB c.valid 0 1000 && spanOk c.diff

/-- Two certificates contradict by number. -/
def clash (x y : Crt) : Bool := (x.num == y.num && x != y) || (decide (y.num < x.num) && decide (x.day < y.day))

/-- The error of a book. -/
def fault (b : Bk) : Int :=
  if 8 < b.items.length ∨ 24 < b.certs.length then 3
  else if (b.items.all itmOk && b.certs.all (crtOk b)) = false then 1
  else if (b.certs.any fun x => b.certs.any fun y => clash x y) = true then 6
  else 0

/-- The certificate with a number: the first one. -/
def getC (b : Bk) (n : Int) : Crt := (b.certs.find? fun c => c.num == n).getD ⟨0, 0, 0, 0, 0, ⟨0, 0⟩⟩

/-- One number more, if it is new. -/
def addN (l : List Int) (c : Crt) : List Int := if c.num ∈ l then l else l ++ [c.num]

/-- The numbers, as they come first. -/
def firsts (cs : List Crt) : List Int := cs.foldl addN []

/-- The numbers, rising. -/
def numsOf (b : Bk) : List Int := (firsts b.certs).mergeSort fun x y => decide (x ≤ y)

/-- The numbers of the certificates of an item that are valid on a day, below some. -/
def ofN (cf : Int → Crt) (nums : List Int) (item day below : Int) : List Int :=
  nums.filter fun n => decide (n < below) && (cf n).item == item && onB (cf n) day

def holdStep (b : Bk) (bad : Int → Bool) (h : Int → Bool) (n : Int) : Int → Bool := fun j =>
  if j = n then (stdOf b (getC b n).by_ || (ofN (getC b) (numsOf b) (getC b n).by_ (getC b n).day n).any h) && !bad n else h j

/-- Which certificates hold. -/
def holds (b : Bk) (bad : Int → Bool) : Int → Bool := (numsOf b).foldl (holdStep b bad) fun _ => false

/-- What hung on bad ones. -/
def hungB (b : Bk) (l : List Int) : Int → Bool := fun n => holds b (fun n => decide (n ∈ ([] : List Int))) n && !(holds b (fun n => decide (n ∈ l)) n) && !decide (n ∈ l)

/-- Is an item held on a day? -/
def reach (b : Bk) (item at_ : Int) : Bool := stdOf b item || (ofN (getC b) (numsOf b) item at_ 1000).any (holds b fun _ => false)

/-- The error of asking. -/
def askErr (b : Bk) (item at_ : Int) : Int :=
  if fault b ≠ 0 then fault b else if (inB item 0 ((b.items.length : Int) - 1) && inB at_ 0 1000) = false then 2 else if reach b item at_ then 0 else 10

/-- Bad ones are numbers, rising. -/
def badOk (l : List Int) : Bool := decide (∀ i, ∀ (h : i < l.length), (1 ≤ l[i] ∧ l[i] ≤ 999) ∧ (0 < i → l[i - 1] < l[i]))

/-- The error of a book and bad ones. -/
def errOf (b : Bk) (l : List Int) : Int := if fault b ≠ 0 then fault b else if badOk l then 0 else 2

/-- Everything. -/
def everyR : Rng := ⟨-1099511627776, 1099511627776⟩
def plusR (a b : Rng) : Rng := ⟨a.lo + b.lo, a.hi + b.hi⟩
def widerR (a : Rng) (n : Int) : Rng := ⟨a.lo - n, a.hi + n⟩
def cutR (a b : Rng) : Rng := ⟨max a.lo b.lo, min a.hi b.hi⟩
def itmOf (b : Bk) (i : Int) : Itm := (b.items[i.toNat]?).getD ⟨0, false, ⟨0, 0⟩⟩

/-- One certificate more narrows an item's span. -/
def spanStep (b : Bk) (h : Int → Bool) (sp : Int → Rng) (item day : Int) (out : Rng) (n : Int) : Rng :=
  if h n then cutR out (widerR (sp n) ((itmOf b item).drift * (day - (getC b n).day))) else out

/-- The span of an item on a day, by the certificates with a number below some. -/
def spanBy (b : Bk) (h : Int → Bool) (sp : Int → Rng) (item day below : Int) : Rng :=
  if stdOf b item then (itmOf b item).val else (ofN (getC b) (numsOf b) item day below).foldl (spanStep b h sp item day) everyR

/-- One certificate's span more is known. -/
def spansStep (b : Bk) (h : Int → Bool) (sp : Int → Rng) (n : Int) : Int → Rng := fun j =>
  if j = n ∧ h n = true then plusR (spanBy b h sp (getC b n).by_ (getC b n).day n) (getC b n).diff else sp j

/-- What holds without bad ones. -/
def held0 (b : Bk) : Int → Bool := holds b fun _ => false

/-- The spans of the certificates that hold. -/
def spansOf (b : Bk) : Int → Rng := (numsOf b).foldl (spansStep b (held0 b)) fun _ => ⟨0, 0⟩

/-- Some span has no number. -/
def contra (b : Bk) : Bool := (numsOf b).any fun n => held0 b n && decide ((spanBy b (held0 b) (spansOf b) (getC b n).item (getC b n).day 1000).hi < (spanBy b (held0 b) (spansOf b) (getC b n).item (getC b n).day 1000).lo)

/-- The span of an item on a day. -/
def spanAt (b : Bk) (item at_ : Int) : Rng := spanBy b (held0 b) (spansOf b) item at_ 1000

/-- The error of asking for a span. -/
def spanErr (b : Bk) (item at_ : Int) : Int := if askErr b item at_ ≠ 0 then askErr b item at_ else if contra b then 9 else 0

/-- A book without a certificate. -/
def dropC (b : Bk) (n : Int) : Bk := { b with certs := b.certs.filter fun c => c.num != n }

/-- The error of asking for suspects. -/
def susErr (b : Bk) : Int := if fault b ≠ 0 then fault b else if contra b then 0 else 7

/-- The suspects. -/
def suspects (b : Bk) : List Int := (numsOf b).filter fun n => !contra (dropC b n)

/-- The first place where two lists differ decides; else the shorter one is less. -/
def cmpL : List Int → List Int → Int
  | [], [] => 0
  | [], _ :: _ => -1
  | _ :: _, [] => 1
  | x :: xs, y :: ys => if x < y then -1 else if y < x then 1 else cmpL xs ys

/-- Two chains compared. -/
def beforeI (a b : List Int) : Int := if a.length ≠ b.length then (a.length : Int) - b.length else cmpL a b

/-- The better one of two chains; the second one may be none. -/
def better (x best : List Int) : List Int := if best = [] ∨ beforeI x best < 0 then x else best

/-- The best chain that ends with a certificate, by those that are known. -/
def endOf (b : Bk) (h : Int → Bool) (E : Int → List Int) (n : Int) : List Int :=
  if stdOf b (getC b n).by_ then [n] else (ofN (getC b) (numsOf b) (getC b n).by_ (getC b n).day n).foldl (fun best o => if h o then better (E o ++ [n]) best else best) []

def endsStep (b : Bk) (h : Int → Bool) (E : Int → List Int) (n : Int) : Int → List Int := fun j => if j = n ∧ h n = true then endOf b h E n else E j

/-- The best chains that end with each certificate. -/
def endsOf (b : Bk) : Int → List Int := (numsOf b).foldl (endsStep b (held0 b)) fun _ => []

/-- The best chain of an item on a day. -/
def bestOf (b : Bk) (item at_ : Int) : List Int :=
  if stdOf b item then [] else (ofN (getC b) (numsOf b) item at_ 1000).foldl (fun best c => if held0 b c then better (endsOf b c) best else best) []

/-- Are numbers a chain of an item on a day? -/
def chainB (b : Bk) (item at_ : Int) (l : List Int) : Bool :=
  if stdOf b item then l.isEmpty else
  decide (l ≠ []) && decide (∀ i, ∀ (h : i < l.length), held0 b l[i] = true ∧ l[i] ∈ numsOf b ∧ (i = 0 → stdOf b (getC b l[i]).by_ = true) ∧ (0 < i → restsB (getC b l[i]) (getC b l[i - 1]) = true)) &&
    (match l.getLast? with | some n => (getC b n).item == item && onB (getC b n) at_ | none => false)
end Go.Proofs.Ytmcnpfjichbijaa
