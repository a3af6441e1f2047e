/- The plain words: books, certificates, what a book's error is, what holds. No Go here. -/

set_option linter.unusedVariables false
namespace Go.Proofs.Ytmcnpfjichbijaa

structure Rng where
  lo : Int
  hi : Int
  deriving DecidableEq
structure Crt where
  num : Int
  item : Int
  by_ : Int
  day : Int
  valid : Int
  diff : Rng
  deriving DecidableEq
structure Itm where
  drift : Int
  std : Bool
  val : Rng
  deriving DecidableEq
structure Bk where
  items : List Itm
  certs : List Crt
  deriving DecidableEq

/-- A number from lo to hi. -/
def inB (n lo hi : Int) : Bool := decide (lo ≤ n ∧ n ≤ hi)

/-- A certificate is valid on a day. -/
def onB (c : Crt) (day : Int) : Bool := inB day c.day (c.day + c.valid)

def restsB (c o : Crt) : Bool := o.item == c.by_ && decide (o.num < c.num) && onB o c.day

/-- Is an item a standard? -/
def stdOf (b : Bk) (i : Int) : Bool := match b.items[i.toNat]? with | some x => x.std | none => false

/-- A range of values. -/
def spanOk (r : Rng) : Bool := inB r.lo (-100000) 100000 && inB r.hi (-100000) 100000 && decide (r.lo ≤ r.hi)

/-- An item as described. -/
def itmOk (x : Itm) : Bool := inB x.drift 0 100 && spanOk x.val && (x.std || (x.val.lo == 0 && x.val.hi == 0))

/-- A certificate as described. -/
def crtOk (b : Bk) (c : Crt) : Bool :=
  inB c.num 1 999 && inB c.item 0 ((b.items.length : Int) - 1) && !stdOf b c.item && inB c.by_ 0 ((b.items.length : Int) - 1) && c.by_ != c.item && inB c.day 0 1000 && inB c.valid 0 1000 && spanOk c.diff

/-- Two certificates contradict by number. -/
def clash (x y : Crt) : Bool := (x.num == y.num && x != y) || (decide (y.num < x.num) && decide (x.day < y.day))

/-- The error of a book. -/
def fault (b : Bk) : Int :=
  if 8 < b.items.length ∨ 24 < b.certs.length then 3
  else if (b.items.all itmOk && b.certs.all (crtOk b)) = false then 1
  else if (b.certs.any fun x => b.certs.any fun y => clash x y) = true then 6
  else 0

/-- The certificate with a number: the first one. -/
def getC (b : Bk) (n : Int) : Crt := (b.certs.find? fun c => c.num == n).getD ⟨0, 0, 0, 0, 0, ⟨0, 0⟩⟩

/-- One number more, if it is new. -/
def addN (l : List Int) (c : Crt) : List Int := if c.num ∈ l then l else l ++ [c.num]

/-- The numbers, as they come first. -/
def firsts (cs : List Crt) : List Int := cs.foldl addN []

/-- The numbers, rising. -/
def numsOf (b : Bk) : List Int := (firsts b.certs).mergeSort fun x y => decide (x ≤ y)

/-- The numbers of the certificates of an item that are valid on a day, below some. -/
def ofN (cf : Int → Crt) (nums : List Int) (item day below : Int) : List Int :=
  nums.filter fun n => decide (n < below) && (cf n).item == item && onB (cf n) day

def holdStep (b : Bk) (bad : Int → Bool) (h : Int → Bool) (n : Int) : Int → Bool := fun j =>
  if j = n then (stdOf b (getC b n).by_ || (ofN (getC b) (numsOf b) (getC b n).by_ (getC b n).day n).any h) && !bad n else h j

/-- Which certificates hold. -/
def holds (b : Bk) (bad : Int → Bool) : Int → Bool := (numsOf b).foldl (holdStep b bad) fun _ => false

/-- What hung on bad ones. -/
def hungB (b : Bk) (l : List Int) : Int → Bool := fun n => holds b (fun n => decide (n ∈ ([] : List Int))) n && !(holds b (fun n => decide (n ∈ l)) n) && !decide (n ∈ l)

/-- Is an item held on a day? -/
def reach (b : Bk) (item at_ : Int) : Bool := stdOf b item || (ofN (getC b) (numsOf b) item at_ 1000).any (holds b fun _ => false)

/-- The error of asking. -/
def askErr (b : Bk) (item at_ : Int) : Int :=
  if fault b ≠ 0 then fault b else if (inB item 0 ((b.items.length : Int) - 1) && inB at_ 0 1000) = false then 2 else if reach b item at_ then 0 else 10

/-- Bad ones are numbers, rising. -/
def badOk (l : List Int) : Bool := decide (∀ i, ∀ (h : i < l.length), (1 ≤ l[i] ∧ l[i] ≤ 999) ∧ (0 < i → l[i - 1] < l[i]))

/-- The error of a book and bad ones. -/
def errOf (b : Bk) (l : List Int) : Int := if fault b ≠ 0 then fault b else if badOk l then 0 else 2

/-- Everything. -/
def everyR : Rng := ⟨-1099511627776, 1099511627776⟩
def plusR (a b : Rng) : Rng := ⟨a.lo + b.lo, a.hi + b.hi⟩
def widerR (a : Rng) (n : Int) : Rng := ⟨a.lo - n, a.hi + n⟩
def cutR (a b : Rng) : Rng := ⟨max a.lo b.lo, min a.hi b.hi⟩
def itmOf (b : Bk) (i : Int) : Itm := (b.items[i.toNat]?).getD ⟨0, false, ⟨0, 0⟩⟩

/-- One certificate more narrows an item's span. -/
def spanStep (b : Bk) (h : Int → Bool) (sp : Int → Rng) (item day : Int) (out : Rng) (n : Int) : Rng :=
  if h n then cutR out (widerR (sp n) ((itmOf b item).drift * (day - (getC b n).day))) else out

/-- The span of an item on a day, by the certificates with a number below some. -/
def spanBy (b : Bk) (h : Int → Bool) (sp : Int → Rng) (item day below : Int) : Rng :=
  if stdOf b item then (itmOf b item).val else (ofN (getC b) (numsOf b) item day below).foldl (spanStep b h sp item day) everyR

/-- One certificate's span more is known. -/
def spansStep (b : Bk) (h : Int → Bool) (sp : Int → Rng) (n : Int) : Int → Rng := fun j =>
  if j = n ∧ h n = true then plusR (spanBy b h sp (getC b n).by_ (getC b n).day n) (getC b n).diff else sp j

/-- What holds without bad ones. -/
def held0 (b : Bk) : Int → Bool := holds b fun _ => false

/-- The spans of the certificates that hold. -/
def spansOf (b : Bk) : Int → Rng := (numsOf b).foldl (spansStep b (held0 b)) fun _ => ⟨0, 0⟩

/-- Some span has no number. -/
def contra (b : Bk) : Bool := (numsOf b).any fun n => held0 b n && decide ((spanBy b (held0 b) (spansOf b) (getC b n).item (getC b n).day 1000).hi < (spanBy b (held0 b) (spansOf b) (getC b n).item (getC b n).day 1000).lo)

/-- The span of an item on a day. -/
def spanAt (b : Bk) (item at_ : Int) : Rng := spanBy b (held0 b) (spansOf b) item at_ 1000

/-- The error of asking for a span. -/
def spanErr (b : Bk) (item at_ : Int) : Int := if askErr b item at_ ≠ 0 then askErr b item at_ else if contra b then 9 else 0

/-- A book without a certificate. -/
def dropC (b : Bk) (n : Int) : Bk := { b with certs := b.certs.filter fun c => c.num != n }

/-- The error of asking for suspects. -/
def susErr (b : Bk) : Int := if fault b ≠ 0 then fault b else if contra b then 0 else 7

/-- The suspects. -/
def suspects (b : Bk) : List Int := (numsOf b).filter fun n => !contra (dropC b n)

/-- The first place where two lists differ decides; else the shorter one is less. -/
def cmpL : List Int → List Int → Int
  | [], [] => 0
  | [], _ :: _ => -1
  | _ :: _, [] => 1
  | x :: xs, y :: ys => if x < y then -1 else if y < x then 1 else cmpL xs ys

/-- Two chains compared. -/
def beforeI (a b : List Int) : Int := if a.length ≠ b.length then (a.length : Int) - b.length else cmpL a b

/-- The better one of two chains; the second one may be none. -/
def better (x best : List Int) : List Int := if best = [] ∨ beforeI x best < 0 then x else best

/-- The best chain that ends with a certificate, by those that are known. -/
def endOf (b : Bk) (h : Int → Bool) (E : Int → List Int) (n : Int) : List Int :=
  if stdOf b (getC b n).by_ then [n] else (ofN (getC b) (numsOf b) (getC b n).by_ (getC b n).day n).foldl (fun best o => if h o then better (E o ++ [n]) best else best) []

def endsStep (b : Bk) (h : Int → Bool) (E : Int → List Int) (n : Int) : Int → List Int := fun j => if j = n ∧ h n = true then endOf b h E n else E j

/-- The best chains that end with each certificate. -/
def endsOf (b : Bk) : Int → List Int := (numsOf b).foldl (endsStep b (held0 b)) fun _ => []

/-- The best chain of an item on a day. -/
def bestOf (b : Bk) (item at_ : Int) : List Int :=
  if stdOf b item then [] else (ofN (getC b) (numsOf b) item at_ 1000).foldl (fun best c => if held0 b c then better (endsOf b c) best else best) []

/-- Are numbers a chain of an item on a day? -/
def chainB (b : Bk) (item at_ : Int) (l : List Int) : Bool :=
  if stdOf b item then l.isEmpty else
  decide (l ≠ []) && decide (∀ i, ∀ (h : i < l.length), held0 b l[i] = true ∧ l[i] ∈ numsOf b ∧ (i = 0 → stdOf b (getC b l[i]).by_ = true) ∧ (0 < i → restsB (getC b l[i]) (getC b l[i - 1]) = true)) &&
    (match l.getLast? with | some n => (getC b n).item == item && onB (getC b n) at_ | none => false)
end Go.Proofs.Ytmcnpfjichbijaa

/- Plain laws: the words of the document and of the program, told apart from Go. -/
/- Plain laws: numbers, certificates, when a book has no error. No Go here. -/
set_option linter.unusedSimpArgs false
set_option linter.unusedVariables false
namespace Go.Proofs.Ytmcnpfjichbijaa

/-- The first certificate with a number. -/
def look (l : List Crt) (n : Int) : Option Crt := l.find? fun c => c.num == n

theorem look_snoc (l : List Crt) (c : Crt) (n : Int) : look (l ++ [c]) n = (look l n).or (if c.num = n then some c else none) := by
  unfold look
  rw [List.find?_append]
  by_cases h : c.num = n <;> simp [h]
theorem firsts_snoc (l : List Crt) (c : Crt) : firsts (l ++ [c]) = addN (firsts l) c := by simp [firsts]
theorem mem_addN (l : List Int) (c : Crt) (n : Int) : n ∈ addN l c ↔ n ∈ l ∨ n = c.num := by
  unfold addN
  split
  · constructor
    · exact .inl
    · rintro (h | rfl) <;> assumption
  · simp
theorem mem_foldl_addN (n : Int) : ∀ (cs : List Crt) (l : List Int), n ∈ cs.foldl addN l ↔ n ∈ l ∨ ∃ c ∈ cs, c.num = n
  | [], l => by simp
  | c :: cs, l => by
    rw [List.foldl_cons, mem_foldl_addN n cs, mem_addN]
    constructor
    · rintro ((h | h) | ⟨x, h1, h2⟩)
      · exact .inl h
      · exact .inr ⟨c, by simp, h.symm⟩
      · exact .inr ⟨x, by simp [h1], h2⟩
    · rintro (h | ⟨x, h1, h2⟩)
      · exact .inl (.inl h)
      · rcases List.mem_cons.1 h1 with rfl | h1
        · exact .inl (.inr h2.symm)
        · exact .inr ⟨x, h1, h2⟩
theorem mem_firsts (l : List Crt) (n : Int) : n ∈ firsts l ↔ ∃ c ∈ l, c.num = n := by simp [firsts, mem_foldl_addN]
theorem look_isSome (l : List Crt) (n : Int) : (look l n).isSome = true ↔ n ∈ firsts l := by
  rw [mem_firsts]; simp [look, List.find?_isSome]
theorem addN_length (l : List Int) (c : Crt) : (addN l c).length ≤ l.length + 1 := by unfold addN; split <;> simp
theorem foldl_addN_length : ∀ (cs : List Crt) (l : List Int), (cs.foldl addN l).length ≤ l.length + cs.length
  | [], l => by simp
  | c :: cs, l => by
    have := foldl_addN_length cs (addN l c)
    have := addN_length l c
    simp only [List.foldl_cons, List.length_cons]; omega
theorem firsts_length (l : List Crt) : (firsts l).length ≤ l.length := by have := foldl_addN_length l []; simpa [firsts] using this
theorem look_num {l : List Crt} {n : Int} {c : Crt} (h : look l n = some c) : c.num = n ∧ c ∈ l := by
  have h1 := List.find?_some h
  have h2 := List.mem_of_find?_eq_some h
  exact ⟨by simpa using h1, h2⟩

/-- A list, rising. -/
def sortI (l : List Int) : List Int := l.mergeSort fun x y => decide (x ≤ y)

theorem sortI_length (l : List Int) : (sortI l).length = l.length := by simp [sortI]
theorem mem_sortI (l : List Int) (n : Int) : n ∈ sortI l ↔ n ∈ l := by simp [sortI]

theorem numsOf_eq (b : Bk) : numsOf b = sortI (firsts b.certs) := rfl
theorem mem_numsOf (b : Bk) (n : Int) : n ∈ numsOf b ↔ ∃ c ∈ b.certs, c.num = n := by rw [numsOf_eq, mem_sortI, mem_firsts]
theorem numsOf_length (b : Bk) : (numsOf b).length = (firsts b.certs).length := by rw [numsOf_eq, sortI_length]
theorem numsOf_sorted (b : Bk) : (numsOf b).Pairwise (· ≤ ·) := by
  have := List.pairwise_mergeSort (le := fun x y : Int => decide (x ≤ y)) (fun a b c h1 h2 => by simp at *; omega) (fun a b => by simp; omega) (firsts b.certs)
  exact this.imp fun h => by simpa using h

theorem getC_look (b : Bk) (n : Int) : getC b n = (look b.certs n).getD ⟨0, 0, 0, 0, 0, ⟨0, 0⟩⟩ := rfl

/-- Its certificate is the one with the number. -/
theorem getC_spec {b : Bk} {n : Int} (h : n ∈ numsOf b) : (getC b n).num = n ∧ getC b n ∈ b.certs ∧ look b.certs n = some (getC b n) := by
  rw [numsOf_eq, mem_sortI, ← look_isSome] at h
  obtain ⟨c, hc⟩ := Option.isSome_iff_exists.1 h
  have : getC b n = c := by rw [getC_look, hc]; rfl
  rw [this]
  exact ⟨(look_num hc).1, (look_num hc).2, hc⟩

theorem getC_self {b : Bk} (hu : ∀ x ∈ b.certs, ∀ y ∈ b.certs, x.num = y.num → x = y) {x : Crt} (hx : x ∈ b.certs) : getC b x.num = x := by
  have h := getC_spec ((mem_numsOf b x.num).2 ⟨x, hx, rfl⟩)
  exact hu _ h.2.1 _ hx h.1

theorem day_le {b : Bk} (hd : ∀ (j : Nat) (h : j + 1 < (numsOf b).length), (getC b ((numsOf b)[j]'(by omega))).day ≤ (getC b (numsOf b)[j + 1]).day) :
    ∀ (k i : Nat) (h : i + k < (numsOf b).length), (getC b ((numsOf b)[i]'(by omega))).day ≤ (getC b (numsOf b)[i + k]).day
  | 0, i, h => by simp
  | k + 1, i, h => by
    have h1 := day_le hd k i (by omega)
    have h2 := hd (i + k) (by omega)
    have e : i + (k + 1) = i + k + 1 := by omega
    simp only [e]
    omega

theorem fault_zero {b : Bk} (hl : b.items.length ≤ 8) (hl2 : b.certs.length ≤ 24) (h : (b.items.all itmOk && b.certs.all (crtOk b)) = true) (hu : ∀ x ∈ b.certs, ∀ y ∈ b.certs, x.num = y.num → x = y)
    (hd : ∀ (j : Nat) (h : j + 1 < (numsOf b).length), (getC b ((numsOf b)[j]'(by omega))).day ≤ (getC b (numsOf b)[j + 1]).day) : fault b = 0 := by
  unfold fault
  rw [if_neg (by omega), if_neg (by rw [h]; simp), if_neg]
  intro hc
  obtain ⟨x, hx, hc⟩ := List.any_eq_true.1 hc
  obtain ⟨y, hy, hc⟩ := List.any_eq_true.1 hc
  unfold clash at hc
  simp only [Bool.or_eq_true, Bool.and_eq_true, beq_iff_eq, bne_iff_ne, decide_eq_true_eq] at hc
  rcases hc with ⟨h1, h2⟩ | ⟨h1, h2⟩
  · exact h2 (hu x hx y hy h1)
  · obtain ⟨i, hi, ei⟩ := List.getElem_of_mem ((mem_numsOf b x.num).2 ⟨x, hx, rfl⟩)
    obtain ⟨j, hj, ej⟩ := List.getElem_of_mem ((mem_numsOf b y.num).2 ⟨y, hy, rfl⟩)
    have hs := List.pairwise_iff_getElem.1 (numsOf_sorted b)
    have hji : j < i := by
      rcases Nat.lt_trichotomy i j with hij | hij | hij
      · have := hs i j hi hj hij; omega
      · subst hij; omega
      · exact hij
    have := day_le hd (i - j) j (by omega)
    have e : j + (i - j) = i := by omega
    simp only [e, ei, ej] at this
    rw [getC_self hu hx, getC_self hu hy] at this
    omega

end Go.Proofs.Ytmcnpfjichbijaa

/- Plain laws: a valid book; what holds, by its own words; spans by their ends. No Go here. -/
set_option linter.unusedSimpArgs false
set_option linter.unusedVariables false
namespace Go.Proofs.Ytmcnpfjichbijaa

/-- A book without an error. -/
structure Vb (b : Bk) : Prop where
  il : b.items.length ≤ 8
  cl : b.certs.length ≤ 24
  it : ∀ x ∈ b.items, itmOk x = true
  ct : ∀ c ∈ b.certs, crtOk b c = true
  uq : ∀ x ∈ b.certs, ∀ y ∈ b.certs, x.num = y.num → x = y
  dy : ∀ x ∈ b.certs, ∀ y ∈ b.certs, y.num < x.num → y.day ≤ x.day

theorem fault_iff (b : Bk) : fault b = 0 ↔ Vb b := by
  constructor
  · intro h
    unfold fault at h
    split at h
    · exact absurd h (by decide)
    · split at h
      · exact absurd h (by decide)
      · split at h
        · exact absurd h (by decide)
        · rename_i h1 h2 h3
          simp only [Bool.and_eq_false_iff, not_or, Bool.not_eq_false, List.all_eq_true] at h2
          have hc : ∀ x ∈ b.certs, ∀ y ∈ b.certs, clash x y = false := fun x hx y hy => by
            cases hh : clash x y
            · rfl
            · exact absurd (List.any_eq_true.2 ⟨x, hx, List.any_eq_true.2 ⟨y, hy, hh⟩⟩) h3
          refine ⟨by omega, by omega, h2.1, h2.2, fun x hx y hy e => ?_, fun x hx y hy e => ?_⟩
          · have := hc x hx y hy
            unfold clash at this
            simp [e] at this
            exact this
          · have := hc x hx y hy
            unfold clash at this
            simp at this
            have := this.2 e
            omega
  · intro h
    unfold fault
    rw [if_neg (by have := h.il; have := h.cl; omega), if_neg, if_neg]
    · intro hc
      obtain ⟨x, hx, hc⟩ := List.any_eq_true.1 hc
      obtain ⟨y, hy, hc⟩ := List.any_eq_true.1 hc
      unfold clash at hc
      simp only [Bool.or_eq_true, Bool.and_eq_true, beq_iff_eq, bne_iff_ne, decide_eq_true_eq] at hc
      rcases hc with ⟨h1, h2⟩ | ⟨h1, h2⟩
      · exact h2 (h.uq x hx y hy h1)
      · have := h.dy x hx y hy h1; omega
    · simp only [Bool.and_eq_false_iff, not_or, Bool.not_eq_false, List.all_eq_true]
      exact ⟨h.it, h.ct⟩

theorem addN_nodup {l : List Int} (h : l.Nodup) (c : Crt) : (addN l c).Nodup := by
  unfold addN
  split
  · exact h
  · rename_i hn
    exact List.nodup_append.2 ⟨h, by simp, fun a ha b hb e => by simp at hb; subst hb; subst e; exact hn ha⟩
theorem foldl_addN_nodup : ∀ (cs : List Crt) (l : List Int), l.Nodup → (cs.foldl addN l).Nodup
  | [], l, h => h
  | c :: cs, l, h => foldl_addN_nodup cs _ (addN_nodup h c)
theorem firsts_nodup (cs : List Crt) : (firsts cs).Nodup := foldl_addN_nodup cs [] List.nodup_nil

/-- The numbers rise. -/
theorem numsOf_lt (b : Bk) : (numsOf b).Pairwise (· < ·) := by
  have h1 := numsOf_sorted b
  have h2 : (numsOf b).Nodup := (List.mergeSort_perm (firsts b.certs) _).nodup_iff.2 (firsts_nodup b.certs)
  exact (h1.and h2).imp fun ⟨h, k⟩ => by omega

/-- Two rising lists of the same numbers are one. -/
theorem sorted_ext : ∀ {l m : List Int}, l.Pairwise (· < ·) → m.Pairwise (· < ·) → (∀ n, n ∈ l ↔ n ∈ m) → l = m
  | [], [], _, _, _ => rfl
  | [], y :: m, _, _, h => by have := (h y).2 (by simp); simp at this
  | x :: l, [], _, _, h => by have := (h x).1 (by simp); simp at this
  | x :: l, y :: m, hl, hm, h => by
    obtain ⟨hx, hl'⟩ := List.pairwise_cons.1 hl
    obtain ⟨hy, hm'⟩ := List.pairwise_cons.1 hm
    have e : x = y := by
      rcases List.mem_cons.1 ((h x).1 (by simp)) with e | e
      · exact e
      · rcases List.mem_cons.1 ((h y).2 (by simp)) with e' | e'
        · exact e'.symm
        · have := hx y e'; have := hy x e; omega
    subst e
    congr 1
    refine sorted_ext hl' hm' fun n => ⟨fun hn => ?_, fun hn => ?_⟩
    · rcases List.mem_cons.1 ((h n).1 (by simp [hn])) with e | e
      · have := hx n hn; omega
      · exact e
    · rcases List.mem_cons.1 ((h n).2 (by simp [hn])) with e | e
      · have := hy n hn; omega
      · exact e

/-- The book's certificate. -/
structure IsC (b : Bk) (c : Crt) : Prop where
  mem : c ∈ b.certs
  get : getC b c.num = c
theorem Vb.isC {b : Bk} (v : Vb b) {c : Crt} (h : c ∈ b.certs) : IsC b c := ⟨h, getC_self v.uq h⟩
theorem Vb.num {b : Bk} (v : Vb b) {n : Int} (h : n ∈ numsOf b) : (getC b n).num = n ∧ getC b n ∈ b.certs := ⟨(getC_spec h).1, (getC_spec h).2.1⟩

/-- What a certificate of a valid book has. -/
structure CrtOk (b : Bk) (c : Crt) : Prop where
  n1 : 1 ≤ c.num
  n2 : c.num ≤ 999
  i1 : 0 ≤ c.item
  i2 : c.item < b.items.length
  is : stdOf b c.item = false
  b1 : 0 ≤ c.by_
  b2 : c.by_ < b.items.length
  ne : c.by_ ≠ c.item
  d1 : 0 ≤ c.day
  d2 : c.day ≤ 1000
  v1 : 0 ≤ c.valid
  v2 : c.valid ≤ 1000
  l1 : -100000 ≤ c.diff.lo
  l2 : c.diff.lo ≤ c.diff.hi
  l3 : c.diff.hi ≤ 100000
theorem crtOk_iff (b : Bk) (c : Crt) : crtOk b c = true ↔ CrtOk b c := by
  simp only [crtOk, spanOk, inB, Bool.and_eq_true, decide_eq_true_eq, Bool.not_eq_true', bne_iff_ne, ne_eq]
  constructor
  · rintro ⟨⟨⟨⟨⟨⟨⟨h1, h2⟩, h3⟩, h4⟩, h5⟩, h6⟩, h7⟩, ⟨h8, h9⟩, h10⟩
    exact ⟨by omega, by omega, by omega, by omega, h3, by omega, by omega, h5, by omega, by omega, by omega, by omega, by omega, by omega, by omega⟩
  · rintro ⟨h1, h2, h3, h4, h5, h6, h7, h8, h9, h10, h11, h12, h13, h14, h15⟩
    exact ⟨⟨⟨⟨⟨⟨⟨by omega, by omega⟩, h5⟩, by omega⟩, h8⟩, by omega⟩, by omega⟩, ⟨by omega, by omega⟩, by omega⟩
theorem Vb.ok {b : Bk} (v : Vb b) {n : Int} (h : n ∈ numsOf b) : CrtOk b (getC b n) := (crtOk_iff b _).1 (v.ct _ (getC_spec h).2.1)
theorem Vb.rng {b : Bk} (v : Vb b) {n : Int} (h : n ∈ numsOf b) : 1 ≤ n ∧ n ≤ 999 := by
  have h1 := v.ok h; have h2 := (getC_spec h).1; have := h1.n1; have := h1.n2; omega
theorem Vb.day {b : Bk} (v : Vb b) {m n : Int} (hm : m ∈ numsOf b) (hn : n ∈ numsOf b) (h : m < n) : (getC b m).day ≤ (getC b n).day :=
  v.dy _ (getC_spec hn).2.1 _ (getC_spec hm).2.1 (by rw [(getC_spec hn).1, (getC_spec hm).1]; exact h)

/-- Numbers, one by one from below. -/
theorem Vb.ind {b : Bk} (v : Vb b) {P : Int → Prop} (h : ∀ n ∈ numsOf b, (∀ m ∈ numsOf b, m < n → P m) → P n) : ∀ n ∈ numsOf b, P n := by
  have : ∀ k : Nat, ∀ n ∈ numsOf b, n.toNat < k → P n := by
    intro k
    induction k with
    | zero => intro n _ h; omega
    | succ k ih =>
      intro n hn hk
      refine h n hn fun m hm hmn => ih m hm ?_
      have := v.rng hm
      omega
  exact fun n hn => this (n.toNat + 1) n hn (by omega)

/-- What is set one by one, each by the lesser ones. -/
theorem fold_fix {α : Type} (F : (Int → α) → Int → α) (P : Int → Bool) (d : α) (hF : ∀ f g n, (∀ m, m < n → f m = g m) → F f n = F g n) : ∀ (L : List Int), L.reverse.Pairwise (· > ·) →
    (∀ n ∈ L, P n = true → L.foldl (fun f n j => if j = n ∧ P n = true then F f n else f j) (fun _ => d) n = F (L.foldl (fun f n j => if j = n ∧ P n = true then F f n else f j) (fun _ => d)) n) ∧
      ∀ n, ¬ (n ∈ L ∧ P n = true) → L.foldl (fun f n j => if j = n ∧ P n = true then F f n else f j) (fun _ => d) n = d := by
  intro L
  obtain ⟨M, rfl⟩ : ∃ M, L = M.reverse := ⟨L.reverse, by simp⟩
  rw [List.reverse_reverse]
  induction M with
  | nil => intro _; exact ⟨by simp, by simp⟩
  | cons x M ih =>
    intro hp
    obtain ⟨hx, hp⟩ := List.pairwise_cons.1 hp
    obtain ⟨i1, i2⟩ := ih hp
    rw [List.reverse_cons, List.foldl_append]
    simp only [List.foldl_cons, List.foldl_nil]
    generalize M.reverse.foldl (fun f n j => if j = n ∧ P n = true then F f n else f j) (fun _ => d) = g at i1 i2 ⊢
    have hlow : ∀ n, n ≤ x → F (fun j => if j = x ∧ P x = true then F g x else g j) n = F g n := fun n hn => hF _ _ _ fun m hm => by rw [if_neg (by rintro ⟨e, _⟩; omega)]
    refine ⟨fun n hn hP => ?_, fun n hn => ?_⟩
    · by_cases e : n = x
      · subst e; rw [if_pos ⟨rfl, hP⟩, hlow _ (Int.le_refl _)]
      · have hm : n ∈ M.reverse := by simpa [e] using hn
        have := hx n (by simpa using hm)
        rw [if_neg (fun h => e h.1), hlow n (by omega)]
        exact i1 n hm hP
    · rw [if_neg (by rintro ⟨e, h⟩; exact hn ⟨by simp [e], by rw [e]; exact h⟩)]
      exact i2 n fun ⟨h1, h2⟩ => hn ⟨by simp at h1; simp [h1], h2⟩

theorem rev_gt {L : List Int} (h : L.Pairwise (· < ·)) : L.reverse.Pairwise (· > ·) := List.pairwise_reverse.2 h

theorem mem_ofN (cf : Int → Crt) (nums : List Int) (item day below n : Int) : n ∈ ofN cf nums item day below ↔ n ∈ nums ∧ n < below ∧ (cf n).item = item ∧ onB (cf n) day = true := by
  simp [ofN, and_assoc]

theorem any_ofN_congr (cf : Int → Crt) (nums : List Int) (item day below : Int) {f g : Int → Bool} (h : ∀ m, m < below → f m = g m) : (ofN cf nums item day below).any f = (ofN cf nums item day below).any g := by
  rw [Bool.eq_iff_iff, List.any_eq_true, List.any_eq_true]
  constructor
  · rintro ⟨m, hm, hf⟩; exact ⟨m, hm, by rw [← h m ((mem_ofN ..).1 hm).2.1]; exact hf⟩
  · rintro ⟨m, hm, hf⟩; exact ⟨m, hm, by rw [h m ((mem_ofN ..).1 hm).2.1]; exact hf⟩

theorem holds_fold (b : Bk) (bad : Int → Bool) : holds b bad = (numsOf b).foldl (fun f n j => if j = n ∧ (fun _ => true) n = true then ((stdOf b (getC b n).by_ || (ofN (getC b) (numsOf b) (getC b n).by_ (getC b n).day n).any f) && !bad n) else f j) (fun _ => false) := by
  unfold holds holdStep; simp

/-- What holds, by its own words. -/
theorem holds_iff (b : Bk) (bad : Int → Bool) (n : Int) : holds b bad n = true ↔ n ∈ numsOf b ∧ bad n = false ∧
    (stdOf b (getC b n).by_ = true ∨ ∃ m ∈ numsOf b, m < n ∧ (getC b m).item = (getC b n).by_ ∧ onB (getC b m) (getC b n).day = true ∧ holds b bad m = true) := by
  have h := fold_fix (fun f n => ((stdOf b (getC b n).by_ || (ofN (getC b) (numsOf b) (getC b n).by_ (getC b n).day n).any f) && !bad n)) (fun _ => true) false
    (fun f g n hfg => by rw [any_ofN_congr _ _ _ _ _ hfg]) (numsOf b) (rev_gt (numsOf_lt b))
  rw [← holds_fold] at h
  by_cases hn : n ∈ numsOf b
  · rw [h.1 n hn rfl]
    simp only [Bool.and_eq_true, Bool.or_eq_true, List.any_eq_true, mem_ofN, Bool.not_eq_true', hn, true_and]
    constructor
    · rintro ⟨h1 | ⟨m, ⟨h1, h2, h3, h4⟩, h5⟩, h6⟩
      · exact ⟨h6, .inl h1⟩
      · exact ⟨h6, .inr ⟨m, h1, h2, h3, h4, h5⟩⟩
    · rintro ⟨h6, h1 | ⟨m, h1, h2, h3, h4, h5⟩⟩
      · exact ⟨.inl h1, h6⟩
      · exact ⟨.inr ⟨m, ⟨h1, h2, h3, h4⟩, h5⟩, h6⟩
  · rw [h.2 n (by simp [hn])]
    simp [hn]

theorem holds_mem {b : Bk} {bad : Int → Bool} {n : Int} (h : holds b bad n = true) : n ∈ numsOf b := ((holds_iff b bad n).1 h).1

theorem reach_iff (b : Bk) (item at_ : Int) (v : Vb b) : reach b item at_ = true ↔ stdOf b item = true ∨ ∃ m ∈ numsOf b, (getC b m).item = item ∧ onB (getC b m) at_ = true ∧ held0 b m = true := by
  unfold reach held0
  simp only [Bool.or_eq_true, List.any_eq_true, mem_ofN]
  constructor
  · rintro (h | ⟨m, ⟨h1, h2, h3, h4⟩, h5⟩)
    · exact .inl h
    · exact .inr ⟨m, h1, h3, h4, h5⟩
  · rintro (h | ⟨m, h1, h3, h4, h5⟩)
    · exact .inl h
    · exact .inr ⟨m, ⟨h1, by have := v.rng h1; omega, h3, h4⟩, h5⟩

/-! ### spans -/
theorem foldl_cut_lo (b : Bk) (h : Int → Bool) (sp : Int → Rng) (item day : Int) : ∀ (l : List Int) (r : Rng) (x : Int),
    (l.foldl (spanStep b h sp item day) r).lo ≤ x ↔ r.lo ≤ x ∧ ∀ n ∈ l, h n = true → (sp n).lo - (itmOf b item).drift * (day - (getC b n).day) ≤ x
  | [], r, x => by simp
  | n :: l, r, x => by
    rw [List.foldl_cons, foldl_cut_lo b h sp item day l]
    unfold spanStep
    by_cases hn : h n = true
    · rw [if_pos hn]
      simp only [cutR, widerR, List.forall_mem_cons]
      constructor
      · rintro ⟨h1, h2⟩; exact ⟨by omega, fun _ => by omega, h2⟩
      · rintro ⟨h1, h2, h3⟩; have := h2 hn; exact ⟨by omega, h3⟩
    · rw [if_neg hn]
      simp only [List.forall_mem_cons]
      constructor
      · rintro ⟨h1, h2⟩; exact ⟨h1, fun h => absurd h hn, h2⟩
      · rintro ⟨h1, h2, h3⟩; exact ⟨h1, h3⟩
theorem foldl_cut_hi (b : Bk) (h : Int → Bool) (sp : Int → Rng) (item day : Int) : ∀ (l : List Int) (r : Rng) (x : Int),
    x ≤ (l.foldl (spanStep b h sp item day) r).hi ↔ x ≤ r.hi ∧ ∀ n ∈ l, h n = true → x ≤ (sp n).hi + (itmOf b item).drift * (day - (getC b n).day)
  | [], r, x => by simp
  | n :: l, r, x => by
    rw [List.foldl_cons, foldl_cut_hi b h sp item day l]
    unfold spanStep
    by_cases hn : h n = true
    · rw [if_pos hn]
      simp only [cutR, widerR, List.forall_mem_cons]
      constructor
      · rintro ⟨h1, h2⟩; exact ⟨by omega, fun _ => by omega, h2⟩
      · rintro ⟨h1, h2, h3⟩; have := h2 hn; exact ⟨by omega, h3⟩
    · rw [if_neg hn]
      simp only [List.forall_mem_cons]
      constructor
      · rintro ⟨h1, h2⟩; exact ⟨h1, fun h => absurd h hn, h2⟩
      · rintro ⟨h1, h2, h3⟩; exact ⟨h1, h3⟩

/-- What an item's span is made of. -/
def Part (b : Bk) (h : Int → Bool) (item day below n : Int) : Prop := n ∈ numsOf b ∧ n < below ∧ (getC b n).item = item ∧ onB (getC b n) day = true ∧ h n = true

theorem span_lo {b : Bk} {h : Int → Bool} {sp : Int → Rng} {item day below : Int} (hs : stdOf b item = false) (x : Int) :
    (spanBy b h sp item day below).lo ≤ x ↔ -1099511627776 ≤ x ∧ ∀ n, Part b h item day below n → (sp n).lo - (itmOf b item).drift * (day - (getC b n).day) ≤ x := by
  unfold spanBy
  rw [if_neg (by rw [hs]; simp), foldl_cut_lo]
  refine and_congr Iff.rfl ⟨fun k n hp => k n ((mem_ofN ..).2 ⟨hp.1, hp.2.1, hp.2.2.1, hp.2.2.2.1⟩) hp.2.2.2.2, fun k n hn hh => ?_⟩
  obtain ⟨h1, h2, h3, h4⟩ := (mem_ofN ..).1 hn
  exact k n ⟨h1, h2, h3, h4, hh⟩
theorem span_hi {b : Bk} {h : Int → Bool} {sp : Int → Rng} {item day below : Int} (hs : stdOf b item = false) (x : Int) :
    x ≤ (spanBy b h sp item day below).hi ↔ x ≤ 1099511627776 ∧ ∀ n, Part b h item day below n → x ≤ (sp n).hi + (itmOf b item).drift * (day - (getC b n).day) := by
  unfold spanBy
  rw [if_neg (by rw [hs]; simp), foldl_cut_hi]
  refine and_congr Iff.rfl ⟨fun k n hp => k n ((mem_ofN ..).2 ⟨hp.1, hp.2.1, hp.2.2.1, hp.2.2.2.1⟩) hp.2.2.2.2, fun k n hn hh => ?_⟩
  obtain ⟨h1, h2, h3, h4⟩ := (mem_ofN ..).1 hn
  exact k n ⟨h1, h2, h3, h4, hh⟩
theorem span_std {b : Bk} {h : Int → Bool} {sp : Int → Rng} {item day below : Int} (hs : stdOf b item = true) : spanBy b h sp item day below = (itmOf b item).val := by
  unfold spanBy; rw [if_pos hs]

theorem spanBy_congr {b : Bk} {h : Int → Bool} {f g : Int → Rng} {item day below : Int} (hfg : ∀ m, m < below → f m = g m) : spanBy b h f item day below = spanBy b h g item day below := by
  unfold spanBy
  split
  · rfl
  · have : ∀ (l : List Int) (r : Rng), (∀ m ∈ l, m < below) → l.foldl (spanStep b h f item day) r = l.foldl (spanStep b h g item day) r := by
      intro l
      induction l with
      | nil => intro r _; rfl
      | cons n l ih =>
        intro r hl
        rw [List.foldl_cons, List.foldl_cons, ih _ fun m hm => hl m (by simp [hm])]
        congr 1
        unfold spanStep
        rw [hfg n (hl n (by simp))]
    exact this _ _ fun m hm => ((mem_ofN ..).1 hm).2.1

/-- A certificate's span, by its own words. -/
theorem spansOf_eq (b : Bk) {n : Int} (h : held0 b n = true) : spansOf b n = plusR (spanBy b (held0 b) (spansOf b) (getC b n).by_ (getC b n).day n) (getC b n).diff := by
  have hf := fold_fix (fun f n => plusR (spanBy b (held0 b) f (getC b n).by_ (getC b n).day n) (getC b n).diff) (held0 b) (⟨0, 0⟩ : Rng)
    (fun f g n hfg => by rw [spanBy_congr hfg]) (numsOf b) (rev_gt (numsOf_lt b))
  exact hf.1 n (holds_mem h) h

theorem contra_iff (b : Bk) : contra b = true ↔ ∃ n, held0 b n = true ∧ (spanAt b (getC b n).item (getC b n).day).hi < (spanAt b (getC b n).item (getC b n).day).lo := by
  unfold contra spanAt
  simp only [List.any_eq_true, Bool.and_eq_true, decide_eq_true_eq]
  constructor
  · rintro ⟨n, _, h1, h2⟩; exact ⟨n, h1, h2⟩
  · rintro ⟨n, h1, h2⟩; exact ⟨n, holds_mem h1, h1, h2⟩
end Go.Proofs.Ytmcnpfjichbijaa

/- Plain laws: what the document's own words reckon: what holds. No Go here. -/
set_option linter.unusedSimpArgs false
set_option linter.unusedVariables false
namespace Go.Proofs.Ytmcnpfjichbijaa

/-- Does a certificate hold, if those with lesser numbers that hold are known? -/
def refHolds (b : Bk) (c : Crt) (bad held : List Int) : Bool :=
  (stdOf b c.by_ || b.certs.any fun o => restsB c o && decide (o.num ∈ held)) && !decide (c.num ∈ bad)

/-- Does a number? -/
def refIs (b : Bk) (bad out : List Int) (n : Int) : Bool := b.certs.any fun c => c.num == n && refHolds b c bad out

/-- The numbers up to k that hold. -/
def refTo (b : Bk) (bad : List Int) : Nat → List Int
  | 0 => []
  | k + 1 => if refIs b bad (refTo b bad k) (k + 1) then refTo b bad k ++ [(k + 1 : Int)] else refTo b bad k

/-- The numbers that hold. -/
def heldL (b : Bk) (bad : List Int) : List Int := (numsOf b).filter (holds b fun n => decide (n ∈ bad))

theorem mem_heldL (b : Bk) (bad : List Int) (n : Int) : n ∈ heldL b bad ↔ holds b (fun n => decide (n ∈ bad)) n = true := by
  unfold heldL
  rw [List.mem_filter]
  exact ⟨fun h => h.2, fun h => ⟨holds_mem h, h⟩⟩

theorem refTo_spec {b : Bk} (v : Vb b) (bad : List Int) : ∀ k : Nat, (refTo b bad k).Pairwise (· < ·) ∧ ∀ n, n ∈ refTo b bad k ↔ holds b (fun n => decide (n ∈ bad)) n = true ∧ n ≤ k
  | 0 => by
    refine ⟨List.Pairwise.nil, fun n => ⟨fun h => by simp [refTo] at h, fun ⟨h, hk⟩ => ?_⟩⟩
    have := v.rng (holds_mem h)
    omega
  | k + 1 => by
    obtain ⟨h1, h2⟩ := refTo_spec v bad k
    have key : refIs b bad (refTo b bad k) (k + 1) = holds b (fun n => decide (n ∈ bad)) (k + 1) := by
      rw [Bool.eq_iff_iff, holds_iff]
      unfold refIs refHolds restsB
      simp only [List.any_eq_true, Bool.and_eq_true, beq_iff_eq, Bool.or_eq_true, decide_eq_true_eq, Bool.not_eq_true', decide_eq_false_iff_not, h2]
      constructor
      · rintro ⟨c, hc, e, h, hb⟩
        have hg := (v.isC hc).get
        rw [e] at hg
        rw [hg]
        rw [e] at hb
        refine ⟨(mem_numsOf b _).2 ⟨c, hc, e⟩, hb, ?_⟩
        rcases h with h | ⟨o, ho, ⟨⟨h3, h4⟩, h5⟩, h6, h7⟩
        · exact .inl h
        · have hgo := (v.isC ho).get
          exact .inr ⟨o.num, (mem_numsOf b _).2 ⟨o, ho, rfl⟩, by omega, by rw [hgo]; exact h3, by rw [hgo]; exact h5, h6⟩
      · rintro ⟨hm, hb, h⟩
        obtain ⟨e, hc⟩ := v.num hm
        refine ⟨getC b (k + 1), hc, e, ?_, by rw [e]; exact hb⟩
        rcases h with h | ⟨m, h3, h4, h5, h6, h7⟩
        · exact .inl h
        · obtain ⟨em, hcm⟩ := v.num h3
          exact .inr ⟨getC b m, hcm, ⟨⟨h5, by rw [em, e]; exact h4⟩, h6⟩, by rw [em]; exact h7, by rw [em]; omega⟩
    unfold refTo
    rw [key]
    by_cases hh : holds b (fun n => decide (n ∈ bad)) (k + 1) = true
    · rw [if_pos hh]
      refine ⟨List.pairwise_append.2 ⟨h1, by simp, fun a ha c hc => ?_⟩, fun n => ?_⟩
      · have := ((h2 a).1 ha).2
        simp at hc; omega
      · rw [List.mem_append, h2, List.mem_singleton]
        constructor
        · rintro (⟨h3, h4⟩ | rfl)
          · exact ⟨h3, by omega⟩
          · exact ⟨hh, by omega⟩
        · rintro ⟨h3, h4⟩
          by_cases e : n = (k : Int) + 1
          · exact .inr e
          · exact .inl ⟨h3, by omega⟩
    · rw [if_neg hh]
      refine ⟨h1, fun n => ?_⟩
      rw [h2]
      constructor
      · rintro ⟨h3, h4⟩; exact ⟨h3, by omega⟩
      · rintro ⟨h3, h4⟩
        refine ⟨h3, ?_⟩
        have : n ≠ (k : Int) + 1 := fun e => hh (e ▸ h3)
        omega

/-- All numbers that hold. -/
theorem refTo_all {b : Bk} (v : Vb b) (bad : List Int) : refTo b bad 999 = heldL b bad := by
  obtain ⟨h1, h2⟩ := refTo_spec v bad 999
  refine sorted_ext h1 ((numsOf_lt b).filter _) fun n => ?_
  rw [h2, mem_heldL]
  exact ⟨fun h => h.1, fun h => ⟨h, by have := v.rng (holds_mem h); omega⟩⟩

/-! ### spans, by the document's words -/
/-- A span narrowed by the certificates of a list. -/
def refSpanStep (b : Bk) (h : Int → Bool) (sp : Int → Rng) (item day below : Int) (out : Rng) (c : Crt) : Rng :=
  if c.item = item ∧ c.num < below ∧ onB c day = true ∧ h c.num = true then ⟨max out.lo ((sp c.num).lo - (itmOf b item).drift * (day - c.day)), min out.hi ((sp c.num).hi + (itmOf b item).drift * (day - c.day))⟩ else out

def refSpan (b : Bk) (h : Int → Bool) (sp : Int → Rng) (item day below : Int) : Rng :=
  if stdOf b item then (itmOf b item).val else b.certs.foldl (refSpanStep b h sp item day below) everyR

theorem refSpan_lo (b : Bk) (h : Int → Bool) (sp : Int → Rng) (item day below : Int) : ∀ (l : List Crt) (r : Rng) (x : Int),
    (l.foldl (refSpanStep b h sp item day below) r).lo ≤ x ↔ r.lo ≤ x ∧ ∀ c ∈ l, (c.item = item ∧ c.num < below ∧ onB c day = true ∧ h c.num = true) → (sp c.num).lo - (itmOf b item).drift * (day - c.day) ≤ x
  | [], r, x => by simp
  | n :: l, r, x => by
    rw [List.foldl_cons, refSpan_lo b h sp item day below l, List.forall_mem_cons]
    unfold refSpanStep
    split
    · rename_i hc
      constructor
      · rintro ⟨h1, h2⟩
        dsimp only at h1
        exact ⟨by omega, fun _ => by omega, h2⟩
      · rintro ⟨h1, h2, h3⟩; have := h2 hc; exact ⟨by dsimp only; omega, h3⟩
    · rename_i hc
      constructor
      · rintro ⟨h1, h2⟩; exact ⟨h1, fun h => absurd h hc, h2⟩
      · rintro ⟨h1, h2, h3⟩; exact ⟨h1, h3⟩
theorem refSpan_hi (b : Bk) (h : Int → Bool) (sp : Int → Rng) (item day below : Int) : ∀ (l : List Crt) (r : Rng) (x : Int),
    x ≤ (l.foldl (refSpanStep b h sp item day below) r).hi ↔ x ≤ r.hi ∧ ∀ c ∈ l, (c.item = item ∧ c.num < below ∧ onB c day = true ∧ h c.num = true) → x ≤ (sp c.num).hi + (itmOf b item).drift * (day - c.day)
  | [], r, x => by simp
  | n :: l, r, x => by
    rw [List.foldl_cons, refSpan_hi b h sp item day below l, List.forall_mem_cons]
    unfold refSpanStep
    split
    · rename_i hc
      constructor
      · rintro ⟨h1, h2⟩
        dsimp only at h1
        exact ⟨by omega, fun _ => by omega, h2⟩
      · rintro ⟨h1, h2, h3⟩; have := h2 hc; exact ⟨by dsimp only; omega, h3⟩
    · rename_i hc
      constructor
      · rintro ⟨h1, h2⟩; exact ⟨h1, fun h => absurd h hc, h2⟩
      · rintro ⟨h1, h2, h3⟩; exact ⟨h1, h3⟩

theorem part_iff {b : Bk} (v : Vb b) (h : Int → Bool) (item day below : Int) (P : Int → Int → Prop) :
    (∀ c ∈ b.certs, (c.item = item ∧ c.num < below ∧ onB c day = true ∧ h c.num = true) → P c.num c.day) ↔ ∀ n, Part b h item day below n → P n (getC b n).day := by
  constructor
  · intro k n ⟨h1, h2, h3, h4, h5⟩
    obtain ⟨e, hc⟩ := v.num h1
    have := k (getC b n) hc ⟨h3, by rw [e]; exact h2, h4, by rw [e]; exact h5⟩
    rwa [e] at this
  · intro k c hc ⟨h1, h2, h3, h4⟩
    have hg := (v.isC hc).get
    have := k c.num ⟨(mem_numsOf b _).2 ⟨c, hc, rfl⟩, h2, by rw [hg]; exact h1, by rw [hg]; exact h3, h4⟩
    rwa [hg] at this

theorem rng_ext {a b : Rng} (h1 : ∀ x, a.lo ≤ x ↔ b.lo ≤ x) (h2 : ∀ x, x ≤ a.hi ↔ x ≤ b.hi) : a = b := by
  have e1 : a.lo = b.lo := by have := (h1 a.lo).1 (Int.le_refl _); have := (h1 b.lo).2 (Int.le_refl _); omega
  have e2 : a.hi = b.hi := by have := (h2 a.hi).1 (Int.le_refl _); have := (h2 b.hi).2 (Int.le_refl _); omega
  cases a; cases b; simp_all

/-- The document's span is the program's. -/
theorem refSpan_eq {b : Bk} (v : Vb b) (h : Int → Bool) (sp : Int → Rng) (item day below : Int) : refSpan b h sp item day below = spanBy b h sp item day below := by
  cases hs : stdOf b item
  · unfold refSpan
    rw [if_neg (by rw [hs]; simp)]
    refine rng_ext (fun x => ?_) fun x => ?_
    · rw [refSpan_lo, span_lo hs, part_iff v h item day below fun n d => (sp n).lo - (itmOf b item).drift * (day - d) ≤ x]
      rfl
    · rw [refSpan_hi, span_hi hs, part_iff v h item day below fun n d => x ≤ (sp n).hi + (itmOf b item).drift * (day - d)]
      rfl
  · unfold refSpan
    rw [if_pos hs, span_std hs]
end Go.Proofs.Ytmcnpfjichbijaa

/- Plain laws: books of the same certificates tell the same; a book without a certificate. No Go here. -/
set_option linter.unusedSimpArgs false
set_option linter.unusedVariables false
namespace Go.Proofs.Ytmcnpfjichbijaa

theorem getC_not {b : Bk} {n : Int} (h : n ∉ numsOf b) : getC b n = ⟨0, 0, 0, 0, 0, ⟨0, 0⟩⟩ := by
  rw [numsOf_eq, mem_sortI, ← look_isSome] at h
  rw [getC_look]
  cases hl : look b.certs n with
  | none => rfl
  | some c => simp [hl] at h

/-- The same items, numbers and certificates. -/
structure Same (b x : Bk) : Prop where
  it : b.items = x.items
  ns : numsOf b = numsOf x
  gc : getC b = getC x

theorem Same.std {b x : Bk} (s : Same b x) : stdOf b = stdOf x := by funext i; unfold stdOf; rw [s.it]
theorem Same.itm {b x : Bk} (s : Same b x) : itmOf b = itmOf x := by funext i; unfold itmOf; rw [s.it]
theorem Same.holds {b x : Bk} (s : Same b x) : holds b = holds x := by
  funext bad; unfold Ytmcnpfjichbijaa.holds
  have : holdStep b bad = holdStep x bad := by funext h n j; unfold holdStep; rw [s.std, s.gc, s.ns]
  rw [this, s.ns]
theorem Same.held0 {b x : Bk} (s : Same b x) : held0 b = held0 x := by unfold Ytmcnpfjichbijaa.held0; rw [s.holds]
theorem Same.spanBy {b x : Bk} (s : Same b x) : spanBy b = spanBy x := by
  funext h sp item day below
  unfold Ytmcnpfjichbijaa.spanBy
  have : spanStep b h sp item day = spanStep x h sp item day := by funext r n; unfold spanStep; rw [s.itm, s.gc]
  rw [this, s.std, s.itm, s.gc, s.ns]
theorem Same.spansOf {b x : Bk} (s : Same b x) : spansOf b = spansOf x := by
  unfold Ytmcnpfjichbijaa.spansOf
  have : spansStep b = spansStep x := by funext h sp n j; unfold spansStep; rw [s.spanBy, s.gc]
  rw [this, s.held0, s.ns]
theorem Same.contra {b x : Bk} (s : Same b x) : contra b = contra x := by
  unfold Ytmcnpfjichbijaa.contra; rw [s.ns, s.held0, s.spanBy, s.spansOf, s.gc]
theorem Same.spanAt {b x : Bk} (s : Same b x) : spanAt b = spanAt x := by
  funext i d; unfold Ytmcnpfjichbijaa.spanAt; rw [s.spanBy, s.held0, s.spansOf]
theorem Same.reach {b x : Bk} (s : Same b x) : reach b = reach x := by
  funext i d; unfold Ytmcnpfjichbijaa.reach; rw [s.std, s.gc, s.ns, s.holds]
theorem Same.endsOf {b x : Bk} (s : Same b x) : endsOf b = endsOf x := by
  unfold Ytmcnpfjichbijaa.endsOf
  have : endsStep b = endsStep x := by funext h sp n j; unfold endsStep endOf; rw [s.gc, s.std, s.ns]
  rw [this, s.held0, s.ns]
theorem Same.bestOf {b x : Bk} (s : Same b x) : bestOf b = bestOf x := by
  funext i d; unfold Ytmcnpfjichbijaa.bestOf; rw [s.std, s.gc, s.ns, s.held0, s.endsOf]
theorem Same.askErr {b x : Bk} (s : Same b x) (hf : fault b = fault x) : askErr b = askErr x := by
  funext i d; unfold Ytmcnpfjichbijaa.askErr; rw [hf, s.it, s.reach]
theorem Same.spanErr {b x : Bk} (s : Same b x) (hf : fault b = fault x) : spanErr b = spanErr x := by
  funext i d; unfold Ytmcnpfjichbijaa.spanErr; rw [s.askErr hf, s.contra]
theorem Same.heldL {b x : Bk} (s : Same b x) : heldL b = heldL x := by
  funext l; unfold Ytmcnpfjichbijaa.heldL; rw [s.ns, s.holds]

theorem mem_nums_drop {b : Bk} (m n : Int) : m ∈ numsOf (dropC b n) ↔ m ∈ numsOf b ∧ m ≠ n := by
  rw [mem_numsOf, mem_numsOf]
  unfold dropC
  simp only [List.mem_filter, bne_iff_ne]
  constructor
  · rintro ⟨c, ⟨h1, h2⟩, rfl⟩; exact ⟨⟨c, h1, rfl⟩, h2⟩
  · rintro ⟨⟨c, h1, rfl⟩, h2⟩; exact ⟨c, ⟨h1, h2⟩, rfl⟩
theorem getC_drop {b : Bk} {m n : Int} (h : m ≠ n) : getC (dropC b n) m = getC b m := by
  unfold getC dropC
  congr 1
  rw [List.find?_filter]
  congr 1
  funext c
  by_cases hc : c.num = m
  · subst hc; simp [h]
  · simp [hc]
theorem dropC_vb {b : Bk} (v : Vb b) (n : Int) : Vb (dropC b n) := by
  have hm : ∀ c, c ∈ (dropC b n).certs → c ∈ b.certs := fun c h => (List.mem_filter.1 h).1
  exact ⟨v.il, by have := List.length_filter_le (fun c : Crt => c.num != n) b.certs; have := v.cl; show (b.certs.filter _).length ≤ 24; omega, v.it,
    fun c h => by have := v.ct c (hm c h); exact this, fun x hx y hy => v.uq x (hm x hx) y (hm y hy), fun x hx y hy => v.dy x (hm x hx) y (hm y hy)⟩
theorem Same.drop {b x : Bk} (s : Same b x) (n : Int) : Same (dropC b n) (dropC x n) := by
  refine ⟨s.it, sorted_ext (numsOf_lt _) (numsOf_lt _) fun m => ?_, ?_⟩
  · rw [mem_nums_drop, mem_nums_drop, s.ns]
  · funext m
    by_cases e : m = n
    · rw [getC_not (by rw [mem_nums_drop]; simp [e]), getC_not (by rw [mem_nums_drop]; simp [e])]
    · rw [getC_drop e, getC_drop e, s.gc]
theorem Same.suspects {b x : Bk} (s : Same b x) : suspects b = suspects x := by
  unfold Ytmcnpfjichbijaa.suspects
  rw [s.ns]
  refine List.filter_congr fun n _ => ?_
  rw [(s.drop n).contra]
theorem Same.susErr {b x : Bk} (s : Same b x) (hf : fault b = fault x) : susErr b = susErr x := by
  unfold Ytmcnpfjichbijaa.susErr; rw [hf, s.contra]

/-- A book of the same certificates, in any order. -/
theorem same_of_mem {b x : Bk} (v : Vb b) (hi : b.items = x.items) (hl : x.certs.length ≤ 24) (h : ∀ c, c ∈ x.certs ↔ c ∈ b.certs) : Same b x ∧ Vb x := by
  have vx : Vb x := ⟨by rw [← hi]; exact v.il, hl, by rw [← hi]; exact v.it, fun c hc => by
    have := v.ct c ((h c).1 hc)
    unfold crtOk stdOf at this ⊢
    rw [← hi]; exact this, fun c hc d hd => v.uq c ((h c).1 hc) d ((h d).1 hd), fun c hc d hd => v.dy c ((h c).1 hc) d ((h d).1 hd)⟩
  have hn : ∀ n, n ∈ numsOf b ↔ n ∈ numsOf x := fun n => by
    rw [mem_numsOf, mem_numsOf]
    exact ⟨fun ⟨c, h1, h2⟩ => ⟨c, (h c).2 h1, h2⟩, fun ⟨c, h1, h2⟩ => ⟨c, (h c).1 h1, h2⟩⟩
  refine ⟨⟨hi, sorted_ext (numsOf_lt _) (numsOf_lt _) hn, ?_⟩, vx⟩
  funext n
  by_cases hm : n ∈ numsOf b
  · obtain ⟨e1, h1⟩ := v.num hm
    have h2 := getC_spec ((hn n).1 hm)
    exact v.uq _ h1 _ ((h _).1 h2.2.1) (by rw [e1, h2.1])
  · rw [getC_not hm, getC_not (fun h => hm ((hn n).2 h))]
end Go.Proofs.Ytmcnpfjichbijaa

/- Plain laws: more certificates; later certificates. No Go here. -/
set_option linter.unusedSimpArgs false
set_option linter.unusedVariables false
namespace Go.Proofs.Ytmcnpfjichbijaa

/-- All certificates of b are in x. -/
structure Sub (b x : Bk) : Prop where
  it : b.items = x.items
  ns : ∀ n ∈ numsOf b, n ∈ numsOf x
  gc : ∀ n ∈ numsOf b, getC b n = getC x n

theorem sub_of_mem {b x : Bk} (vb : Vb b) (vx : Vb x) (hi : b.items = x.items) (h : ∀ c ∈ b.certs, c ∈ x.certs) : Sub b x := by
  have hn : ∀ n ∈ numsOf b, n ∈ numsOf x := fun n hn => by
    rw [mem_numsOf] at hn ⊢
    obtain ⟨c, h1, h2⟩ := hn
    exact ⟨c, h c h1, h2⟩
  refine ⟨hi, hn, fun n hm => ?_⟩
  obtain ⟨e1, h1⟩ := vb.num hm
  obtain ⟨e2, h2⟩ := vx.num (hn n hm)
  exact vx.uq _ (h _ h1) _ h2 (by rw [e1, e2])

theorem Sub.std {b x : Bk} (s : Sub b x) : stdOf b = stdOf x := by funext i; unfold stdOf; rw [s.it]
theorem Sub.itm {b x : Bk} (s : Sub b x) : itmOf b = itmOf x := by funext i; unfold itmOf; rw [s.it]

theorem held0_iff (b : Bk) (n : Int) : held0 b n = true ↔ n ∈ numsOf b ∧
    (stdOf b (getC b n).by_ = true ∨ ∃ m ∈ numsOf b, m < n ∧ (getC b m).item = (getC b n).by_ ∧ onB (getC b m) (getC b n).day = true ∧ held0 b m = true) := by
  have := holds_iff b (fun _ => false) n
  simpa [held0] using this

theorem held0_mem {b : Bk} {n : Int} (h : held0 b n = true) : n ∈ numsOf b := ((held0_iff b n).1 h).1

/-- All that held still holds. -/
theorem Sub.held {b x : Bk} (v : Vb b) (s : Sub b x) : ∀ n, held0 b n = true → held0 x n = true := by
  have key := v.ind (P := fun n => held0 b n = true → held0 x n = true) fun n hn ih h => by
    rw [held0_iff] at h ⊢
    obtain ⟨_, h⟩ := h
    refine ⟨s.ns n hn, ?_⟩
    rw [← s.gc n hn, ← s.std]
    rcases h with h | ⟨m, h1, h2, h3, h4, h5⟩
    · exact .inl h
    · exact .inr ⟨m, s.ns m h1, h2, by rw [← s.gc m h1]; exact h3, by rw [← s.gc m h1]; exact h4, ih m h1 h2 h5⟩
  exact fun n h => key n (held0_mem h) h

/-- A range within another one. -/
def Narrow (a b : Rng) : Prop := b.lo ≤ a.lo ∧ a.hi ≤ b.hi

theorem Sub.span {b x : Bk} (v : Vb b) (s : Sub b x) {f g : Int → Rng} {item day below : Int} (h : ∀ n, Part b (held0 b) item day below n → Narrow (g n) (f n)) :
    Narrow (spanBy x (held0 x) g item day below) (spanBy b (held0 b) f item day below) := by
  cases hs : stdOf b item
  · have hs' : stdOf x item = false := by rw [← s.std]; exact hs
    have hp : ∀ n, Part b (held0 b) item day below n → Part x (held0 x) item day below n := fun n hp =>
      ⟨s.ns n hp.1, hp.2.1, by rw [← s.gc n hp.1]; exact hp.2.2.1, by rw [← s.gc n hp.1]; exact hp.2.2.2.1, s.held v n hp.2.2.2.2⟩
    constructor
    · rw [span_lo hs]
      obtain ⟨h1, h2⟩ := (span_lo hs' _).1 (Int.le_refl (spanBy x (held0 x) g item day below).lo)
      refine ⟨h1, fun n hn => ?_⟩
      have := h2 n (hp n hn)
      have := (h n hn).1
      rw [← s.gc n hn.1, ← s.itm] at *
      omega
    · rw [span_hi hs]
      obtain ⟨h1, h2⟩ := (span_hi hs' _).1 (Int.le_refl (spanBy x (held0 x) g item day below).hi)
      refine ⟨h1, fun n hn => ?_⟩
      have := h2 n (hp n hn)
      have := (h n hn).2
      rw [← s.gc n hn.1, ← s.itm] at *
      omega
  · rw [span_std hs, span_std (by rw [← s.std]; exact hs), s.itm]
    exact ⟨Int.le_refl _, Int.le_refl _⟩

theorem Sub.spans {b x : Bk} (v : Vb b) (s : Sub b x) : ∀ n, held0 b n = true → Narrow (spansOf x n) (spansOf b n) := by
  have key := v.ind (P := fun n => held0 b n = true → Narrow (spansOf x n) (spansOf b n)) fun n hn ih h => by
    rw [spansOf_eq b h, spansOf_eq x (s.held v n h), ← s.gc n hn]
    have := s.span v (f := spansOf b) (g := spansOf x) (item := (getC b n).by_) (day := (getC b n).day) (below := n) fun m hm => ih m hm.1 hm.2.1 hm.2.2.2.2
    obtain ⟨h1, h2⟩ := this
    constructor <;> simp only [plusR] <;> omega
  exact fun n h => key n (held0_mem h) h

theorem Sub.at {b x : Bk} (v : Vb b) (s : Sub b x) (item day : Int) : Narrow (spanAt x item day) (spanAt b item day) :=
  s.span v fun n hn => s.spans v n hn.2.2.2.2

theorem Sub.contra {b x : Bk} (v : Vb b) (s : Sub b x) (h : contra b = true) : contra x = true := by
  rw [contra_iff] at h ⊢
  obtain ⟨n, h1, h2⟩ := h
  refine ⟨n, s.held v n h1, ?_⟩
  rw [← s.gc n (held0_mem h1)]
  have := s.at v (getC b n).item (getC b n).day
  obtain ⟨h3, h4⟩ := this
  omega

theorem Sub.reach {b x : Bk} (v : Vb b) (vx : Vb x) (s : Sub b x) (item day : Int) (h : reach b item day = true) : reach x item day = true := by
  rw [reach_iff _ _ _ v] at h
  rw [reach_iff _ _ _ vx]
  rcases h with h | ⟨m, h1, h2, h3, h4⟩
  · exact .inl (by rw [← s.std]; exact h)
  · exact .inr ⟨m, s.ns m h1, by rw [← s.gc m h1]; exact h2, by rw [← s.gc m h1]; exact h3, s.held v m h4⟩

/-! ### Later certificates -/
/-- x is what b has up to a day. -/
structure Till (b x : Bk) (d : Int) : Prop where
  sub : Sub x b
  all : ∀ n ∈ numsOf b, (getC b n).day ≤ d → n ∈ numsOf x
  day : ∀ n ∈ numsOf x, (getC b n).day ≤ d

theorem onB_day {c : Crt} {d : Int} (h : onB c d = true) : c.day ≤ d := by
  simp [onB, inB] at h; omega

theorem Till.held {b x : Bk} {d : Int} (v : Vb b) (vx : Vb x) (t : Till b x d) : ∀ n ∈ numsOf x, held0 x n = held0 b n := by
  refine vx.ind fun n hn ih => ?_
  rw [Bool.eq_iff_iff]
  refine ⟨t.sub.held vx n, fun h => ?_⟩
  rw [held0_iff] at h ⊢
  obtain ⟨hb, h⟩ := h
  refine ⟨hn, ?_⟩
  rw [t.sub.gc n hn, t.sub.std]
  rcases h with h | ⟨m, h1, h2, h3, h4, h5⟩
  · exact .inl h
  · have hd := t.day n hn
    have hmd := v.day h1 hb h2
    have hm := t.all m h1 (by omega)
    exact .inr ⟨m, hm, h2, by rw [t.sub.gc m hm]; exact h3, by rw [t.sub.gc m hm]; exact h4, by rw [ih m hm h2]; exact h5⟩

theorem Till.part {b x : Bk} {d : Int} (v : Vb b) (vx : Vb x) (t : Till b x d) {item day below n : Int} (h : day ≤ d) : Part x (held0 x) item day below n ↔ Part b (held0 b) item day below n := by
  constructor
  · rintro ⟨h1, h2, h3, h4, h5⟩
    exact ⟨t.sub.ns n h1, h2, by rw [← t.sub.gc n h1]; exact h3, by rw [← t.sub.gc n h1]; exact h4, by rw [← t.held v vx n h1]; exact h5⟩
  · rintro ⟨h1, h2, h3, h4, h5⟩
    have hm := t.all n h1 (by have := onB_day h4; omega)
    exact ⟨hm, h2, by rw [t.sub.gc n hm]; exact h3, by rw [t.sub.gc n hm]; exact h4, by rw [t.held v vx n hm]; exact h5⟩

theorem Till.span {b x : Bk} {d : Int} (v : Vb b) (vx : Vb x) (t : Till b x d) {f g : Int → Rng} {item day below : Int} (hd : day ≤ d) (h : ∀ n, Part x (held0 x) item day below n → g n = f n) :
    spanBy x (held0 x) g item day below = spanBy b (held0 b) f item day below := by
  cases hs : stdOf b item
  · have hs' : stdOf x item = false := by rw [t.sub.std]; exact hs
    refine rng_ext (fun y => ?_) fun y => ?_
    · rw [span_lo hs, span_lo hs']
      refine and_congr Iff.rfl ⟨fun k n hn => ?_, fun k n hn => ?_⟩
      · have hp := (t.part v vx hd).2 hn
        have := k n hp
        rwa [h n hp, t.sub.itm, t.sub.gc n hp.1] at this
      · have := k n ((t.part v vx hd).1 hn)
        rwa [h n hn, t.sub.itm, t.sub.gc n hn.1]
    · rw [span_hi hs, span_hi hs']
      refine and_congr Iff.rfl ⟨fun k n hn => ?_, fun k n hn => ?_⟩
      · have hp := (t.part v vx hd).2 hn
        have := k n hp
        rwa [h n hp, t.sub.itm, t.sub.gc n hp.1] at this
      · have := k n ((t.part v vx hd).1 hn)
        rwa [h n hn, t.sub.itm, t.sub.gc n hn.1]
  · rw [span_std hs, span_std (by rw [t.sub.std]; exact hs), t.sub.itm]

theorem Till.spans {b x : Bk} {d : Int} (v : Vb b) (vx : Vb x) (t : Till b x d) : ∀ n ∈ numsOf x, held0 x n = true → spansOf x n = spansOf b n := by
  refine vx.ind fun n hn ih h => ?_
  rw [spansOf_eq x h, spansOf_eq b (by rw [← t.held v vx n hn]; exact h), t.sub.gc n hn,
    t.span v vx (f := spansOf b) (g := spansOf x) (t.day n hn) fun m hm => ih m hm.1 hm.2.1 hm.2.2.2.2]

theorem Till.at {b x : Bk} {d : Int} (v : Vb b) (vx : Vb x) (t : Till b x d) {item day : Int} (hd : day ≤ d) : spanAt x item day = spanAt b item day :=
  t.span v vx hd fun n hn => t.spans v vx n hn.1 hn.2.2.2.2

theorem Till.contra {b x : Bk} {d : Int} (v : Vb b) (vx : Vb x) (t : Till b x d) (h : contra x = true) : contra b = true := by
  rw [contra_iff] at h ⊢
  obtain ⟨n, h1, h2⟩ := h
  have hn := held0_mem h1
  refine ⟨n, by rw [← t.held v vx n hn]; exact h1, ?_⟩
  rw [← t.sub.gc n hn]
  have hd := t.day n hn
  rw [← t.sub.gc n hn] at hd
  rw [t.at v vx hd] at h2
  exact h2

theorem Till.reach {b x : Bk} {d : Int} (v : Vb b) (vx : Vb x) (t : Till b x d) (item : Int) : Ytmcnpfjichbijaa.reach x item d = Ytmcnpfjichbijaa.reach b item d := by
  rw [Bool.eq_iff_iff, reach_iff _ _ _ v, reach_iff _ _ _ vx, t.sub.std]
  refine or_congr Iff.rfl ⟨?_, ?_⟩
  · rintro ⟨m, h1, h2, h3, h4⟩
    exact ⟨m, t.sub.ns m h1, by rw [← t.sub.gc m h1]; exact h2, by rw [← t.sub.gc m h1]; exact h3, by rw [← t.held v vx m h1]; exact h4⟩
  · rintro ⟨m, h1, h2, h3, h4⟩
    have hm := t.all m h1 (onB_day h3)
    exact ⟨m, hm, by rw [t.sub.gc m hm]; exact h2, by rw [t.sub.gc m hm]; exact h3, by rw [t.held v vx m hm]; exact h4⟩

theorem Till.ofN {b x : Bk} {d : Int} (v : Vb b) (vx : Vb x) (t : Till b x d) {item day below : Int} (hd : day ≤ d) : ofN (getC x) (numsOf x) item day below = ofN (getC b) (numsOf b) item day below := by
  refine sorted_ext ((numsOf_lt x).filter _) ((numsOf_lt b).filter _) fun n => ?_
  rw [mem_ofN, mem_ofN]
  constructor
  · rintro ⟨h1, h2, h3, h4⟩
    exact ⟨t.sub.ns n h1, h2, by rw [← t.sub.gc n h1]; exact h3, by rw [← t.sub.gc n h1]; exact h4⟩
  · rintro ⟨h1, h2, h3, h4⟩
    have hm := t.all n h1 (by have := onB_day h4; omega)
    exact ⟨hm, h2, by rw [t.sub.gc n hm]; exact h3, by rw [t.sub.gc n hm]; exact h4⟩

theorem foldl_congr {α β : Type} {f g : α → β → α} : ∀ {l : List β} (a : α), (∀ a, ∀ x ∈ l, f a x = g a x) → l.foldl f a = l.foldl g a
  | [], a, _ => rfl
  | x :: l, a, h => by
    rw [List.foldl_cons, List.foldl_cons, h a x (by simp)]
    exact foldl_congr _ fun a y hy => h a y (by simp [hy])

theorem endOf_congr {b : Bk} {h : Int → Bool} {f g : Int → List Int} {n : Int} (hfg : ∀ m, m < n → f m = g m) : endOf b h f n = endOf b h g n := by
  unfold endOf
  split
  · rfl
  · refine foldl_congr _ fun a m hm => ?_
    rw [hfg m ((mem_ofN ..).1 hm).2.1]

theorem endsOf_eq (b : Bk) {n : Int} (h : held0 b n = true) : endsOf b n = endOf b (held0 b) (endsOf b) n := by
  have hf := fold_fix (fun f n => endOf b (held0 b) f n) (held0 b) ([] : List Int) (fun f g n hfg => endOf_congr hfg) (numsOf b) (rev_gt (numsOf_lt b))
  exact hf.1 n (holds_mem h) h

theorem Till.ends {b x : Bk} {d : Int} (v : Vb b) (vx : Vb x) (t : Till b x d) : ∀ n ∈ numsOf x, held0 x n = true → endsOf x n = endsOf b n := by
  refine vx.ind fun n hn ih h => ?_
  rw [endsOf_eq x h, endsOf_eq b (by rw [← t.held v vx n hn]; exact h)]
  unfold endOf
  rw [t.sub.gc n hn, t.sub.std, t.ofN v vx (t.day n hn)]
  split
  · rfl
  · refine foldl_congr _ fun a m hm => ?_
    rw [← t.ofN v vx (t.day n hn)] at hm
    obtain ⟨h1, h2, h3, h4⟩ := (mem_ofN ..).1 hm
    rw [t.held v vx m h1]
    split
    · rename_i hh
      rw [ih m h1 h2 (by rw [t.held v vx m h1]; exact hh)]
    · rfl

theorem Till.best {b x : Bk} {d : Int} (v : Vb b) (vx : Vb x) (t : Till b x d) (item : Int) : bestOf x item d = bestOf b item d := by
  unfold bestOf
  rw [t.sub.std, t.ofN v vx (Int.le_refl d)]
  split
  · rfl
  · refine foldl_congr _ fun a m hm => ?_
    rw [← t.ofN v vx (Int.le_refl d)] at hm
    obtain ⟨h1, h2, h3, h4⟩ := (mem_ofN ..).1 hm
    rw [t.held v vx m h1]
    split
    · rename_i hh
      rw [t.ends v vx m h1 (by rw [t.held v vx m h1]; exact hh)]
    · rfl

theorem till_of {b x : Bk} {d : Int} (v : Vb b) (hi : x.items = b.items) (hc : x.certs = b.certs.filter fun c => decide (c.day ≤ d)) : Vb x ∧ Till b x d := by
  have hm : ∀ c, c ∈ x.certs ↔ c ∈ b.certs ∧ c.day ≤ d := fun c => by rw [hc, List.mem_filter]; simp
  have vx : Vb x := ⟨by rw [hi]; exact v.il, by rw [hc]; have := List.length_filter_le (fun c : Crt => decide (c.day ≤ d)) b.certs; have := v.cl; omega, by rw [hi]; exact v.it, fun c h => by
    have := v.ct c ((hm c).1 h).1
    unfold crtOk stdOf at this ⊢
    rw [hi]; exact this, fun c h e h' => v.uq c ((hm c).1 h).1 e ((hm e).1 h').1, fun c h e h' => v.dy c ((hm c).1 h).1 e ((hm e).1 h').1⟩
  have hs : Sub x b := sub_of_mem vx v hi fun c h => ((hm c).1 h).1
  refine ⟨vx, hs, fun n hn hd => ?_, fun n hn => ?_⟩
  · obtain ⟨e, h1⟩ := v.num hn
    exact (mem_numsOf x n).2 ⟨getC b n, (hm _).2 ⟨h1, hd⟩, e⟩
  · rw [← hs.gc n hn]
    exact ((hm _).1 (vx.num hn).2).2
end Go.Proofs.Ytmcnpfjichbijaa

/- Plain laws: spans are bounded; standards moved by a number. No Go here. -/
set_option linter.unusedSimpArgs false
set_option linter.unusedVariables false
namespace Go.Proofs.Ytmcnpfjichbijaa

theorem itmOf_mem {b : Bk} {i : Int} (h0 : 0 ≤ i) (h : i < b.items.length) : itmOf b i ∈ b.items := by
  unfold itmOf
  have : i.toNat < b.items.length := by omega
  rw [List.getElem?_eq_getElem this]
  exact List.getElem_mem this
theorem stdOf_itm {b : Bk} (i : Int) : stdOf b i = (itmOf b i).std := by
  unfold stdOf itmOf
  cases b.items[i.toNat]? <;> rfl

structure ItmOk (x : Itm) : Prop where
  d1 : 0 ≤ x.drift
  d2 : x.drift ≤ 100
  l1 : -100000 ≤ x.val.lo
  l2 : x.val.lo ≤ x.val.hi
  l3 : x.val.hi ≤ 100000
  z : x.std = false → x.val = ⟨0, 0⟩
theorem itmOk_iff (x : Itm) : itmOk x = true ↔ ItmOk x := by
  obtain ⟨d, s, lo, hi⟩ := x
  simp only [itmOk, spanOk, inB, Bool.and_eq_true, decide_eq_true_eq, Bool.or_eq_true, beq_iff_eq]
  constructor
  · rintro ⟨⟨h1, ⟨h2, h3⟩, h4⟩, h5⟩
    refine ⟨h1.1, h1.2, h2.1, h4, h3.2, fun h => ?_⟩
    dsimp only at h h5 ⊢
    subst h
    rcases h5 with h | ⟨h6, h7⟩
    · cases h
    · rw [h6, h7]
  · rintro ⟨h1, h2, h3, h4, h5, h6⟩
    dsimp only at h1 h2 h3 h4 h5 h6 ⊢
    refine ⟨⟨⟨h1, h2⟩, ⟨⟨h3, by omega⟩, ⟨by omega, h5⟩⟩, h4⟩, ?_⟩
    cases s
    · have := h6 rfl
      injection this with e1 e2
      exact .inr ⟨e1, e2⟩
    · exact .inl rfl
theorem Vb.itm {b : Bk} (v : Vb b) {i : Int} (h0 : 0 ≤ i) (h : i < b.items.length) : ItmOk (itmOf b i) := (itmOk_iff _).1 (v.it _ (itmOf_mem h0 h))

/-- How much farther out: at most 100000. -/
theorem far_bd {b : Bk} (v : Vb b) {n day : Int} (hn : n ∈ numsOf b) (ho : onB (getC b n) day = true) :
    0 ≤ (itmOf b (getC b n).item).drift * (day - (getC b n).day) ∧ (itmOf b (getC b n).item).drift * (day - (getC b n).day) ≤ 100000 := by
  have hc := v.ok hn
  have hi := v.itm hc.i1 hc.i2
  simp [onB, inB] at ho
  have h1 : 0 ≤ day - (getC b n).day := by omega
  have h2 : day - (getC b n).day ≤ 1000 := by have := hc.v2; omega
  have h3 := hi.d1
  have h4 := hi.d2
  constructor
  · exact Int.mul_nonneg h3 h1
  · have := Int.mul_le_mul h4 h2 h1 (by omega)
    omega

/-- A range within a bound. -/
def In (r : Rng) (k : Int) : Prop := -k ≤ r.lo ∧ r.lo ≤ k ∧ -k ≤ r.hi ∧ r.hi ≤ k

theorem spanBy_bd {b : Bk} (v : Vb b) {f : Int → Rng} {item day below k : Int} (h0 : 0 ≤ item) (h1 : item < b.items.length) (hk : 100000 ≤ k) (hk2 : k ≤ 1000000000)
    (hf : ∀ n, Part b (held0 b) item day below n → In (f n) k) (hex : stdOf b item = true ∨ ∃ n, Part b (held0 b) item day below n) : In (spanBy b (held0 b) f item day below) (k + 100000) := by
  cases hs : stdOf b item
  · rcases hex with h | ⟨m, hm⟩
    · rw [hs] at h; cases h
    have far : ∀ n, Part b (held0 b) item day below n → 0 ≤ (itmOf b item).drift * (day - (getC b n).day) ∧ (itmOf b item).drift * (day - (getC b n).day) ≤ 100000 := fun n hn => by
      have := far_bd v hn.1 hn.2.2.2.1
      rwa [hn.2.2.1] at this
    refine ⟨?_, ?_, ?_, ?_⟩
    · have := ((span_lo (h := held0 b) (sp := f) (day := day) (below := below) hs _).1 (Int.le_refl _)).2 m hm
      have := far m hm
      have := hf m hm
      unfold In at this
      omega
    · refine (span_lo hs _).2 ⟨by omega, fun n hn => ?_⟩
      have := far n hn
      have := hf n hn
      unfold In at this
      omega
    · refine (span_hi hs _).2 ⟨by omega, fun n hn => ?_⟩
      have := far n hn
      have := hf n hn
      unfold In at this
      omega
    · have := ((span_hi (h := held0 b) (sp := f) (day := day) (below := below) hs _).1 (Int.le_refl _)).2 m hm
      have := far m hm
      have := hf m hm
      unfold In at this
      omega
  · rw [span_std hs]
    have hi := v.itm h0 h1
    have g1 := hi.l1; have g2 := hi.l2; have g3 := hi.l3
    exact ⟨by omega, by omega, by omega, by omega⟩

theorem held0_ex {b : Bk} {n : Int} (h : held0 b n = true) : stdOf b (getC b n).by_ = true ∨ ∃ m, Part b (held0 b) (getC b n).by_ (getC b n).day n m := by
  rcases ((held0_iff b n).1 h).2 with h | ⟨m, h1, h2, h3, h4, h5⟩
  · exact .inl h
  · exact .inr ⟨m, h1, h2, h3, h4, h5⟩

theorem spansOf_bd {b : Bk} (v : Vb b) : ∀ n ∈ numsOf b, held0 b n = true → In (spansOf b n) (100000 + 200000 * n) := by
  refine v.ind fun n hn ih h => ?_
  have hc := v.ok hn
  have hr := v.rng hn
  rw [spansOf_eq b h]
  have := spanBy_bd v (f := spansOf b) (item := (getC b n).by_) (day := (getC b n).day) (below := n) (k := 100000 + 200000 * (n - 1)) hc.b1 hc.b2 (by omega) (by omega)
    (fun m hm => by
      have := ih m hm.1 hm.2.1 hm.2.2.2.2
      have h2 := hm.2.1
      unfold In at this ⊢
      omega) (held0_ex h)
  have h1 := hc.l1; have h2 := hc.l2; have h3 := hc.l3
  unfold In plusR at *
  dsimp only
  omega

/-- What holds has no end far off: 'everything' does not matter. -/
theorem span_lo' {b : Bk} (v : Vb b) {item day below : Int} (hs : stdOf b item = false) (hex : ∃ n, Part b (held0 b) item day below n) (x : Int) :
    (spanBy b (held0 b) (spansOf b) item day below).lo ≤ x ↔ ∀ n, Part b (held0 b) item day below n → (spansOf b n).lo - (itmOf b item).drift * (day - (getC b n).day) ≤ x := by
  rw [span_lo hs]
  refine ⟨fun h => h.2, fun h => ⟨?_, h⟩⟩
  obtain ⟨m, hm⟩ := hex
  have := h m hm
  have h2 := far_bd v hm.1 hm.2.2.2.1
  rw [hm.2.2.1] at h2
  have h3 := spansOf_bd v m hm.1 hm.2.2.2.2
  have := v.rng hm.1
  unfold In at h3
  omega
theorem span_hi' {b : Bk} (v : Vb b) {item day below : Int} (hs : stdOf b item = false) (hex : ∃ n, Part b (held0 b) item day below n) (x : Int) :
    x ≤ (spanBy b (held0 b) (spansOf b) item day below).hi ↔ ∀ n, Part b (held0 b) item day below n → x ≤ (spansOf b n).hi + (itmOf b item).drift * (day - (getC b n).day) := by
  rw [span_hi hs]
  refine ⟨fun h => h.2, fun h => ⟨?_, h⟩⟩
  obtain ⟨m, hm⟩ := hex
  have := h m hm
  have h2 := far_bd v hm.1 hm.2.2.2.1
  rw [hm.2.2.1] at h2
  have h3 := spansOf_bd v m hm.1 hm.2.2.2.2
  have := v.rng hm.1
  unfold In at h3
  omega

/-! ### standards moved -/
def moveI (a : Int) (x : Itm) : Itm := if x.std then { x with val := ⟨x.val.lo + a, x.val.hi + a⟩ } else x

structure Moved (b x : Bk) (a : Int) : Prop where
  it : x.items = b.items.map (moveI a)
  ct : x.certs = b.certs

theorem Moved.ns {b x : Bk} {a : Int} (m : Moved b x a) : numsOf x = numsOf b := by unfold numsOf; rw [m.ct]
theorem Moved.gc {b x : Bk} {a : Int} (m : Moved b x a) : getC x = getC b := by funext n; unfold getC; rw [m.ct]
theorem Moved.len {b x : Bk} {a : Int} (m : Moved b x a) : x.items.length = b.items.length := by rw [m.it]; simp
theorem Moved.get {b x : Bk} {a : Int} (m : Moved b x a) (i : Nat) : x.items[i]? = (b.items[i]?).map (moveI a) := by rw [m.it]; simp
theorem moveI_std (a : Int) (x : Itm) : (moveI a x).std = x.std := by unfold moveI; split <;> rfl
theorem moveI_drift (a : Int) (x : Itm) : (moveI a x).drift = x.drift := by unfold moveI; split <;> rfl
theorem Moved.std {b x : Bk} {a : Int} (m : Moved b x a) : stdOf x = stdOf b := by
  funext i
  unfold stdOf
  rw [m.get]
  cases b.items[i.toNat]? with
  | none => rfl
  | some y => exact moveI_std a y
theorem Moved.drift {b x : Bk} {a : Int} (m : Moved b x a) (i : Int) : (itmOf x i).drift = (itmOf b i).drift := by
  unfold itmOf
  rw [m.get]
  cases b.items[i.toNat]? with
  | none => rfl
  | some y => exact moveI_drift a y
theorem Moved.val {b x : Bk} {a : Int} (m : Moved b x a) {i : Int} (h : stdOf b i = true) : (itmOf x i).val = ⟨(itmOf b i).val.lo + a, (itmOf b i).val.hi + a⟩ := by
  unfold itmOf
  unfold stdOf at h
  rw [m.get]
  cases hh : b.items[i.toNat]? with
  | none => rw [hh] at h; cases h
  | some y =>
    rw [hh] at h
    dsimp only at h
    simp [moveI, h]

theorem Moved.holds {b x : Bk} {a : Int} (m : Moved b x a) : holds x = holds b := by
  funext bad; unfold Ytmcnpfjichbijaa.holds
  have : holdStep x bad = holdStep b bad := by funext h n j; unfold holdStep; rw [m.std, m.gc, m.ns]
  rw [this, m.ns]
theorem Moved.held0 {b x : Bk} {a : Int} (m : Moved b x a) : held0 x = held0 b := by unfold Ytmcnpfjichbijaa.held0; rw [m.holds]
theorem Moved.reach {b x : Bk} {a : Int} (m : Moved b x a) : reach x = reach b := by
  funext i d; unfold Ytmcnpfjichbijaa.reach; rw [m.std, m.gc, m.ns, m.holds]
theorem Moved.ends {b x : Bk} {a : Int} (m : Moved b x a) : endsOf x = endsOf b := by
  unfold Ytmcnpfjichbijaa.endsOf
  have : endsStep x = endsStep b := by funext h sp n j; unfold endsStep endOf; rw [m.gc, m.std, m.ns]
  rw [this, m.held0, m.ns]
theorem Moved.best {b x : Bk} {a : Int} (m : Moved b x a) : bestOf x = bestOf b := by
  funext i d; unfold Ytmcnpfjichbijaa.bestOf; rw [m.std, m.gc, m.ns, m.held0, m.ends]
theorem Moved.part {b x : Bk} {a : Int} (m : Moved b x a) (item day below n : Int) : Part x (Ytmcnpfjichbijaa.held0 x) item day below n ↔ Part b (Ytmcnpfjichbijaa.held0 b) item day below n := by
  unfold Part; rw [m.ns, m.gc, m.held0]

def shift (r : Rng) (a : Int) : Rng := ⟨r.lo + a, r.hi + a⟩

theorem Moved.span {b x : Bk} {a : Int} (vb : Vb b) (vx : Vb x) (m : Moved b x a) {item day below : Int} (h : ∀ n, Part b (Ytmcnpfjichbijaa.held0 b) item day below n → spansOf x n = shift (spansOf b n) a)
    (hex : stdOf b item = true ∨ ∃ n, Part b (Ytmcnpfjichbijaa.held0 b) item day below n) : spanBy x (Ytmcnpfjichbijaa.held0 x) (spansOf x) item day below = shift (spanBy b (Ytmcnpfjichbijaa.held0 b) (spansOf b) item day below) a := by
  cases hs : stdOf b item
  · rcases hex with h' | hex
    · rw [hs] at h'; cases h'
    have hs' : stdOf x item = false := by rw [m.std]; exact hs
    have hex' : ∃ n, Part x (Ytmcnpfjichbijaa.held0 x) item day below n := by obtain ⟨n, hn⟩ := hex; exact ⟨n, (m.part ..).2 hn⟩
    refine rng_ext (fun y => ?_) fun y => ?_
    · rw [span_lo' vx hs' hex']
      have := span_lo' vb hs hex (y - a)
      constructor
      · intro k
        have := this.2 fun n hn => by
          have := k n ((m.part ..).2 hn)
          rw [h n hn, m.drift, m.gc] at this
          simp only [shift] at this
          omega
        simp only [shift]; omega
      · intro k n hn
        have hn' := (m.part ..).1 hn
        have := this.1 (by simp only [shift] at k; omega) n hn'
        rw [h n hn', m.drift, m.gc]
        simp only [shift]; omega
    · rw [span_hi' vx hs' hex']
      have := span_hi' vb hs hex (y - a)
      constructor
      · intro k
        have := this.2 fun n hn => by
          have := k n ((m.part ..).2 hn)
          rw [h n hn, m.drift, m.gc] at this
          simp only [shift] at this
          omega
        simp only [shift]; omega
      · intro k n hn
        have hn' := (m.part ..).1 hn
        have := this.1 (by simp only [shift] at k; omega) n hn'
        rw [h n hn', m.drift, m.gc]
        simp only [shift]; omega
  · rw [span_std hs, span_std (by rw [m.std]; exact hs), m.val hs]
    rfl

theorem Moved.spans {b x : Bk} {a : Int} (vb : Vb b) (vx : Vb x) (m : Moved b x a) : ∀ n ∈ numsOf b, Ytmcnpfjichbijaa.held0 b n = true → spansOf x n = shift (spansOf b n) a := by
  refine vb.ind fun n hn ih h => ?_
  rw [spansOf_eq b h, spansOf_eq x (by rw [m.held0]; exact h), m.gc, m.span vb vx (fun k hk => ih k hk.1 hk.2.1 hk.2.2.2.2) (held0_ex h)]
  simp only [plusR, shift, Rng.mk.injEq]
  omega

theorem Moved.at {b x : Bk} {a : Int} (vb : Vb b) (vx : Vb x) (m : Moved b x a) {item day : Int} (h : Ytmcnpfjichbijaa.reach b item day = true) : spanAt x item day = shift (spanAt b item day) a := by
  unfold spanAt
  refine m.span vb vx (fun n hn => m.spans vb vx n hn.1 hn.2.2.2.2) ?_
  rcases (reach_iff b item day vb).1 h with h | ⟨k, h1, h2, h3, h4⟩
  · exact .inl h
  · exact .inr ⟨k, h1, by have := vb.rng h1; omega, h2, h3, h4⟩

theorem onB_self {b : Bk} (v : Vb b) {n : Int} (hn : n ∈ numsOf b) : onB (getC b n) (getC b n).day = true := by
  have := v.ok hn
  have := this.v1
  simp [onB, inB]; omega

theorem reach_self {b : Bk} (v : Vb b) {n : Int} (h : held0 b n = true) : reach b (getC b n).item (getC b n).day = true :=
  (reach_iff _ _ _ v).2 (.inr ⟨n, held0_mem h, rfl, onB_self v (held0_mem h), h⟩)

theorem Moved.contra {b x : Bk} {a : Int} (vb : Vb b) (vx : Vb x) (m : Moved b x a) : contra x = contra b := by
  rw [Bool.eq_iff_iff, contra_iff, contra_iff]
  constructor
  · rintro ⟨n, h1, h2⟩
    rw [m.held0] at h1
    rw [m.gc, m.at vb vx (reach_self vb h1)] at h2
    exact ⟨n, h1, by simp only [shift] at h2; omega⟩
  · rintro ⟨n, h1, h2⟩
    refine ⟨n, by rw [m.held0]; exact h1, ?_⟩
    rw [m.gc, m.at vb vx (reach_self vb h1)]
    simp only [shift]; omega

theorem Moved.drop {b x : Bk} {a : Int} (m : Moved b x a) (n : Int) : Moved (dropC b n) (dropC x n) a := ⟨m.it, by unfold dropC; rw [m.ct]⟩
theorem Moved.suspects {b x : Bk} {a : Int} (vb : Vb b) (vx : Vb x) (m : Moved b x a) : suspects x = suspects b := by
  unfold Ytmcnpfjichbijaa.suspects
  rw [m.ns]
  refine List.filter_congr fun n _ => ?_
  rw [(m.drop n).contra (dropC_vb vb n) (dropC_vb vx n)]
theorem Moved.ask {b x : Bk} {a : Int} (vb : Vb b) (vx : Vb x) (m : Moved b x a) : askErr x = askErr b := by
  funext i d
  unfold askErr
  rw [(fault_iff b).2 vb, (fault_iff x).2 vx, m.len, m.reach]
theorem Moved.spanErr {b x : Bk} {a : Int} (vb : Vb b) (vx : Vb x) (m : Moved b x a) : spanErr x = spanErr b := by
  funext i d
  unfold Ytmcnpfjichbijaa.spanErr
  rw [m.ask vb vx, m.contra vb vx]
theorem Moved.susErr {b x : Bk} {a : Int} (vb : Vb b) (vx : Vb x) (m : Moved b x a) : susErr x = susErr b := by
  unfold Ytmcnpfjichbijaa.susErr
  rw [(fault_iff b).2 vb, (fault_iff x).2 vx, m.contra vb vx]
theorem askErr_reach {b : Bk} {i d : Int} (h : askErr b i d = 0) : Vb b ∧ 0 ≤ i ∧ i < b.items.length ∧ 0 ≤ d ∧ d ≤ 1000 ∧ reach b i d = true := by
  unfold askErr at h
  split at h
  · rename_i h1; exact absurd h h1
  · rename_i h1
    split at h
    · exact absurd h (by decide)
    · rename_i h2
      split at h
      · rename_i h3
        simp [inB] at h2
        exact ⟨(fault_iff b).1 (by simpa using h1), by omega, by omega, by omega, by omega, h3⟩
      · exact absurd h (by decide)
end Go.Proofs.Ytmcnpfjichbijaa

/- Plain laws: books that have a truth. No Go here. -/
set_option linter.unusedSimpArgs false
set_option linter.unusedVariables false
namespace Go.Proofs.Ytmcnpfjichbijaa

/-- A truth of a book: what each item is on each day. -/
structure Truth (b : Bk) (t : Int → Int → Int) : Prop where
  std : ∀ i d : Int, 0 ≤ i → i < b.items.length → stdOf b i = true → (itmOf b i).val.lo ≤ t i d ∧ t i d ≤ (itmOf b i).val.hi
  drift : ∀ i d e : Int, 0 ≤ i → i < b.items.length → stdOf b i = false → 0 ≤ d → d ≤ e → t i e - t i d ≤ (itmOf b i).drift * (e - d) ∧ t i d - t i e ≤ (itmOf b i).drift * (e - d)
  big : ∀ i d : Int, 0 ≤ i → i < b.items.length → -1000000000 ≤ t i d ∧ t i d ≤ 1000000000
  ct : ∀ c ∈ b.certs, t c.by_ c.day + c.diff.lo ≤ t c.item c.day ∧ t c.item c.day ≤ t c.by_ c.day + c.diff.hi

def Has (r : Rng) (x : Int) : Prop := r.lo ≤ x ∧ x ≤ r.hi

theorem Truth.span {b : Bk} {t : Int → Int → Int} (v : Vb b) (T : Truth b t) {f : Int → Rng} {item day below : Int} (h0 : 0 ≤ item) (h1 : item < b.items.length)
    (hf : ∀ n, Part b (held0 b) item day below n → Has (f n) (t item (getC b n).day)) : Has (spanBy b (held0 b) f item day below) (t item day) := by
  cases hs : stdOf b item
  · have hb := T.big item day h0 h1
    constructor
    · refine (span_lo hs _).2 ⟨by omega, fun n hn => ?_⟩
      have hd := onB_day hn.2.2.2.1
      have := T.drift item (getC b n).day day h0 h1 hs (v.ok hn.1).d1 hd
      have := (hf n hn).1
      omega
    · refine (span_hi hs _).2 ⟨by omega, fun n hn => ?_⟩
      have hd := onB_day hn.2.2.2.1
      have := T.drift item (getC b n).day day h0 h1 hs (v.ok hn.1).d1 hd
      have := (hf n hn).2
      omega
  · rw [span_std hs]
    exact T.std item day h0 h1 hs

theorem Truth.spans {b : Bk} {t : Int → Int → Int} (v : Vb b) (T : Truth b t) : ∀ n ∈ numsOf b, held0 b n = true → Has (spansOf b n) (t (getC b n).item (getC b n).day) := by
  refine v.ind fun n hn ih h => ?_
  have hc := v.ok hn
  rw [spansOf_eq b h]
  have := T.span v (f := spansOf b) (item := (getC b n).by_) (day := (getC b n).day) (below := n) hc.b1 hc.b2 fun m hm => by
    have := ih m hm.1 hm.2.1 hm.2.2.2.2
    rwa [hm.2.2.1] at this
  have hct := T.ct _ (v.num hn).2
  unfold Has plusR at *
  dsimp only
  omega

theorem Truth.at {b : Bk} {t : Int → Int → Int} (v : Vb b) (T : Truth b t) {item : Int} (day : Int) (h0 : 0 ≤ item) (h1 : item < b.items.length) : Has (spanAt b item day) (t item day) :=
  T.span v h0 h1 fun n hn => by
    have := T.spans v n hn.1 hn.2.2.2.2
    rwa [hn.2.2.1] at this

theorem Truth.contra {b : Bk} {t : Int → Int → Int} (v : Vb b) (T : Truth b t) : contra b = false := by
  rw [Bool.eq_false_iff, ne_eq, contra_iff]
  rintro ⟨n, h1, h2⟩
  have hc := v.ok (held0_mem h1)
  have := T.at v (getC b n).day hc.i1 hc.i2
  unfold Has at this
  omega

theorem Truth.drop {b : Bk} {t : Int → Int → Int} {n : Int} (h1 : ∀ i d : Int, 0 ≤ i → i < b.items.length → stdOf b i = true → (itmOf b i).val.lo ≤ t i d ∧ t i d ≤ (itmOf b i).val.hi)
    (h2 : ∀ i d e : Int, 0 ≤ i → i < b.items.length → stdOf b i = false → 0 ≤ d → d ≤ e → t i e - t i d ≤ (itmOf b i).drift * (e - d) ∧ t i d - t i e ≤ (itmOf b i).drift * (e - d))
    (h3 : ∀ i d : Int, 0 ≤ i → i < b.items.length → -1000000000 ≤ t i d ∧ t i d ≤ 1000000000)
    (h4 : ∀ c ∈ b.certs, c.num ≠ n → t c.by_ c.day + c.diff.lo ≤ t c.item c.day ∧ t c.item c.day ≤ t c.by_ c.day + c.diff.hi) : Truth (dropC b n) t :=
  ⟨h1, h2, h3, fun c hc => by
    have := List.mem_filter.1 hc
    exact h4 c this.1 (by simpa using this.2)⟩

/-! ### the truth that the statements make, by words -/
def wordAt (ws : List Int) (at_ : Int) : Int := if ws = [] then 0 else ws.getD (at_ % ws.length).toNat 0

/-- An item's value on a day. -/
def trueAt (b : Bk) (item day : Int) (ws : List Int) : Int :=
  if stdOf b item then (itmOf b item).val.lo + wordAt ws item % ((itmOf b item).val.hi - (itmOf b item).val.lo + 1) else
  wordAt ws item % 900 + (itmOf b item).drift *
    (if wordAt ws item % 2 = 0 then -(if (day + wordAt ws item % 7) % (2 * (1 + wordAt ws item % 60)) > 1 + wordAt ws item % 60 then 2 * (1 + wordAt ws item % 60) - (day + wordAt ws item % 7) % (2 * (1 + wordAt ws item % 60)) else (day + wordAt ws item % 7) % (2 * (1 + wordAt ws item % 60)))
     else (if (day + wordAt ws item % 7) % (2 * (1 + wordAt ws item % 60)) > 1 + wordAt ws item % 60 then 2 * (1 + wordAt ws item % 60) - (day + wordAt ws item % 7) % (2 * (1 + wordAt ws item % 60)) else (day + wordAt ws item % 7) % (2 * (1 + wordAt ws item % 60))))

/-- The way up and down. -/
def saw (turn x : Int) : Int := if x % (2 * turn) > turn then 2 * turn - x % (2 * turn) else x % (2 * turn)

theorem saw_bd {turn : Int} (h : 1 ≤ turn) (x : Int) : 0 ≤ saw turn x ∧ saw turn x ≤ turn := by
  unfold saw
  have h1 := Int.emod_nonneg x (b := 2 * turn) (by omega)
  have h2 := Int.emod_lt_of_pos x (b := 2 * turn) (by omega)
  split <;> omega

theorem saw_step {turn : Int} (h : 1 ≤ turn) (x : Int) : saw turn (x + 1) - saw turn x ≤ 1 ∧ saw turn x - saw turn (x + 1) ≤ 1 := by
  unfold saw
  have h1 := Int.emod_nonneg x (b := 2 * turn) (by omega)
  have h2 := Int.emod_lt_of_pos x (b := 2 * turn) (by omega)
  have h3 : (x + 1) % (2 * turn) = if x % (2 * turn) + 1 = 2 * turn then 0 else x % (2 * turn) + 1 := by
    have e : (x + 1) % (2 * turn) = (x % (2 * turn) + 1) % (2 * turn) := by rw [Int.emod_add_emod]
    rw [e]
    split
    · rename_i h4; rw [h4, Int.emod_self]
    · exact Int.emod_eq_of_lt (by omega) (by omega)
  rw [h3]
  split <;> split <;> split <;> omega

theorem saw_lip {turn : Int} (h : 1 ≤ turn) (x : Int) : ∀ k : Nat, saw turn (x + k) - saw turn x ≤ k ∧ saw turn x - saw turn (x + k) ≤ k
  | 0 => by simp
  | k + 1 => by
    have h1 := saw_lip h x k
    have h2 := saw_step h (x + k)
    have e : x + ((k + 1 : Nat) : Int) = x + k + 1 := by omega
    rw [e]
    omega

theorem trueAt_eq (b : Bk) (item day : Int) (ws : List Int) (h : stdOf b item = false) : trueAt b item day ws = wordAt ws item % 900 + (itmOf b item).drift *
    (if wordAt ws item % 2 = 0 then -saw (1 + wordAt ws item % 60) (day + wordAt ws item % 7) else saw (1 + wordAt ws item % 60) (day + wordAt ws item % 7)) := by
  unfold trueAt saw
  rw [if_neg (by rw [h]; simp)]

theorem mul_bd {d y k : Int} (h0 : 0 ≤ d) (h1 : y ≤ k) : d * y ≤ d * k := Int.mul_le_mul_of_nonneg_left h1 h0

theorem trueAt_std {b : Bk} (v : Vb b) {ws : List Int} (i d : Int) (h0 : 0 ≤ i) (h1 : i < b.items.length) (h : stdOf b i = true) :
    (itmOf b i).val.lo ≤ trueAt b i d ws ∧ trueAt b i d ws ≤ (itmOf b i).val.hi := by
  unfold trueAt
  rw [if_pos h]
  have hi := v.itm h0 h1
  have := hi.l2
  have h2 := Int.emod_nonneg (wordAt ws i) (b := (itmOf b i).val.hi - (itmOf b i).val.lo + 1) (by omega)
  have h3 := Int.emod_lt_of_pos (wordAt ws i) (b := (itmOf b i).val.hi - (itmOf b i).val.lo + 1) (by omega)
  omega

theorem trueAt_drift {b : Bk} (v : Vb b) {ws : List Int} (i d e : Int) (h0 : 0 ≤ i) (h1 : i < b.items.length) (h : stdOf b i = false) (hd : 0 ≤ d) (hde : d ≤ e) :
    trueAt b i e ws - trueAt b i d ws ≤ (itmOf b i).drift * (e - d) ∧ trueAt b i d ws - trueAt b i e ws ≤ (itmOf b i).drift * (e - d) := by
  rw [trueAt_eq b i e ws h, trueAt_eq b i d ws h]
  have hi := (v.itm h0 h1).d1
  generalize wordAt ws i = w
  have ht : (1 : Int) ≤ 1 + w % 60 := by omega
  obtain ⟨k, hk⟩ := Int.eq_ofNat_of_zero_le (show 0 ≤ e - d by omega)
  have hl := saw_lip ht (d + w % 7) k
  rw [show d + w % 7 + (k : Int) = e + w % 7 by omega] at hl
  rw [← hk] at hl
  generalize saw (1 + w % 60) (d + w % 7) = x at *
  generalize saw (1 + w % 60) (e + w % 7) = y at *
  have m1 := mul_bd hi hl.1
  have m2 := mul_bd hi hl.2
  rw [Int.mul_sub] at m1 m2
  split <;> (try simp only [Int.mul_neg]) <;> omega

theorem trueAt_big {b : Bk} (v : Vb b) {ws : List Int} (i d : Int) (h0 : 0 ≤ i) (h1 : i < b.items.length) : -1000000 ≤ trueAt b i d ws ∧ trueAt b i d ws ≤ 1000000 := by
  have hi := v.itm h0 h1
  cases h : stdOf b i
  · rw [trueAt_eq b i d ws h]
    generalize wordAt ws i = w
    have ht : (1 : Int) ≤ 1 + w % 60 := by omega
    have hs := saw_bd ht (d + w % 7)
    have h2 := hi.d1
    have h3 := hi.d2
    generalize saw (1 + w % 60) (d + w % 7) = x at *
    have m1 : (itmOf b i).drift * x ≤ 100 * 60 := Int.mul_le_mul h3 (by omega) hs.1 (by omega)
    have m2 : 0 ≤ (itmOf b i).drift * x := Int.mul_nonneg h2 hs.1
    split <;> (try simp only [Int.mul_neg]) <;> omega
  · have := trueAt_std v (ws := ws) i d h0 h1 h
    have := hi.l1; have := hi.l3
    omega
end Go.Proofs.Ytmcnpfjichbijaa

/- Plain laws: no item has more than one certificate, and all hold. No Go here. -/
set_option linter.unusedSimpArgs false
set_option linter.unusedVariables false
namespace Go.Proofs.Ytmcnpfjichbijaa

structure Single (b : Bk) : Prop where
  one : ∀ c ∈ b.certs, ∀ d ∈ b.certs, c.item = d.item → c = d
  all : ∀ n ∈ numsOf b, held0 b n = true

def firstOf (b : Bk) (item : Int) : Option Crt := b.certs.find? fun c => c.item == item

def rEnd (r : Rng) (high : Bool) : Int := if high then r.hi else r.lo

/-- The greatest (or the least) value that an item can have. -/
def reachV (b : Bk) (item day : Int) (high : Bool) : Int :=
  if stdOf b item then rEnd (itmOf b item).val high else
  match firstOf b item with
  | some c => rEnd (spansOf b c.num) high + (if high then (itmOf b item).drift * (day - c.day) else -((itmOf b item).drift * (day - c.day)))
  | none => 0

theorem firstOf_eq {b : Bk} (s : Single b) {c : Crt} (h : c ∈ b.certs) : firstOf b c.item = some c := by
  unfold firstOf
  cases hf : b.certs.find? (fun x => x.item == c.item) with
  | none =>
    have := List.find?_eq_none.1 hf c h
    simp at this
  | some d =>
    have h1 := List.mem_of_find?_eq_some hf
    have h2 := List.find?_some hf
    rw [s.one d h1 c h (by simpa using h2)]

theorem Single.span {b : Bk} (v : Vb b) (s : Single b) {item day below : Int} (hex : stdOf b item = true ∨ ∃ n, Part b (held0 b) item day below n) :
    spanBy b (held0 b) (spansOf b) item day below = ⟨reachV b item day false, reachV b item day true⟩ := by
  cases hs : stdOf b item
  · rcases hex with h | ⟨m, hm⟩
    · rw [hs] at h; cases h
    have hmc := (v.num hm.1).2
    have hmn := (v.num hm.1).1
    have hf := firstOf_eq s hmc
    rw [hm.2.2.1] at hf
    have hone : ∀ n, Part b (held0 b) item day below n → n = m := fun n hn => by
      have h1 := v.num hn.1
      have := s.one _ h1.2 _ hmc (by rw [hn.2.2.1, hm.2.2.1])
      rw [← h1.1, this, hmn]
    unfold reachV
    rw [if_neg (by rw [hs]; simp), if_neg (by rw [hs]; simp), hf]
    dsimp only
    rw [hmn]
    refine rng_ext (fun y => ?_) fun y => ?_
    · rw [span_lo' v hs ⟨m, hm⟩]
      simp only [rEnd]
      constructor
      · intro k
        have := k m hm
        simp; omega
      · intro k n hn
        rw [hone n hn]
        simp at k; omega
    · rw [span_hi' v hs ⟨m, hm⟩]
      simp only [rEnd]
      constructor
      · intro k
        have := k m hm
        simp; omega
      · intro k n hn
        rw [hone n hn]
        simp at k; omega
  · rw [span_std hs]
    unfold reachV
    rw [if_pos hs, if_pos hs]
    rfl

theorem Single.at {b : Bk} (v : Vb b) (s : Single b) {item day : Int} (h : reach b item day = true) : spanAt b item day = ⟨reachV b item day false, reachV b item day true⟩ := by
  refine s.span v ?_
  rcases (reach_iff b item day v).1 h with h | ⟨k, h1, h2, h3, h4⟩
  · exact .inl h
  · exact .inr ⟨k, h1, by have := v.rng h1; omega, h2, h3, h4⟩

/-- A certificate's own ends. -/
theorem Single.cert {b : Bk} (v : Vb b) (s : Single b) {c : Crt} (h : c ∈ b.certs) (high : Bool) :
    rEnd (spansOf b c.num) high = reachV b c.by_ c.day high + rEnd c.diff high := by
  have hn : c.num ∈ numsOf b := (mem_numsOf _ _).2 ⟨c, h, rfl⟩
  have hh := s.all _ hn
  have hg := (v.isC h).get
  rw [spansOf_eq b hh, hg, s.span v (by have := held0_ex hh; rwa [hg] at this)]
  cases high <;> rfl

/-- On whom it rests: a standard, or one with a certificate of a lesser number. -/
theorem Single.by_ {b : Bk} (v : Vb b) (s : Single b) {c : Crt} (h : c ∈ b.certs) : stdOf b c.by_ = true ∨ ∃ d ∈ b.certs, firstOf b c.by_ = some d ∧ d.num < c.num ∧ d.item = c.by_ ∧ d.day ≤ c.day := by
  have hn : c.num ∈ numsOf b := (mem_numsOf _ _).2 ⟨c, h, rfl⟩
  have hh := s.all _ hn
  have hg := (v.isC h).get
  rcases ((held0_iff b _).1 hh).2 with h' | ⟨m, h1, h2, h3, h4, h5⟩
  · exact .inl (by rwa [hg] at h')
  · rw [hg] at h3 h4
    obtain ⟨e, hm⟩ := v.num h1
    refine .inr ⟨getC b m, hm, ?_, by rw [e]; exact h2, h3, onB_day h4⟩
    have := firstOf_eq s hm
    rwa [h3] at this

theorem Single.ne {b : Bk} (v : Vb b) (s : Single b) : ∀ n ∈ numsOf b, (spansOf b n).lo ≤ (spansOf b n).hi := by
  refine v.ind fun n hn ih => ?_
  obtain ⟨e, hc⟩ := v.num hn
  have hk := v.ok hn
  have c1 := s.cert v hc false
  have c2 := s.cert v hc true
  rw [e] at c1 c2
  simp only [rEnd, if_true, Bool.false_eq_true, if_false] at c1 c2
  have h2 := hk.l2
  suffices reachV b (getC b n).by_ (getC b n).day false ≤ reachV b (getC b n).by_ (getC b n).day true by omega
  rcases s.by_ v hc with hs | ⟨d, hd, hf, hlt, hi, hdd⟩
  · unfold reachV
    rw [if_pos hs, if_pos hs]
    have := (v.itm hk.b1 hk.b2).l2
    simpa [rEnd] using this
  · cases hs : stdOf b (getC b n).by_
    · unfold reachV
      rw [if_neg (by rw [hs]; simp), if_neg (by rw [hs]; simp), hf]
      have := ih d.num ((mem_numsOf _ _).2 ⟨d, hd, rfl⟩) (by omega)
      have hdr := (v.itm hk.b1 hk.b2).d1
      have := Int.mul_nonneg hdr (show 0 ≤ (getC b n).day - d.day by omega)
      simp [rEnd]
      omega
    · unfold reachV
      rw [if_pos hs, if_pos hs]
      have := (v.itm hk.b1 hk.b2).l2
      simpa [rEnd] using this

theorem Single.contra {b : Bk} (v : Vb b) (s : Single b) : contra b = false := by
  rw [Bool.eq_false_iff, ne_eq, contra_iff]
  rintro ⟨n, h1, h2⟩
  have hn := held0_mem h1
  obtain ⟨e, hc⟩ := v.num hn
  have hk := v.ok hn
  rw [s.at v (reach_self v h1)] at h2
  unfold reachV at h2
  rw [if_neg (by rw [hk.is]; simp), if_neg (by rw [hk.is]; simp), firstOf_eq s hc] at h2
  have := s.ne v n hn
  dsimp only at h2
  rw [e] at h2
  simp [rEnd] at h2
  omega

/-- Of each item the first certificate. -/
def keepFirst : List Crt → List Crt → List Crt
  | [], out => out
  | c :: cs, out => keepFirst cs (if out.any (fun d => d.item == c.item) then out else out ++ [c])

theorem heldL_all {b : Bk} (h : (heldL b []).length = b.certs.length) : ∀ n ∈ numsOf b, held0 b n = true := by
  have h1 : (heldL b []).length ≤ (numsOf b).length := List.length_filter_le _ _
  have h2 : (numsOf b).length ≤ b.certs.length := by rw [numsOf_length]; exact firsts_length _
  have h3 : ((numsOf b).filter (holds b fun n => decide (n ∈ ([] : List Int)))).length = (numsOf b).length := by
    have : (heldL b []).length = (numsOf b).length := by omega
    exact this
  have := List.length_filter_eq_length_iff.1 h3
  intro n hn
  have := this n hn
  simpa [held0] using this
end Go.Proofs.Ytmcnpfjichbijaa

/- Plain laws: an item with one certificate alone; books without bad ones. No Go here. -/
set_option linter.unusedSimpArgs false
set_option linter.unusedVariables false
namespace Go.Proofs.Ytmcnpfjichbijaa

def onlyC (N : Int) (c o : Crt) : Crt := { o with item := if o.num < c.num ∧ o.item = c.item then N else o.item, by_ := if o.by_ = c.item then N else o.by_ }

/-- A book with a certificate and those with lesser numbers; of its item with none but itself. -/
def onlyB (b : Bk) (c : Crt) : Bk := ⟨b.items ++ [itmOf b c.item], (b.certs.filter fun o => decide (o.num ≤ c.num)).map (onlyC b.items.length c)⟩

theorem onlyB_std {b : Bk} {c : Crt} {i : Int} (h0 : 0 ≤ i) (h : i < b.items.length) : stdOf (onlyB b c) i = stdOf b i := by
  unfold stdOf onlyB
  dsimp only
  rw [List.getElem?_append_left (by omega)]
theorem onlyB_new {b : Bk} {c : Crt} : stdOf (onlyB b c) b.items.length = stdOf b c.item := by
  rw [stdOf_itm]
  unfold onlyB stdOf itmOf
  dsimp only
  rw [List.getElem?_append_right (by omega)]
  simp
  cases b.items[c.item.toNat]? <;> rfl

theorem mem_onlyB {b : Bk} {c x : Crt} : x ∈ (onlyB b c).certs ↔ ∃ o ∈ b.certs, o.num ≤ c.num ∧ onlyC b.items.length c o = x := by
  unfold onlyB
  simp only [List.mem_map, List.mem_filter, decide_eq_true_eq]
  constructor
  · rintro ⟨o, ⟨h1, h2⟩, h3⟩; exact ⟨o, h1, h2, h3⟩
  · rintro ⟨o, h1, h2, h3⟩; exact ⟨o, ⟨h1, h2⟩, h3⟩

theorem onlyC_num (N : Int) (c o : Crt) : (onlyC N c o).num = o.num := rfl
theorem onlyC_day (N : Int) (c o : Crt) : (onlyC N c o).day = o.day := rfl

theorem onlyB_vb {b : Bk} {c : Crt} (v : Vb b) (hc : c ∈ b.certs) (hl : b.items.length ≤ 7) : Vb (onlyB b c) := by
  have hk := (crtOk_iff b c).1 (v.ct c hc)
  have hlen : ((onlyB b c).items.length : Int) = b.items.length + 1 := by simp [onlyB]
  refine ⟨by simp [onlyB]; omega, ?_, fun x hx => ?_, fun x hx => ?_, fun x hx y hy e => ?_, fun x hx y hy e => ?_⟩
  · have := List.length_filter_le (fun o : Crt => decide (o.num ≤ c.num)) b.certs
    have := v.cl
    simp [onlyB]; omega
  · rcases List.mem_append.1 hx with h | h
    · exact v.it x h
    · rw [List.mem_singleton.1 h]
      exact v.it _ (itmOf_mem hk.i1 hk.i2)
  · obtain ⟨o, h1, h2, rfl⟩ := mem_onlyB.1 hx
    have ho := (crtOk_iff b o).1 (v.ct o h1)
    rw [crtOk_iff]
    have e1 : (onlyC b.items.length c o).item = if o.num < c.num ∧ o.item = c.item then (b.items.length : Int) else o.item := rfl
    have e2 : (onlyC b.items.length c o).by_ = if o.by_ = c.item then (b.items.length : Int) else o.by_ := rfl
    have i1 := ho.i1; have i2 := ho.i2; have b1 := ho.b1; have b2 := ho.b2; have ne := ho.ne
    refine ⟨ho.n1, ho.n2, ?_, ?_, ?_, ?_, ?_, ?_, ho.d1, ho.d2, ho.v1, ho.v2, ho.l1, ho.l2, ho.l3⟩
    · rw [e1]; split <;> omega
    · rw [e1, hlen]; split <;> omega
    · rw [e1]
      split
      · rw [onlyB_new]; exact hk.is
      · rw [onlyB_std i1 i2]; exact ho.is
    · rw [e2]; split <;> omega
    · rw [e2, hlen]; split <;> omega
    · rw [e1, e2]
      by_cases hn : o.num < c.num
      · by_cases h3 : o.item = c.item
        · rw [if_neg (show ¬ o.by_ = c.item by omega), if_pos ⟨hn, h3⟩]; omega
        · have h4 : ¬ (o.num < c.num ∧ o.item = c.item) := fun h => h3 h.2
          rw [if_neg h4]; split <;> omega
      · have : o = c := v.uq o h1 c hc (by omega)
        subst this
        have h4 : ¬ (o.num < o.num ∧ o.item = o.item) := fun h => hn h.1
        rw [if_neg h4, if_neg ne]; exact ne
  · obtain ⟨o, h1, h2, rfl⟩ := mem_onlyB.1 hx
    obtain ⟨p, h3, h4, rfl⟩ := mem_onlyB.1 hy
    rw [v.uq o h1 p h3 e]
  · obtain ⟨o, h1, h2, rfl⟩ := mem_onlyB.1 hx
    obtain ⟨p, h3, h4, rfl⟩ := mem_onlyB.1 hy
    exact v.dy o h1 p h3 e

theorem onlyB_nums {b : Bk} {c : Crt} {n : Int} : n ∈ numsOf (onlyB b c) ↔ n ∈ numsOf b ∧ n ≤ c.num := by
  rw [mem_numsOf, mem_numsOf]
  constructor
  · rintro ⟨x, hx, rfl⟩
    obtain ⟨o, h1, h2, rfl⟩ := mem_onlyB.1 hx
    exact ⟨⟨o, h1, rfl⟩, h2⟩
  · rintro ⟨⟨o, h1, rfl⟩, h2⟩
    exact ⟨_, mem_onlyB.2 ⟨o, h1, h2, rfl⟩, rfl⟩

theorem onlyB_get {b : Bk} {c : Crt} (v : Vb b) (vo : Vb (onlyB b c)) {n : Int} (h : n ∈ numsOf (onlyB b c)) : getC (onlyB b c) n = onlyC b.items.length c (getC b n) := by
  obtain ⟨h1, h2⟩ := onlyB_nums.1 h
  obtain ⟨e, hm⟩ := v.num h1
  have := (vo.isC (mem_onlyB.2 ⟨getC b n, hm, by rw [e]; exact h2, rfl⟩)).get
  rwa [onlyC_num, e] at this

/-- What held below it holds alone too. -/
theorem onlyB_held {b : Bk} {c : Crt} (v : Vb b) (hc : c ∈ b.certs) (hl : b.items.length ≤ 7) : ∀ n ∈ numsOf (onlyB b c), held0 (onlyB b c) n = held0 b n := by
  have vo := onlyB_vb v hc hl
  have hk := (crtOk_iff b c).1 (v.ct c hc)
  refine vo.ind fun n hn ih => ?_
  obtain ⟨h1, h2⟩ := onlyB_nums.1 hn
  have g := onlyB_get v vo hn
  have ho := v.ok h1
  have e2 : (onlyC b.items.length c (getC b n)).by_ = if (getC b n).by_ = c.item then (b.items.length : Int) else (getC b n).by_ := rfl
  have b1 := ho.b1; have b2 := ho.b2
  have hstd : stdOf (onlyB b c) (onlyC b.items.length c (getC b n)).by_ = stdOf b (getC b n).by_ := by
    rw [e2]
    split
    · rename_i h; rw [onlyB_new, h]
    · exact onlyB_std b1 b2
  have hit : ∀ m, m ∈ numsOf b → m < n → ((onlyC b.items.length c (getC b m)).item = (onlyC b.items.length c (getC b n)).by_ ↔ (getC b m).item = (getC b n).by_) := fun m hm hmn => by
    have hmo := v.ok hm
    have i1 := hmo.i1; have i2 := hmo.i2
    have e1 : (onlyC b.items.length c (getC b m)).item = if (getC b m).num < c.num ∧ (getC b m).item = c.item then (b.items.length : Int) else (getC b m).item := rfl
    rw [e1, e2, (v.num hm).1]
    by_cases h3 : (getC b m).item = c.item
    · rw [if_pos ⟨by omega, h3⟩]; split <;> omega
    · rw [if_neg (fun h => h3 h.2)]; split <;> omega
  rw [Bool.eq_iff_iff, held0_iff, held0_iff, g, hstd]
  refine and_congr (by simp [h1, hn]) (or_congr Iff.rfl ⟨?_, ?_⟩)
  · rintro ⟨m, h3, h4, h5, h6, h7⟩
    have hm := (onlyB_nums.1 h3).1
    rw [onlyB_get v vo h3] at h5 h6
    exact ⟨m, hm, h4, (hit m hm h4).1 h5, h6, by rw [← ih m h3 h4]; exact h7⟩
  · rintro ⟨m, h3, h4, h5, h6, h7⟩
    have hm : m ∈ numsOf (onlyB b c) := onlyB_nums.2 ⟨h3, by omega⟩
    refine ⟨m, hm, h4, ?_, ?_, by rw [ih m hm h4]; exact h7⟩
    · rw [onlyB_get v vo hm]; exact (hit m h3 h4).2 h5
    · rw [onlyB_get v vo hm]; exact h6

/-- The one certificate of its item. -/
theorem onlyB_one {b : Bk} {c : Crt} (v : Vb b) (hc : c ∈ b.certs) (hl : b.items.length ≤ 7) {n : Int} (hn : n ∈ numsOf (onlyB b c)) (h : (getC (onlyB b c) n).item = c.item) : n = c.num := by
  have vo := onlyB_vb v hc hl
  obtain ⟨h1, h2⟩ := onlyB_nums.1 hn
  rw [onlyB_get v vo hn] at h
  have e1 : (onlyC b.items.length c (getC b n)).item = if (getC b n).num < c.num ∧ (getC b n).item = c.item then (b.items.length : Int) else (getC b n).item := rfl
  rw [e1, (v.num h1).1] at h
  have hk := (crtOk_iff b c).1 (v.ct c hc)
  have := hk.i2
  by_cases hlt : n < c.num
  · split at h
    · omega
    · rename_i h3; exact absurd ⟨hlt, h⟩ h3
  · omega

theorem onlyB_self {b : Bk} {c : Crt} (v : Vb b) (hc : c ∈ b.certs) (hl : b.items.length ≤ 7) : c.num ∈ numsOf (onlyB b c) ∧ getC (onlyB b c) c.num = c := by
  have vo := onlyB_vb v hc hl
  have hm : c.num ∈ numsOf (onlyB b c) := onlyB_nums.2 ⟨(mem_numsOf _ _).2 ⟨c, hc, rfl⟩, Int.le_refl _⟩
  refine ⟨hm, ?_⟩
  rw [onlyB_get v vo hm, (v.isC hc).get]
  have hk := (crtOk_iff b c).1 (v.ct c hc)
  unfold onlyC
  rw [if_neg (by omega), if_neg hk.ne]

theorem onlyB_reach {b : Bk} {c : Crt} (v : Vb b) (hc : c ∈ b.certs) (hl : b.items.length ≤ 7) : reach (onlyB b c) c.item c.day = held0 b c.num := by
  have vo := onlyB_vb v hc hl
  obtain ⟨hm, hg⟩ := onlyB_self v hc hl
  have hk := (crtOk_iff b c).1 (v.ct c hc)
  rw [Bool.eq_iff_iff, reach_iff _ _ _ vo]
  constructor
  · rintro (h | ⟨m, h1, h2, h3, h4⟩)
    · rw [onlyB_std hk.i1 hk.i2, hk.is] at h; cases h
    · have := onlyB_one v hc hl h1 h2
      subst this
      rw [← onlyB_held v hc hl _ h1]; exact h4
  · intro h
    refine .inr ⟨c.num, hm, by rw [hg], by rw [hg]; have := hk.v1; simp [onB, inB]; omega, by rw [onlyB_held v hc hl _ hm]; exact h⟩

/-! ### the best chain ends where it should -/
theorem better_last {x best : List Int} {n : Int} (hx : x.getLast? = some n) (hb : best = [] ∨ best.getLast? = some n) : (better x best).getLast? = some n := by
  unfold better
  split
  · exact hx
  · rename_i h
    rcases hb with h1 | h1
    · exact absurd (.inl h1) h
    · exact h1

theorem fold_last (E : Int → List Int) (h : Int → Bool) (n : Int) : ∀ (l : List Int) (best : List Int), (best = [] ∨ best.getLast? = some n) →
    let r := l.foldl (fun best o => if h o then better (E o ++ [n]) best else best) best
    (r = [] ∨ r.getLast? = some n) ∧ ((best ≠ [] ∨ ∃ o ∈ l, h o = true) → r.getLast? = some n)
  | [], best, hb => ⟨hb, fun h' => by
      rcases h' with h' | ⟨o, ho, _⟩
      · rcases hb with h1 | h1
        · exact absurd h1 h'
        · exact h1
      · cases ho⟩
  | o :: l, best, hb => by
    simp only [List.foldl_cons]
    by_cases ho : h o = true
    · rw [if_pos ho]
      have h1 : (better (E o ++ [n]) best).getLast? = some n := better_last (by simp) hb
      have := fold_last E h n l (better (E o ++ [n]) best) (.inr h1)
      exact ⟨this.1, fun _ => this.2 (.inl fun e => by rw [e] at h1; cases h1)⟩
    · rw [if_neg ho]
      have := fold_last E h n l best hb
      refine ⟨this.1, fun h' => this.2 ?_⟩
      rcases h' with h' | ⟨p, hp, hh⟩
      · exact .inl h'
      · rcases List.mem_cons.1 hp with rfl | hp
        · exact absurd hh ho
        · exact .inr ⟨p, hp, hh⟩

theorem endsOf_last {b : Bk} {n : Int} (h : held0 b n = true) : (endsOf b n).getLast? = some n := by
  rw [endsOf_eq b h]
  unfold endOf
  split
  · rfl
  · rename_i hs
    refine (fold_last (endsOf b) (held0 b) n _ [] (.inl rfl)).2 (.inr ?_)
    rcases held0_ex h with h1 | ⟨m, h1, h2, h3, h4, h5⟩
    · exact absurd h1 hs
    · exact ⟨m, (mem_ofN ..).2 ⟨h1, h2, h3, h4⟩, h5⟩

theorem onlyB_best {b : Bk} {c : Crt} (v : Vb b) (hc : c ∈ b.certs) (hl : b.items.length ≤ 7) (hh : held0 b c.num = true) : (bestOf (onlyB b c) c.item c.day).getLast? = some c.num := by
  have vo := onlyB_vb v hc hl
  obtain ⟨hm, hg⟩ := onlyB_self v hc hl
  have hk := (crtOk_iff b c).1 (v.ct c hc)
  have ho : ofN (getC (onlyB b c)) (numsOf (onlyB b c)) c.item c.day 1000 = [c.num] := by
    refine sorted_ext ((numsOf_lt _).filter _) (by simp) fun n => ?_
    rw [mem_ofN, List.mem_singleton]
    constructor
    · rintro ⟨h1, h2, h3, h4⟩; exact onlyB_one v hc hl h1 h3
    · rintro rfl
      refine ⟨hm, by have := hk.n2; omega, by rw [hg], by rw [hg]; have := hk.v1; simp [onB, inB]; omega⟩
  unfold bestOf
  rw [if_neg (by rw [onlyB_std hk.i1 hk.i2, hk.is]; simp), ho]
  simp only [List.foldl_cons, List.foldl_nil]
  have h2 : held0 (onlyB b c) c.num = true := by rw [onlyB_held v hc hl _ hm]; exact hh
  rw [if_pos h2]
  unfold better
  rw [if_pos (.inl rfl)]
  exact endsOf_last h2

/-! ### without bad ones -/
def dropAll (b : Bk) (l : List Int) : Bk := { b with certs := b.certs.filter fun c => !decide (c.num ∈ l) }

theorem dropAll_vb {b : Bk} (v : Vb b) (l : List Int) : Vb (dropAll b l) := by
  have hm : ∀ c, c ∈ (dropAll b l).certs → c ∈ b.certs := fun c h => (List.mem_filter.1 h).1
  exact ⟨v.il, by have := List.length_filter_le (fun c : Crt => !decide (c.num ∈ l)) b.certs; have := v.cl; show (b.certs.filter _).length ≤ 24; omega, v.it,
    fun c h => by have := v.ct c (hm c h); exact this, fun x hx y hy => v.uq x (hm x hx) y (hm y hy), fun x hx y hy => v.dy x (hm x hx) y (hm y hy)⟩
theorem mem_dropAll {b : Bk} {l : List Int} {c : Crt} : c ∈ (dropAll b l).certs ↔ c ∈ b.certs ∧ c.num ∉ l := by
  unfold dropAll; simp [List.mem_filter]
theorem dropAll_nums {b : Bk} {l : List Int} {n : Int} : n ∈ numsOf (dropAll b l) ↔ n ∈ numsOf b ∧ n ∉ l := by
  rw [mem_numsOf, mem_numsOf]
  constructor
  · rintro ⟨c, h1, rfl⟩
    obtain ⟨h1, h2⟩ := mem_dropAll.1 h1
    exact ⟨⟨c, h1, rfl⟩, h2⟩
  · rintro ⟨⟨c, h1, rfl⟩, h2⟩
    exact ⟨c, mem_dropAll.2 ⟨h1, h2⟩, rfl⟩
theorem dropAll_get {b : Bk} (v : Vb b) {l : List Int} {n : Int} (h : n ∈ numsOf (dropAll b l)) : getC (dropAll b l) n = getC b n := by
  obtain ⟨h1, h2⟩ := dropAll_nums.1 h
  obtain ⟨e, hm⟩ := v.num h1
  have := ((dropAll_vb v l).isC (mem_dropAll.2 ⟨hm, by rw [e]; exact h2⟩)).get
  rwa [e] at this
theorem dropAll_held {b : Bk} (v : Vb b) (l : List Int) : ∀ n ∈ numsOf (dropAll b l), held0 (dropAll b l) n = holds b (fun n => decide (n ∈ l)) n := by
  refine (dropAll_vb v l).ind fun n hn ih => ?_
  obtain ⟨h1, h2⟩ := dropAll_nums.1 hn
  rw [Bool.eq_iff_iff, held0_iff, holds_iff, dropAll_get v hn]
  have hs : stdOf (dropAll b l) = stdOf b := rfl
  rw [hs]
  simp only [hn, h1, h2, decide_false, true_and]
  refine or_congr Iff.rfl ⟨?_, ?_⟩
  · rintro ⟨m, h3, h4, h5, h6, h7⟩
    rw [dropAll_get v h3] at h5 h6
    exact ⟨m, (dropAll_nums.1 h3).1, h4, h5, h6, by rw [← ih m h3 h4]; exact h7⟩
  · rintro ⟨m, h3, h4, h5, h6, h7⟩
    have hm : m ∈ numsOf (dropAll b l) := dropAll_nums.2 ⟨h3, by have := ((holds_iff b _ m).1 h7).2.1; simpa using this⟩
    exact ⟨m, hm, h4, by rw [dropAll_get v hm]; exact h5, by rw [dropAll_get v hm]; exact h6, by rw [ih m hm h4]; exact h7⟩

/-- With more bad ones less holds. -/
theorem holds_mono {b : Bk} (v : Vb b) {f g : Int → Bool} (h : ∀ n, f n = true → g n = true) : ∀ n, holds b g n = true → holds b f n = true := by
  have key := v.ind (P := fun n => holds b g n = true → holds b f n = true) fun n hn ih hh => by
    rw [holds_iff] at hh ⊢
    obtain ⟨h1, h2, h3⟩ := hh
    refine ⟨h1, ?_, ?_⟩
    · cases hf : f n
      · rfl
      · rw [h n hf] at h2; cases h2
    · rcases h3 with h3 | ⟨m, h4, h5, h6, h7, h8⟩
      · exact .inl h3
      · exact .inr ⟨m, h4, h5, h6, h7, ih m h4 h5 h8⟩
  exact fun n hh => key n (holds_mem hh) hh
end Go.Proofs.Ytmcnpfjichbijaa

/- Plain laws: the best chain, among all chains. No Go here. -/
set_option linter.unusedSimpArgs false
set_option linter.unusedVariables false
namespace Go.Proofs.Ytmcnpfjichbijaa

theorem cmpL_swap : ∀ a b : List Int, cmpL b a = -cmpL a b
  | [], [] => rfl
  | [], _ :: _ => rfl
  | _ :: _, [] => rfl
  | x :: xs, y :: ys => by
    unfold cmpL
    rw [cmpL_swap xs ys]
    split <;> split <;> first | omega | rfl
theorem cmpL_zero : ∀ a b : List Int, cmpL a b = 0 → a = b
  | [], [], _ => rfl
  | [], _ :: _, h => by simp [cmpL] at h
  | _ :: _, [], h => by simp [cmpL] at h
  | x :: xs, y :: ys, h => by
    unfold cmpL at h
    split at h
    · omega
    · split at h
      · omega
      · rw [cmpL_zero xs ys h, show x = y by omega]
theorem cmpL_self (a : List Int) : cmpL a a = 0 := by have := cmpL_swap a a; omega
theorem cmpL_trans : ∀ a b c : List Int, cmpL a b ≤ 0 → cmpL b c ≤ 0 → cmpL a c ≤ 0
  | [], [], _, _, h => h
  | [], _ :: _, [], _, h => by simp [cmpL] at h
  | [], _ :: _, _ :: _, _, _ => by simp [cmpL]
  | _ :: _, [], _, h, _ => by simp [cmpL] at h
  | _ :: _, _ :: _, [], _, h => by simp [cmpL] at h
  | x :: xs, y :: ys, z :: zs, h1, h2 => by
    unfold cmpL at h1 h2 ⊢
    by_cases a1 : x < y
    · by_cases a2 : y < z
      · rw [if_pos (by omega)]; omega
      · rw [if_neg a2] at h2
        by_cases a3 : z < y
        · rw [if_pos a3] at h2; omega
        · rw [if_pos (by omega)]; omega
    · rw [if_neg a1] at h1
      by_cases b1 : y < x
      · rw [if_pos b1] at h1; omega
      · rw [if_neg b1] at h1
        by_cases a2 : y < z
        · rw [if_pos (by omega)]; omega
        · rw [if_neg a2] at h2
          by_cases a3 : z < y
          · rw [if_pos a3] at h2; omega
          · rw [if_neg a3] at h2
            rw [if_neg (by omega), if_neg (by omega)]
            exact cmpL_trans xs ys zs h1 h2
theorem cmpL_snoc (n : Int) : ∀ a b : List Int, a.length = b.length → cmpL (a ++ [n]) (b ++ [n]) = cmpL a b
  | [], [], _ => by simp [cmpL]
  | [], _ :: _, h => by simp at h
  | _ :: _, [], h => by simp at h
  | x :: xs, y :: ys, h => by
    simp only [List.cons_append]
    unfold cmpL
    rw [cmpL_snoc n xs ys (by simpa using h)]

theorem before_swap (a b : List Int) : beforeI b a = -beforeI a b := by
  unfold beforeI
  rw [cmpL_swap a b]
  split <;> split <;> omega
theorem before_zero {a b : List Int} (h : beforeI a b = 0) : a = b := by
  unfold beforeI at h
  split at h
  · omega
  · exact cmpL_zero a b h
theorem before_trans {a b c : List Int} (h1 : beforeI a b ≤ 0) (h2 : beforeI b c ≤ 0) : beforeI a c ≤ 0 := by
  unfold beforeI at *
  by_cases e1 : a.length = b.length
  · rw [if_neg (by simp [e1])] at h1
    by_cases e2 : b.length = c.length
    · rw [if_neg (by simp [e2])] at h2
      rw [if_neg (by simp [e1, e2])]
      exact cmpL_trans a b c h1 h2
    · rw [if_pos e2] at h2
      rw [if_pos (by omega)]; omega
  · rw [if_pos e1] at h1
    by_cases e2 : b.length = c.length
    · rw [if_pos (by omega)]; omega
    · rw [if_pos e2] at h2
      rw [if_pos (by omega)]; omega
theorem before_snoc {a b : List Int} (n : Int) (h : beforeI a b ≤ 0) : beforeI (a ++ [n]) (b ++ [n]) ≤ 0 := by
  unfold beforeI at *
  simp only [List.length_append, List.length_singleton]
  by_cases e1 : a.length = b.length
  · rw [if_neg (by simp [e1])] at h
    rw [if_neg (by simp [e1]), cmpL_snoc n a b e1]; exact h
  · rw [if_pos e1] at h
    rw [if_pos (by omega)]; omega

/-- The least one of some lists. -/
structure IsMin (S : List Int → Prop) (r : List Int) : Prop where
  mem : S r
  le : ∀ x, S x → beforeI r x ≤ 0

theorem IsMin.unique {S : List Int → Prop} {r q : List Int} (h : IsMin S r) (k : IsMin S q) : r = q := by
  refine before_zero ?_
  have h1 := h.le q k.mem
  have h2 := k.le r h.mem
  have := before_swap r q
  omega

/-- A fold that keeps the better one finds the least one. -/
theorem fold_min : ∀ (l : List (List Int)) (best : List Int), (∀ x ∈ l, x ≠ []) → (best ≠ [] ∨ l ≠ []) →
    IsMin (fun x => (x = best ∧ best ≠ []) ∨ x ∈ l) (l.foldl (fun best x => better x best) best)
  | [], best, _, h => by
    have hb : best ≠ [] := by rcases h with h | h; exact h; exact absurd rfl h
    refine ⟨.inl ⟨rfl, hb⟩, fun x hx => ?_⟩
    rcases hx with ⟨rfl, _⟩ | hx
    · have := before_swap x x; simp only [List.foldl_nil]; omega
    · cases hx
  | y :: l, best, hl, _ => by
    simp only [List.foldl_cons]
    have hy : y ≠ [] := hl y (by simp)
    have hne : better y best ≠ [] := by
      unfold better
      split
      · exact hy
      · rename_i h; exact fun e => h (.inl e)
    have ih := fold_min l (better y best) (fun x hx => hl x (by simp [hx])) (.inl hne)
    have hb : better y best = y ∨ (better y best = best ∧ best ≠ []) := by
      unfold better
      split
      · exact .inl rfl
      · rename_i h; exact .inr ⟨rfl, fun e => h (.inl e)⟩
    refine ⟨?_, fun x hx => ?_⟩
    · rcases ih.mem with ⟨h1, _⟩ | h1
      · rcases hb with h2 | ⟨h2, h3⟩
        · exact .inr (by rw [h1, h2]; simp)
        · exact .inl ⟨by rw [h1, h2], h3⟩
      · exact .inr (by simp [h1])
    · have h0 := ih.le (better y best) (.inl ⟨rfl, hne⟩)
      rcases hx with ⟨rfl, h1⟩ | hx
      · refine before_trans h0 ?_
        unfold better
        split
        · rename_i h
          rcases h with h | h
          · exact absurd h h1
          · omega
        · have := before_swap x x; omega
      · rcases List.mem_cons.1 hx with rfl | hx
        · refine before_trans h0 ?_
          unfold better
          split
          · have := before_swap x x; omega
          · rename_i h
            have : ¬ beforeI x best < 0 := fun e => h (.inr e)
            have := before_swap x best; omega
        · exact ih.le x (.inr hx)

theorem fold_if {α : Type} (h : α → Bool) (f : α → List Int) : ∀ (l : List α) (best : List Int), l.foldl (fun best o => if h o then better (f o) best else best) best = ((l.filter h).map f).foldl (fun best x => better x best) best
  | [], _ => rfl
  | o :: l, best => by
    rw [List.foldl_cons, fold_if h f l]
    by_cases ho : h o = true
    · rw [if_pos ho, List.filter_cons_of_pos ho, List.map_cons, List.foldl_cons]
    · rw [if_neg ho, List.filter_cons_of_neg (by simpa using ho)]

/-- A chain that ends with a number. -/
inductive Ch (b : Bk) : Int → List Int → Prop
  | one (n : Int) (h : held0 b n = true) (hs : stdOf b (getC b n).by_ = true) : Ch b n [n]
  | more (n m : Int) (l : List Int) (h : held0 b n = true) (hs : stdOf b (getC b n).by_ = false) (hp : Part b (held0 b) (getC b n).by_ (getC b n).day n m) (hl : Ch b m l) : Ch b n (l ++ [n])

theorem Ch.ne {b : Bk} {n : Int} {l : List Int} (h : Ch b n l) : l ≠ [] := by cases h <;> simp

theorem part_mem {b : Bk} {item day below n : Int} : Part b (held0 b) item day below n ↔ n ∈ (ofN (getC b) (numsOf b) item day below).filter (held0 b) := by
  rw [List.mem_filter, mem_ofN]
  unfold Part
  constructor
  · rintro ⟨h1, h2, h3, h4, h5⟩; exact ⟨⟨h1, h2, h3, h4⟩, h5⟩
  · rintro ⟨⟨h1, h2, h3, h4⟩, h5⟩; exact ⟨h1, h2, h3, h4, h5⟩

/-- The best chain that ends with a certificate is the least of all. -/
theorem ends_min {b : Bk} (v : Vb b) : ∀ n ∈ numsOf b, held0 b n = true → IsMin (Ch b n) (endsOf b n) := by
  refine v.ind fun n hn ih h => ?_
  rw [endsOf_eq b h]
  unfold endOf
  split
  · rename_i hs
    refine ⟨.one n h hs, fun x hx => ?_⟩
    cases hx with
    | one => have := before_swap [n] [n]; omega
    | more _ m l _ hs' => rw [hs'] at hs; cases hs
  · rename_i hs
    have hs' : stdOf b (getC b n).by_ = false := by simpa using hs
    rw [fold_if (held0 b) (fun o => endsOf b o ++ [n])]
    obtain ⟨m, hm⟩ : ∃ m, Part b (held0 b) (getC b n).by_ (getC b n).day n m := by
      rcases held0_ex h with h1 | h1
      · exact absurd h1 hs
      · exact h1
    have hmin := fold_min (((ofN (getC b) (numsOf b) (getC b n).by_ (getC b n).day n).filter (held0 b)).map fun o => endsOf b o ++ [n]) []
      (fun x hx => by obtain ⟨o, _, rfl⟩ := List.mem_map.1 hx; simp) (.inr (fun e => by
        have := List.mem_map_of_mem (f := fun o => endsOf b o ++ [n]) (part_mem.1 hm)
        rw [e] at this; cases this))
    generalize List.foldl (fun best x => better x best) [] _ = r at hmin ⊢
    refine ⟨?_, fun x hx => ?_⟩
    · rcases hmin.mem with ⟨_, h1⟩ | h1
      · exact absurd rfl h1
      · obtain ⟨o, h2, rfl⟩ := List.mem_map.1 h1
        have hp := part_mem.2 h2
        exact .more n o _ h hs' hp (ih o hp.1 hp.2.1 hp.2.2.2.2).mem
    · cases hx with
      | one _ _ hs'' => exact absurd hs'' hs
      | more _ o l _ _ hp hl =>
        have h1 := hmin.le (endsOf b o ++ [n]) (.inr (List.mem_map.2 ⟨o, part_mem.1 hp, rfl⟩))
        exact before_trans h1 (before_snoc n ((ih o hp.1 hp.2.1 hp.2.2.2.2).le l hl))

/-- The chains of an item on a day. -/
def ChOf (b : Bk) (item at_ : Int) (l : List Int) : Prop := ∃ n, Part b (held0 b) item at_ 1000 n ∧ Ch b n l

theorem best_min {b : Bk} (v : Vb b) {item at_ : Int} (hs : stdOf b item = false) (hex : ∃ n, Part b (held0 b) item at_ 1000 n) : IsMin (ChOf b item at_) (bestOf b item at_) := by
  unfold bestOf
  rw [if_neg (by rw [hs]; simp), fold_if (held0 b) (endsOf b)]
  obtain ⟨m, hm⟩ := hex
  have hmin := fold_min (((ofN (getC b) (numsOf b) item at_ 1000).filter (held0 b)).map (endsOf b)) []
    (fun x hx => by obtain ⟨o, ho, rfl⟩ := List.mem_map.1 hx; have hp := part_mem.2 ho; exact (ends_min v o hp.1 hp.2.2.2.2).mem.ne) (.inr (fun e => by
      have := List.mem_map_of_mem (f := endsOf b) (part_mem.1 hm)
      rw [e] at this; cases this))
  generalize List.foldl (fun best x => better x best) [] _ = r at hmin ⊢
  refine ⟨?_, fun x hx => ?_⟩
  · rcases hmin.mem with ⟨_, h1⟩ | h1
    · exact absurd rfl h1
    · obtain ⟨o, h2, rfl⟩ := List.mem_map.1 h1
      have hp := part_mem.2 h2
      exact ⟨o, hp, (ends_min v o hp.1 hp.2.2.2.2).mem⟩
  · obtain ⟨o, hp, hl⟩ := hx
    exact before_trans (hmin.le _ (.inr (List.mem_map.2 ⟨o, part_mem.1 hp, rfl⟩))) ((ends_min v o hp.1 hp.2.2.2.2).le x hl)

/-! ### the document's way: all chains -/
theorem flatMap_congr' {α β : Type} {f g : α → List β} : ∀ {l : List α}, (∀ x ∈ l, f x = g x) → l.flatMap f = l.flatMap g
  | [], _ => rfl
  | x :: l, h => by
    rw [List.flatMap_cons, List.flatMap_cons, h x (by simp), flatMap_congr' fun y hy => h y (by simp [hy])]
def chainsF (b : Bk) : Nat → Int → List (List Int)
  | 0, _ => []
  | k + 1, n => if stdOf b (getC b n).by_ then [[n]] else (heldL b []).flatMap fun o => if restsB (getC b n) (getC b o) then (chainsF b k o).map (· ++ [n]) else []

theorem mem_heldL0 (b : Bk) (n : Int) : n ∈ heldL b [] ↔ held0 b n = true := by
  rw [mem_heldL]; simp [held0]

theorem rests_part {b : Bk} (v : Vb b) {n o : Int} (hn : n ∈ numsOf b) : (held0 b o = true ∧ restsB (getC b n) (getC b o) = true) ↔ Part b (held0 b) (getC b n).by_ (getC b n).day n o := by
  unfold restsB Part
  simp only [Bool.and_eq_true, beq_iff_eq, decide_eq_true_eq]
  constructor
  · rintro ⟨h1, ⟨h2, h3⟩, h4⟩
    have ho := held0_mem h1
    rw [(v.num hn).1, (v.num ho).1] at h3
    exact ⟨ho, h3, h2, h4, h1⟩
  · rintro ⟨h1, h2, h3, h4, h5⟩
    exact ⟨h5, ⟨h3, by rw [(v.num hn).1, (v.num h1).1]; exact h2⟩, h4⟩

theorem mem_chainsF {b : Bk} (v : Vb b) : ∀ (k : Nat) (n : Int), n.toNat < k → held0 b n = true → ∀ l, l ∈ chainsF b k n ↔ Ch b n l
  | 0, n, hk, _, l => by omega
  | k + 1, n, hk, h, l => by
    have hn := held0_mem h
    unfold chainsF
    split
    · rename_i hs
      rw [List.mem_singleton]
      constructor
      · rintro rfl; exact .one n h hs
      · intro hl
        cases hl with
        | one => rfl
        | more _ m l _ hs' => rw [hs'] at hs; cases hs
    · rename_i hs
      have hs' : stdOf b (getC b n).by_ = false := by simpa using hs
      rw [List.mem_flatMap]
      constructor
      · rintro ⟨o, ho, hl⟩
        rw [mem_heldL0] at ho
        split at hl
        · rename_i hr
          obtain ⟨y, hy, rfl⟩ := List.mem_map.1 hl
          have hp := (rests_part v hn).1 ⟨ho, hr⟩
          have := v.rng hp.1
          have := hp.2.1
          exact .more n o y h hs' hp ((mem_chainsF v k o (by omega) ho y).1 hy)
        · cases hl
      · intro hl
        cases hl with
        | one _ _ hs'' => exact absurd hs'' hs
        | more _ o y _ _ hp hy =>
          have hr := (rests_part v hn).2 hp
          have := v.rng hp.1
          have := hp.2.1
          refine ⟨o, (mem_heldL0 b o).2 hr.1, ?_⟩
          rw [if_pos hr.2]
          exact List.mem_map.2 ⟨y, (mem_chainsF v k o (by omega) hr.1 y).2 hy, rfl⟩

theorem chainsF_eq {b : Bk} (v : Vb b) : ∀ (k j : Nat) (n : Int), n.toNat < k → n.toNat < j → held0 b n = true → chainsF b k n = chainsF b j n
  | 0, j, n, hk, _, _ => by omega
  | k + 1, 0, n, _, hj, _ => by omega
  | k + 1, j + 1, n, hk, hj, h => by
    have hn := held0_mem h
    unfold chainsF
    split
    · rfl
    · rename_i hs
      have : ∀ o ∈ heldL b [], (if restsB (getC b n) (getC b o) then (chainsF b k o).map (· ++ [n]) else []) = (if restsB (getC b n) (getC b o) then (chainsF b j o).map (· ++ [n]) else []) := fun o ho => by
        rw [mem_heldL0] at ho
        split
        · rename_i hr
          have hp := (rests_part v hn).1 ⟨ho, hr⟩
          have := v.rng hp.1
          have := hp.2.1
          rw [chainsF_eq v k j o (by omega) (by omega) ho]
        · rfl
      exact flatMap_congr' this

/-- All chains that end with a certificate. -/
def chainsOf (b : Bk) (n : Int) : List (List Int) := chainsF b (n.toNat + 1) n

theorem chainsOf_eq {b : Bk} (v : Vb b) {n : Int} (h : held0 b n = true) : chainsOf b n = if stdOf b (getC b n).by_ then [[n]] else (heldL b []).flatMap fun o => if restsB (getC b n) (getC b o) then (chainsOf b o).map (· ++ [n]) else [] := by
  have hn := held0_mem h
  show chainsF b (n.toNat + 1) n = _
  rw [show chainsF b (n.toNat + 1) n = if stdOf b (getC b n).by_ then [[n]] else (heldL b []).flatMap fun o => if restsB (getC b n) (getC b o) then (chainsF b n.toNat o).map (· ++ [n]) else [] from rfl]
  split
  · rfl
  · refine flatMap_congr' fun o ho => ?_
    rw [mem_heldL0] at ho
    split
    · rename_i hr
      have hp := (rests_part v hn).1 ⟨ho, hr⟩
      have := v.rng hp.1
      have := hp.2.1
      unfold chainsOf
      rw [chainsF_eq v n.toNat (o.toNat + 1) o (by omega) (by omega) ho]
    · rfl

/-- The best one, found among all. -/
def refBest (b : Bk) (item at_ : Int) : List Int :=
  if stdOf b item then [] else (heldL b []).foldl (fun best c => if (getC b c).item = item ∧ onB (getC b c) at_ = true then (chainsOf b c).foldl (fun best x => better x best) best else best) []

theorem refBest_fold (b : Bk) (p : Int → Bool) : ∀ (l : List Int) (best : List Int), l.foldl (fun best c => if p c = true then (chainsOf b c).foldl (fun best x => better x best) best else best) best =
    (l.flatMap fun c => if p c = true then chainsOf b c else []).foldl (fun best x => better x best) best
  | [], _ => rfl
  | c :: l, best => by
    rw [List.foldl_cons, refBest_fold b p l, List.flatMap_cons, List.foldl_append]
    split <;> rfl

theorem refBest_eq {b : Bk} (v : Vb b) {item at_ : Int} (h : reach b item at_ = true) : refBest b item at_ = bestOf b item at_ := by
  cases hs : stdOf b item
  · have hex : ∃ n, Part b (held0 b) item at_ 1000 n := by
      rcases (reach_iff b item at_ v).1 h with h1 | ⟨k, h1, h2, h3, h4⟩
      · rw [hs] at h1; cases h1
      · exact ⟨k, h1, by have := v.rng h1; omega, h2, h3, h4⟩
    refine IsMin.unique (S := ChOf b item at_) ?_ (best_min v hs hex)
    unfold refBest
    rw [if_neg (by rw [hs]; simp)]
    have e := refBest_fold b (fun c => decide ((getC b c).item = item ∧ onB (getC b c) at_ = true)) (heldL b []) []
    simp only [decide_eq_true_eq] at e
    rw [e]
    have hmem : ∀ x, (x ∈ (heldL b []).flatMap fun c => if (getC b c).item = item ∧ onB (getC b c) at_ = true then chainsOf b c else []) ↔ ChOf b item at_ x := fun x => by
      rw [List.mem_flatMap]
      constructor
      · rintro ⟨c, hc, hx⟩
        rw [mem_heldL0] at hc
        split at hx
        · rename_i h1
          have hcn := held0_mem hc
          exact ⟨c, ⟨hcn, by have := v.rng hcn; omega, h1.1, h1.2, hc⟩, (mem_chainsF v _ c (by omega) hc x).1 hx⟩
        · cases hx
      · rintro ⟨c, hp, hx⟩
        refine ⟨c, (mem_heldL0 b c).2 hp.2.2.2.2, ?_⟩
        rw [if_pos ⟨hp.2.2.1, hp.2.2.2.1⟩]
        exact (mem_chainsF v _ c (by omega) hp.2.2.2.2 x).2 hx
    obtain ⟨m, hm⟩ := hex
    have hmin := fold_min ((heldL b []).flatMap fun c => if (getC b c).item = item ∧ onB (getC b c) at_ = true then chainsOf b c else []) []
      (fun x hx => by obtain ⟨_, _, hc⟩ := (hmem x).1 hx; exact hc.ne) (.inr (fun e => by
        have := (hmem _).2 ⟨m, hm, (ends_min v m hm.1 hm.2.2.2.2).mem⟩
        rw [e] at this; cases this))
    refine ⟨?_, fun x hx => hmin.le x (.inr ((hmem x).2 hx))⟩
    rcases hmin.mem with ⟨_, h1⟩ | h1
    · exact absurd rfl h1
    · exact (hmem _).1 h1
  · unfold refBest bestOf
    rw [if_pos hs, if_pos hs]
end Go.Proofs.Ytmcnpfjichbijaa

/- Plain laws: spans while they are worked are bounded. No Go here. -/
set_option linter.unusedSimpArgs false
set_option linter.unusedVariables false
namespace Go.Proofs.Ytmcnpfjichbijaa

/-- The spans of the first i certificates. -/
def spU (b : Bk) (h : Int → Bool) (i : Nat) : Int → Rng := ((numsOf b).take i).foldl (spansStep b h) fun _ => ⟨0, 0⟩

theorem spU_succ (b : Bk) (h : Int → Bool) (i : Nat) (hi : i < (numsOf b).length) : spU b h (i + 1) = spansStep b h (spU b h i) (numsOf b)[i] := by
  unfold spU
  rw [List.take_succ_eq_append_getElem hi, List.foldl_append]
  rfl
theorem spU_all (b : Bk) (i : Nat) (hi : (numsOf b).length ≤ i) : spU b (held0 b) i = spansOf b := by
  unfold spU spansOf
  rw [List.take_of_length_le hi]

theorem spanBy_in {b : Bk} (v : Vb b) (h : Int → Bool) {f : Int → Rng} {item day below k : Int} (h0 : 0 ≤ item) (h1 : item < b.items.length) (hk : 1099511627776 ≤ k) (hf : ∀ n, In (f n) k) :
    In (spanBy b h f item day below) (k + 100000) := by
  cases hs : stdOf b item
  · have far : ∀ n, Part b h item day below n → 0 ≤ (itmOf b item).drift * (day - (getC b n).day) ∧ (itmOf b item).drift * (day - (getC b n).day) ≤ 100000 := fun n hn => by
      have := far_bd v hn.1 hn.2.2.2.1
      rwa [hn.2.2.1] at this
    have lo := (span_lo (h := h) (sp := f) (day := day) (below := below) hs _).1 (Int.le_refl _)
    have hi := (span_hi (h := h) (sp := f) (day := day) (below := below) hs _).1 (Int.le_refl _)
    refine ⟨by have := lo.1; omega, ?_, ?_, by have := hi.1; omega⟩
    · refine (span_lo hs _).2 ⟨by omega, fun n hn => ?_⟩
      have := far n hn
      have := hf n
      unfold In at this
      omega
    · refine (span_hi hs _).2 ⟨by omega, fun n hn => ?_⟩
      have := far n hn
      have := hf n
      unfold In at this
      omega
  · rw [span_std hs]
    have hi := v.itm h0 h1
    have g1 := hi.l1; have g2 := hi.l2; have g3 := hi.l3
    exact ⟨by omega, by omega, by omega, by omega⟩

theorem spU_in {b : Bk} (v : Vb b) (h : Int → Bool) : ∀ (i : Nat), i ≤ (numsOf b).length → ∀ n, In (spU b h i n) (1099511627776 + 200000 * i)
  | 0, _, n => by unfold spU In; simp
  | i + 1, hi, n => by
    rw [spU_succ b h i (by omega)]
    have ih := spU_in v h i (by omega)
    unfold spansStep
    split
    · rename_i hn
      have hq : (numsOf b)[i] ∈ numsOf b := List.getElem_mem _
      have hc := v.ok hq
      have := spanBy_in v h (f := spU b h i) (item := (getC b (numsOf b)[i]).by_) (day := (getC b (numsOf b)[i]).day) (below := (numsOf b)[i]) (k := 1099511627776 + 200000 * i) hc.b1 hc.b2 (by omega) ih
      have h1 := hc.l1; have h2 := hc.l2; have h3 := hc.l3
      unfold In plusR at *
      dsimp only
      omega
    · have := ih n
      unfold In at *
      omega
end Go.Proofs.Ytmcnpfjichbijaa

/- Plain laws: best chains while they are worked. No Go here. -/
set_option linter.unusedSimpArgs false
set_option linter.unusedVariables false
namespace Go.Proofs.Ytmcnpfjichbijaa

/-- The best chains of the first i certificates. -/
def endsU (b : Bk) (i : Nat) : Int → List Int := ((numsOf b).take i).foldl (endsStep b (held0 b)) fun _ => []

theorem endsU_succ (b : Bk) (i : Nat) (hi : i < (numsOf b).length) : endsU b (i + 1) = endsStep b (held0 b) (endsU b i) (numsOf b)[i] := by
  unfold endsU
  rw [List.take_succ_eq_append_getElem hi, List.foldl_append]
  rfl
theorem endsU_all (b : Bk) (i : Nat) (hi : (numsOf b).length ≤ i) : endsU b i = endsOf b := by
  unfold endsU endsOf
  rw [List.take_of_length_le hi]

/-- One more candidate. -/
def bestStep (h : Int → Bool) (E : Int → List Int) (n : Int) (best : List Int) (o : Int) : List Int := if h o then better (E o ++ [n]) best else best
def lastStep (h : Int → Bool) (E : Int → List Int) (best : List Int) (o : Int) : List Int := if h o then better (E o) best else best

theorem better_len {x best : List Int} {m : Nat} (h1 : x.length ≤ m) (h2 : best.length ≤ m) : (better x best).length ≤ m := by
  unfold better; split <;> assumption

theorem bestFold_len {h : Int → Bool} {E : Int → List Int} {n : Int} {m : Nat} (hE : ∀ o, (E o).length ≤ m) : ∀ (l : List Int) (best : List Int), best.length ≤ m + 1 → (l.foldl (bestStep h E n) best).length ≤ m + 1
  | [], best, hb => hb
  | o :: l, best, hb => by
    rw [List.foldl_cons]
    refine bestFold_len hE l _ ?_
    unfold bestStep
    split
    · refine better_len ?_ hb
      have := hE o
      simp; omega
    · exact hb
theorem lastFold_len {h : Int → Bool} {E : Int → List Int} {m : Nat} (hE : ∀ o, (E o).length ≤ m) : ∀ (l : List Int) (best : List Int), best.length ≤ m → (l.foldl (lastStep h E) best).length ≤ m
  | [], best, hb => hb
  | o :: l, best, hb => by
    rw [List.foldl_cons]
    refine lastFold_len hE l _ ?_
    unfold lastStep
    split
    · exact better_len (hE o) hb
    · exact hb

theorem endOf_fold (b : Bk) (E : Int → List Int) (n : Int) : endOf b (held0 b) E n = if stdOf b (getC b n).by_ then [n] else (ofN (getC b) (numsOf b) (getC b n).by_ (getC b n).day n).foldl (bestStep (held0 b) E n) [] := rfl
theorem bestOf_fold (b : Bk) (item at_ : Int) : bestOf b item at_ = if stdOf b item then [] else (ofN (getC b) (numsOf b) item at_ 1000).foldl (lastStep (held0 b) (endsOf b)) [] := rfl

theorem endsU_len (b : Bk) : ∀ (i : Nat), i ≤ (numsOf b).length → ∀ n, (endsU b i n).length ≤ i
  | 0, _, n => by unfold endsU; simp
  | i + 1, hi, n => by
    rw [endsU_succ b i (by omega)]
    have ih := endsU_len b i (by omega)
    unfold endsStep
    split
    · rw [endOf_fold]
      split
      · simp
      · exact bestFold_len ih _ [] (by simp)
    · have := ih n; omega
end Go.Proofs.Ytmcnpfjichbijaa

/- Plain laws: what the statements' own loops build: numbers up to a bound, the reference's spans, suspects. No Go here. -/
set_option linter.unusedSimpArgs false
set_option linter.unusedVariables false
namespace Go.Proofs.Ytmcnpfjichbijaa

/-- The numbers up to k of which P is true. -/
def upTo (P : Int → Bool) : Nat → List Int
  | 0 => []
  | k + 1 => if P (k + 1) then upTo P k ++ [(k + 1 : Int)] else upTo P k

theorem upTo_spec (P : Int → Bool) : ∀ k : Nat, (upTo P k).Pairwise (· < ·) ∧ (upTo P k).length ≤ k ∧ ∀ n, n ∈ upTo P k ↔ P n = true ∧ 1 ≤ n ∧ n ≤ k
  | 0 => ⟨List.Pairwise.nil, Nat.le_refl _, fun n => by simp [upTo]; omega⟩
  | k + 1 => by
    obtain ⟨h1, h2, h3⟩ := upTo_spec P k
    unfold upTo
    split
    · rename_i hP
      refine ⟨List.pairwise_append.2 ⟨h1, List.pairwise_singleton _ _, fun x hx y hy => ?_⟩, by simp; omega, fun n => ?_⟩
      · have := (h3 x).1 hx
        rw [List.mem_singleton.1 hy]; omega
      · rw [List.mem_append, h3, List.mem_singleton]
        constructor
        · rintro (⟨a, b, c⟩ | rfl)
          · exact ⟨a, b, by omega⟩
          · exact ⟨hP, by omega, by omega⟩
        · rintro ⟨a, b, c⟩
          by_cases e : n = (k : Int) + 1
          · exact .inr e
          · exact .inl ⟨a, b, by omega⟩
    · rename_i hP
      refine ⟨h1, by omega, fun n => ?_⟩
      rw [h3]
      constructor
      · rintro ⟨a, b, c⟩; exact ⟨a, b, by omega⟩
      · rintro ⟨a, b, c⟩
        refine ⟨a, b, ?_⟩
        by_cases e : n = (k : Int) + 1
        · subst e; exact absurd a hP
        · omega
theorem upTo_len (P : Int → Bool) (k : Nat) : (upTo P k).length ≤ k := (upTo_spec P k).2.1

/-- All of them are the numbers of the book of which it is true. -/
theorem upTo_all {b : Bk} (v : Vb b) {P : Int → Bool} (h : ∀ n, P n = true → n ∈ numsOf b) : upTo P 999 = (numsOf b).filter P := by
  obtain ⟨h1, _, h3⟩ := upTo_spec P 999
  refine sorted_ext h1 ((numsOf_lt b).filter _) fun n => ?_
  rw [h3, List.mem_filter]
  exact ⟨fun ⟨a, _⟩ => ⟨h n a, a⟩, fun ⟨a, b⟩ => ⟨b, by have := v.rng a; omega⟩⟩

/-! ### the reference's spans -/
theorem spansStep_not {b : Bk} {h : Int → Bool} {sp : Int → Rng} {n : Int} (hn : h n = false) : spansStep b h sp n = sp := by
  funext j
  unfold spansStep
  rw [if_neg (by rw [hn]; simp)]

theorem fold_filter_spans (b : Bk) (h : Int → Bool) : ∀ (l : List Int) (sp : Int → Rng), (l.filter h).foldl (spansStep b h) sp = l.foldl (spansStep b h) sp
  | [], _ => rfl
  | n :: l, sp => by
    rw [List.foldl_cons]
    cases hn : h n
    · rw [List.filter_cons_of_neg (by rw [hn]; simp), fold_filter_spans b h l, spansStep_not hn]
    · rw [List.filter_cons_of_pos hn, List.foldl_cons, fold_filter_spans b h l]

theorem heldL_held0 (b : Bk) : heldL b [] = (numsOf b).filter (held0 b) := by
  unfold heldL held0
  have : (fun n : Int => decide (n ∈ ([] : List Int))) = fun _ => false := by funext n; simp
  rw [this]

/-- The spans of the first k that hold. -/
def workTo (b : Bk) (k : Nat) : Int → Rng := ((heldL b []).take k).foldl (spansStep b (held0 b)) fun _ => ⟨0, 0⟩
theorem workTo_all (b : Bk) (k : Nat) (hk : (heldL b []).length ≤ k) : workTo b k = spansOf b := by
  unfold workTo spansOf
  rw [List.take_of_length_le hk, heldL_held0, fold_filter_spans]
theorem workTo_succ (b : Bk) (k : Nat) (hk : k < (heldL b []).length) : workTo b (k + 1) = spansStep b (held0 b) (workTo b k) (heldL b [])[k] := by
  unfold workTo
  rw [List.take_succ_eq_append_getElem hk, List.foldl_append]
  rfl

/-- While the certificates are gone through. -/
def inTo (b : Bk) (sp : Int → Rng) (n : Int) (i : Nat) : Int → Rng := if (b.certs.take i).any (fun c => c.num == n) then spansStep b (held0 b) sp n else sp
theorem inTo_zero (b : Bk) (sp : Int → Rng) (n : Int) : inTo b sp n 0 = sp := by unfold inTo; simp
theorem inTo_ne {b : Bk} {sp : Int → Rng} {n : Int} {i : Nat} {q : Crt} (hq : b.certs[i]? = some q) (hn : q.num ≠ n) : inTo b sp n (i + 1) = inTo b sp n i := by
  unfold inTo
  rw [List.take_add_one, hq, List.any_append]
  have : (q.num == n) = false := by simp [hn]
  simp [this]
theorem inTo_below {b : Bk} {sp : Int → Rng} {n m : Int} {i : Nat} (hm : m ≠ n) : inTo b sp n i m = sp m := by
  unfold inTo
  split
  · unfold spansStep
    rw [if_neg (fun h => hm h.1)]
  · rfl
theorem inTo_eq {b : Bk} (v : Vb b) {sp : Int → Rng} {n : Int} {i : Nat} {q : Crt} (hq : b.certs[i]? = some q) (hn : q.num = n) (hh : held0 b n = true) :
    inTo b sp n (i + 1) = fun j => if j = n then plusR (refSpan b (held0 b) (inTo b sp n i) q.by_ q.day q.num) q.diff else inTo b sp n i j := by
  have hg : getC b n = q := by rw [← hn]; exact (v.isC (List.mem_of_getElem? hq)).get
  funext j
  rw [refSpan_eq v]
  have h1 : inTo b sp n (i + 1) = spansStep b (held0 b) sp n := by
    unfold inTo
    rw [if_pos]
    rw [List.take_add_one, hq, List.any_append]
    simp [hn]
  rw [h1]
  unfold spansStep
  by_cases e : j = n
  · rw [if_pos ⟨e, hh⟩, if_pos e, hg, hn]
    congr 1
    exact (spanBy_congr fun m hm => inTo_below (by omega)).symm
  · rw [if_neg (fun h => e h.1), if_neg e, inTo_below e]
theorem inTo_all {b : Bk} {sp : Int → Rng} {n : Int} {i : Nat} (hi : b.certs.length ≤ i) (hn : n ∈ numsOf b) : inTo b sp n i = spansStep b (held0 b) sp n := by
  unfold inTo
  rw [List.take_of_length_le hi, if_pos]
  obtain ⟨c, h1, h2⟩ := (mem_numsOf b n).1 hn
  exact List.any_eq_true.2 ⟨c, h1, by simp [h2]⟩

theorem spansStep_in {b : Bk} (v : Vb b) (h : Int → Bool) {f : Int → Rng} {k n : Int} (hn : n ∈ numsOf b) (hk : 1099511627776 ≤ k) (hf : ∀ n, In (f n) k) (j : Int) : In (spansStep b h f n j) (k + 200000) := by
  unfold spansStep
  split
  · have hc := v.ok hn
    have := spanBy_in v h (f := f) (item := (getC b n).by_) (day := (getC b n).day) (below := n) (k := k) hc.b1 hc.b2 hk hf
    have h1 := hc.l1; have h2 := hc.l2; have h3 := hc.l3
    unfold In plusR at *
    dsimp only
    omega
  · have := hf j
    unfold In at *
    omega
theorem workTo_in {b : Bk} (v : Vb b) : ∀ (k : Nat), k ≤ (heldL b []).length → ∀ n, In (workTo b k n) (1099511627776 + 200000 * k)
  | 0, _, n => by unfold workTo In; simp
  | k + 1, hk, n => by
    rw [workTo_succ b k (by omega)]
    have hlt : k < (heldL b []).length := by omega
    have hm : (heldL b [])[k] ∈ numsOf b := (List.mem_filter.1 (show (heldL b [])[k] ∈ List.filter _ (numsOf b) from List.getElem_mem hlt)).1
    have := spansStep_in v (held0 b) hm (by omega) (workTo_in v k (by omega)) n
    unfold In at *
    omega
theorem inTo_in {b : Bk} (v : Vb b) {k : Nat} (hk : k ≤ (heldL b []).length) {n : Int} (hn : n ∈ numsOf b) (i : Nat) (j : Int) : In (inTo b (workTo b k) n i j) (1099511627776 + 200000 * k + 200000) := by
  unfold inTo
  have h0 := workTo_in v k hk
  split
  · exact spansStep_in v (held0 b) hn (by omega) h0 j
  · have := h0 j
    unfold In at *
    omega
theorem heldL_len (b : Bk) : (heldL b []).length ≤ b.certs.length := by
  refine Nat.le_trans (List.length_filter_le _ _) ?_
  rw [numsOf_length]; exact firsts_length _
theorem refSpan_in {b : Bk} (v : Vb b) (h : Int → Bool) {f : Int → Rng} {item day below k : Int} (h0 : 0 ≤ item) (h1 : item < b.items.length) (hk : 1099511627776 ≤ k) (hf : ∀ n, In (f n) k) :
    In (refSpan b h f item day below) (k + 100000) := by rw [refSpan_eq v]; exact spanBy_in v h h0 h1 hk hf

/-! ### contradictory, by the reference -/
def refBad (b : Bk) (c : Crt) : Bool := held0 b c.num && decide ((refSpan b (held0 b) (spansOf b) c.item c.day 1000).hi < (refSpan b (held0 b) (spansOf b) c.item c.day 1000).lo)
theorem refContra {b : Bk} (v : Vb b) : b.certs.any (refBad b) = contra b := by
  rw [Bool.eq_iff_iff, contra_iff, List.any_eq_true]
  unfold refBad spanAt
  simp only [Bool.and_eq_true, decide_eq_true_eq, refSpan_eq v]
  constructor
  · rintro ⟨c, hc, h1, h2⟩
    refine ⟨c.num, h1, ?_⟩
    rw [(v.isC hc).get]; exact h2
  · rintro ⟨n, h1, h2⟩
    obtain ⟨e, hm⟩ := v.num (held0_mem h1)
    exact ⟨getC b n, hm, by rw [e]; exact h1, h2⟩

/-! ### suspects, by the statement's loop -/
theorem suspects_upTo {b : Bk} (v : Vb b) : upTo (fun n => decide (n ∈ numsOf b) && !contra (dropC b n)) 999 = suspects b := by
  rw [upTo_all v (fun n h => by simp at h; exact h.1)]
  unfold suspects
  exact List.filter_congr fun n hn => by simp [hn]

/-! ### a book's certificates without some -/
theorem dropAll_cons (b : Bk) (n : Int) (l : List Int) : dropAll (dropC b n) l = dropAll b (n :: l) := by
  unfold dropAll dropC
  simp only [List.filter_filter]
  congr 1
  refine List.filter_congr fun c _ => ?_
  by_cases e : c.num = n <;> simp [e]
theorem dropAll_nil (b : Bk) : dropAll b [] = b := by
  have h : b.certs.filter (fun c => !decide (c.num ∈ ([] : List Int))) = b.certs := List.filter_eq_self.2 fun c _ => by simp
  unfold dropAll
  rw [h]
theorem dropAll_snoc (b : Bk) (n : Int) (l : List Int) : dropC (dropAll b l) n = dropAll b (l ++ [n]) := by
  unfold dropAll dropC
  simp only [List.filter_filter]
  congr 1
  refine List.filter_congr fun c _ => ?_
  by_cases e : c.num = n <;> simp [e]
end Go.Proofs.Ytmcnpfjichbijaa
