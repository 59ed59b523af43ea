/- The lexer in plain Lean: no program in sight. -/
import Init
namespace Go.Shadow.Lex
structure Tok where
  kind : Int
  at_ : Int
  s : List UInt8
  n : Int
  deriving DecidableEq

def isLetter (c : UInt8) : Bool := c.toNat == 95 || (97 ≤ c.toNat && c.toNat ≤ 122) || (65 ≤ c.toNat && c.toNat ≤ 90)
def isDigit (c : UInt8) : Bool := 48 ≤ c.toNat && c.toNat ≤ 57
def isBlank (c : UInt8) : Bool := c.toNat == 32 || c.toNat == 9 || c.toNat == 10 || c.toNat == 13
def cls (c : UInt8) : Int := if isLetter c then 3 else if isDigit c then 2 else if isBlank c then 1 else 0
def isWord (c : UInt8) : Bool := isLetter c || isDigit c

/-- The first place from k on whose byte is not p. -/
def spanTo (p : UInt8 → Bool) (l : List UInt8) (k : Nat) : Nat := k + ((l.drop k).takeWhile p).length
theorem drop_cons {l : List UInt8} {k : Nat} {c : UInt8} (h : l[k]? = some c) : l.drop k = c :: l.drop (k + 1) := by
  obtain ⟨h1, h2⟩ := List.getElem?_eq_some_iff.1 h
  rw [List.drop_eq_getElem_cons h1, h2]
theorem spanTo_step {p : UInt8 → Bool} {l : List UInt8} {k : Nat} {c : UInt8} (h : l[k]? = some c) (hp : p c = true) : spanTo p l (k + 1) = spanTo p l k := by
  simp only [spanTo, drop_cons h, List.takeWhile_cons, hp, if_true, List.length_cons]; omega
theorem spanTo_stop {p : UInt8 → Bool} {l : List UInt8} {k : Nat} {c : UInt8} (h : l[k]? = some c) (hp : p c = false) : spanTo p l k = k := by
  simp [spanTo, drop_cons h, List.takeWhile_cons, hp]
theorem spanTo_end {p : UInt8 → Bool} {l : List UInt8} {k : Nat} (h : l.length ≤ k) : spanTo p l k = k := by
  simp [spanTo, List.drop_eq_nil_of_le h]
theorem takeWhile_length_le (p : UInt8 → Bool) (l : List UInt8) : (l.takeWhile p).length ≤ l.length := by
  induction l with
  | nil => simp
  | cons a l ih => simp only [List.takeWhile_cons]; split <;> simp; omega
theorem spanTo_ge (p : UInt8 → Bool) (l : List UInt8) (k : Nat) : k ≤ spanTo p l k := by simp [spanTo]
theorem spanTo_le (p : UInt8 → Bool) (l : List UInt8) (k : Nat) (h : k ≤ l.length) : spanTo p l k ≤ l.length := by
  have := takeWhile_length_le p (l.drop k)
  simp only [List.length_drop] at this
  simp only [spanTo]; omega

/-- The number of blanks and comments' bytes ahead ('b': within a comment). -/
def sk : Bool → List UInt8 → Nat
  | _, [] => 0
  | false, c :: r => if isBlank c then 1 + sk false r else if c.toNat = 35 then 1 + sk true r else 0
  | true, c :: r => if c.toNat = 10 then 1 + sk false r else 1 + sk true r
def skipTo (l : List UInt8) (k : Nat) : Nat := k + sk false (l.drop k)

/-! ### one token -/
def esc (d : UInt8) : Option UInt8 := if d.toNat = 34 then some 34 else if d.toNat = 92 then some 92 else if d.toNat = 110 then some 10 else none
/-- A text behind its quotation mark: an error, or its bytes and how many bytes are left behind it. -/
def textScan : List UInt8 → List UInt8 → Sum Nat (List UInt8 × Nat)
  | [], b => if 200 < b.length then .inl 2 else .inl 28
  | [c], b => if 200 < b.length then .inl 2 else if c.toNat = 34 then .inr (b, 0) else if c.toNat = 92 then .inl 28 else if c.toNat < 32 ∨ 126 < c.toNat then .inl 28 else textScan [] (b ++ [c])
  | c :: d :: r, b => if 200 < b.length then .inl 2 else if c.toNat = 34 then .inr (b, (d :: r).length) else
    if c.toNat = 92 then (match esc d with
      | none => .inl 28
      | some e => textScan r (b ++ [e]))
    else if c.toNat < 32 ∨ 126 < c.toNat then .inl 28 else textScan (d :: r) (b ++ [c])

theorem textScan_nil (b : List UInt8) : textScan [] b = if 200 < b.length then .inl 2 else .inl 28 := rfl
theorem textScan_cons (c : UInt8) (r b : List UInt8) : textScan (c :: r) b = if 200 < b.length then .inl 2 else if c.toNat = 34 then .inr (b, r.length) else
    if c.toNat = 92 then (match r with
      | [] => .inl 28
      | d :: r' => match esc d with
        | none => .inl 28
        | some e => textScan r' (b ++ [e]))
    else if c.toNat < 32 ∨ 126 < c.toNat then .inl 28 else textScan r (b ++ [c]) := by
  cases r with
  | nil => simp [textScan]
  | cons d r => rw [textScan]

theorem sk_comment (r : List UInt8) : sk true r = (r.takeWhile (·.toNat != 10)).length + sk false (r.drop (r.takeWhile (·.toNat != 10)).length) := by
  induction r with
  | nil => rfl
  | cons c r ih =>
    by_cases hc : c.toNat = 10
    · simp [sk, hc, isBlank]
    · simp only [sk, hc, if_false, List.takeWhile_cons, bne_iff_ne, ne_eq, not_false_eq_true, if_true, List.length_cons, List.drop_succ_cons, ih]; omega
theorem sk_le (b : Bool) (r : List UInt8) : sk b r ≤ r.length := by
  induction r generalizing b with
  | nil => cases b <;> simp [sk]
  | cons c r ih =>
    cases b
    · simp only [sk, List.length_cons]
      split
      · have := ih false; omega
      · split
        · have := ih true; omega
        · omega
    · simp only [sk, List.length_cons]
      split
      · have := ih false; omega
      · have := ih true; omega
theorem skipTo_ge (l : List UInt8) (k : Nat) : k ≤ skipTo l k := by simp [skipTo]
theorem skipTo_le (l : List UInt8) (k : Nat) (h : k ≤ l.length) : skipTo l k ≤ l.length := by
  have := sk_le false (l.drop k)
  simp only [List.length_drop] at this
  simp only [skipTo]; omega
theorem skipTo_blank {l : List UInt8} {k : Nat} {c : UInt8} (h : l[k]? = some c) (hb : isBlank c = true) : skipTo l (k + 1) = skipTo l k := by
  simp only [skipTo, drop_cons h, sk, hb, if_true]; omega
theorem skipTo_stop {l : List UInt8} {k : Nat} {c : UInt8} (h : l[k]? = some c) (hb : isBlank c = false) (h2 : c.toNat ≠ 35) : skipTo l k = k := by
  simp [skipTo, drop_cons h, sk, hb, h2]
theorem skipTo_end {l : List UInt8} {k : Nat} (h : l.length ≤ k) : skipTo l k = k := by
  simp [skipTo, List.drop_eq_nil_of_le h, sk]
/-- A comment: up to its line feed, or to the end. -/
theorem skipTo_comment {l : List UInt8} {k : Nat} {c : UInt8} (h : l[k]? = some c) (h2 : c.toNat = 35) : skipTo l (k + ((l.drop k).takeWhile (·.toNat != 10)).length) = skipTo l k ∧ k < k + ((l.drop k).takeWhile (·.toNat != 10)).length := by
  have hb : isBlank c = false := by simp [isBlank, h2]
  have hc := sk_comment (l.drop (k + 1))
  simp only [skipTo, drop_cons h, sk, hb, h2, if_false, if_true, List.takeWhile_cons, bne_iff_ne, ne_eq, Nat.reduceEqDiff, not_false_eq_true, List.length_cons]
  refine ⟨?_, by omega⟩
  rw [show l.drop (k + ((l.drop (k + 1)).takeWhile (·.toNat != 10)).length.succ) = (l.drop (k + 1)).drop ((l.drop (k + 1)).takeWhile (·.toNat != 10)).length from by rw [List.drop_drop]; congr 1; omega]
  simp only [Bool.false_eq_true, if_false]
  omega

def signs2 : List (List UInt8) := [[45, 62], [58, 61], [61, 61], [33, 61], [60, 61], [62, 61], [38, 38], [124, 124], [46, 46]]
def signs1 : List UInt8 := [40, 41, 123, 125, 91, 93, 44, 59, 58, 46, 43, 45, 42, 47, 37, 60, 62, 61, 33, 38, 124, 64, 63, 94, 126]
def signAt (r : List UInt8) : Option (List UInt8) := match signs2.find? (·.isPrefixOf r) with
  | some p => some p
  | none => match r with
    | [] => none
    | c :: _ => if c ∈ signs1 then some [c] else none

def digitsVal (s : List UInt8) : Nat := s.foldl (fun n c => 10 * n + (c.toNat - 48)) 0
def numVal (s : List UInt8) : Option Nat := if s.all isDigit ∧ s.length ≤ 15 ∧ ¬ (1 < s.length ∧ s.head? = some 48) then some (digitsVal s) else none

/-- The token at k, and where it ends; or an error. -/
def lexOne (l : List UInt8) (k : Nat) : Sum Nat (Tok × Nat) := match l[k]? with
  | none => .inl 26
  | some c =>
    if isLetter c then
      let to := spanTo isWord l k
      if 32 < to - k then .inl 2 else .inr (⟨1, k, (l.take to).drop k, 0⟩, to)
    else if isDigit c then
      let to := spanTo isWord l k
      match numVal ((l.take to).drop k) with
      | some n => .inr (⟨2, k, [], n⟩, to)
      | none => .inl 27
    else if c.toNat = 34 then
      match textScan (l.drop (k + 1)) [] with
      | .inl e => .inl e
      | .inr (b, left) => .inr (⟨3, k, b, 0⟩, l.length - left)
    else match signAt (l.drop k) with
      | some s => .inr (⟨4, k, s, 0⟩, k + s.length)
      | none => .inl 26

/-- The tokens from k on (k: no blank), or the place and the error. -/
def lexJ (l : List UInt8) (k : Nat) : Sum (Nat × Nat) (List Tok) :=
  if h : k < l.length then match lexOne l k with
    | .inl e => .inl (k, e)
    | .inr (t, to) => if h2 : k < to ∧ k < skipTo l to then match lexJ l (skipTo l to) with
      | .inl p => .inl p
      | .inr ts => .inr (t :: ts)
      else .inl (k, 0)
  else .inr [⟨5, l.length, [], 0⟩]
  termination_by l.length - k
def lex (l : List UInt8) : Sum (Nat × Nat) (List Tok) := if 65536 < l.length then .inl (0, 2) else lexJ l (skipTo l 0)
end Go.Shadow.Lex
