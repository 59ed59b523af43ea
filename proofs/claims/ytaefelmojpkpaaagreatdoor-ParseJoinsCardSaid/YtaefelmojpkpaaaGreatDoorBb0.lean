/- Proved: parts of the proof: The lexer in plain Lean: no program in sight; The lexer in plain Lean: against the library's own words; The plain grammar: expressions, forms, and what the parser makes of a list of tokens, as one relation; THE SHADOW LOGIC, part 0: annotated values, how they stand for the model's values in a world, what never changes, the invariant; THE SHADOW LOGIC, part 1: what each change of memory does to the invariant; THE SHADOW LOGIC, part 2: append; THE SHADOW LOGIC, part 3: shadow operations, and what they mean; THE SHADOW LOGIC, part 4: which shadow operation stands for which operation of the model;. Conditions: as each theorem says. -/
import Init
import Derived.Lib.AtoiAll
import Derived.Lib.Bytealg
import Derived.Calls
import Derived.Orders
import Derived.Below
import Derived.Laws.AppendOwn
import Derived.Laws.MakeOwn
import Derived.KernelRfl
import Derived.Laws.Strings
import Derived.Laws.BytesArg
import Derived.Laws.StructEq
import Derived.Laws.Slices
import Derived.Laws.Tables
import Derived.Laws.DeepStrings4

/- The lexer in plain Lean: no program in sight. -/
namespace Go.Shadow.Lex
structure Tok where
  kind : Int
  at_ : Int
  s : List UInt8
  n : Int
  deriving DecidableEq

def isLetter (c : UInt8) : Bool := c.toNat == 95 || (97 ≤ c.toNat && c.toNat ≤ 122) || (65 ≤ c.toNat && c.toNat ≤ 90)
def isDigit (c : UInt8) : Bool := 48 ≤ c.toNat && c.toNat ≤ 57
def isBlank (c : UInt8) : Bool := c.toNat == 32 || c.toNat == 9 || c.toNat == 10 || c.toNat == 13
def cls (c : UInt8) : Int := if isLetter c then 3 else if isDigit c then 2 else if isBlank c then 1 else 0
def isWord (c : UInt8) : Bool := isLetter c || isDigit c

/-- The first place from k on whose byte is not p. -/
def spanTo (p : UInt8 → Bool) (l : List UInt8) (k : Nat) : Nat := k + ((l.drop k).takeWhile p).length
theorem drop_cons {l : List UInt8} {k : Nat} {c : UInt8} (h : l[k]? = some c) : l.drop k = c :: l.drop (k + 1) := by
  obtain ⟨h1, h2⟩ := List.getElem?_eq_some_iff.1 h
  rw [List.drop_eq_getElem_cons h1, h2]
theorem spanTo_step {p : UInt8 → Bool} {l : List UInt8} {k : Nat} {c : UInt8} (h : l[k]? = some c) (hp : p c = true) : spanTo p l (k + 1) = spanTo p l k := by
  simp only [spanTo, drop_cons h, List.takeWhile_cons, hp, if_true, List.length_cons]; omega
theorem spanTo_stop {p : UInt8 → Bool} {l : List UInt8} {k : Nat} {c : UInt8} (h : l[k]? = some c) (hp : p c = false) : spanTo p l k = k := by
  simp [spanTo, drop_cons h, List.takeWhile_cons, hp]
theorem spanTo_end {p : UInt8 → Bool} {l : List UInt8} {k : Nat} (h : l.length ≤ k) : spanTo p l k = k := by
  simp [spanTo, List.drop_eq_nil_of_le h]
theorem takeWhile_length_le (p : UInt8 → Bool) (l : List UInt8) : (l.takeWhile p).length ≤ l.length := by
  induction l with
  | nil => simp
  | cons a l ih => simp only [List.takeWhile_cons]; split <;> simp; omega
theorem spanTo_ge (p : UInt8 → Bool) (l : List UInt8) (k : Nat) : k ≤ spanTo p l k := by simp [spanTo]
theorem spanTo_le (p : UInt8 → Bool) (l : List UInt8) (k : Nat) (h : k ≤ l.length) : spanTo p l k ≤ l.length := by
  have := takeWhile_length_le p (l.drop k)
  simp only [List.length_drop] at this
  simp only [spanTo]; omega

/-- The number of blanks and comments' bytes ahead ('b': within a comment). -/
def sk : Bool → List UInt8 → Nat
  | _, [] => 0
  | false, c :: r => if isBlank c then 1 + sk false r else if c.toNat = 35 then 1 + sk true r else 0
  | true, c :: r => if c.toNat = 10 then 1 + sk false r else 1 + sk true r
def skipTo (l : List UInt8) (k : Nat) : Nat := k + sk false (l.drop k)

/-! ### one token -/
def esc (d : UInt8) : Option UInt8 := if d.toNat = 34 then some 34 else if d.toNat = 92 then some 92 else if d.toNat = 110 then some 10 else none
/-- A text behind its quotation mark: an error, or its bytes and how many bytes are left behind it. -/
def textScan : List UInt8 → List UInt8 → Sum Nat (List UInt8 × Nat)
  | [], b => if 200 < b.length then .inl 2 else .inl 28
  | [c], b => if 200 < b.length then .inl 2 else if c.toNat = 34 then .inr (b, 0) else if c.toNat = 92 then .inl 28 else if c.toNat < 32 ∨ 126 < c.toNat then .inl 28 else textScan [] (b ++ [c])
  | c :: d :: r, b => if 200 < b.length then .inl 2 else if c.toNat = 34 then .inr (b, (d :: r).length) else
    if c.toNat = 92 then (match esc d with
      | none => .inl 28
      | some e => textScan r (b ++ [e]))
    else if c.toNat < 32 ∨ 126 < c.toNat then .inl 28 else textScan (d :: r) (b ++ [c])

theorem textScan_nil (b : List UInt8) : textScan [] b = if 200 < b.length then .inl 2 else .inl 28 := rfl
theorem textScan_cons (c : UInt8) (r b : List UInt8) : textScan (c :: r) b = if 200 < b.length then .inl 2 else if c.toNat = 34 then .inr (b, r.length) else
    if c.toNat = 92 then (match r with
      | [] => .inl 28
      | d :: r' => match esc d with
        | none => .inl 28
        | some e => textScan r' (b ++ [e]))
    else if c.toNat < 32 ∨ 126 < c.toNat then .inl 28 else textScan r (b ++ [c]) := by
  cases r with
  | nil => simp [textScan]
  | cons d r => rw [textScan]

theorem sk_comment (r : List UInt8) : sk true r = (r.takeWhile (·.toNat != 10)).length + sk false (r.drop (r.takeWhile (·.toNat != 10)).length) := by
  induction r with
  | nil => rfl
  | cons c r ih =>
    by_cases hc : c.toNat = 10
    · simp [sk, hc, isBlank]
    · simp only [sk, hc, if_false, List.takeWhile_cons, bne_iff_ne, ne_eq, not_false_eq_true, if_true, List.length_cons, List.drop_succ_cons, ih]; omega
theorem sk_le (b : Bool) (r : List UInt8) : sk b r ≤ r.length := by
  induction r generalizing b with
  | nil => cases b <;> simp [sk]
  | cons c r ih =>
    cases b
    · simp only [sk, List.length_cons]
      split
      · have := ih false; omega
      · split
        · have := ih true; omega
        · omega
    · simp only [sk, List.length_cons]
      split
      · have := ih false; omega
      · have := ih true; omega
theorem skipTo_ge (l : List UInt8) (k : Nat) : k ≤ skipTo l k := by simp [skipTo]
theorem skipTo_le (l : List UInt8) (k : Nat) (h : k ≤ l.length) : skipTo l k ≤ l.length := by
  have := sk_le false (l.drop k)
  simp only [List.length_drop] at this
  simp only [skipTo]; omega
theorem skipTo_blank {l : List UInt8} {k : Nat} {c : UInt8} (h : l[k]? = some c) (hb : isBlank c = true) : skipTo l (k + 1) = skipTo l k := by
  simp only [skipTo, drop_cons h, sk, hb, if_true]; omega
theorem skipTo_stop {l : List UInt8} {k : Nat} {c : UInt8} (h : l[k]? = some c) (hb : isBlank c = false) (h2 : c.toNat ≠ 35) : skipTo l k = k := by
  simp [skipTo, drop_cons h, sk, hb, h2]
theorem skipTo_end {l : List UInt8} {k : Nat} (h : l.length ≤ k) : skipTo l k = k := by
  simp [skipTo, List.drop_eq_nil_of_le h, sk]
/-- A comment: up to its line feed, or to the end. -/
theorem skipTo_comment {l : List UInt8} {k : Nat} {c : UInt8} (h : l[k]? = some c) (h2 : c.toNat = 35) : skipTo l (k + ((l.drop k).takeWhile (·.toNat != 10)).length) = skipTo l k ∧ k < k + ((l.drop k).takeWhile (·.toNat != 10)).length := by
  have hb : isBlank c = false := by simp [isBlank, h2]
  have hc := sk_comment (l.drop (k + 1))
  simp only [skipTo, drop_cons h, sk, hb, h2, if_false, if_true, List.takeWhile_cons, bne_iff_ne, ne_eq, Nat.reduceEqDiff, not_false_eq_true, List.length_cons]
  refine ⟨?_, by omega⟩
  rw [show l.drop (k + ((l.drop (k + 1)).takeWhile (·.toNat != 10)).length.succ) = (l.drop (k + 1)).drop ((l.drop (k + 1)).takeWhile (·.toNat != 10)).length from by rw [List.drop_drop]; congr 1; omega]
  simp only [Bool.false_eq_true, if_false]
  omega

def signs2 : List (List UInt8) := [[45, 62], [58, 61], [61, 61], [33, 61], [60, 61], [62, 61], [38, 38], [124, 124], [46, 46]]
def signs1 : List UInt8 := [40, 41, 123, 125, 91, 93, 44, 59, 58, 46, 43, 45, 42, 47, 37, 60, 62, 61, 33, 38, 124, 64, 63, 94, 126]
def signAt (r : List UInt8) : Option (List UInt8) := match signs2.find? (·.isPrefixOf r) with
  | some p => some p
  | none => match r with
    | [] => none
    | c :: _ => if c ∈ signs1 then some [c] else none

def digitsVal (s : List UInt8) : Nat := s.foldl (fun n c => 10 * n + (c.toNat - 48)) 0
def numVal (s : List UInt8) : Option Nat := if s.all isDigit ∧ s.length ≤ 15 ∧ ¬ (1 < s.length ∧ s.head? = some 48) then some (digitsVal s) else none

/-- The token at k, and where it ends; or an error. -/
def lexOne (l : List UInt8) (k : Nat) : Sum Nat (Tok × Nat) := match l[k]? with
  | none => .inl 26
  | some c =>
    if isLetter c then
      let zz := spanTo isWord l k
      if 32 < zz - k then .inl 2 else .inr (⟨1, k, (l.take zz).drop k, 0⟩, zz)
    else if isDigit c then
      let zz := spanTo isWord l k
      match numVal ((l.take zz).drop k) with
      | some n => .inr (⟨2, k, [], n⟩, zz)
      | none => .inl 27
    else if c.toNat = 34 then
      match textScan (l.drop (k + 1)) [] with
      | .inl e => .inl e
      | .inr (b, left) => .inr (⟨3, k, b, 0⟩, l.length - left)
    else match signAt (l.drop k) with
      | some s => .inr (⟨4, k, s, 0⟩, k + s.length)
      | none => .inl 26

/-- The tokens from k on (k: no blank), or the place and the error. -/
def lexJ (l : List UInt8) (k : Nat) : Sum (Nat × Nat) (List Tok) :=
  if h : k < l.length then match lexOne l k with
    | .inl e => .inl (k, e)
    | .inr (t, zz) => if h2 : k < zz ∧ k < skipTo l zz then match lexJ l (skipTo l zz) with
      | .inl p => .inl p
      | .inr ts => .inr (t :: ts)
      else .inl (k, 0)
  else .inr [⟨5, l.length, [], 0⟩]
  termination_by l.length - k
def lex (l : List UInt8) : Sum (Nat × Nat) (List Tok) := if 65536 < l.length then .inl (0, 2) else lexJ l (skipTo l 0)
end Go.Shadow.Lex

/- The lexer in plain Lean: against the library's own words. -/
namespace Go.Shadow.Lex
open Go

theorem digitsVal_bound (s : List UInt8) : ∀ acc, s.all isDigit = true → s.foldl (fun n (c : UInt8) => 10 * n + (c.toNat - 48)) acc < (acc + 1) * 10 ^ s.length := by
  induction s with
  | nil => intro acc _; simp
  | cons c s ih =>
    intro acc h
    simp only [List.all_cons, Bool.and_eq_true] at h
    have hd : c.toNat - 48 ≤ 9 := by have := h.1; simp [isDigit] at this; omega
    have := ih (10 * acc + (c.toNat - 48)) h.2
    simp only [List.foldl_cons, List.length_cons, Nat.pow_succ]
    calc _ < _ := this
      _ ≤ ((acc + 1) * 10) * 10 ^ s.length := Nat.mul_le_mul_right _ (by omega)
      _ = _ := by rw [Nat.mul_assoc, Nat.mul_comm (10 ^ s.length) 10]
theorem parse_digits (s : List UInt8) : ∀ acc, s.all isDigit = true → (acc + 1) * 10 ^ s.length ≤ 1000000000000000000 → Lib.parseUint10 acc s = .ok (s.foldl (fun n (c : UInt8) => 10 * n + (c.toNat - 48)) acc) := by
  induction s with
  | nil => intro acc _ _; rfl
  | cons c s ih =>
    intro acc h hb
    simp only [List.all_cons, Bool.and_eq_true] at h
    have h1 : 48 ≤ c.toNat ∧ c.toNat ≤ 57 := by simpa [isDigit] using h.1
    have hp : 1 ≤ 10 ^ s.length := Nat.one_le_pow _ _ (by omega)
    simp only [List.length_cons, Nat.pow_succ] at hb
    have hb2 : (acc + 1) * 10 * 10 ^ s.length ≤ 1000000000000000000 := by rw [Nat.mul_assoc, Nat.mul_comm 10]; exact hb
    have hb3 : (acc + 1) * 10 * 1 ≤ (acc + 1) * 10 * 10 ^ s.length := Nat.mul_le_mul_left _ hp
    simp only [Lib.parseUint10, h1, and_self, if_true, List.foldl_cons]
    rw [if_neg (by omega), if_neg (by omega), Nat.mul_comm acc 10]
    refine ih _ h.2 (Nat.le_trans (Nat.mul_le_mul_right _ ?_) hb2)
    omega
theorem parse_other (s : List UInt8) : ∀ acc u, Lib.parseUint10 acc s = .ok u → s.all isDigit = true := by
  induction s with
  | nil => intro _ _ _; rfl
  | cons c s ih =>
    intro acc u h
    simp only [Lib.parseUint10] at h
    split at h
    · rename_i h1
      split at h
      · cases h
      · split at h
        · cases h
        · simp only [List.all_cons, Bool.and_eq_true]
          exact ⟨by simp [isDigit, h1], ih _ _ h⟩
    · cases h

theorem atoi_digit {c : UInt8} {r : List UInt8} (hc : isDigit c = true) :
    (∀ v, Lib.atoiAll (c :: r) = .ok v → ∃ u, Lib.parseUint10 0 (c :: r) = .ok u ∧ v = (u : Int)) ∧ ∀ u, Lib.parseUint10 0 (c :: r) = .ok u → u < 9223372036854775808 → Lib.atoiAll (c :: r) = .ok (u : Int) := by
  have h1 : 48 ≤ c.toNat ∧ c.toNat ≤ 57 := by simpa [isDigit] using hc
  have h2 : ¬ c.toNat = 43 := by omega
  have h3 : ¬ c.toNat = 45 := by omega
  simp only [Lib.atoiAll, Lib.parseMag, h2, h3, or_self, if_false, reduceCtorEq]
  rcases Lib.parseUint10 0 (c :: r) with u | _ | _
  · refine ⟨fun v h => ?_, fun u' h hu => ?_⟩
    · simp only [false_and, not_false_eq_true, true_and, if_false] at h
      split at h
      · cases h
      · injection h with h; exact ⟨u, rfl, h.symm⟩
    · injection h with h; subst h
      simp only [false_and, not_false_eq_true, true_and, if_false]
      rw [if_neg (by omega)]
  · exact ⟨fun v h => (by cases h), fun u h => (by cases h)⟩
  · exact ⟨fun v h => (by cases h), fun u h => (by cases h)⟩
theorem atoi_ok {c : UInt8} {r : List UInt8} {v : Int} (hc : isDigit c = true) (h : Lib.atoiAll (c :: r) = .ok v) : (c :: r).all isDigit = true ∧ ((c :: r).length ≤ 15 → v = digitsVal (c :: r)) := by
  obtain ⟨u, hp, rfl⟩ := (atoi_digit hc).1 v h
  have ha := parse_other _ _ _ hp
  refine ⟨ha, fun hl => ?_⟩
  have := parse_digits (c :: r) 0 ha (by
    have : 10 ^ (c :: r).length ≤ 10 ^ 15 := Nat.pow_le_pow_right (by omega) hl
    omega)
  rw [this] at hp
  injection hp with hp
  rw [← hp]; rfl
theorem atoi_bad {c : UInt8} {r : List UInt8} (hc : isDigit c = true) (h : ∀ v, Lib.atoiAll (c :: r) ≠ .ok v) : numVal (c :: r) = none := by
  unfold numVal
  rw [if_neg]
  rintro ⟨ha, hl, _⟩
  have hp := parse_digits (c :: r) 0 ha (by
    have : 10 ^ (c :: r).length ≤ 10 ^ 15 := Nat.pow_le_pow_right (by omega) hl
    omega)
  have hb := digitsVal_bound (c :: r) 0 ha
  have : 10 ^ (c :: r).length ≤ 10 ^ 15 := Nat.pow_le_pow_right (by omega) hl
  exact h _ ((atoi_digit hc).2 _ hp (by omega))
end Go.Shadow.Lex

/- The plain grammar: expressions, forms, and what the parser makes of a list of tokens, as one relation. -/
namespace Go.Shadow.Lex

/-- An expression: operation, number, text, operands, offset. -/
inductive Ex where
  | mk (op n : Int) (s : List UInt8) (kids : List Ex) (at_ : Int)
def Ex.op : Ex → Int | .mk op _ _ _ _ => op
def Ex.off : Ex → Int | .mk _ _ _ _ a => a

def isS (s : List UInt8) : List Tok → Bool
  | t :: _ => t.kind == 4 && t.s == s
  | [] => false
def begins : List Tok → Bool
  | t :: r => (t.kind == 1 || t.kind == 2 || t.kind == 3) || isS [40] (t :: r) || isS [45] (t :: r)
  | [] => false
/-- The error of an operand at a place: 5: wrong; 2: too deep. -/
def first (l : List Tok) (d : Int) (no : Bool) : Option Int :=
  if (!begins l && !(no && isS [33] l)) = true then some 5 else if d > 30 then some 2 else none
def hd (l : List Tok) : Tok := l.headD ⟨0, 0, [], 0⟩

def opsT : List (List UInt8 × Int × Nat) := [([42], 7, 6), ([47], 8, 6), ([37], 9, 6), ([43], 10, 5), ([45], 11, 5), ([61, 61], 12, 4), ([33, 61], 13, 4), ([60], 14, 4), ([60, 61], 15, 4), ([62], 16, 4), ([62, 61], 17, 4), ([38, 38], 18, 2), ([124, 124], 19, 1)]
/-- The operation and level of a binary sign. -/
def opOf (l : List Tok) : Option (Int × Nat) := (opsT.find? fun o => isS o.1 l).map (·.2)

inductive NT where
  | expr
  | lvl (n : Nat)
  | more (n : Nat) (e : Ex)
  | neg
  | atom
  | args (s : List UInt8) (at_ : Int) (kids : List Ex)
inductive Res where
  | ok (e : Ex) (r : List Tok)
  | err (E : Int) (r : List Tok)

/-- Where the next operand of a call begins. -/
def argL (kids : List Ex) (l : List Tok) : List Tok := if kids = [] then l else l.tail

inductive PE : NT → Int → List Tok → Res → Prop
  | expr_first {d l E} (h : first l d true = some E) : PE .expr d l (.err E l)
  | expr_err {d l E r} (h : first l d true = none) (h1 : PE (.lvl 1) d l (.err E r)) : PE .expr d l (.err E r)
  | expr_one {d l e r} (h : first l d true = none) (h1 : PE (.lvl 1) d l (.ok e r)) (h2 : isS [63] r = false) : PE .expr d l (.ok e r)
  | if_err1 {d l e r E r2} (h : first l d true = none) (h1 : PE (.lvl 1) d l (.ok e r)) (h2 : isS [63] r = true) (h3 : PE .expr (d + 1) r.tail (.err E r2)) : PE .expr d l (.err E r2)
  | if_colon {d l e r a r2} (h : first l d true = none) (h1 : PE (.lvl 1) d l (.ok e r)) (h2 : isS [63] r = true) (h3 : PE .expr (d + 1) r.tail (.ok a r2)) (h4 : isS [58] r2 = false) : PE .expr d l (.err 5 r2)
  | if_err2 {d l e r a r2 E r3} (h : first l d true = none) (h1 : PE (.lvl 1) d l (.ok e r)) (h2 : isS [63] r = true) (h3 : PE .expr (d + 1) r.tail (.ok a r2)) (h4 : isS [58] r2 = true) (h5 : PE .expr (d + 1) r2.tail (.err E r3)) : PE .expr d l (.err E r3)
  | if_ok {d l e r a r2 b r3} (h : first l d true = none) (h1 : PE (.lvl 1) d l (.ok e r)) (h2 : isS [63] r = true) (h3 : PE .expr (d + 1) r.tail (.ok a r2)) (h4 : isS [58] r2 = true) (h5 : PE .expr (d + 1) r2.tail (.ok b r3)) : PE .expr d l (.ok (.mk 20 0 [] [e, a, b] e.off) r3)
  | lvl7 {d l x} (h : PE .neg d l x) : PE (.lvl 7) d l x
  | lvl3 {d l x} (h : isS [33] l = false) (h1 : PE (.lvl 4) d l x) : PE (.lvl 3) d l x
  | bang_first {d l E} (h : isS [33] l = true) (h1 : first l.tail (d + 1) true = some E) : PE (.lvl 3) d l (.err E l.tail)
  | bang_err {d l E r} (h : isS [33] l = true) (h1 : first l.tail (d + 1) true = none) (h2 : PE (.lvl 3) (d + 1) l.tail (.err E r)) : PE (.lvl 3) d l (.err E r)
  | bang_ok {d l e r} (h : isS [33] l = true) (h1 : first l.tail (d + 1) true = none) (h2 : PE (.lvl 3) (d + 1) l.tail (.ok e r)) : PE (.lvl 3) d l (.ok (.mk 5 0 [] [e] (hd l).at_) r)
  | lvl_err {n d l E r} (h : n ≠ 3 ∧ n < 7) (h1 : PE (.lvl (n + 1)) d l (.err E r)) : PE (.lvl n) d l (.err E r)
  | lvl_ok {n d l e r x} (h : n ≠ 3 ∧ n < 7) (h1 : PE (.lvl (n + 1)) d l (.ok e r)) (h2 : PE (.more n e) d r x) : PE (.lvl n) d l x
  | more_end {n e d l} (h : ∀ op, opOf l ≠ some (op, n)) : PE (.more n e) d l (.ok e l)
  | more_err {n e d l op E r} (h : opOf l = some (op, n)) (h1 : PE (.lvl (n + 1)) d l.tail (.err E r)) : PE (.more n e) d l (.err E r)
  | more_last {e d l op b r} (h : opOf l = some (op, 4)) (h1 : PE (.lvl 5) d l.tail (.ok b r)) : PE (.more 4 e) d l (.ok (.mk op 0 [] [e, b] e.off) r)
  | more_go {n e d l op b r x} (hn : n ≠ 4) (h : opOf l = some (op, n)) (h1 : PE (.lvl (n + 1)) d l.tail (.ok b r)) (h2 : PE (.more n (.mk op 0 [] [e, b] e.off)) d r x) : PE (.more n e) d l x
  | neg_no {d l x} (h : isS [45] l = false) (h1 : PE .atom d l x) : PE .neg d l x
  | neg_first {d l E} (h : isS [45] l = true) (h1 : first l.tail (d + 1) false = some E) : PE .neg d l (.err E l.tail)
  | neg_err {d l E r} (h : isS [45] l = true) (h1 : first l.tail (d + 1) false = none) (h2 : PE .neg (d + 1) l.tail (.err E r)) : PE .neg d l (.err E r)
  | neg_ok {d l e r} (h : isS [45] l = true) (h1 : first l.tail (d + 1) false = none) (h2 : PE .neg (d + 1) l.tail (.ok e r)) : PE .neg d l (.ok (.mk 6 0 [] [e] (hd l).at_) r)
  | atom_bad {d l} (h : begins l = false) : PE .atom d l (.err 5 l)
  | atom_num {d l} (h : (hd l).kind = 2) : PE .atom d l (.ok (.mk 1 (hd l).n [] [] (hd l).at_) l.tail)
  | atom_text {d l} (h : (hd l).kind = 3) : PE .atom d l (.ok (.mk 2 0 (hd l).s [] (hd l).at_) l.tail)
  | atom_name {d l} (h : (hd l).kind = 1) (h1 : isS [40] l.tail = false) : PE .atom d l (.ok (.mk 3 0 (hd l).s [] (hd l).at_) l.tail)
  | atom_call {d l x} (h : (hd l).kind = 1) (h1 : isS [40] l.tail = true) (h2 : PE (.args (hd l).s (hd l).at_ []) d l.tail.tail x) : PE .atom d l x
  | paren_err {d l E r} (h : isS [40] l = true) (h1 : PE .expr (d + 1) l.tail (.err E r)) : PE .atom d l (.err E r)
  | paren_bad {d l e r} (h : isS [40] l = true) (h1 : PE .expr (d + 1) l.tail (.ok e r)) (h2 : isS [41] r = false) : PE .atom d l (.err 5 r)
  | paren_ok {d l e r} (h : isS [40] l = true) (h1 : PE .expr (d + 1) l.tail (.ok e r)) (h2 : isS [41] r = true) : PE .atom d l (.ok e r.tail)
  | args_end {s a kids d l} (h : isS [41] l = true) : PE (.args s a kids) d l (.ok (.mk 4 0 s kids a) l.tail)
  | args_comma {s a kids d l} (h : isS [41] l = false) (h1 : kids ≠ []) (h2 : isS [44] l = false) : PE (.args s a kids) d l (.err 5 l)
  | args_full {s a kids d l} (h : isS [41] l = false) (h1 : kids ≠ [] → isS [44] l = true) (h2 : kids.length = 40) : PE (.args s a kids) d l (.err ((first (argL kids l) 0 true).getD 2) (argL kids l))
  | args_err {s a kids d l E r} (h : isS [41] l = false) (h1 : kids ≠ [] → isS [44] l = true) (h2 : kids.length ≠ 40) (h3 : PE .expr (d + 1) (argL kids l) (.err E r)) : PE (.args s a kids) d l (.err E r)
  | args_go {s a kids d l e r x} (h : isS [41] l = false) (h1 : kids ≠ [] → isS [44] l = true) (h2 : kids.length ≠ 40) (h3 : PE .expr (d + 1) (argL kids l) (.ok e r)) (h4 : PE (.args s a (kids ++ [e])) d r x) : PE (.args s a kids) d l x

theorem hd_sign {s : List UInt8} {l : List Tok} (h : isS s l = true) : (hd l).kind = 4 ∧ (hd l).s = s := by
  cases l with
  | nil => cases h
  | cons t r => simpa [isS, hd] using h
theorem begins_kind {l : List Tok} (h : begins l = false) : (hd l).kind ≠ 1 ∧ (hd l).kind ≠ 2 ∧ (hd l).kind ≠ 3 ∧ isS [40] l = false := by
  cases l with
  | nil => simp [hd, isS]
  | cons t r =>
    simp only [begins, Bool.or_eq_false_iff, beq_eq_false_iff_ne, ne_eq] at h
    exact ⟨h.1.1.1.1, h.1.1.1.2, h.1.1.2, h.1.2⟩

theorem begins_open {l : List Tok} (h : isS [40] l = true) : begins l = true := by
  cases hb : begins l with
  | true => rfl
  | false => rw [(begins_kind hb).2.2.2] at h; cases h
/-- There is one result. -/
theorem PE.det {nt : NT} {d : Int} {l : List Tok} {x y : Res} (hx : PE nt d l x) (hy : PE nt d l y) : x = y := by
  induction hx generalizing y <;> cases hy <;> first
    | rfl
    | grind [hd_sign, begins_kind, → begins_open]
end Go.Shadow.Lex

/- THE SHADOW LOGIC, part 0: annotated values, how they stand for the model's values in a world, what never changes, the invariant. -/
namespace Go.Shadow
open Go Go.RowKit

/-- What is known of a slice's capacity. -/
inductive Tag where
  | nil
  | foreign
  | full
  | tip (t : Nat)
  deriving DecidableEq

/-- Annotated values: a slice carries its elements (each the list of its cells), an address of what never changes its cells. -/
inductive V where
  | bool (b : Bool)
  | int (k : IntKind) (n : Int)
  | str (l : List UInt8)
  | slice (tag : Tag) (s : Nat) (es : List (List V))
  | ref (cs : List V)
  | loc (b off : Nat)
  | nilptr
  | func (f : FuncId) (first cap : List V)
  | nilfunc
  | iface (t : TypeId) (v : V)
  | nilIface
  | agg (cs : List V)
  | tup (vs : List V)
  | map (r : Nat)
  | nilmap
  | mslice (b off len cap : Nat)

def V.notTup' : V → Bool
  | .tup _ => false
  | _ => true
def V.one : V → Bool
  | .agg _ | .tup _ => false
  | _ => true

/-- What is known of memory: of rows how many cells never change; of live tags the block. -/
structure Gh where
  row : Nat → Option Nat
  tip : Nat → Option Nat
  nt : Nat

def Imm (B : Nat) (γ : Gh) (b off : Nat) : Prop := b < B ∨ ∃ u, γ.row b = some u ∧ off < u

def TagOK (γ : Gh) (w : World) (a : Option Addr) (len cap s : Nat) : Tag → Prop
  | .nil => a = none ∧ len = 0 ∧ cap = 0
  | .foreign => True
  | .full => cap = len
  | .tip t => t < γ.nt ∧ ∀ g, γ.tip t = some g → a = some ⟨g, 0, none⟩ ∧ γ.row g = some (len * s) ∧ ∃ e n, w.shape? g = some (e, n) ∧ cap * s ≤ n

inductive R (B : Nat) (γ : Gh) (w : World) : V → Value → Prop
  | bool (b : Bool) : R B γ w (.bool b) (.bool b)
  | int (k : IntKind) (n : Int) : R B γ w (.int k n) (.int k n)
  | str (l : List UInt8) (s : ByteArray) (h : s.data.toList = l) : R B γ w (.str l) (.string s)
  | slice (tag : Tag) (s : Nat) (es : List (List V)) (a : Option Addr) (cap b o : Nat) (vs : Nat → Value)
      (hs : ∀ (i : Nat) (e : List V), es[i]? = some e → e.length = s) (hl : es.length ≤ cap) (ha : a = some ⟨b, o, none⟩ ∨ (a = none ∧ es = []))
      (ht : TagOK γ w a es.length cap s tag)
      (h1 : ∀ (k : Nat) (x : V), es.flatten[k]? = some x → x.one = true)
      (hc : ∀ (k : Nat) (x : V), es.flatten[k]? = some x → Imm B γ b (o + k) ∧ w.cell? ⟨b, o + k, none⟩ = some (vs k))
      (hr : ∀ (k : Nat) (x : V), es.flatten[k]? = some x → R B γ w x (vs k)) : R B γ w (.slice tag s es) (.slice a es.length cap)
  | ref (cs : List V) (b o : Nat) (vs : Nat → Value) (h1 : ∀ (j : Nat) (x : V), cs[j]? = some x → x.one = true)
      (hc : ∀ (j : Nat) (x : V), cs[j]? = some x → Imm B γ b (o + j) ∧ w.cell? ⟨b, o + j, none⟩ = some (vs j))
      (hr : ∀ (j : Nat) (x : V), cs[j]? = some x → R B γ w x (vs j)) : R B γ w (.ref cs) (.pointer (some ⟨b, o, none⟩))
  | loc (b o : Nat) : R B γ w (.loc b o) (.pointer (some ⟨b, o, none⟩))
  | nilptr : R B γ w .nilptr (.pointer none)
  | func (f : FuncId) (first cap : List V) (fs cs : Array Value) (h1 : first.length = fs.size) (h2 : cap.length = cs.size)
      (hr1 : ∀ (i : Nat) (x : V) (y : Value), first[i]? = some x → fs[i]? = some y → R B γ w x y)
      (hr2 : ∀ (i : Nat) (x : V) (y : Value), cap[i]? = some x → cs[i]? = some y → R B γ w x y) : R B γ w (.func f first cap) (.func (.func f) fs cs)
  | nilfunc : R B γ w .nilfunc .nilFunc
  | iface (t : TypeId) (v : V) (x : Value) (h : R B γ w v x) : R B γ w (.iface t v) (.iface t x)
  | nilIface : R B γ w .nilIface .nilIface
  | agg (cs : List V) (vs : Array Value) (hl : cs.length = vs.size) (h1 : ∀ (j : Nat) (x : V), cs[j]? = some x → x.one = true)
      (hr : ∀ (i : Nat) (x : V) (y : Value), cs[i]? = some x → vs[i]? = some y → R B γ w x y) : R B γ w (.agg cs) (.agg vs)
  | tup (cs : List V) (vs : Array Value) (hl : cs.length = vs.size)
      (hr : ∀ (i : Nat) (x : V) (y : Value), cs[i]? = some x → vs[i]? = some y → R B γ w x y) : R B γ w (.tup cs) (.tuple vs)
  | map (r : Nat) : R B γ w (.map r) (.map (some r))
  | nilmap : R B γ w .nilmap (.map none)
  | mslice (b off len cap : Nat) : R B γ w (.mslice b off len cap) (.slice (some ⟨b, off, none⟩) len cap)

def RL (B : Nat) (γ : Gh) (w : World) (cs : List V) (vs : List Value) : Prop :=
  cs.length = vs.length ∧ ∀ (i : Nat) (x : V) (y : Value), cs[i]? = some x → vs[i]? = some y → R B γ w x y

/-- How memory may go on. -/
structure Ext (B : Nat) (γ : Gh) (w : World) (γ' : Gh) (w' : World) : Prop where
  hsz : w.heap.size ≤ w'.heap.size
  cell : ∀ b o v, Imm B γ b o → w.cell? ⟨b, o, none⟩ = some v → w'.cell? ⟨b, o, none⟩ = some v
  row : ∀ b u, γ.row b = some u → ∃ u', γ'.row b = some u' ∧ u ≤ u'
  nt : γ.nt ≤ γ'.nt
  tip : ∀ t g, t < γ.nt → γ'.tip t = some g → γ.tip t = some g ∧ γ'.row g = γ.row g
  shape : ∀ b x, w.shape? b = some x → w'.shape? b = some x

theorem Ext.refl (B : Nat) (γ : Gh) (w : World) : Ext B γ w γ w :=
  ⟨Nat.le_refl _, fun _ _ _ _ h => h, fun _ u h => ⟨u, h, Nat.le_refl _⟩, Nat.le_refl _, fun _ _ _ h => ⟨h, rfl⟩, fun _ _ h => h⟩

theorem Imm.ext {B : Nat} {γ γ' : Gh} {w w' : World} (h : Ext B γ w γ' w') {b o : Nat} (hi : Imm B γ b o) : Imm B γ' b o := by
  rcases hi with hi | ⟨u, hu, ho⟩
  · exact .inl hi
  · obtain ⟨u', hu', hle⟩ := h.row b u hu
    exact .inr ⟨u', hu', Nat.lt_of_lt_of_le ho hle⟩

theorem Ext.trans {B : Nat} {γ γ1 γ2 : Gh} {w w1 w2 : World} (h : Ext B γ w γ1 w1) (k : Ext B γ1 w1 γ2 w2) : Ext B γ w γ2 w2 := by
  refine ⟨Nat.le_trans h.hsz k.hsz, fun b o v hi hc => k.cell b o v (hi.ext h) (h.cell b o v hi hc), fun b u hu => ?_, Nat.le_trans h.nt k.nt, fun t g ht hg => ?_, fun b x hx => k.shape b x (h.shape b x hx)⟩
  · obtain ⟨u1, h1, l1⟩ := h.row b u hu
    obtain ⟨u2, h2, l2⟩ := k.row b u1 h1
    exact ⟨u2, h2, Nat.le_trans l1 l2⟩
  · obtain ⟨h1, r1⟩ := k.tip t g (Nat.lt_of_lt_of_le ht h.nt) hg
    obtain ⟨h2, r2⟩ := h.tip t g ht h1
    exact ⟨h2, r1.trans r2⟩

theorem TagOK.ext {B : Nat} {γ γ' : Gh} {w w' : World} (h : Ext B γ w γ' w') {a : Option Addr} {len cap s : Nat} {tag : Tag} (ht : TagOK γ w a len cap s tag) : TagOK γ' w' a len cap s tag := by
  cases tag with
  | nil => exact ht
  | foreign => trivial
  | full => exact ht
  | tip t =>
    obtain ⟨hn, hg⟩ := ht
    refine ⟨Nat.lt_of_lt_of_le hn h.nt, fun g hg' => ?_⟩
    obtain ⟨hg0, hr⟩ := h.tip t g hn hg'
    obtain ⟨h1, h2, e, n, h3, h4⟩ := hg g hg0
    exact ⟨h1, hr.trans h2, e, n, h.shape _ _ h3, h4⟩

theorem R.ext {B : Nat} {γ γ' : Gh} {w w' : World} (h : Ext B γ w γ' w') {v : V} {x : Value} (hr : R B γ w v x) : R B γ' w' v x := by
  induction hr with
  | bool b => exact .bool b
  | int k n => exact .int k n
  | str l s hs => exact .str l s hs
  | slice tag s es a cap b o vs hs hl ha ht h1 hc _ ih =>
    exact .slice tag s es a cap b o vs hs hl ha (ht.ext h) h1 (fun k x hx => ⟨(hc k x hx).1.ext h, h.cell _ _ _ (hc k x hx).1 (hc k x hx).2⟩) ih
  | ref cs b o vs h1 hc _ ih => exact .ref cs b o vs h1 (fun j x hx => ⟨(hc j x hx).1.ext h, h.cell _ _ _ (hc j x hx).1 (hc j x hx).2⟩) ih
  | loc b o => exact .loc b o
  | nilptr => exact .nilptr
  | func f first cap fs cs h1 h2 _ _ ih1 ih2 => exact .func f first cap fs cs h1 h2 ih1 ih2
  | nilfunc => exact .nilfunc
  | iface t v x _ ih => exact .iface t v x ih
  | nilIface => exact .nilIface
  | agg cs vs hl h1 _ ih => exact .agg cs vs hl h1 ih
  | tup cs vs hl _ ih => exact .tup cs vs hl ih
  | map r => exact .map r
  | nilmap => exact .nilmap
  | mslice b off len cap => exact .mslice b off len cap

/-- A map's entries, in the order in which they were put in. -/
structure MapRel (B : Nat) (γ : Gh) (w : World) (m : List (V × V)) (es : List MapEntry) : Prop where
  len : m.length = es.length
  key : ∀ (i : Nat) (p : V × V) (e : MapEntry), m[i]? = some p → es[i]? = some e → R B γ w p.1 e.key ∧ R B γ w p.2 e.val ∧ p.2.notTup' = true ∧ e.born = i

theorem MapRel.ext {B : Nat} {γ γ' : Gh} {w w' : World} (h : Ext B γ w γ' w') {m : List (V × V)} {es : List MapEntry} (hr : MapRel B γ w m es) : MapRel B γ' w' m es :=
  ⟨hr.len, fun i p e hp he => let ⟨h1, h2, h3, h4⟩ := hr.key i p e hp he; ⟨h1.ext h, h2.ext h, h3, h4⟩⟩
theorem RL.ext {B : Nat} {γ γ' : Gh} {w w' : World} (h : Ext B γ w γ' w') {cs : List V} {vs : List Value} (hr : RL B γ w cs vs) : RL B γ' w' cs vs :=
  ⟨hr.1, fun i x y hx hy => (hr.2 i x y hx hy).ext h⟩

theorem R.one {B : Nat} {γ : Gh} {w : World} {v : V} {x : Value} (h : R B γ w v x) (h1 : v.one = true) : x.oneCell' = true := by
  cases h <;> first | rfl | (simp [V.one] at h1)

theorem RL.nil {B : Nat} {γ : Gh} {w : World} : RL B γ w [] [] := ⟨rfl, fun i x y hx _ => by simp at hx⟩
theorem RL.cons {B : Nat} {γ : Gh} {w : World} {c : V} {cs : List V} {v : Value} {vs : List Value} (h : R B γ w c v) (hs : RL B γ w cs vs) : RL B γ w (c :: cs) (v :: vs) := by
  refine ⟨by simp [hs.1], fun i x y hx hy => ?_⟩
  cases i with
  | zero => simp at hx hy; subst hx; subst hy; exact h
  | succ i => exact hs.2 i x y (by simpa using hx) (by simpa using hy)
theorem RL.inv_cons {B : Nat} {γ : Gh} {w : World} {c : V} {cs : List V} {vs : List Value} (h : RL B γ w (c :: cs) vs) : ∃ v vs', vs = v :: vs' ∧ R B γ w c v ∧ RL B γ w cs vs' := by
  cases vs with
  | nil => have := h.1; simp at this
  | cons v vs => exact ⟨v, vs, rfl, h.2 0 c v rfl rfl, by have := h.1; simpa using this, fun i x y hx hy => h.2 (i + 1) x y (by simpa using hx) (by simpa using hy)⟩
theorem RL.inv_nil {B : Nat} {γ : Gh} {w : World} {vs : List Value} (h : RL B γ w [] vs) : vs = [] := List.eq_nil_of_length_eq_zero h.1.symm
theorem RL.append {B : Nat} {γ : Gh} {w : World} {cs ds : List V} {vs us : List Value} (h : RL B γ w cs vs) (k : RL B γ w ds us) : RL B γ w (cs ++ ds) (vs ++ us) := by
  induction cs generalizing vs with
  | nil => obtain rfl := h.inv_nil; exact k
  | cons c cs ih => obtain ⟨v, vs', rfl, h1, h2⟩ := h.inv_cons; exact .cons h1 (ih h2)
theorem RL.take {B : Nat} {γ : Gh} {w : World} {cs : List V} {vs : List Value} (h : RL B γ w cs vs) (n : Nat) : RL B γ w (cs.take n) (vs.take n) := by
  refine ⟨by simp [h.1], fun i x y hx hy => ?_⟩
  rw [List.getElem?_take] at hx hy
  split at hx <;> simp_all
  exact h.2 i x y hx hy
theorem RL.drop {B : Nat} {γ : Gh} {w : World} {cs : List V} {vs : List Value} (h : RL B γ w cs vs) (n : Nat) : RL B γ w (cs.drop n) (vs.drop n) := by
  refine ⟨by simp [h.1], fun i x y hx hy => ?_⟩
  rw [List.getElem?_drop] at hx hy
  exact h.2 _ x y hx hy

theorem flatten_length {α : Type} {s : Nat} : ∀ {es : List (List α)}, (∀ (i : Nat) (e : List α), es[i]? = some e → e.length = s) → es.flatten.length = es.length * s
  | [], _ => by simp
  | e :: es, h => by
    have h0 := h 0 e rfl
    have ih := flatten_length (es := es) fun i e he => h (i + 1) e (by simpa using he)
    simp only [List.flatten_cons, List.length_append, h0, ih, List.length_cons, Nat.succ_mul]
    omega
theorem flatten_get {α : Type} {s : Nat} : ∀ {es : List (List α)}, (∀ (i : Nat) (e : List α), es[i]? = some e → e.length = s) → ∀ {i j : Nat} {e : List α} {x : α}, es[i]? = some e → e[j]? = some x → es.flatten[i * s + j]? = some x
  | [], _, _, _, _, _, he, _ => by simp at he
  | e0 :: es, h, i, j, e, x, he, hx => by
    have h0 := h 0 e0 rfl
    cases i with
    | zero =>
      simp at he; subst he
      have hj : j < e0.length := (List.getElem?_eq_some_iff.1 hx).1
      simp only [List.flatten_cons, Nat.zero_mul, Nat.zero_add]
      rw [List.getElem?_append_left hj]; exact hx
    | succ i =>
      have ih := flatten_get (es := es) (fun i e he => h (i + 1) e (by simpa using he)) (i := i) (j := j) (e := e) (x := x) (by simpa using he) hx
      simp only [List.flatten_cons]
      rw [List.getElem?_append_right (by rw [h0, Nat.succ_mul]; omega), h0, show (i + 1) * s + j - s = i * s + j by rw [Nat.succ_mul]; omega]
      exact ih

/-- The cells of a row, as a list of values. -/
theorem cells_of {B : Nat} {γ : Gh} {w : World} {L : List V} {b o : Nat} {vs : Nat → Value}
    (hc : ∀ (k : Nat) (x : V), L[k]? = some x → Imm B γ b (o + k) ∧ w.cell? ⟨b, o + k, none⟩ = some (vs k))
    (hr : ∀ (k : Nat) (x : V), L[k]? = some x → R B γ w x (vs k)) :
    ∃ xs : List Value, RL B γ w L xs ∧ (∀ (k : Nat) (u : Value), xs[k]? = some u → Imm B γ b (o + k) ∧ w.cell? ⟨b, o + k, none⟩ = some u) := by
  refine ⟨(List.range L.length).map vs, ⟨by simp, fun i x y hx hy => ?_⟩, fun k u hu => ?_⟩
  · have hi : i < L.length := (List.getElem?_eq_some_iff.1 hx).1
    simp [hi] at hy
    subst hy
    exact hr i x hx
  · simp only [List.getElem?_map, Option.map_eq_some_iff] at hu
    obtain ⟨k', hk', rfl⟩ := hu
    have hk : k < L.length := by have := (List.getElem?_eq_some_iff.1 hk').1; simpa using this
    simp [hk] at hk'
    subst hk'
    exact hc k _ (List.getElem?_eq_getElem hk)

theorem add_lit (b o k : Nat) : (⟨b, o, none⟩ : Addr).add k = ⟨b, o + k, none⟩ := by unfold Addr.add; split <;> simp_all

theorem RL.ones {B : Nat} {γ : Gh} {w : World} {cs : List V} {vs : List Value} (h : RL B γ w cs vs) (h1 : ∀ (j : Nat) (x : V), cs[j]? = some x → x.one = true) : ∀ v ∈ vs, v.oneCell' = true := by
  intro v hv
  obtain ⟨i, hi⟩ := List.getElem?_of_mem hv
  have hlt : i < cs.length := by have := (List.getElem?_eq_some_iff.1 hi).1; rw [h.1]; exact this
  exact (h.2 i _ v (List.getElem?_eq_getElem hlt) hi).one (h1 i _ (List.getElem?_eq_getElem hlt))

/-- The shadow state: what is known of mutable memory. -/
structure St where
  box : Nat → Option (List V)
  live : Nat → Bool
  map : Nat → Option (List (V × V))

/-- What is known of package-level variables that nobody writes. -/
structure Globs where
  at_ : Nat → Option (List V)
  pre : World → Prop
instance : CoeFun Globs fun _ => Nat → Option (List V) := ⟨Globs.at_⟩

structure Inv (G : Globs) (w0 : World) (γ : Gh) (σ : St) (w : World) : Prop where
  bel : Below w0.heap.size w0 w
  box : ∀ b cs, σ.box b = some cs → w0.heap.size ≤ b ∧ γ.row b = none ∧ (∀ (j : Nat) (x : V), cs[j]? = some x → x.one = true) ∧
    ∃ vs ty, w.heap[b]? = some (.cells vs ty (0, 0)) ∧ RL w0.heap.size γ w cs vs.toList
  live : ∀ t, σ.live t = true → ∃ g, γ.tip t = some g
  tip : ∀ t g, γ.tip t = some g → t < γ.nt ∧ w0.heap.size ≤ g ∧ ∃ u vs ty, γ.row g = some u ∧ w.heap[g]? = some (.cells vs ty (0, 0)) ∧ u ≤ vs.size
  inj : ∀ t t' g, γ.tip t = some g → γ.tip t' = some g → t = t'
  rowlt : ∀ b u, γ.row b = some u → w0.heap.size ≤ b ∧ b < w.heap.size
  glob : ∀ g cs, G g = some cs → R w0.heap.size γ w (.ref cs) (.pointer (some ⟨g, 0, none⟩))
  pre : G.pre w0
  map : ∀ r m, σ.map r = some m → w0.heap.size ≤ r ∧ ∃ es, w.heap[r]? = some (.map es es.size) ∧ MapRel w0.heap.size γ w m es.toList

end Go.Shadow

/- THE SHADOW LOGIC, part 1: what each change of memory does to the invariant. -/
namespace Go.Shadow
open Go Go.RowKit

def St.put (σ : St) (b : Nat) (cs : List V) : St := { σ with box := fun b' => if b' = b then some cs else σ.box b' }
def St.on (σ : St) (t : Nat) : St := { σ with live := fun t' => t' == t || σ.live t' }
def St.off (σ : St) (t : Nat) : St := { σ with live := fun t' => t' != t && σ.live t' }

theorem shape_of_heap {w w' : World} {b : Nat} (h : w'.heap[b]? = w.heap[b]?) : w'.shape? b = w.shape? b := by simp [World.shape?, h]
theorem lt_of_shape {w : World} {b : Nat} {x : TypeId × Nat} (h : w.shape? b = some x) : b < w.heap.size := by
  unfold World.shape? at h
  split at h
  · rename_i hh; exact (Array.getElem?_eq_some_iff.1 hh).1
  · cases h
theorem lt_of_heap {w : World} {b : Nat} {o : Obj} (h : w.heap[b]? = some o) : b < w.heap.size := (Array.getElem?_eq_some_iff.1 h).1

/-- No old block has changed. -/
theorem Ext.of_heap {B : Nat} {γ : Gh} {w w' : World} (hs : w.heap.size ≤ w'.heap.size) (h : ∀ b, b < w.heap.size → w'.heap[b]? = w.heap[b]?) : Ext B γ w γ w' :=
  ⟨hs, fun b o v _ hc => (World.cell?_of_block (w := w) (h b (World.block_lt_of_cell? w _ hc))).trans hc, fun _ u hu => ⟨u, hu, Nat.le_refl _⟩, Nat.le_refl _, fun _ _ _ hg => ⟨hg, rfl⟩,
    fun b x hx => (shape_of_heap (h b (lt_of_shape hx))).trans hx⟩

theorem Inv.ext {G : Globs} {w0 w w' : World} {γ γ' : Gh} {σ σ' : St} (hI : Inv G w0 γ σ w) (he : Ext w0.heap.size γ w γ' w') (hb : Below w0.heap.size w0 w')
    (hbox : ∀ b cs, σ'.box b = some cs → w0.heap.size ≤ b ∧ γ'.row b = none ∧ (∀ (j : Nat) (x : V), cs[j]? = some x → x.one = true) ∧ ∃ vs ty, w'.heap[b]? = some (.cells vs ty (0, 0)) ∧ RL w0.heap.size γ' w' cs vs.toList)
    (hlive : ∀ t, σ'.live t = true → ∃ g, γ'.tip t = some g)
    (htip : ∀ t g, γ'.tip t = some g → t < γ'.nt ∧ w0.heap.size ≤ g ∧ ∃ u vs ty, γ'.row g = some u ∧ w'.heap[g]? = some (.cells vs ty (0, 0)) ∧ u ≤ vs.size)
    (hinj : ∀ t t' g, γ'.tip t = some g → γ'.tip t' = some g → t = t')
    (hrow : ∀ b u, γ'.row b = some u → w0.heap.size ≤ b ∧ b < w'.heap.size)
    (hmap : ∀ (r : Nat) (es : Array MapEntry) (c : Nat), w.heap[r]? = some (.map es c) → w'.heap[r]? = some (.map es c)) (hm : σ'.map = σ.map := by rfl) : Inv G w0 γ' σ' w' :=
  ⟨hb, hbox, hlive, htip, hinj, hrow, fun g cs h => (hI.glob g cs h).ext he, hI.pre, fun r m h => let ⟨h1, es, h2, h3⟩ := hI.map r m (by rw [← hm]; exact h); ⟨h1, es, hmap r es _ h2, h3.ext he⟩⟩

theorem Inv.size {G : Globs} {w0 w : World} {γ : Gh} {σ : St} (hI : Inv G w0 γ σ w) : w0.heap.size ≤ w.heap.size := hI.bel.size
theorem Inv.row_fresh {G : Globs} {w0 w : World} {γ : Gh} {σ : St} (hI : Inv G w0 γ σ w) {b : Nat} (h : w.heap.size ≤ b) : γ.row b = none := by
  cases hr : γ.row b with
  | none => rfl
  | some u => have := (hI.rowlt b u hr).2; omega
theorem Inv.box_lt {G : Globs} {w0 w : World} {γ : Gh} {σ : St} (hI : Inv G w0 γ σ w) {b : Nat} {cs : List V} (h : σ.box b = some cs) : b < w.heap.size := by
  obtain ⟨_, _, _, vs, ty, hh, _⟩ := hI.box b cs h
  exact lt_of_heap hh
theorem Inv.box_fresh {G : Globs} {w0 w : World} {γ : Gh} {σ : St} (hI : Inv G w0 γ σ w) {b : Nat} (h : w.heap.size ≤ b) : σ.box b = none := by
  cases hr : σ.box b with
  | none => rfl
  | some u => have := hI.box_lt hr; omega

/-- A draw. -/
theorem Inv.drew {G : Globs} {w0 w : World} {γ : Gh} {σ : St} (hI : Inv G w0 γ σ w) : Inv G w0 γ σ w.drew ∧ Ext w0.heap.size γ w γ w.drew := by
  have he : Ext w0.heap.size γ w γ w.drew := .of_heap (Nat.le_refl _) fun _ _ => rfl
  exact ⟨hI.ext he hI.bel.drew (fun b cs h => let ⟨h1, h2, h3, vs, ty, h4, h5⟩ := hI.box b cs h; ⟨h1, h2, h3, vs, ty, h4, h5.ext he⟩) hI.live hI.tip hI.inj hI.rowlt fun _ _ _ h => h, he⟩

/-- A new block that nothing is told of. -/
theorem Inv.alloc {G : Globs} {w0 w : World} {γ : Gh} {σ : St} (hI : Inv G w0 γ σ w) (o : Obj) : Inv G w0 γ σ (w.alloc o) ∧ Ext w0.heap.size γ w γ (w.alloc o) := by
  have hk := fun b (h : b < w.heap.size) => heap_alloc_old w o b h
  have he : Ext w0.heap.size γ w γ (w.alloc o) := .of_heap (by simp) hk
  exact ⟨hI.ext he (hI.bel.alloc hI.size o) (fun b cs h => let ⟨h1, h2, h3, vs, ty, h4, h5⟩ := hI.box b cs h; ⟨h1, h2, h3, vs, ty, (hk b (lt_of_heap h4)).trans h4, h5.ext he⟩) hI.live
    (fun t g h => let ⟨h1, h2, u, vs, ty, h3, h4, h5⟩ := hI.tip t g h; ⟨h1, h2, u, vs, ty, h3, (hk g (lt_of_heap h4)).trans h4, h5⟩) hI.inj
    (fun b u h => let ⟨h1, h2⟩ := hI.rowlt b u h; ⟨h1, by simp; omega⟩) (fun r es c h => (hk r (lt_of_heap h)).trans h), he⟩

/-- A new variable in memory. -/
theorem Inv.box_new {G : Globs} {w0 w : World} {γ : Gh} {σ : St} (hI : Inv G w0 γ σ w) (ty : TypeId) {cs : List V} {vs : Array Value} (hr : RL w0.heap.size γ w cs vs.toList) (h1 : ∀ (j : Nat) (x : V), cs[j]? = some x → x.one = true) :
    Inv G w0 γ (σ.put w.heap.size cs) (w.alloc (.cells vs ty)) ∧ Ext w0.heap.size γ w γ (w.alloc (.cells vs ty)) := by
  obtain ⟨hI', he⟩ := hI.alloc (.cells vs ty)
  refine ⟨hI.ext he hI'.bel (fun b ds h => ?_) hI'.live hI'.tip hI'.inj hI'.rowlt (fun r es c h => (heap_alloc_old w _ r (lt_of_heap h)).trans h), he⟩
  by_cases hb : b = w.heap.size
  · subst hb
    simp only [St.put, if_true, Option.some.injEq] at h
    subst h
    exact ⟨hI.size, hI.row_fresh (Nat.le_refl _), h1, vs, ty, heap_alloc_new w _, hr.ext he⟩
  · simp only [St.put, if_neg hb] at h
    exact hI'.box b ds h

/-- A store into a variable's cell. -/
theorem Inv.box_set {G : Globs} {w0 w : World} {γ : Gh} {σ : St} (hI : Inv G w0 γ σ w) {b i : Nat} {cs : List V} (hb : σ.box b = some cs) (hi : i < cs.length) {v : V} {x : Value} (hr : R w0.heap.size γ w v x) (h1 : v.one = true) :
    (∃ y, w.cell? ⟨b, i, none⟩ = some y) ∧ w.frozen? ⟨b, i, none⟩ = false ∧ Inv G w0 γ (σ.put b (cs.set i v)) (w.setCell ⟨b, i, none⟩ x) ∧ Ext w0.heap.size γ w γ (w.setCell ⟨b, i, none⟩ x) := by
  obtain ⟨hB, hrow, hone, vs, ty, hh, hl⟩ := hI.box b cs hb
  have hlen : cs.length = vs.size := by simpa using hl.1
  have hne : ∀ k, k ≠ b → (w.setCell ⟨b, i, none⟩ x).heap[k]? = w.heap[k]? := fun k hk => heap_setCell_other w _ k x hk
  have hsame : (w.setCell ⟨b, i, none⟩ x).heap[b]? = some (.cells (vs.setIfInBounds i x) ty (0, 0)) := heap_setCell_same w b i vs ty x hh
  have he : Ext w0.heap.size γ w γ (w.setCell ⟨b, i, none⟩ x) := by
    refine ⟨by simp, fun b' o v' hi' hc => ?_, fun _ u hu => ⟨u, hu, Nat.le_refl _⟩, Nat.le_refl _, fun _ _ _ hg => ⟨hg, rfl⟩, fun b' y hy => ?_⟩
    · have hbb : b' ≠ b := by
        rintro rfl
        rcases hi' with hi' | ⟨u, hu, _⟩
        · omega
        · rw [hrow] at hu; cases hu
      exact (World.cell?_of_block (w := w) (hne b' hbb)).trans hc
    · by_cases hbb : b' = b
      · subst hbb
        rw [← hy]; simp [World.shape?, hsame, hh]
      · exact (shape_of_heap (hne b' hbb)).trans hy
  refine ⟨⟨vs[i]'(by omega), by rw [cell_of_row w b i vs ty _ hh]; simp [show i < vs.size by omega]⟩, frozen_of_row w b i vs ty hh, hI.ext he (hI.bel.setCell hB x) (fun b' ds h => ?_) hI.live (fun t g h => ?_) hI.inj (fun b' u h => ?_) (fun r es c h => (hne r (by rintro rfl; rw [hh] at h; cases h)).trans h), he⟩
  · by_cases hbb : b' = b
    · subst hbb
      simp only [St.put, if_true, Option.some.injEq] at h
      subst h
      refine ⟨hB, hrow, fun j y hy => ?_, _, ty, hsame, by simp [hlen], fun j y z hy hz => ?_⟩
      · rw [List.getElem?_set] at hy
        split at hy
        · injection hy with hy; subst hy; exact h1
        · exact hone j y hy
      · rw [List.getElem?_set] at hy
        simp only [Array.toList_setIfInBounds, List.getElem?_set, Array.length_toList] at hz
        split at hy
        · rename_i hij
          subst hij
          injection hy with hy
          simp only [show i < vs.size by omega, if_true] at hz
          injection hz with hz
          subst hy; subst hz
          exact hr.ext he
        · rename_i hij
          simp only [if_neg hij] at hz
          exact (hl.2 j y z hy hz).ext he
    · simp only [St.put, if_neg hbb] at h
      obtain ⟨g1, g2, g3, vs', ty', g4, g5⟩ := hI.box b' ds h
      exact ⟨g1, g2, g3, vs', ty', (hne b' hbb).trans g4, g5.ext he⟩
  · obtain ⟨g1, g2, u, vs', ty', g3, g4, g5⟩ := hI.tip t g h
    have hbb : g ≠ b := by rintro rfl; rw [hrow] at g3; cases g3
    exact ⟨g1, g2, u, vs', ty', g3, (hne g hbb).trans g4, g5⟩
  · obtain ⟨g1, g2⟩ := hI.rowlt b' u h
    exact ⟨g1, by simpa using g2⟩

/-- A new row that never changes. -/
theorem Inv.row_new {G : Globs} {w0 w : World} {γ : Gh} {σ : St} (hI : Inv G w0 γ σ w) (ty : TypeId) (vs : Array Value) :
    ∃ γ', Inv G w0 γ' σ (w.alloc (.cells vs ty)) ∧ Ext w0.heap.size γ w γ' (w.alloc (.cells vs ty)) ∧ γ'.row w.heap.size = some vs.size ∧ γ'.tip = γ.tip := by
  obtain ⟨hI', he⟩ := hI.alloc (.cells vs ty)
  have hfr := hI.row_fresh (Nat.le_refl _)
  have he2 : Ext w0.heap.size γ w { γ with row := fun b => if b = w.heap.size then some vs.size else γ.row b } (w.alloc (.cells vs ty)) := by
    refine ⟨he.hsz, he.cell, fun b u hu => ⟨u, ?_, Nat.le_refl _⟩, Nat.le_refl _, fun t g _ hg => ⟨hg, ?_⟩, he.shape⟩
    · have : b ≠ w.heap.size := by rintro rfl; rw [hfr] at hu; cases hu
      simp [this, hu]
    · obtain ⟨_, _, u, _, _, hu, _⟩ := hI.tip t g hg
      have : g ≠ w.heap.size := by rintro rfl; rw [hfr] at hu; cases hu
      simp [this]
  refine ⟨_, hI.ext he2 hI'.bel (fun b cs h => ?_) hI.live (fun t g h => ?_) hI.inj (fun b u h => ?_) (fun r es c h => (heap_alloc_old w _ r (lt_of_heap h)).trans h), he2, by simp, rfl⟩
  · obtain ⟨h1, h2, h3, us, ty', h4, h5⟩ := hI.box b cs h
    have hlt := lt_of_heap h4
    exact ⟨h1, by simp [show b ≠ w.heap.size by omega, h2], h3, us, ty', (heap_alloc_old w _ b hlt).trans h4, h5.ext he2⟩
  · obtain ⟨h1, h2, u, us, ty', h3, h4, h5⟩ := hI.tip t g h
    have hlt := lt_of_heap h4
    exact ⟨h1, h2, u, us, ty', by simp [show g ≠ w.heap.size by omega, h3], (heap_alloc_old w _ g hlt).trans h4, h5⟩
  · by_cases hb : b = w.heap.size
    · subst hb; exact ⟨hI.size, by simp⟩
    · simp only [if_neg hb] at h
      have := hI.rowlt b u h
      exact ⟨this.1, by simp; omega⟩

end Go.Shadow

/- THE SHADOW LOGIC, part 2: append. -/
namespace Go.Shadow
open Go Go.RowKit

section
variable {P : Program} (w : World)

/-- What is appended: m elements, the cells news. -/
structure Src (P : Program) (w : World) (size : Nat) (xT : TypeId) (x : Value) (m : Nat) (news : List Value) : Prop where
  ty : (∃ e, P.underlying xT = some (.slice e)) ∨ P.underlying xT = some .string
  len : ∀ w', (Builtin.lenOf x).run P w' = .ok m w'
  cells : ∀ w', w'.heap = w.heap → (Builtin.firstCells size m x).run P w' = .ok news.toArray w'
  size : news.length = m * size

theorem run_app_room (t xT ty e : TypeId) (i : TypeInfo) (ht : P.underlying t = some (.slice e)) (hi : P.info? e = some i)
    (g sLen sCap : Nat) (cur : Array Value) (te : TypeId) (hg : w.heap[g]? = some (.cells cur te (0, 0))) (x : Value) (m : Nat) (news : List Value) (hs : Src P w i.size xT x m news) (h1 : ∀ u ∈ news, u.oneCell' = true)
    (hroom : sLen + m ≤ sCap) (hfit : sLen * i.size + news.length ≤ cur.size) :
    (Builtin.append_ #[t, xT] ty #[.slice (some ⟨g, 0, none⟩) sLen sCap, x]).run P w =
      .ok (.slice (some ⟨g, 0, none⟩) (sLen + m) sCap) (w.setRow g (cur.toList.take (sLen * i.size) ++ news ++ cur.toList.drop (sLen * i.size + news.length)).toArray) := by
  have hst := run_storeCells_at P g (sLen * i.size) te news 0 cur w hg (by simpa using hfit) h1
  simp only [Nat.add_zero] at hst
  have hf := hs.cells w rfl
  rcases hs.ty with ⟨e2, h2⟩ | h2 <;>
    simp [Builtin.append_, run_underlying ht, run_underlying h2, sizeOf, typeInfo, hi, hs.len, hroom, hf, Addr.add_lit, hst]

theorem run_app_none (t xT ty e : TypeId) (i : TypeInfo) (ht : P.underlying t = some (.slice e)) (hi : P.info? e = some i)
    (b : Option Addr) (sLen sCap : Nat) (x : Value) (hs : Src P w i.size xT x 0 []) (hl : sLen ≤ sCap) :
    (Builtin.append_ #[t, xT] ty #[.slice b sLen sCap, x]).run P w = .ok (.slice b sLen sCap) w := by
  have hf := hs.cells w rfl
  rcases hs.ty with ⟨e2, h2⟩ | h2 <;> cases b <;>
    simp [Builtin.append_, run_underlying ht, run_underlying h2, sizeOf, typeInfo, hi, hs.len, hl, hf, storeCells]

theorem run_app_grow (t xT ty e : TypeId) (i : TypeInfo) (z : Value) (ht : P.underlying t = some (.slice e)) (hi : P.info? e = some i) (hz : i.zero = some z)
    (b : Option Addr) (sLen sCap : Nat) (olds : List Value) (hfo : ∀ w', w'.heap = w.heap → (Builtin.firstCells i.size sLen (.slice b sLen sCap)).run P w' = .ok olds.toArray w')
    (x : Value) (m : Nat) (news : List Value) (hs : Src P w i.size xT x m news)
    (hg : sCap < sLen + m) (h63 : ((sLen + m : Nat) : Int) ≤ 9223372036854775807) (hfit : Builtin.nextslicecap (sLen + m) sCap * i.bytes ≤ 281474976710656) :
    (Builtin.append_ #[t, xT] ty #[.slice b sLen sCap, x]).run P w =
      .ok (.slice (some ⟨w.heap.size, 0, none⟩) (sLen + m) (grownCap w (sLen + m) sCap e))
        (w.drew.alloc (.cells (olds ++ news ++ (Builtin.zeroCells z.cells (grownCap w (sLen + m) sCap e - (sLen + m))).toList).toArray e)) := by
  have hn : ¬ (sLen + m ≤ sCap) := by omega
  have h63' : ¬ (9223372036854775807 < ((sLen : Int) + (m : Int))) := by omega
  have h48' : ¬ (281474976710656 < Builtin.nextslicecap (sLen + m) sCap * i.bytes) := by omega
  have hf := hs.cells w.drew rfl
  have hfo := hfo w.drew rfl
  rcases hs.ty with ⟨e2, h2⟩ | h2 <;>
    (simp [Builtin.append_, run_underlying ht, run_underlying h2, sizeOf, typeInfo, zeroValue, hi, hz, hs.len, hn, h63', h48', Question.forced, hf, hfo, newRow, grownCap]
     try (congr 2; apply Array.ext'; simp [List.append_assoc]))
end

theorem Src.of_slice {P : Program} {w : World} {B : Nat} {γ : Gh} {s : Nat} {xT e : TypeId} (hT : P.underlying xT = some (.slice e)) {tag : Tag} {es : List (List V)} {x : Value} (h : R B γ w (.slice tag s es) x) :
    ∃ news, Src P w s xT x es.length news ∧ RL B γ w es.flatten news ∧ ∀ u ∈ news, u.oneCell' = true := by
  cases h with
  | slice _ _ _ a cap b o vs hs hl ha ht h1 hc hr =>
    obtain ⟨xs, hrl, hcells⟩ := cells_of hc hr
    have hlen : xs.length = es.length * s := hrl.1.symm.trans (flatten_length hs)
    refine ⟨xs, ⟨.inl ⟨e, hT⟩, fun w' => rfl, fun w' hw => ?_, hlen⟩, hrl, hrl.ones h1⟩
    rcases ha with rfl | ⟨rfl, rfl⟩
    · exact run_firstCells_some w' s es.length _ _ cap xs hlen fun j v hj => by
        rw [add_lit]
        have := (hcells j v hj).2
        simpa [World.cell?, hw] using this
    · obtain rfl : xs = [] := List.eq_nil_of_length_eq_zero (by simpa using hlen)
      exact run_firstCells_none w' s 0 0 cap

theorem Src.of_str {P : Program} {w : World} {xT : TypeId} (hT : P.underlying xT = some .string) (l : List UInt8) (s : ByteArray) (h : s.data.toList = l) :
    Src P w 1 xT (.string s) l.length (l.map fun b => Value.int .u8 b.toNat) := by
  have hs : s.size = l.length := by rw [← h]; rfl
  refine ⟨.inr hT, fun w' => by simp [Builtin.lenOf, hs], fun w' _ => ?_, by simp⟩
  simp only [Builtin.firstCells, Sem.run_pure, ← hs]
  congr 1
  apply Array.ext'
  simp only [Array.toList_map, ByteArray.extract_zero_size, h]

/-- What append makes of memory, whatever the source is. -/
def AppTo (P : Program) (w : World) (i : TypeInfo) (z : Value) (e : TypeId) (len m : Nat) (v : Value) (news : List Value) (v' : Value) (w' : World) : Prop :=
  ∃ a cap olds, v = .slice a len cap ∧ (∀ w', w'.heap = w.heap → (Builtin.firstCells i.size len (.slice a len cap)).run P w' = .ok (List.toArray olds) w') ∧ olds.length = len * i.size ∧
    ((cap < len + m ∧ ((len + m : Nat) : Int) ≤ 9223372036854775807 ∧ Builtin.nextslicecap (len + m) cap * i.bytes ≤ 281474976710656 ∧ len + m ≤ grownCap w (len + m) cap e ∧ v' = .slice (some ⟨w.heap.size, 0, none⟩) (len + m) (grownCap w (len + m) cap e) ∧
        w' = w.drew.alloc (.cells (olds ++ news ++ (Builtin.zeroCells z.cells (grownCap w (len + m) cap e - (len + m))).toList).toArray e)) ∨
      (len + m ≤ cap ∧ ∃ g cur te, a = some ⟨g, 0, none⟩ ∧ w.heap[g]? = some (.cells cur te (0, 0)) ∧ len * i.size + news.length ≤ cur.size ∧ v' = .slice (some ⟨g, 0, none⟩) (len + m) cap ∧
        w' = w.setRow g (cur.toList.take (len * i.size) ++ news ++ cur.toList.drop (len * i.size + news.length)).toArray))

theorem AppTo.run {P : Program} {w : World} {t xT ty e : TypeId} {i : TypeInfo} {z : Value} (ht : P.underlying t = some (.slice e)) (hi : P.info? e = some i) (hz : i.zero = some z) {len m : Nat} {v : Value} {news : List Value} {v' : Value} {w' : World}
    (h : AppTo P w i z e len m v news v' w') {x : Value} (hs : Src P w i.size xT x m news) (h1 : ∀ u ∈ news, u.oneCell' = true) : (Builtin.append_ #[t, xT] ty #[v, x]).run P w = .ok v' w' := by
  obtain ⟨a, cap, olds, rfl, hfo, hol, ⟨hc, hb1, hb2, hge, rfl, rfl⟩ | ⟨hc, g, cur, te, rfl, hg, hfit, rfl, rfl⟩⟩ := h
  · exact run_app_grow (P := P) w t xT ty e i z ht hi hz a len cap olds hfo x m news hs hc hb1 hb2
  · exact run_app_room (P := P) w t xT ty e i ht hi g len cap cur te hg x m news hs h1 hc hfit

theorem alloc_setRow (w : World) (cs ds : Array Value) (e : TypeId) : (w.alloc (.cells cs e)).setRow w.heap.size ds = w.alloc (.cells ds e) := by
  unfold World.setRow World.alloc
  congr 1
  apply Array.ext
  · simp
  · intro k h1 h2
    simp only [Array.getElem_modify, Array.getElem_push]
    by_cases hk : w.heap.size = k
    · subst hk; simp
    · simp only [if_neg hk]
      split
      · rfl
      · simp at h2; omega
/-- Another source: the cells that are told behind are put in later. -/
theorem AppTo.run1 {P : Program} {w : World} {t xT ty e : TypeId} {i : TypeInfo} {z : Value} (ht : P.underlying t = some (.slice e)) (hi : P.info? e = some i) (hz : i.zero = some z) (hzs : z.cells.size = i.size) {len m : Nat} {v : Value} {news : List Value} {v' : Value} {w' : World}
    (h : AppTo P w i z e len m v news v' w') {x : Value} {news0 : List Value} (hs : Src P w i.size xT x m news0) (h1 : ∀ u ∈ news0, u.oneCell' = true) (hl : news.length = m * i.size) :
    ∃ w1 g cap' cur te, (Builtin.append_ #[t, xT] ty #[v, x]).run P w = .ok v' w1 ∧ v' = .slice (some ⟨g, 0, none⟩) (len + m) cap' ∧ w1.heap[g]? = some (.cells cur te (0, 0)) ∧ len * i.size + news.length ≤ cur.size ∧ w1.heap.size = w'.heap.size ∧
      w' = w1.setRow g (cur.toList.take (len * i.size) ++ news ++ cur.toList.drop (len * i.size + news.length)).toArray := by
  have hl0 := hs.size
  obtain ⟨a, cap, olds, rfl, hfo, hol, ⟨hc, hb1, hb2, hge, rfl, rfl⟩ | ⟨hc, g, cur, te, rfl, hg, hfit, rfl, rfl⟩⟩ := h
  · refine ⟨_, w.heap.size, _, _, e, run_app_grow (P := P) w t xT ty e i z ht hi hz a len cap olds hfo x m news0 hs hc hb1 hb2, rfl, heap_alloc_new w.drew _, ?_, by simp, ?_⟩
    · simp only [List.size_toArray, List.length_append, hol, hl0, hl]; omega
    · have := alloc_setRow w.drew (olds ++ news0 ++ (Builtin.zeroCells z.cells (grownCap w (len + m) cap e - (len + m))).toList).toArray (olds ++ news ++ (Builtin.zeroCells z.cells (grownCap w (len + m) cap e - (len + m))).toList).toArray e
      rw [← this]
      congr 1
      have e1 : (olds ++ news0 ++ (Builtin.zeroCells z.cells (grownCap w (len + m) cap e - (len + m))).toList).take (len * i.size) = olds := by
        rw [List.append_assoc, List.take_append_of_le_length (by omega), List.take_of_length_le (by omega)]
      have e2 : (olds ++ news0 ++ (Builtin.zeroCells z.cells (grownCap w (len + m) cap e - (len + m))).toList).drop (len * i.size + news.length) = (Builtin.zeroCells z.cells (grownCap w (len + m) cap e - (len + m))).toList := by
        rw [List.drop_append_of_le_length (by simp; omega), List.drop_eq_nil_of_le (by simp; omega)]; rfl
      rw [e1, e2]
  · have hroom := run_app_room (P := P) w t xT ty e i ht hi g len cap cur te hg x m news0 hs h1 hc (by omega)
    refine ⟨_, g, cap, _, te, hroom, rfl, setRow_heap w g cur _ te _ hg, ?_, by simp, ?_⟩
    · simp only [List.size_toArray, List.length_append, List.length_take, List.length_drop, Array.length_toList]; omega
    · rw [setRow_setRow]
      congr 2
      have hA : (cur.toList.take (len * i.size)).length = len * i.size := by simp; omega
      generalize cur.toList.take (len * i.size) = A at hA
      have e1 : ∀ D : List Value, (A ++ news0 ++ D).take (len * i.size) = A := fun D => by
        rw [List.append_assoc, List.take_append_of_le_length (by omega), List.take_of_length_le (by omega)]
      have e2 : ∀ D : List Value, (A ++ news0 ++ D).drop (len * i.size + news.length) = D := fun D => by
        rw [List.drop_append_of_le_length (by simp; omega), List.drop_eq_nil_of_le (by simp; omega)]; rfl
      rw [hl] at e2
      simp only [e1, hl, hl0, e2]

/-- What append does to the invariant: the result is a live tip. -/
theorem Inv.append_core {P : Program} {G : Globs} {w0 w : World} {γ : Gh} {σ : St} (hI : Inv G w0 γ σ w) {e : TypeId} {i : TypeInfo} {z : Value} (hzs : z.cells.size = i.size)
    {tag : Tag} {es : List (List V)} {v : Value} (hv : R w0.heap.size γ w (.slice tag i.size es) v)
    (htag : tag = .nil ∨ tag = .full ∨ ∃ k, tag = .tip k ∧ σ.live k = true)
    {ns : List (List V)} {news : List Value} (hnlen : news.length = ns.length * i.size) (hns : ∀ (i' : Nat) (e : List V), ns[i']? = some e → e.length = i.size) (hrl : RL w0.heap.size γ w ns.flatten news)
    (h1 : ∀ (k : Nat) (x : V), ns.flatten[k]? = some x → x.one = true) (hne : ns ≠ []) (hb : (es.length + ns.length) * i.bytes ≤ 140737488355328) (hb2 : es.length + ns.length ≤ 9223372036854775807) :
    ∃ t' γ' v' w', AppTo P w i z e es.length ns.length v news v' w' ∧ σ.live t' = false ∧ Ext w0.heap.size γ w γ' w' ∧
      Inv G w0 γ' ((match tag with | .tip k => σ.off k | _ => σ).on t') w' ∧ R w0.heap.size γ' w' (.slice (.tip t') i.size (es ++ ns)) v' := by
  have hfresh : σ.live γ.nt = false := by
    cases hlv : σ.live γ.nt with
    | false => rfl
    | true => obtain ⟨g, hg⟩ := hI.live _ hlv; have := (hI.tip _ _ hg).1; omega
  have hns0 : 0 < ns.length := by cases ns with | nil => exact absurd rfl hne | cons _ _ => simp
  cases hv with
  | slice _ _ _ a cap b o vs hes hl ha htg h1s hc hr =>
  obtain ⟨olds, hol, hocells⟩ := cells_of hc hr
  have holen : olds.length = es.length * i.size := hol.1.symm.trans (flatten_length hes)
  have hall : ∀ (i' : Nat) (e : List V), (es ++ ns)[i']? = some e → e.length = i.size := by
    intro i' e he
    rw [List.getElem?_append] at he
    split at he
    · exact hes _ _ he
    · exact hns _ _ he
  have hflat : (es ++ ns).flatten = es.flatten ++ ns.flatten := by simp
  have honly : ∀ (k : Nat) (x : V), (es ++ ns).flatten[k]? = some x → x.one = true := by
    intro k x hk
    rw [hflat, List.getElem?_append] at hk
    split at hk
    · exact h1s _ _ hk
    · exact h1 _ _ hk
  have hfo : ∀ w', w'.heap = w.heap → (Builtin.firstCells i.size es.length (.slice a es.length cap)).run P w' = .ok olds.toArray w' := by
    intro w' hw
    rcases ha with rfl | ⟨rfl, rfl⟩
    · exact run_firstCells_some w' i.size es.length _ _ cap olds holen fun j v hj => by
        rw [add_lit]
        have := (hocells j v hj).2
        simpa [World.cell?, hw] using this
    · obtain rfl : olds = [] := List.eq_nil_of_length_eq_zero (by simpa using holen)
      exact run_firstCells_none w' i.size 0 0 cap
  -- the new block
  have grow : cap < es.length + ns.length → ∃ t' γ' v' w', AppTo P w i z e es.length ns.length (.slice a es.length cap) news v' w' ∧ σ.live t' = false ∧ Ext w0.heap.size γ w γ' w' ∧
      Inv G w0 γ' ((match tag with | .tip k => σ.off k | _ => σ).on t') w' ∧ R w0.heap.size γ' w' (.slice (.tip t') i.size (es ++ ns)) v' := by
    intro hcap
    have hge := grownCap_ge w (es.length + ns.length) cap e
    have hrun : AppTo P w i z e es.length ns.length (.slice a es.length cap) news (.slice (some ⟨w.heap.size, 0, none⟩) (es.length + ns.length) (grownCap w (es.length + ns.length) cap e)) (w.drew.alloc (.cells (olds ++ news ++ (Builtin.zeroCells z.cells (grownCap w (es.length + ns.length) cap e - (es.length + ns.length))).toList).toArray e)) :=
      ⟨a, cap, olds, rfl, hfo, holen, .inl ⟨hcap, by omega, growslice_fits hcap hb, hge, rfl, rfl⟩⟩
    generalize hN : grownCap w (es.length + ns.length) cap e = N at hrun hge
    generalize hZ : (Builtin.zeroCells z.cells (N - (es.length + ns.length))).toList = Z at hrun
    have hZl : Z.length = (N - (es.length + ns.length)) * i.size := by rw [← hZ, ← hzs]; simp [Builtin.zeroCells]
    obtain ⟨hI1, he1⟩ := hI.drew
    obtain ⟨hI2, he2⟩ := hI1.alloc (.cells (olds ++ news ++ Z).toArray e)
    have hE := he1.trans he2
    generalize hW : w.drew.alloc (.cells (olds ++ news ++ Z).toArray e) = W at hrun hI2 he2 hE
    have hWn : W.heap[w.heap.size]? = some (.cells (olds ++ news ++ Z).toArray e (0, 0)) := by rw [← hW]; exact heap_alloc_new w.drew _
    have hWs : W.heap.size = w.heap.size + 1 := by rw [← hW]; simp
    have hcellW : ∀ (k : Nat), W.cell? ⟨w.heap.size, k, none⟩ = (olds ++ news ++ Z)[k]? := fun k => by rw [cell_of_row W _ k _ _ _ hWn]; simp
    have hrf := hI.row_fresh (Nat.le_refl w.heap.size)
    let γ' : Gh := { row := fun b => if b = w.heap.size then some ((es.length + ns.length) * i.size) else γ.row b,
                     tip := fun k => if k = γ.nt then some w.heap.size else if tag = .tip k then none else γ.tip k, nt := γ.nt + 1 }
    have hrowW : γ'.row w.heap.size = some ((es.length + ns.length) * i.size) := by simp only [γ', if_true]
    have htipold : ∀ k g, k ≠ γ.nt → γ'.tip k = some g → γ.tip k = some g := by
      intro k g hk hg
      simp only [γ', if_neg hk] at hg
      split at hg
      · cases hg
      · exact hg
    have htipb : ∀ k g, γ.tip k = some g → g ≠ w.heap.size := by
      intro k g hg hgs
      obtain ⟨_, _, u, us, ty', _, hh, _⟩ := hI.tip k g hg
      have := lt_of_heap hh; omega
    have hext : Ext w0.heap.size γ w γ' W := by
      refine ⟨hE.hsz, hE.cell, fun b u hu => ⟨u, ?_, Nat.le_refl _⟩, Nat.le_succ _, fun k g hk hg => ?_, hE.shape⟩
      · have hbne : b ≠ w.heap.size := by rintro rfl; rw [hrf] at hu; cases hu
        simp only [γ', if_neg hbne]; exact hu
      · have h0 := htipold k g (by omega) hg
        exact ⟨h0, by simp only [γ', if_neg (htipb k g h0)]⟩
    have hRL : RL w0.heap.size γ' W (es.flatten ++ ns.flatten) (olds ++ news) := (hol.append hrl).ext hext
    refine ⟨γ.nt, γ', _, W, hrun, hfresh, hext, hI.ext hext hI2.bel (fun b cs hbx => ?_) (fun k hk => ?_) (fun k g hg => ?_) (fun k k' g hg hg' => ?_) (fun b u hu => ?_) (fun r es' c h => by rw [← hW]; exact (heap_alloc_old w.drew _ r (lt_of_heap h)).trans h) (by cases tag <;> rfl), ?_⟩
    · have hbx' : σ.box b = some cs := by cases tag <;> exact hbx
      obtain ⟨g1, g2, g3, us, ty', g4, g5⟩ := hI2.box b cs hbx'
      have hbne : b ≠ w.heap.size := by have := hI.box_lt hbx'; omega
      obtain ⟨_, _, _, us0, ty0, g40, g50⟩ := hI.box b cs hbx'
      have e0 : W.heap[b]? = w.heap[b]? := by rw [← hW]; exact heap_alloc_old w.drew _ b (hI.box_lt hbx')
      exact ⟨g1, by simp only [γ', if_neg hbne]; exact g2, g3, us0, ty0, e0.trans g40, g50.ext hext⟩
    · by_cases hkn : k = γ.nt
      · exact ⟨w.heap.size, by simp only [γ', if_pos hkn]⟩
      · have hk2 : σ.live k = true ∧ tag ≠ .tip k := by
          cases tag <;> simp_all [St.on, St.off]
          exact fun h => hk.1 h.symm
        obtain ⟨g, hg⟩ := hI.live k hk2.1
        exact ⟨g, by simp only [γ', if_neg hkn, if_neg hk2.2]; exact hg⟩
    · by_cases hkn : k = γ.nt
      · simp only [γ', if_pos hkn, Option.some.injEq] at hg
        subst hg
        refine ⟨by simp only [γ']; omega, hI.size, _, _, e, hrowW, hWn, ?_⟩
        simp only [List.size_toArray, List.length_append, holen, hnlen, hZl]
        rw [← Nat.add_mul]; exact Nat.le_add_right _ _
      · have h0 := htipold k g hkn hg
        obtain ⟨g1, g2, u, us, ty', g3, g4, g5⟩ := hI2.tip k g h0
        exact ⟨by simp only [γ']; omega, g2, u, us, ty', by simp only [γ', if_neg (htipb k g h0)]; exact g3, g4, g5⟩
    · by_cases hkn : k = γ.nt <;> by_cases hkn' : k' = γ.nt
      · rw [hkn, hkn']
      · simp only [γ', if_pos hkn, Option.some.injEq] at hg
        exact absurd hg.symm (htipb k' g (htipold k' g hkn' hg'))
      · simp only [γ', if_pos hkn', Option.some.injEq] at hg'
        exact absurd hg'.symm (htipb k g (htipold k g hkn hg))
      · exact hI.inj k k' g (htipold k g hkn hg) (htipold k' g hkn' hg')
    · by_cases hbn : b = w.heap.size
      · subst hbn; exact ⟨hI.size, by omega⟩
      · simp only [γ', if_neg hbn] at hu
        have := hI.rowlt b u hu
        exact ⟨this.1, by omega⟩
    · have hlen2 : (es ++ ns).length = es.length + ns.length := by simp
      have hfl : (es ++ ns).flatten.length = (es.length + ns.length) * i.size := by rw [flatten_length hall, hlen2]
      have hmk := R.slice (B := w0.heap.size) (γ := γ') (w := W) (.tip γ.nt) i.size (es ++ ns) (some ⟨w.heap.size, 0, none⟩) N w.heap.size 0 (fun k => (olds ++ news).getD k undef) hall (by rw [hlen2]; exact hge) (.inl rfl)
        ⟨by simp only [γ']; omega, fun g hg => ?_⟩ honly (fun k x hk => ?_) (fun k x hk => ?_)
      · rw [hlen2] at hmk; exact hmk
      · simp only [γ', if_true, Option.some.injEq] at hg
        subst hg
        refine ⟨rfl, by simp only [γ', if_true, hlen2], e, _, by simp [World.shape?, hWn]; rfl, ?_⟩
        simp only [List.length_append, holen, hnlen, hZl]
        rw [← Nat.add_mul, ← Nat.add_mul]
        exact Nat.mul_le_mul_right _ (by omega)
      · have hk' : k < (es ++ ns).flatten.length := (List.getElem?_eq_some_iff.1 hk).1
        refine ⟨.inr ⟨_, hrowW, by rw [hfl] at hk'; rw [Nat.zero_add]; exact hk'⟩, ?_⟩
        have hkl : k < (olds ++ news).length := by rw [← hRL.1, ← hflat]; exact hk'
        simp only [Nat.zero_add]
        rw [hcellW, List.getElem?_append_left hkl, List.getD_eq_getElem?_getD, List.getElem?_eq_getElem hkl]; rfl
      · rw [hflat] at hk
        have hkl : k < (olds ++ news).length := by rw [← hRL.1]; exact (List.getElem?_eq_some_iff.1 hk).1
        exact hRL.2 k x _ hk (by rw [List.getD_eq_getElem?_getD, List.getElem?_eq_getElem hkl]; rfl)
  by_cases hcap : cap < es.length + ns.length
  · exact grow hcap
  -- room: then the tag is a live tip
  have htip : ∃ k, tag = .tip k ∧ σ.live k = true := by
    rcases htag with rfl | rfl | h
    · obtain ⟨_, h2, h3⟩ := htg; omega
    · have : cap = es.length := htg; omega
    · exact h
  obtain ⟨k, rfl, hlive⟩ := htip
  obtain ⟨g, hg⟩ := hI.live k hlive
  obtain ⟨hkn, htg⟩ := htg
  obtain ⟨rfl, hrow, e', n, hshape, hfit⟩ := htg g hg
  obtain ⟨-, hgB, u, cur, te, hu, hgh, hule⟩ := hI.tip k g hg
  obtain rfl : u = es.length * i.size := by rw [hrow] at hu; exact (Option.some.inj hu).symm
  obtain ⟨rfl, rfl⟩ : b = g ∧ o = 0 := by
    rcases ha with ha | ⟨ha, _⟩
    · have h := Option.some.inj ha
      injection h with h1 h2 h3
      exact ⟨h1.symm, h2.symm⟩
    · cases ha
  have hn : n = cur.size := by simp [World.shape?, hgh] at hshape; exact hshape.2.symm
  have hfit2 : es.length * i.size + news.length ≤ cur.size := by
    rw [hnlen, ← Nat.add_mul, ← hn]
    exact Nat.le_trans (Nat.mul_le_mul_right _ (by omega)) hfit
  have h1n : ∀ u ∈ news, u.oneCell' = true := hrl.ones h1
  have hrun : AppTo P w i z e es.length ns.length (.slice (some ⟨b, 0, none⟩) es.length cap) news (.slice (some ⟨b, 0, none⟩) (es.length + ns.length) cap) (w.setRow b (cur.toList.take (es.length * i.size) ++ news ++ cur.toList.drop (es.length * i.size + news.length)).toArray) :=
    ⟨_, cap, olds, rfl, hfo, holen, .inr ⟨by omega, b, cur, te, rfl, hgh, hfit2, rfl, rfl⟩⟩
  generalize hC : (cur.toList.take (es.length * i.size) ++ news ++ cur.toList.drop (es.length * i.size + news.length)).toArray = C at hrun
  have hCs : C.size = cur.size := by
    rw [← hC]
    simp only [List.size_toArray, List.length_append, List.length_take, List.length_drop, Array.length_toList]
    omega
  have hWb : (w.setRow b C).heap[b]? = some (.cells C te (0, 0)) := setRow_heap w b cur C te _ hgh
  have hWo : ∀ k, k ≠ b → (w.setRow b C).heap[k]? = w.heap[k]? := fun k hk => setRow_other w b k C hk
  have hold : ∀ k, k < es.length * i.size → C[k]? = cur[k]? := by
    intro k hk
    rw [← hC]
    simp only [List.getElem?_toArray]
    rw [List.append_assoc, List.getElem?_append_left (by simp; omega), List.getElem?_take_of_lt hk]; simp
  have hnew : ∀ k, k < news.length → C[es.length * i.size + k]? = news[k]? := by
    intro k hk
    rw [← hC]
    simp only [List.getElem?_toArray]
    have hle : es.length * i.size ≤ cur.toList.length := by simpa using hule
    rw [List.append_assoc, List.getElem?_append_right (by simp; omega), List.length_take, Nat.min_eq_left hle, Nat.add_sub_cancel_left, List.getElem?_append_left hk]
  generalize hW : w.setRow b C = W at hrun hWb hWo
  have hWs : W.heap.size = w.heap.size := by rw [← hW]; simp
  let γ' : Gh := { row := fun c => if c = b then some ((es.length + ns.length) * i.size) else γ.row c,
                   tip := fun q => if q = γ.nt then some b else if q = k then none else γ.tip q, nt := γ.nt + 1 }
  have hrowB : γ'.row b = some ((es.length + ns.length) * i.size) := by simp only [γ', if_true]
  have htipold : ∀ q g, q ≠ γ.nt → γ'.tip q = some g → γ.tip q = some g ∧ g ≠ b := by
    intro q g hq hg'
    simp only [γ', if_neg hq] at hg'
    split at hg'
    · cases hg'
    · rename_i hqk
      exact ⟨hg', fun h => hqk (hI.inj q k b (h ▸ hg') hg)⟩
  have hext : Ext w0.heap.size γ w γ' W := by
    refine ⟨by omega, fun c q v hi' hcv => ?_, fun c u' hu' => ?_, Nat.le_succ _, fun q g' hq hg' => ?_, fun c y hy => ?_⟩
    · by_cases hcb : c = b
      · subst hcb
        have hq : q < es.length * i.size := by
          rcases hi' with hi' | ⟨u', hu', hq⟩
          · omega
          · rw [hu] at hu'; injection hu' with hu'; omega
        rw [cell_of_row W c q C te _ hWb, hold q hq, ← hcv, cell_of_row w c q cur te _ hgh]
      · exact (World.cell?_of_block (w := w) (hWo c hcb)).trans hcv
    · by_cases hcb : c = b
      · subst hcb
        rw [hu] at hu'; injection hu' with hu'
        exact ⟨_, hrowB, by rw [← hu', Nat.add_mul]; exact Nat.le_add_right _ _⟩
      · exact ⟨u', by simp only [γ', if_neg hcb]; exact hu', Nat.le_refl _⟩
    · obtain ⟨h0, hne⟩ := htipold q g' (by omega) hg'
      exact ⟨h0, by simp only [γ', if_neg hne]⟩
    · by_cases hcb : c = b
      · subst hcb
        rw [← hy]; simp [World.shape?, hWb, hgh, hCs]
      · exact (shape_of_heap (hWo c hcb)).trans hy
  have hBel : Below w0.heap.size w0 W := hI.bel.trans ⟨by rw [← hW]; rfl, by rw [← hW]; rfl, by rw [← hW]; rfl, by omega, fun c hcB => hWo c (by omega)⟩
  have hRLo : RL w0.heap.size γ' W es.flatten olds := hol.ext hext
  have hRLn : RL w0.heap.size γ' W ns.flatten news := hrl.ext hext
  refine ⟨γ.nt, γ', _, W, hrun, hfresh, hext, hI.ext hext hBel (fun c cs hbx => ?_) (fun q hq => ?_) (fun q g' hg' => ?_) (fun q q' g' hg1 hg2 => ?_) (fun c u' hu' => ?_) (fun r es' c' h => (hWo r (by rintro rfl; rw [hgh] at h; cases h)).trans h), ?_⟩
  · have hbx' : σ.box c = some cs := hbx
    obtain ⟨g1, g2, g3, us, ty', g4, g5⟩ := hI.box c cs hbx'
    have hcb : c ≠ b := by rintro rfl; rw [hu] at g2; cases g2
    exact ⟨g1, by simp only [γ', if_neg hcb]; exact g2, g3, us, ty', (hWo c hcb).trans g4, g5.ext hext⟩
  · by_cases hqn : q = γ.nt
    · exact ⟨b, by simp only [γ', if_pos hqn]⟩
    · have hq2 : σ.live q = true ∧ q ≠ k := by simp_all [St.on, St.off]
      obtain ⟨g', hg'⟩ := hI.live q hq2.1
      exact ⟨g', by simp only [γ', if_neg hqn, if_neg hq2.2]; exact hg'⟩
  · by_cases hqn : q = γ.nt
    · simp only [γ', if_pos hqn, Option.some.injEq] at hg'
      subst hg'
      refine ⟨by simp only [γ']; omega, hgB, _, C, te, hrowB, hWb, ?_⟩
      rw [hCs, Nat.add_mul, ← hnlen]; exact hfit2
    · obtain ⟨h0, hne'⟩ := htipold q g' hqn hg'
      obtain ⟨g1, g2, u', us, ty', g3, g4, g5⟩ := hI.tip q g' h0
      exact ⟨by simp only [γ']; omega, g2, u', us, ty', by simp only [γ', if_neg hne']; exact g3, (hWo g' hne').trans g4, g5⟩
  · by_cases h1q : q = γ.nt <;> by_cases h2q : q' = γ.nt
    · rw [h1q, h2q]
    · simp only [γ', if_pos h1q, Option.some.injEq] at hg1
      exact absurd hg1.symm (htipold q' g' h2q hg2).2
    · simp only [γ', if_pos h2q, Option.some.injEq] at hg2
      exact absurd hg2.symm (htipold q g' h1q hg1).2
    · exact hI.inj q q' g' (htipold q g' h1q hg1).1 (htipold q' g' h2q hg2).1
  · by_cases hcb : c = b
    · subst hcb; exact ⟨hgB, by rw [hWs]; exact lt_of_heap hgh⟩
    · simp only [γ', if_neg hcb] at hu'
      have := hI.rowlt c u' hu'
      exact ⟨this.1, by omega⟩
  · have hlen2 : (es ++ ns).length = es.length + ns.length := by simp
    have hfl : es.flatten.length = es.length * i.size := flatten_length hes
    have hmk := R.slice (B := w0.heap.size) (γ := γ') (w := W) (.tip γ.nt) i.size (es ++ ns) (some ⟨b, 0, none⟩) cap b 0 (fun q => (olds ++ news).getD q undef) hall (by rw [hlen2]; omega) (.inl rfl)
      ⟨by simp only [γ']; omega, fun g' hg' => ?_⟩ honly (fun q x' hq => ?_) (fun q x' hq => ?_)
    · rw [hlen2] at hmk; exact hmk
    · simp only [γ', if_true, Option.some.injEq] at hg'
      subst hg'
      exact ⟨rfl, by simp only [γ', if_true, hlen2], te, C.size, by simp [World.shape?, hWb], by rw [hCs, ← hn]; exact hfit⟩
    · have hq' : q < (es ++ ns).flatten.length := (List.getElem?_eq_some_iff.1 hq).1
      have hq2 : q < (es.length + ns.length) * i.size := by rw [flatten_length hall, hlen2] at hq'; exact hq'
      refine ⟨.inr ⟨_, hrowB, by simpa using hq2⟩, ?_⟩
      simp only [Nat.zero_add]
      rw [cell_of_row W b q C te _ hWb, List.getD_eq_getElem?_getD]
      by_cases hqo : q < es.length * i.size
      · have hqol : q < olds.length := by omega
        rw [hold q hqo, List.getElem?_append_left hqol, List.getElem?_eq_getElem hqol]
        have h2 := (hocells q _ (List.getElem?_eq_getElem hqol)).2
        rw [Nat.zero_add, cell_of_row w b q cur te _ hgh] at h2
        rw [h2]; rfl
      · have hqn : q - es.length * i.size < news.length := by rw [hnlen]; rw [Nat.add_mul] at hq2; omega
        rw [show q = es.length * i.size + (q - es.length * i.size) by omega, hnew _ hqn, ← holen, List.getElem?_append_right (by omega), Nat.add_sub_cancel_left, holen, List.getElem?_eq_getElem hqn]; rfl
    · rw [hflat] at hq
      have hRLa := hRLo.append hRLn
      have hql : q < (olds ++ news).length := by rw [← hRLa.1]; exact (List.getElem?_eq_some_iff.1 hq).1
      exact hRLa.2 q x' _ hq (by rw [List.getD_eq_getElem?_getD, List.getElem?_eq_getElem hql]; rfl)

/-- What append does to the invariant: the result is a live tip. -/
theorem Inv.append {P : Program} {G : Globs} {w0 w : World} {γ : Gh} {σ : St} (hI : Inv G w0 γ σ w) {t xT ty e : TypeId} {i : TypeInfo} {z : Value}
    (ht : P.underlying t = some (.slice e)) (hi : P.info? e = some i) (hz : i.zero = some z) (hzs : z.cells.size = i.size)
    {tag : Tag} {es : List (List V)} {v : Value} (hv : R w0.heap.size γ w (.slice tag i.size es) v)
    (htag : tag = .nil ∨ tag = .full ∨ ∃ k, tag = .tip k ∧ σ.live k = true)
    {x : Value} {ns : List (List V)} {news : List Value} (hs : Src P w i.size xT x ns.length news) (hns : ∀ (i' : Nat) (e : List V), ns[i']? = some e → e.length = i.size) (hrl : RL w0.heap.size γ w ns.flatten news)
    (h1 : ∀ (k : Nat) (x : V), ns.flatten[k]? = some x → x.one = true) (hne : ns ≠ []) (hb : (es.length + ns.length) * i.bytes ≤ 140737488355328) (hb2 : es.length + ns.length ≤ 9223372036854775807) :
    ∃ t' γ' v' w', (Builtin.append_ #[t, xT] ty #[v, x]).run P w = .ok v' w' ∧ σ.live t' = false ∧ Ext w0.heap.size γ w γ' w' ∧
      Inv G w0 γ' ((match tag with | .tip k => σ.off k | _ => σ).on t') w' ∧ R w0.heap.size γ' w' (.slice (.tip t') i.size (es ++ ns)) v' := by
  obtain ⟨t', γ', v', w', g1, g2⟩ := hI.append_core (P := P) (e := e) hzs hv htag hs.size hns hrl h1 hne hb hb2
  exact ⟨t', γ', v', w', g1.run ht hi hz hs (hrl.ones h1), g2⟩

end Go.Shadow

/- THE SHADOW LOGIC, part 3: shadow operations, and what they mean. -/
namespace Go.Shadow
open Go Go.RowKit

inductive SEnd where
  | ret (v : V)
  | pan (v : V)

/-- What a call of function f does, in shadow terms. -/
def SCall (P : Program) (G : Globs) (f : FuncId) (args : List V) (σ : St) (Post : SEnd → St → Prop) : Prop :=
  ∀ (w0 : World) (γ : Gh) (w : World) (xs : Array Value), Inv G w0 γ σ w → RL w0.heap.size γ w args xs.toList →
    let R' : Ending → World → Prop := fun e w' => ∃ γ' σ', Ext w0.heap.size γ w γ' w' ∧ Inv G w0 γ' σ' w' ∧ ∃ r x, R w0.heap.size γ' w' r x ∧
      ((e = .returned x ∧ Post (.ret r) σ') ∨ (e = .panicked [{ v := x, recovered := false }] ∧ Post (.pan r) σ'))
    ((callFunc f xs).run P w = .ok (.enter f xs) w ∧ Calls P f xs w R') ∨ ∃ x w', (callFunc f xs).run P w = .ok (.value x) w' ∧ R' (.returned x) w'

theorem SCall.mono {P : Program} {G : Globs} {f : FuncId} {args : List V} {σ : St} {Post Post' : SEnd → St → Prop} (h : SCall P G f args σ Post) (hp : ∀ e σ', Post e σ' → Post' e σ') : SCall P G f args σ Post' := by
  intro w0 γ w xs hI hr
  rcases h w0 γ w xs hI hr with ⟨h1, h2⟩ | ⟨x, w', h1, γ', σ', h2, h3, r, y, h4, h5⟩
  · refine .inl ⟨h1, h2.mono ?_⟩
    rintro e w' ⟨γ', σ', h2, h3, r, y, h4, h5⟩
    exact ⟨γ', σ', h2, h3, r, y, h4, h5.imp (fun h => ⟨h.1, hp _ _ h.2⟩) (fun h => ⟨h.1, hp _ _ h.2⟩)⟩
  · exact .inr ⟨x, w', h1, γ', σ', h2, h3, r, y, h4, h5.imp (fun h => ⟨h.1, hp _ _ h.2⟩) (fun h => ⟨h.1, hp _ _ h.2⟩)⟩

/-- Both ways of a test. -/
def Br (b : Bool) (x y : Prop) : Prop := (b = true → x) ∧ (b = false → y)
theorem Br.mk {b : Bool} {x y : Prop} (h : b = true → x) (k : b = false → y) : Br b x y := ⟨h, k⟩
theorem Br_true {x y : Prop} : Br true x y = x := by simp [Br]
theorem Br_false {x y : Prop} : Br false x y = y := by simp [Br]

/-- All that was known of variables is known still. -/
structure Kept (σ σ' : St) (p : Prop) : Prop where
  h : (∀ b cs, σ.box b = some cs → σ'.box b = some cs) ∧ p
theorem Kept.mk' {σ σ' : St} {p : Prop} (h : ∀ b cs, σ.box b = some cs → σ'.box b = some cs) (k : p) : Kept σ σ' p := ⟨h, k⟩
theorem Kept.refl {σ : St} {p : Prop} (k : p) : Kept σ σ p := ⟨fun _ _ h => h, k⟩

/-- One variable is known still. -/
structure Kept1 (b : Nat) (σ σ' : St) (p : Prop) : Prop where
  h : (∀ cs, σ.box b = some cs → σ'.box b = some cs) ∧ p
theorem Kept1.mk' {b : Nat} {σ σ' : St} {p : Prop} (h : ∀ cs, σ.box b = some cs → σ'.box b = some cs) (k : p) : Kept1 b σ σ' p := ⟨h, k⟩

inductive Opd where
  | t (n : Nat)
  | c (v : V)
  | g (n : Nat)
  | f (n : FuncId)

abbrev Slots := Nat → Option V
def Slots.upd (sl : Slots) (d : Nat) (v : V) : Slots := fun t => if t = d then some v else sl t

def Opd.ev (sl : Slots) (G : Globs) : Opd → Option V
  | .t n => sl n
  | .c v => some v
  | .g n => (G n).map .ref
  | .f n => some (.func n [] [])

def evs (sl : Slots) (G : Globs) : List Opd → Option (List V)
  | [] => some []
  | x :: r => match x.ev sl G, evs sl G r with
    | some v, some vs => some (v :: vs)
    | _, _ => none

def V.notTup : V → Bool
  | .tup _ => false
  | _ => true
/-- The cells of a value. -/
def V.cells : V → List V
  | .agg cs => cs
  | v => [v]
/-- A value out of cells. -/
def mkv (agg : Bool) (cs : List V) : Option V := if agg then some (.agg cs) else cs.head?
/-- The cells at an address. -/
def St.at (σ : St) : V → Option (List V)
  | .ref cs => some cs
  | .loc b off => (σ.box b).map (·.drop off)
  | _ => none
def setL (cs : List V) (off : Nat) : List V → List V
  | [] => cs
  | v :: r => setL (cs.set off v) (off + 1) r
def fillL (cs : List V) : List (Nat × List V) → List V
  | [] => cs
  | (off, vs) :: r => fillL (setL cs off vs) r

inductive SOp where
  | mv (x : Opd)
  | pick (c a b : Opd)
  | alloc (zero : List V)
  | box (x : Opd)
  | build (zero : List V) (parts : List (Nat × Nat × Opd))
  | mkslice (s : Nat) (parts : List Opd)
  | load (agg : Bool) (n : Nat) (a : Opd)
  | store (n : Nat) (a x : Opd)
  | nilchk (x : Opd)
  | bin (op : BinOp) (x y : Opd)
  | bins (op : BinOp) (x y : Opd)
  | binb (neg : Bool) (x y : Opd)
  | eqs (neg : Bool) (sh : List Nat) (x y : Opd)
  | eqn (neg : Bool) (x y : Opd)
  | un (op : UnOp) (x : Opd)
  | i2i (k : IntKind) (x : Opd)
  | b2s (x : Opd)
  | mkif (t : TypeId) (x : Opd)
  | mkfn (f : FuncId) (first cap : List Opd)
  | slice (s : Nat) (x : Opd) (lo hi : Option Opd)
  | cuts (x : Opd) (lo hi : Option Opd)
  | faddr (off : Nat) (x : Opd)
  | field (agg : Bool) (n off : Nat) (x : Opd)
  | iaddr (s : Nat) (x i : Opd)
  | iaddrA (s len : Nat) (x i : Opd)
  | idxs (x i : Opd)
  | idxa (agg : Bool) (s len : Nat) (x i : Opd)
  | extract (i : Nat) (x : Opd)
  | call (f : FuncId) (args : List Opd)
  | callv (x : Opd) (args : List Opd)
  | callk (f : FuncId) (args : List Opd)
  | callvk (x : Opd) (args : List Opd)
  | stored (os : List Nat) (n : Nat) (a x : Opd)
  | loadr (root : Option Nat) (agg : Bool) (n : Nat) (a : Opd)
  | callr (ls : List Nat) (f : FuncId) (args : List Opd)
  | callvr (ls : List Nat) (x : Opd) (args : List Opd)
  | mkmap
  | minsert (kd : Nat) (m k v : Opd)
  | mlook (kd : Nat) (zero : List V) (agg ok : Bool) (m k : Opd)
  | calli (tbl : List (TypeId × FuncId)) (x : Opd) (args : List Opd)
  | mkmsl (s bytes : Nat) (zero : List V) (len cap : Opd)
  | copy (a b : Opd)
  | conv2u (x : Opd)
  | len (str : Bool) (x : Opd)
  | mm (max : Bool) (xs : List Opd)
  | append (s bytes : Nat) (a b : Opd)
  | appends (bytes : Nat) (a b : Opd)
  | panic (x : Opd)
  | s2b (x : Opd)
  | s2s (x : Opd)
  | tassert (t : TypeId) (zero : List V) (agg : Bool) (ok : Bool) (x : Opd)

def bitsOp (op : BinOp) (k : IntKind) (x y : Int) : Int :=
  let a := BitVec.ofInt k.bits x
  let b := BitVec.ofInt k.bits y
  k.wrap (match op with
  | .and => (a &&& b).toNat
  | .or => (a ||| b).toNat
  | .xor => (a ^^^ b).toNat
  | _ => (a &&& ~~~b).toNat)

def sBin (op : BinOp) (k : IntKind) (x y : Int) (K : V → Prop) : Prop :=
  match op with
  | .add => K (.int k (k.wrap (x + y)))
  | .sub => K (.int k (k.wrap (x - y)))
  | .mul => K (.int k (k.wrap (x * y)))
  | .quo => y ≠ 0 ∧ K (.int k (k.wrap (x.tdiv y)))
  | .rem => y ≠ 0 ∧ K (.int k (x.tmod y))
  | .eql => K (.bool (x == y))
  | .neq => K (.bool (x != y))
  | .lss => K (.bool (decide (x < y)))
  | .leq => K (.bool (decide (x ≤ y)))
  | .gtr => K (.bool (decide (x > y)))
  | .geq => K (.bool (decide (x ≥ y)))
  | .and => K (.int k (bitsOp .and k x y))
  | .or => K (.int k (bitsOp .or k x y))
  | .xor => K (.int k (bitsOp .xor k x y))
  | .andNot => K (.int k (bitsOp .andNot k x y))
  | .shl => 0 ≤ y ∧ K (.int k (k.wrap (x * 2 ^ min y.toNat k.bits)))
  | .shr => 0 ≤ y ∧ K (.int k (x.fdiv (2 ^ min y.toNat k.bits)))

def sBinS (op : BinOp) (x y : List UInt8) (K : V → Prop) : Prop :=
  match op with
  | .add => x.length + y.length ≤ 9223372036854775807 ∧ K (.str (x ++ y))
  | .eql => K (.bool (x == y))
  | .neq => K (.bool (!(x == y)))
  | .lss => K (.bool (Op.bytesLess x y))
  | .leq => K (.bool (Op.bytesLess x y || x == y))
  | .gtr => K (.bool !(Op.bytesLess x y || x == y))
  | .geq => K (.bool !(Op.bytesLess x y))
  | _ => False

/-- '==' of two cells that are whole numbers, bools or strings. -/
def eqV : V → V → Option Bool
  | .int k x, .int k' y => if k = k' then some (x == y) else none
  | .bool x, .bool y => some (x == y)
  | .str x, .str y => some (x == y)
  | _, _ => none
def eqL : List V → List V → Option Bool
  | [], [] => some true
  | x :: xs, y :: ys => match eqV x y, eqL xs ys with
    | some a, some b => some (a && b)
    | _, _ => none
  | _, _ => none
def leafS : Nat → V → Bool
  | 0, .int _ _ => true
  | 1, .bool _ => true
  | 2, .str _ => true
  | _, _ => false
def shapeL : List Nat → List V → Bool
  | [], [] => true
  | s :: r, x :: xs => leafS s x && shapeL r xs
  | _, _ => false
/-- A value against nil (the second one). -/
def isNil : V → V → Option Bool
  | .nilptr, .nilptr | .nilfunc, .nilfunc | .nilIface, .nilIface | .nilmap, .nilmap => some true
  | .loc _ _, .nilptr | .ref _, .nilptr | .func _ _ _, .nilfunc | .iface _ _, .nilIface | .map _, .nilmap => some false
  | .slice .nil _ _, .slice .nil _ _ => some true
  | .slice .foreign _ (_ :: _), .slice .nil _ _ | .slice .full _ (_ :: _), .slice .nil _ _ | .slice (.tip _) _ (_ :: _), .slice .nil _ _ => some false
  | _, _ => none

def V.bytes : List (List V) → Option (List UInt8)
  | [] => some []
  | [.int .u8 n] :: r => if 0 ≤ n ∧ n < 256 then (V.bytes r).map (UInt8.ofNat n.toNat :: ·) else none
  | _ => none
def byteEls (l : List UInt8) : List (List V) := l.map fun b => [.int .u8 b.toNat]

def maxOf : Int → List V → Option Int
  | m, [] => some m
  | m, .int .i64 y :: r => maxOf (if y > m then y else m) r
  | _, _ => none
def minOf : Int → List V → Option Int
  | m, [] => some m
  | m, .int .i64 y :: r => minOf (if y < m then y else m) r
  | _, _ => none

def partsOK : List (Nat × Nat × Opd) → List V → Prop
  | [], [] => True
  | p :: ps, v :: vs => v.notTup = true ∧ v.cells.length = p.2.1 ∧ partsOK ps vs
  | _, _ => False
def offs : List (Nat × Nat × Opd) → List V → List (Nat × List V)
  | p :: ps, v :: vs => (p.1, v.cells) :: offs ps vs
  | _, _ => []
def elsOK (s : Nat) : List V → Prop
  | [] => True
  | v :: vs => v.notTup = true ∧ v.cells.length = s ∧ elsOK s vs

/-- What a map has at a key. -/
def findV (k : V) : List (V × V) → Option (Option V)
  | [] => some none
  | (k', v) :: r => match eqV k k' with
    | some true => some (some v)
    | some false => findV k r
    | none => none
def St.putm (σ : St) (r : Nat) (m : List (V × V)) : St := { σ with map := fun r' => if r' = r then some m else σ.map r' }
/-- Addresses in slots that are not in a variable. -/
def farL (sl : Slots) (b : Nat) : List Nat → Prop
  | [] => True
  | k :: r => (match sl k with
    | some (.loc b' _) => b' ≠ b
    | some (.ref _) => True
    | _ => False) ∧ farL sl b r

/-- What is known of the variables that these slots name is known still. -/
def KeptL (sl : Nat → Option V) (σ σ' : St) (p : Prop) : List Nat → Prop
  | [] => p
  | k :: r => match sl k with
    | some (.loc b _) => Kept1 b σ σ' (KeptL sl σ σ' p r)
    | _ => KeptL sl σ σ' p r
/-- The address is of what never changes, or in the variable that a slot names. -/
def RootOK (sl : Nat → Option V) (root : Option Nat) : Option V → Prop
  | some (.ref _) => True
  | some (.loc b _) => match root with
    | some r => match sl r with
      | some (.loc b' _) => b' = b
      | _ => False
    | none => False
  | _ => False

theorem KeptL.get {sl : Nat → Option V} {σ σ' : St} {p : Prop} : ∀ {ls : List Nat}, KeptL sl σ σ' p ls → p ∧ ∀ k ∈ ls, ∀ b off, sl k = some (.loc b off) → ∀ cs, σ.box b = some cs → σ'.box b = some cs
  | [], h => ⟨h, fun k hk => by cases hk⟩
  | j :: r, h => by
    simp only [KeptL] at h
    split at h
    · rename_i b off hj
      obtain ⟨h1, h2⟩ := KeptL.get h.h.2
      refine ⟨h1, fun k hk b' off' hb => ?_⟩
      rcases List.mem_cons.1 hk with rfl | hk
      · rw [hj] at hb; injection hb with hb; injection hb with e1 _; subst e1; exact h.h.1
      · exact h2 k hk b' off' hb
    · rename_i hne
      obtain ⟨h1, h2⟩ := KeptL.get h
      refine ⟨h1, fun k hk b' off' hb => ?_⟩
      rcases List.mem_cons.1 hk with rfl | hk
      · exact (hne _ _ hb).elim
      · exact h2 k hk b' off' hb
theorem KeptL.mono {sl : Nat → Option V} {σ σ' : St} {p q : Prop} (hpq : p → q) : ∀ {ls : List Nat}, KeptL sl σ σ' p ls → KeptL sl σ σ' q ls
  | [], h => hpq h
  | j :: r, h => by
    simp only [KeptL] at h ⊢
    split
    · rename_i hj; simp only [hj] at h; exact ⟨h.h.1, KeptL.mono hpq h.h.2⟩
    · rename_i hne
      split at h
      · rename_i hj; exact (hne _ _ hj).elim
      · exact KeptL.mono hpq h

def sOp (P : Program) (G : Globs) (o : SOp) (sl : Slots) (σ : St) (K : V → St → Prop) (Kp : V → St → Prop) : Prop :=
  match o with
  | .mv x => match x.ev sl G with
    | some v => K v σ
    | none => False
  | .pick c a b => match c.ev sl G, a.ev sl G, b.ev sl G with
    | some (.bool c), some a, some b => Br c (K a σ) (K b σ)
    | _, _, _ => False
  | .alloc zero => ∀ b, σ.box b = none → K (.loc b 0) (σ.put b zero)
  | .box x => match x.ev sl G with
    | some v => v.notTup = true ∧ ∀ b, σ.box b = none → K (.loc b 0) (σ.put b v.cells)
    | none => False
  | .build zero parts => match evs sl G (parts.map (·.2.2)) with
    | some vs => (partsOK parts vs) ∧ K (.agg (fillL zero (offs parts vs))) σ
    | none => False
  | .mkslice s parts => match evs sl G parts with
    | some vs => elsOK s vs ∧ K (.slice .full s (vs.map V.cells)) σ
    | none => False
  | .load agg n a => match (a.ev sl G).bind σ.at with
    | some cs => n ≤ cs.length ∧ match mkv agg (cs.take n) with
      | some v => K v σ
      | none => False
    | none => False
  | .store n a x => match a.ev sl G, x.ev sl G with
    | some (.loc b off), some v => match σ.box b with
      | some cs => v.notTup = true ∧ v.cells.length = n ∧ off + n ≤ cs.length ∧ K (.tup []) (σ.put b (setL cs off v.cells))
      | none => False
    | _, _ => False
  | .nilchk x => match x.ev sl G with
    | some (.loc b o) => K (.loc b o) σ
    | some (.ref cs) => K (.ref cs) σ
    | some (.func f a b) => K (.func f a b) σ
    | _ => False
  | .bin op x y => match x.ev sl G, y.ev sl G with
    | some (.int k a), some (.int k' b) => (k = k' ∨ op = .shl ∨ op = .shr) ∧ sBin op k a b (K · σ)
    | _, _ => False
  | .bins op x y => match x.ev sl G, y.ev sl G with
    | some (.str a), some (.str b) => sBinS op a b (K · σ)
    | _, _ => False
  | .binb neg x y => match x.ev sl G, y.ev sl G with
    | some (.bool a), some (.bool b) => K (.bool (if neg then a != b else a == b)) σ
    | _, _ => False
  | .eqs neg sh x y => match x.ev sl G, y.ev sl G with
    | some (.agg a), some (.agg b) => shapeL sh a = true ∧ match eqL a b with
      | some r => K (.bool (if neg then !r else r)) σ
      | none => False
    | _, _ => False
  | .eqn neg x y => match x.ev sl G, y.ev sl G with
    | some a, some b => match isNil a b with
      | some r => K (.bool (if neg then !r else r)) σ
      | none => False
    | _, _ => False
  | .un op x => match op, x.ev sl G with
    | .neg, some (.int k a) => K (.int k (k.wrap (0 - a))) σ
    | .not, some (.bool b) => K (.bool !b) σ
    | .xor, some (.int k a) => K (.int k (bitsOp .xor k (if k.signed then -1 else k.max) a)) σ
    | _, _ => False
  | .i2i k x => match x.ev sl G with
    | some (.int _ a) => K (.int k (k.wrap a)) σ
    | _ => False
  | .b2s x => match x.ev sl G with
    | some (.slice _ s es) => (s = 1 ∨ es = []) ∧ match V.bytes es with
      | some l => K (.str l) σ
      | none => False
    | some (.mslice b off len _) => match σ.box b with
      | some cs => off + len ≤ cs.length ∧ match V.bytes (((cs.drop off).take len).map ([·])) with
        | some l => K (.str l) σ
        | none => False
      | none => False
    | _ => False
  | .s2b x => match x.ev sl G with
    | some (.str l) => K (.slice .foreign 1 (byteEls l)) σ
    | _ => False
  | .s2s x => match x.ev sl G with
    | some (.str l) => K (.str l) σ
    | _ => False
  | .mkif t x => match x.ev sl G with
    | some v => K (.iface t v) σ
    | none => False
  | .mkfn f first cap => match evs sl G first, evs sl G cap with
    | some a, some b => K (.func f a b) σ
    | _, _ => False
  | .cuts x lo hi => match x.ev sl G, lo.map (fun y : Opd => y.ev sl G), hi.map (fun y : Opd => y.ev sl G) with
    | some (.str l), some (some (.int _ i)), some (some (.int _ j)) => 0 ≤ i ∧ i ≤ j ∧ j ≤ l.length ∧ K (.str ((l.take j.toNat).drop i.toNat)) σ
    | some (.str l), some (some (.int _ i)), none => 0 ≤ i ∧ i ≤ l.length ∧ K (.str (l.drop i.toNat)) σ
    | some (.str l), none, some (some (.int _ j)) => 0 ≤ j ∧ j ≤ l.length ∧ K (.str (l.take j.toNat)) σ
    | some (.str l), none, none => K (.str l) σ
    | _, _, _ => False
  | .slice z x lo hi => match x.ev sl G, lo.map (fun y : Opd => y.ev sl G), hi.map (fun y : Opd => y.ev sl G) with
    | some (.slice _ s es), some (some (.int _ i)), some (some (.int _ j)) => s = z ∧ 0 ≤ i ∧ i ≤ j ∧ j ≤ es.length ∧ K (.slice .foreign s ((es.take j.toNat).drop i.toNat)) σ
    | some (.slice _ s es), some (some (.int _ i)), none => s = z ∧ 0 ≤ i ∧ i ≤ es.length ∧ K (.slice .foreign s (es.drop i.toNat)) σ
    | some (.mslice b off len cap), some (some (.int _ i)), none => 0 ≤ i ∧ i < len ∧ len ≤ cap ∧ K (.mslice b (off + i.toNat * z) (len - i.toNat) (cap - i.toNat)) σ
    | some (.slice _ s es), none, some (some (.int _ j)) => s = z ∧ 0 ≤ j ∧ j ≤ es.length ∧ K (.slice .foreign s (es.take j.toNat)) σ
    | some (.slice t s es), none, none => s = z ∧ K (.slice t s es) σ
    | _, _, _ => False
  | .faddr off x => match x.ev sl G with
    | some (.loc b o) => K (.loc b (o + off)) σ
    | some (.ref cs) => K (.ref (cs.drop off)) σ
    | _ => False
  | .field agg n off x => match x.ev sl G with
    | some (.agg cs) => off + n ≤ cs.length ∧ match mkv agg ((cs.drop off).take n) with
      | some v => K v σ
      | none => False
    | _ => False
  | .iaddr s x i => match x.ev sl G, i.ev sl G with
    | some (.slice _ s' es), some (.int _ i) => (s' = s ∨ es = []) ∧ 0 ≤ i ∧ match es[i.toNat]? with
      | some e => K (.ref e) σ
      | none => False
    | some (.mslice b off len _), some (.int _ i) => 0 ≤ i ∧ i < len ∧ K (.loc b (off + i.toNat * s)) σ
    | _, _ => False
  | .iaddrA s len x i => match x.ev sl G, i.ev sl G with
    | some (.loc b o), some (.int _ i) => 0 ≤ i ∧ i < len ∧ K (.loc b (o + i.toNat * s)) σ
    | some (.ref cs), some (.int _ i) => 0 ≤ i ∧ i < len ∧ K (.ref (cs.drop (i.toNat * s))) σ
    | _, _ => False
  | .idxs x i => match x.ev sl G, i.ev sl G with
    | some (.str l), some (.int _ i) => 0 ≤ i ∧ match l[i.toNat]? with
      | some b => K (.int .u8 b.toNat) σ
      | none => False
    | _, _ => False
  | .idxa agg s len x i => match x.ev sl G, i.ev sl G with
    | some (.agg cs), some (.int _ i) => 0 ≤ i ∧ i < len ∧ i.toNat * s + s ≤ cs.length ∧ match mkv agg ((cs.drop (i.toNat * s)).take s) with
      | some v => K v σ
      | none => False
    | _, _ => False
  | .extract i x => match x.ev sl G with
    | some (.tup vs) => match vs[i]? with
      | some v => K v σ
      | none => False
    | _ => False
  | .call f args => match evs sl G args with
    | some vs => SCall P G f vs σ fun e σ' => match e with
      | .ret v => K v σ'
      | .pan v => Kp v σ'
    | none => False
  | .callv x args => match x.ev sl G, evs sl G args with
    | some (.func f a b), some vs => SCall P G f (a ++ vs ++ b) σ fun e σ' => match e with
      | .ret v => K v σ'
      | .pan v => Kp v σ'
    | _, _ => False
  | .callk f args => match evs sl G args with
    | some vs => SCall P G f vs σ fun e σ' => match e with
      | .ret v => Kept σ σ' (K v σ')
      | .pan v => Kp v σ'
    | none => False
  | .callvk x args => match x.ev sl G, evs sl G args with
    | some (.func f a b), some vs => SCall P G f (a ++ vs ++ b) σ fun e σ' => match e with
      | .ret v => Kept σ σ' (K v σ')
      | .pan v => Kp v σ'
    | _, _ => False
  | .loadr root agg n a => RootOK sl root (a.ev sl G) ∧ match (a.ev sl G).bind σ.at with
    | some cs => n ≤ cs.length ∧ match mkv agg (cs.take n) with
      | some v => K v σ
      | none => False
    | none => False
  | .callr ls f args => match evs sl G args with
    | some vs => SCall P G f vs σ fun e σ' => match e with
      | .ret v => KeptL sl σ σ' (K v σ') ls
      | .pan v => Kp v σ'
    | none => False
  | .callvr ls x args => match x.ev sl G, evs sl G args with
    | some (.func f a b), some vs => SCall P G f (a ++ vs ++ b) σ fun e σ' => match e with
      | .ret v => KeptL sl σ σ' (K v σ') ls
      | .pan v => Kp v σ'
    | _, _ => False
  | .stored os n a x => match a.ev sl G, x.ev sl G with
    | some (.loc b off), some v => match σ.box b with
      | some cs => farL sl b os ∧ v.notTup = true ∧ v.cells.length = n ∧ off + n ≤ cs.length ∧ K (.tup []) (σ.put b (setL cs off v.cells))
      | none => False
    | _, _ => False
  | .mkmap => ∀ r, σ.map r = none → K (.map r) (σ.putm r [])
  | .minsert kd m k v => match m.ev sl G, k.ev sl G, v.ev sl G with
    | some (.map r), some k, some v => match σ.map r with
      | some es => leafS kd k = true ∧ v.notTup' = true ∧ findV k es = some none ∧ K (.tup []) (σ.putm r (es ++ [(k, v)]))
      | none => False
    | _, _, _ => False
  | .mlook kd zero agg ok m k => match m.ev sl G, k.ev sl G with
    | some (.map r), some k => match σ.map r with
      | some es => leafS kd k = true ∧ match findV k es with
        | some (some v) => K (if ok = true then .tup [v, .bool true] else v) σ
        | some none => match mkv agg zero with
          | some z => K (if ok = true then .tup [z, .bool false] else z) σ
          | none => False
        | none => False
      | none => False
    | _, _ => False
  | .calli tbl x args => match x.ev sl G, evs sl G args with
    | some (.iface t v), some vs => match tbl.lookup t with
      | some f => SCall P G f (v :: vs) σ fun e σ' => match e with
        | .ret v => K v σ'
        | .pan v => Kp v σ'
      | none => False
    | _, _ => False
  | .mkmsl s bytes zero len cap => match len.ev sl G, cap.ev sl G with
    | some (.int _ l), some (.int _ c) => 0 ≤ l ∧ l ≤ c ∧ (bytes : Int) * c ≤ 140737488355328 ∧ c ≤ 9223372036854775807 ∧ c.toNat * s ≤ 16777216 ∧ match l with
      | .ofNat 0 => ∀ t', σ.live t' = false → K (.slice (.tip t') s []) (σ.on t')
      | .ofNat (Nat.succ n) => l = c ∧ s = 1 ∧ ∀ b, σ.box b = none → K (.mslice b 0 (n + 1) (n + 1)) (σ.put b (List.replicate (n + 1) zero).flatten)
      | .negSucc _ => False
    | _, _ => False
  | .copy x y => match x.ev sl G, y.ev sl G with
    | some (.mslice b off len _), some (.slice _ s es) => match σ.box b with
      | some cs => s = 1 ∧ off + len ≤ cs.length ∧ es.length ≤ len ∧ 0 < es.length ∧ K (.int .i64 es.length) (σ.put b (setL cs off es.flatten))
      | none => False
    | _, _ => False
  | .conv2u x => match x.ev sl G with
    | some (.loc b o) => match σ.box b with
      | some cs => o < cs.length ∧ K (.loc b o) σ
      | none => False
    | _ => False
  | .len str x => match str, x.ev sl G with
    | false, some (.slice _ _ es) => K (.int .i64 es.length) σ
    | false, some (.mslice _ _ len _) => K (.int .i64 len) σ
    | true, some (.str l) => K (.int .i64 l.length) σ
    | _, _ => False
  | .mm mx xs => match evs sl G xs with
    | some (.int .i64 x :: r) => match if mx then maxOf x r else minOf x r with
      | some m => K (.int .i64 m) σ
      | none => False
    | _ => False
  | .append s bytes a b => match a.ev sl G, b.ev sl G with
    | some (.slice tag s' es), some (.slice _ s2 ns) => (tag = .nil ∨ s' = s) ∧ (s2 = s ∨ ns = []) ∧ (es.length + ns.length) * bytes ≤ 140737488355328 ∧ es.length + ns.length ≤ 9223372036854775807 ∧
      match ns, tag with
      | [], _ => K (.slice tag s' es) σ
      | _ :: _, .tip k => σ.live k = true ∧ ∀ t', σ.live t' = false → K (.slice (.tip t') s (es ++ ns)) ((σ.off k).on t')
      | _ :: _, .foreign => False
      | _ :: _, _ => ∀ t', σ.live t' = false → K (.slice (.tip t') s (es ++ ns)) (σ.on t')
    | _, _ => False
  | .appends bytes a b => match a.ev sl G, b.ev sl G with
    | some (.slice tag s' es), some (.str l) => (tag = .nil ∨ s' = 1) ∧ (es.length + l.length) * bytes ≤ 140737488355328 ∧ es.length + l.length ≤ 9223372036854775807 ∧
      match l, tag with
      | [], _ => K (.slice tag s' es) σ
      | _ :: _, .tip k => σ.live k = true ∧ ∀ t', σ.live t' = false → K (.slice (.tip t') 1 (es ++ byteEls l)) ((σ.off k).on t')
      | _ :: _, .foreign => False
      | _ :: _, _ => ∀ t', σ.live t' = false → K (.slice (.tip t') 1 (es ++ byteEls l)) (σ.on t')
    | _, _ => False
  | .panic x => match x.ev sl G with
    | some (.iface t v) => Kp (.iface t v) σ
    | _ => False
  | .tassert t zero agg ok x => match x.ev sl G with
    | some (.iface t' v) => if t' = t then K (if ok then .tup [v, .bool true] else v) σ else ok = true ∧ match mkv agg zero with
      | some z => K (.tup [z, .bool false]) σ
      | none => False
    | some .nilIface => ok = true ∧ match mkv agg zero with
      | some z => K (.tup [z, .bool false]) σ
      | none => False
    | _ => False

/-- An operation: where its value goes, and on which test it hangs. -/
structure SOper where
  dst : Option Nat
  op : SOp
  guard : Option (Nat × Bool)
abbrev SOper.q (d : Nat) (o : SOp) : SOper := ⟨some d, o, none⟩
abbrev SOper.w (o : SOp) : SOper := ⟨none, o, none⟩

def putD (sl : Slots) (d : Option Nat) (v : V) : Slots := match d with
  | some d => sl.upd d v
  | none => sl

def sOper (P : Program) (G : Globs) (o : SOper) (sl : Slots) (σ : St) (K : Slots → St → Prop) (Kp : V → St → Prop) : Prop :=
  match o.guard with
  | none => sOp P G o.op sl σ (fun v σ' => K (putD sl o.dst v) σ') Kp
  | some (g, want) => match sl g with
    | some (.bool b) => Br (b == want) (sOp P G o.op sl σ (fun v σ' => K (putD sl o.dst v) σ') Kp) (K (putD sl o.dst (.tup [])) σ)
    | some (.tup []) => K (putD sl o.dst (.tup [])) σ
    | _ => False

def sOps (P : Program) (G : Globs) (Kp : V → St → Prop) (K : Slots → St → Prop) : List SOper → Slots → St → Prop
  | [], sl, σ => K sl σ
  | o :: r, sl, σ => sOper P G o sl σ (sOps P G Kp K r) Kp

end Go.Shadow

/- THE SHADOW LOGIC, part 4: which shadow operation stands for which operation of the model; simple operations are sound. -/
namespace Go.Shadow
open Go Go.RowKit

def trV : Value → Option V
  | .bool b => some (.bool b)
  | .int k n => some (.int k n)
  | .string s => some (.str s.data.toList)
  | .pointer none => some .nilptr
  | .slice none 0 0 => some (.slice .nil 0 [])
  | .nilFunc => some .nilfunc
  | .nilIface => some .nilIface
  | .map none => some .nilmap
  | _ => none
def trVs : List Value → Option (List V)
  | [] => some []
  | v :: r => match trV v, trVs r with
    | some x, some xs => some (x :: xs)
    | _, _ => none
def trC (v : Value) : Option V := match trV v with
  | some x => some x
  | none => match v with
    | .agg vs => match trVs vs.toList with
      | some xs => some (.agg xs)
      | none => none
    | _ => none
def trOpd : Operand → Option Opd
  | .tmp t => some (.t t)
  | .const v => match trC v with
    | some v => some (.c v)
    | none => none
  | .global g => some (.g g)
  | .func f => some (.f f)
def trOpds : List Operand → Option (List Opd)
  | [] => some []
  | x :: r => match trOpd x, trOpds r with
    | some y, some ys => some (y :: ys)
    | _, _ => none
def aggB (P : Program) (t : TypeId) : Option Bool := match P.underlying t with
  | some (.struct _) => some true
  | some (.array _ _) => some true
  | some _ => some false
  | none => none
def zeroL (P : Program) (t : TypeId) : Option (List V) := match P.info? t with
  | some i => match i.zero with
    | some z => if z.cells.size = i.size then trVs z.cells.toList else none
    | none => none
  | none => none

structure Rel (G : Globs) (w0 : World) (γ : Gh) (σ : St) (w : World) (n : Nat) (ds : List Deferred) (sl : Slots) (a : Act) : Prop where
  inv : Inv G w0 γ σ w
  slots : ∀ t v, sl t = some v → R w0.heap.size γ w v (a.tmps.getD t undef)
  size : a.tmps.size = n
  defs : a.defers = ds

section
variable {P : Program} {G : Globs} {w0 w : World} {γ : Gh} {σ : St} {n : Nat} {ds : List Deferred} {sl : Slots} {a : Act}

theorem trV_sound {B : Nat} {γ : Gh} {w : World} {v : Value} {x : V} (h : trV v = some x) : R B γ w x v := by
  unfold trV at h
  split at h <;> first | (injection h with h; subst h) | cases h
  · exact .bool _
  · exact .int _ _
  · exact .str _ _ rfl
  · exact .nilptr
  · have := R.slice (B := B) (γ := γ) (w := w) .nil 0 [] none 0 0 0 (fun _ => undef) (by simp) (Nat.le_refl _) (.inr ⟨rfl, rfl⟩) ⟨rfl, rfl, rfl⟩ (by simp) (by simp) (by simp)
    exact this
  · exact .nilfunc
  · exact .nilIface
  · exact .nilmap

theorem trVs_sound {B : Nat} {γ : Gh} {w : World} : ∀ {vs : List Value} {xs : List V}, trVs vs = some xs → RL B γ w xs vs
  | [], xs, h => by simp [trVs] at h; subst h; exact .nil
  | v :: r, xs, h => by
    simp only [trVs] at h
    split at h
    · rename_i x ys h1 h2
      injection h with h; subst h
      exact .cons (trV_sound h1) (trVs_sound h2)
    · cases h
theorem trV_one {v : Value} {x : V} (h : trV v = some x) : x.one = true := by
  unfold trV at h
  split at h <;> first | (injection h with h; subst h; rfl) | cases h
theorem trVs_one : ∀ {vs : List Value} {xs : List V}, trVs vs = some xs → ∀ (j : Nat) (x : V), xs[j]? = some x → x.one = true
  | [], xs, h, j, x, hx => by simp [trVs] at h; subst h; simp at hx
  | v :: r, xs, h, j, x, hx => by
    simp only [trVs] at h
    split at h
    · rename_i y ys h1 h2
      injection h with h; subst h
      cases j with
      | zero => simp at hx; subst hx; exact trV_one h1
      | succ j => exact trVs_one h2 j x (by simpa using hx)
    · cases h

theorem trC_sound {B : Nat} {γ : Gh} {w : World} {v : Value} {x : V} (h : trC v = some x) : R B γ w x v := by
  unfold trC at h
  split at h
  · rename_i y hy; injection h with h; subst h; exact trV_sound hy
  · split at h
    · rename_i vs _
      split at h
      · rename_i xs hx
        injection h with h; subst h
        obtain ⟨h1, h2⟩ := trVs_sound (B := B) (γ := γ) (w := w) hx
        exact .agg xs vs (by simpa using h1) (trVs_one hx) (fun i x y hi hj => h2 i x y hi (by simpa using hj))
      · cases h
    · cases h
theorem ev_sound (hr : Rel G w0 γ σ w n ds sl a) {x : Operand} {ox : Opd} (h : trOpd x = some ox) {v : V} (hv : ox.ev sl G = some v) : R w0.heap.size γ w v (a.eval x) := by
  cases x with
  | tmp t => simp only [trOpd, Option.some.injEq] at h; subst h; exact hr.slots t v hv
  | const c =>
    simp only [trOpd] at h
    split at h
    · rename_i u hu
      injection h with h; subst h
      simp only [Opd.ev, Option.some.injEq] at hv; subst hv
      exact trC_sound hu
    · cases h
  | global g =>
    simp only [trOpd, Option.some.injEq] at h; subst h
    simp only [Opd.ev, Option.map_eq_some_iff] at hv
    obtain ⟨cs, hcs, rfl⟩ := hv
    exact hr.inv.glob g cs hcs
  | func f =>
    simp only [trOpd, Option.some.injEq] at h; subst h
    simp only [Opd.ev, Option.some.injEq] at hv; subst hv
    exact .func f [] [] #[] #[] rfl rfl (by simp) (by simp)

theorem evs_sound (hr : Rel G w0 γ σ w n ds sl a) : ∀ {xs : List Operand} {oxs : List Opd}, trOpds xs = some oxs → ∀ {vs : List V}, evs sl G oxs = some vs → RL w0.heap.size γ w vs (xs.map a.eval)
  | [], oxs, h, vs, hv => by simp [trOpds] at h; subst h; simp [evs] at hv; subst hv; exact .nil
  | x :: r, oxs, h, vs, hv => by
    simp only [trOpds] at h
    split at h
    · rename_i y ys h1 h2
      injection h with h; subst h
      simp only [evs] at hv
      split at hv
      · rename_i u us h3 h4
        injection hv with hv; subst hv
        exact .cons (ev_sound hr h1 h3) (evs_sound hr h2 h4)
      · cases hv
    · cases h

theorem R.cells {B : Nat} {γ : Gh} {w : World} {v : V} {x : Value} (h : R B γ w v x) : (∀ (j : Nat) (y : V), v.cells[j]? = some y → y.one = true) → RL B γ w v.cells x.cells.toList := by
  intro h1
  have h0 := h
  cases h with
  | agg cs vs hl h1' hr => exact ⟨by simpa [V.cells, Value.cells] using hl, fun i x y hx hy => hr i x y hx (by simpa [Value.cells] using hy)⟩
  | tup cs vs hl hr => have := h1 0 (.tup cs) rfl; simp [V.one] at this
  | _ => exact .cons h0 .nil

theorem R.cells_one {B : Nat} {γ : Gh} {w : World} {v : V} {x : Value} (h : R B γ w v x) (hn : v.notTup = true) : ∀ (j : Nat) (y : V), v.cells[j]? = some y → y.one = true := by
  intro j y hy
  cases h with
  | agg cs vs hl h1' hr => exact h1' j y hy
  | tup cs vs hl hr => cases hn
  | _ => (cases j <;> simp [V.cells] at hy; subst hy; rfl)

/-- What operation o does here. -/
def Does (P : Program) (G : Globs) (o : Oper) (a : Act) (w w0 : World) (γ : Gh) (K : V → St → Prop) (Kp : V → St → Prop) : Prop :=
  ∀ (next : Act → World → Prop) (Q : Exit → Act → World → Prop),
    (∀ γ' σ' w' v x, Ext w0.heap.size γ w γ' w' → Inv G w0 γ' σ' w' → R w0.heap.size γ' w' v x → K v σ' → next (a.put o.dst x) w') →
    (∀ γ' σ' w' v x, Ext w0.heap.size γ w γ' w' → Inv G w0 γ' σ' w' → R w0.heap.size γ' w' v x → Kp v σ' → Q (.panic [{ v := x, recovered := false }]) a w') →
    o.upon P a next Q ((execOp a.eval o).run P w)

variable {o : Oper} {K Kp : V → St → Prop}
theorem Does.value {γ' : Gh} {σ' : St} {w' : World} {v : V} {x : Value} (hrun : (execOp a.eval o).run P w = .ok (.value x) w') (he : Ext w0.heap.size γ w γ' w') (hi : Inv G w0 γ' σ' w') (hr : R w0.heap.size γ' w' v x) (hk : K v σ') :
    Does P G o a w w0 γ K Kp := by
  intro next Q hK _
  rw [hrun]
  exact hK γ' σ' w' v x he hi hr hk
theorem Does.same {v : V} {x : Value} (hi : Inv G w0 γ σ w) (hrun : (execOp a.eval o).run P w = .ok (.value x) w) (hr : R w0.heap.size γ w v x) (hk : K v σ) : Does P G o a w w0 γ K Kp :=
  Does.value hrun (Ext.refl _ _ _) hi hr hk
theorem R.undef {B : Nat} {γ : Gh} {w : World} : R B γ w (.tup []) undef := .tup [] #[] rfl (by simp)
theorem Does.skip {γ' : Gh} {σ' : St} {w' : World} (hrun : (execOp a.eval o).run P w = .ok .skip w') (he : Ext w0.heap.size γ w γ' w') (hi : Inv G w0 γ' σ' w') (hk : K (.tup []) σ') :
    Does P G o a w w0 γ K Kp := by
  intro next Q hK _
  rw [hrun]
  exact hK γ' σ' w' _ _ he hi .undef hk

theorem do_mv (hr : Rel G w0 γ σ w n ds sl a) {x : Operand} {ox : Opd} (ho : o.op = .move x ∨ o.op = .assign x) (hx : trOpd x = some ox) (h : sOp P G (.mv ox) sl σ K Kp) : Does P G o a w w0 γ K Kp := by
  simp only [sOp] at h
  split at h
  · rename_i v hv
    exact .same hr.inv (by rcases ho with ho | ho <;> simp [execOp, ho]) (ev_sound hr hx hv) h
  · exact h.elim

theorem do_pick (hr : Rel G w0 γ σ w n ds sl a) {c x y : Operand} {oc ox oy : Opd} (ho : o.op = .pick c x y) (hc : trOpd c = some oc) (hx : trOpd x = some ox) (hy : trOpd y = some oy) (h : sOp P G (.pick oc ox oy) sl σ K Kp) : Does P G o a w w0 γ K Kp := by
  simp only [sOp] at h
  split at h
  · rename_i b u v h1 h2 h3
    have e1 := ev_sound hr hc h1
    generalize hcv : a.eval c = cv at e1
    cases e1
    cases b with
    | true => exact .same hr.inv (by simp [execOp, ho, hcv, asBool]) (ev_sound hr hx h2) (h.1 rfl)
    | false => exact .same hr.inv (by simp [execOp, ho, hcv, asBool]) (ev_sound hr hy h3) (h.2 rfl)
  · exact h.elim

theorem do_box (hr : Rel G w0 γ σ w n ds sl a) {t : TypeId} {x : Operand} {ox : Opd} (ho : o.op = .box t x) (hx : trOpd x = some ox) (h : sOp P G (.box ox) sl σ K Kp) : Does P G o a w w0 γ K Kp := by
  simp only [sOp] at h
  split at h
  · rename_i v hv
    have hR := ev_sound hr hx hv
    have h1 := hR.cells_one h.1
    obtain ⟨hI, hE⟩ := hr.inv.box_new t (hR.cells h1) h1
    replace h := h.2
    exact .value (w' := w.alloc (.cells (a.eval x).cells t)) (by simp [execOp, ho, Instr.box, newVar, newRow]) hE hI (.loc _ _) (h _ (hr.inv.box_fresh (Nat.le_refl _)))
  · exact h.elim

theorem zeroL_sound {t : TypeId} {z : List V} (h : zeroL P t = some z) : ∃ i v, P.info? t = some i ∧ i.zero = some v ∧ v.cells.size = i.size ∧ trVs v.cells.toList = some z := by
  unfold zeroL at h
  split at h
  · rename_i i hi
    split at h
    · rename_i v hv
      split at h
      · rename_i hs
        exact ⟨i, v, hi, hv, hs, h⟩
      · cases h
    · cases h
  · cases h

theorem do_alloc (hr : Rel G w0 γ σ w n ds sl a) {t : TypeId} {z : List V} (ho : o.op = .alloc t) (hz : zeroL P t = some z) (h : sOp P G (.alloc z) sl σ K Kp) : Does P G o a w w0 γ K Kp := by
  simp only [sOp] at h
  obtain ⟨i, v, hi, hv, hs, hz⟩ := zeroL_sound hz
  obtain ⟨hI, hE⟩ := hr.inv.box_new t (trVs_sound hz) (trVs_one hz)
  exact .value (w' := w.alloc (.cells v.cells t)) (by simp [execOp, ho, Instr.alloc, zeroValue, typeInfo, hi, hv, newVar, newRow]) hE hI (.loc _ _) (h _ (hr.inv.box_fresh (Nat.le_refl _)))

/-- The cells at an address, in memory. -/
theorem at_sound (hI : Inv G w0 γ σ w) {v : V} {x : Value} (hR : R w0.heap.size γ w v x) {cs : List V} (h : σ.at v = some cs) :
    ∃ b o xs, x = .pointer (some ⟨b, o, none⟩) ∧ RL w0.heap.size γ w cs xs ∧ (∀ (j : Nat) (x : V), cs[j]? = some x → x.one = true) ∧ ∀ (k : Nat) (u : Value), xs[k]? = some u → w.cell? ⟨b, o + k, none⟩ = some u := by
  cases hR with
  | ref ds b o vs h1 hc hr =>
    simp only [St.at, Option.some.injEq] at h; subst h
    obtain ⟨xs, h2, h3⟩ := cells_of hc hr
    exact ⟨b, o, xs, rfl, h2, h1, fun k u hu => (h3 k u hu).2⟩
  | loc b o =>
    simp only [St.at, Option.map_eq_some_iff] at h
    obtain ⟨ds, hds, rfl⟩ := h
    obtain ⟨_, _, h3, vs, ty, h4, h5⟩ := hI.box b ds hds
    refine ⟨b, o, vs.toList.drop o, rfl, h5.drop o, fun j x hx => h3 (o + j) x (by rw [List.getElem?_drop] at hx; exact hx), fun k u hu => ?_⟩
    rw [List.getElem?_drop] at hu
    rw [cell_of_row w b (o + k) vs ty _ h4]
    simpa using hu
  | _ => simp [St.at] at h

theorem aggB_sound {t : TypeId} {g : Bool} (h : aggB P t = some g) (w : World) : (isAgg t).run P w = .ok g w := by
  unfold aggB at h
  unfold isAgg
  split at h
  · rename_i fs hf; injection h with h; subst h; simp [run_underlying hf]
  · rename_i nn e hf; injection h with h; subst h; simp [run_underlying hf]
  · rename_i d hd1 hd2 hf; injection h with h; subst h
    simp only [Sem.run_bind, run_underlying hf, Result.andThen_ok]
    cases d <;> first | rfl | (exact absurd rfl (hd1 _)) | (exact absurd rfl (hd2 _ _))
  · cases h

theorem mkv_sound {B : Nat} {γ : Gh} {w : World} {g : Bool} {cs : List V} {xs : List Value} (h : RL B γ w cs xs) (h1 : ∀ (j : Nat) (x : V), cs[j]? = some x → x.one = true) {v : V} (hv : mkv g cs = some v) :
    R B γ w v (if g then .agg xs.toArray else xs.headD undef) := by
  unfold mkv at hv
  split at hv
  · rename_i hg; subst hg
    injection hv with hv; subst hv
    exact .agg cs _ (by simpa using h.1) h1 (fun i x y hx hy => h.2 i x y hx (by simpa using hy))
  · rename_i hg
    cases cs with
    | nil => simp at hv
    | cons c cs =>
      simp at hv; subst hv
      obtain ⟨y, ys, rfl, h2, _⟩ := h.inv_cons
      simp [hg]; exact h2

theorem run_loadVar_list {t : TypeId} {g : Bool} {i : TypeInfo} (hg : aggB P t = some g) (hi : P.info? t = some i) {b o : Nat} {xs : List Value} (hl : i.size ≤ xs.length) (hne : g = true ∨ 0 < i.size) (hc : ∀ (k : Nat) (u : Value), xs[k]? = some u → w.cell? ⟨b, o + k, none⟩ = some u) :
    (loadVar t ⟨b, o, none⟩).run P w = .ok (if g then .agg (xs.take i.size).toArray else (xs.take i.size).headD undef) w := by
  unfold loadVar
  simp only [Sem.run_bind, aggB_sound hg, Result.andThen_ok]
  cases g with
  | true =>
    have hlen : (xs.take i.size).length = i.size := by simp; omega
    have hld := run_loadCells_list (P := P) w ⟨b, o, none⟩ (xs.take i.size) (fun j v hj => by
      rw [add_lit]
      rw [List.getElem?_take] at hj
      split at hj
      · exact hc j v hj
      · cases hj)
    rw [hlen] at hld
    simp [sizeOf, typeInfo, hi, hld]
  | false =>
    have h0 : 0 < i.size := by rcases hne with h | h; cases h; exact h
    have hx0 : 0 < xs.length := by omega
    have hcell := hc 0 xs[0] (List.getElem?_eq_getElem hx0)
    simp only [Nat.add_zero] at hcell
    simp [hcell]
    cases xs with
    | nil => simp at hx0
    | cons y ys => cases hz : i.size with
      | zero => omega
      | succ m => simp

theorem do_load (hr : Rel G w0 γ σ w n ds sl a) {t : TypeId} {x : Operand} {ox : Opd} {g : Bool} {i : TypeInfo} (ho : o.op = .load t x) (hx : trOpd x = some ox) (hg : aggB P t = some g) (hi : P.info? t = some i) (hs : 0 < i.size) (h : sOp P G (.load g i.size ox) sl σ K Kp) : Does P G o a w w0 γ K Kp := by
  simp only [sOp] at h
  split at h
  · rename_i cs hcs
    obtain ⟨hle, h⟩ := h
    rw [Option.bind_eq_some_iff] at hcs
    obtain ⟨v, hv, hat⟩ := hcs
    split at h
    · rename_i u hu
      have hR := ev_sound hr hx hv
      obtain ⟨b, off, xs, hxe, hRL, h1, hc⟩ := at_sound hr.inv hR hat
      have hlx : i.size ≤ xs.length := by rw [← hRL.1]; exact hle
      have hld := run_loadVar_list (w := w) hg hi (b := b) (o := off) hlx (.inr hs) hc
      refine .same hr.inv ?_ (mkv_sound (hRL.take i.size) (fun j y hy => ?_) hu) h
      · simp [execOp, ho, hxe, Instr.loadAt, Instr.sureAddr, hld]
      · rw [List.getElem?_take] at hy
        split at hy
        · exact h1 j y hy
        · cases hy
    · exact h.elim
  · exact h.elim

theorem setL_store (hI : Inv G w0 γ σ w) {b : Nat} {cs : List V} (hb : σ.box b = some cs) : ∀ {vs : List V} {xs : List Value} {off i : Nat}, RL w0.heap.size γ w vs xs → (∀ (j : Nat) (x : V), vs[j]? = some x → x.one = true) → off + i + vs.length ≤ cs.length →
    ∃ w', (storeCells ⟨b, off, none⟩ xs i).run P w = .ok () w' ∧ Inv G w0 γ (σ.put b (setL cs (off + i) vs)) w' ∧ Ext w0.heap.size γ w γ w' := by
  intro vs
  induction vs generalizing cs σ w with
  | nil =>
    intro xs off i hrl _ _
    obtain rfl := hrl.inv_nil
    refine ⟨w, rfl, ?_, .refl _ _ _⟩
    have : σ.put b (setL cs (off + i) []) = σ := by
      cases σ with | mk box live =>
      simp only [St.put, setL]
      congr 1
      funext b'
      split
      · rename_i h; subst h; exact hb.symm
      · rfl
    rw [this]; exact hI
  | cons v vs ih =>
    intro xs off i hrl h1 hle
    obtain ⟨x, xs, rfl, hR, hrl⟩ := hrl.inv_cons
    have hv1 := h1 0 v rfl
    have hlt : off + i < cs.length := by simp at hle; omega
    obtain ⟨⟨y, hy⟩, hfr, hI', hE⟩ := hI.box_set hb hlt hR hv1
    obtain ⟨w', hrun, hI2, hE2⟩ := ih (σ := σ.put b (cs.set (off + i) v)) (cs := cs.set (off + i) v) hI' (by simp [St.put]) (xs := xs) (off := off) (i := i + 1) (hrl.ext hE) (fun j y hy => h1 (j + 1) y (by simpa using hy)) (by simp at hle ⊢; omega)
    refine ⟨w', ?_, ?_, hE.trans hE2⟩
    · simp only [storeCells, Sem.run_bind, add_lit]
      rw [run_store P w _ x _ (hR.one hv1), hy]
      simp only [hfr, Bool.false_eq_true, if_false, Result.andThen_ok]
      exact hrun
    · have : (σ.put b (cs.set (off + i) v)).put b (setL (cs.set (off + i) v) (off + (i + 1)) vs) = σ.put b (setL cs (off + i) (v :: vs)) := by
        simp only [St.put, setL]
        congr 1
        funext b'
        split <;> rfl
      rw [← this]; exact hI2

theorem do_store (hr : Rel G w0 γ σ w n ds sl a) {t : TypeId} {x y : Operand} {ox oy : Opd} {i : TypeInfo} (ho : o.op = .store t x y) (hx : trOpd x = some ox) (hy : trOpd y = some oy) (hi : P.info? t = some i) (h : sOp P G (.store i.size ox oy) sl σ K Kp) : Does P G o a w w0 γ K Kp := by
  simp only [sOp] at h
  split at h
  · rename_i b off v h1 h2
    split at h
    · rename_i cs hcs
      obtain ⟨hnt, hl, hle, h⟩ := h
      have hRx := ev_sound hr hx h1
      have hRy := ev_sound hr hy h2
      have hone := hRy.cells_one hnt
      have hRL := hRy.cells hone
      generalize hxe : a.eval x = xe at hRx
      cases hRx
      obtain ⟨w', hrun, hI, hE⟩ := setL_store (P := P) hr.inv hcs (off := off) (i := 0) hRL hone (by omega)
      simp only [Nat.add_zero] at hI
      refine .skip (w' := w') ?_ hE hI h
      have hsz : (a.eval y).cells.size = i.size := by rw [← hl]; have := hRL.1; simpa using this.symm
      simp [execOp, ho, hxe, Instr.storeAt, Instr.sureAddr, storeVar, sizeOf, typeInfo, hi, hsz, hrun]
    · exact h.elim
  · exact h.elim

theorem do_nilchk (hr : Rel G w0 γ σ w n ds sl a) {x : Operand} {ox : Opd} (ho : o.op = .nilCheck x) (hx : trOpd x = some ox) (h : sOp P G (.nilchk ox) sl σ K Kp) : Does P G o a w w0 γ K Kp := by
  simp only [sOp] at h
  split at h <;> first | exact h.elim | skip
  all_goals
    rename_i hv
    have hR := ev_sound hr hx hv
    refine .same hr.inv (x := a.eval x) ?_ hR h
    generalize hxe : a.eval x = xe at hR
    cases hR
    simp [execOp, ho, hxe]

end
end Go.Shadow

/- THE SHADOW LOGIC, part 5: numbers, strings, equality, slices, fields: sound. -/
namespace Go.Shadow
open Go Go.RowKit

section
variable {P : Program} {G : Globs} {w0 w : World} {γ : Gh} {σ : St} {n : Nat} {ds : List Deferred} {sl : Slots} {a : Act} {o : Oper} {K Kp : V → St → Prop}

theorem run_eqGuard_plain (op : BinOp) (t : TypeId) (x y : Operand) (u v : Value) (h : ∀ cs, u ≠ .agg cs) (h2 : u ≠ .nilIface) : (eqGuard op t x y u v).run P w = .ok () w := by
  cases op <;> simp [eqGuard] <;> cases u <;> simp_all

theorem sBin_sound {op : BinOp} {t : TypeId} {k k' : IntKind} {x y : Int} {K : V → Prop} (hk : k = k' ∨ op = .shl ∨ op = .shr) (h : sBin op k x y K) :
    ∃ v u, K v ∧ (binOp op t (.int k x) (.int k' y)).run P w = .ok u w ∧ ∀ B γ, R B γ w v u := by
  have hb : ∀ b : Bool, (∀ B γ, R B γ w (.bool b) (.bool b)) := fun b B γ => .bool b
  have hi : ∀ q : Int, (∀ B γ, R B γ w (.int k q) (.int k q)) := fun q B γ => .int k q
  have bits : ∀ op, (op = .and ∨ op = .or ∨ op = .xor ∨ op = .andNot) → (Op.intBits op k x y).run P w = .ok (.int k (bitsOp op k x y)) w := by
    intro op hop; rcases hop with rfl | rfl | rfl | rfl <;> simp [Op.intBits, bitsOp]
  have hk2 : op ≠ .shl → op ≠ .shr → k = k' := fun h1 h2 => by rcases hk with h | h | h; exact h; exact absurd h h1; exact absurd h h2
  cases op <;> simp only [sBin] at h
  case add => obtain rfl := hk2 (by simp) (by simp); exact ⟨_, _, h, by simp [binOp, Op.intArith], hi _⟩
  case sub => obtain rfl := hk2 (by simp) (by simp); exact ⟨_, _, h, by simp [binOp, Op.intArith], hi _⟩
  case mul => obtain rfl := hk2 (by simp) (by simp); exact ⟨_, _, h, by simp [binOp, Op.intArith], hi _⟩
  case quo => obtain rfl := hk2 (by simp) (by simp); exact ⟨_, _, h.2, by simp [binOp, Op.intDiv, h.1], hi _⟩
  case rem => obtain rfl := hk2 (by simp) (by simp); exact ⟨_, _, h.2, by simp [binOp, Op.intDiv, h.1], hi _⟩
  case and => obtain rfl := hk2 (by simp) (by simp); exact ⟨_, _, h, by simp [binOp, bits], hi _⟩
  case or => obtain rfl := hk2 (by simp) (by simp); exact ⟨_, _, h, by simp [binOp, bits], hi _⟩
  case xor => obtain rfl := hk2 (by simp) (by simp); exact ⟨_, _, h, by simp [binOp, bits], hi _⟩
  case andNot => obtain rfl := hk2 (by simp) (by simp); exact ⟨_, _, h, by simp [binOp, bits], hi _⟩
  case shl => have hn : ¬ y < 0 := by omega
              exact ⟨_, _, h.2, by simp [binOp, Op.shift, hn], hi _⟩
  case shr => have hn : ¬ y < 0 := by omega
              exact ⟨_, _, h.2, by simp [binOp, Op.shift, hn], hi _⟩
  all_goals (obtain rfl := hk2 (by simp) (by simp); exact ⟨_, _, h, by simp [binOp, Op.intCmp], hb _⟩)

theorem do_bin (hr : Rel G w0 γ σ w n ds sl a) {op : BinOp} {t t2 : TypeId} {x y : Operand} {ox oy : Opd} (ho : o.op = .binOp op t x y t2) (hx : trOpd x = some ox) (hy : trOpd y = some oy) (h : sOp P G (.bin op ox oy) sl σ K Kp) : Does P G o a w w0 γ K Kp := by
  simp only [sOp] at h
  split at h
  · rename_i k u k' v h1 h2
    obtain ⟨hk, h⟩ := h
    have e1 := ev_sound hr hx h1
    have e2 := ev_sound hr hy h2
    generalize hxe : a.eval x = xe at e1
    generalize hye : a.eval y = ye at e2
    cases e1; cases e2
    obtain ⟨r, z, hK, hrun, hR⟩ := sBin_sound (P := P) (w := w) (t := t) hk h
    refine .same hr.inv (x := z) ?_ (hR _ _) hK
    simp [execOp, ho, hxe, hye, run_eqGuard_plain, hrun]
  · exact h.elim

theorem sBinS_sound {op : BinOp} {t : TypeId} {x y : List UInt8} {s1 s2 : ByteArray} (e1 : s1.data.toList = x) (e2 : s2.data.toList = y) {K : V → Prop} (h : sBinS op x y K) :
    ∃ v u, K v ∧ (binOp op t (.string s1) (.string s2)).run P w = .ok u w ∧ ∀ B γ, R B γ w v u := by
  have hb : ∀ b : Bool, (∀ B γ, R B γ w (.bool b) (.bool b)) := fun b B γ => .bool b
  have t1 : s1.toList = x := by rw [ByteArray.toList_eq, e1]
  have t2 : s2.toList = y := by rw [ByteArray.toList_eq, e2]
  have l1 : s1.size = x.length := by rw [← e1]; rfl
  have l2 : s2.size = y.length := by rw [← e2]; rfl
  cases op <;> simp only [sBinS] at h
  case add =>
    refine ⟨_, .string (s1 ++ s2), h.2, ?_, fun B γ => .str _ _ (by simp [ByteArray.data_append, e1, e2])⟩
    have hn : ¬ ((s1.size : Int) + (s2.size : Int) > 9223372036854775807) := by omega
    have hm : IntKind.i64.max = 9223372036854775807 := by decide
    simp [binOp, Op.stringOp, hm, hn]
  all_goals first | exact h.elim | exact ⟨_, _, h, by simp only [binOp, Op.stringOp, t1, t2]; rfl, hb _⟩

theorem do_bins (hr : Rel G w0 γ σ w n ds sl a) {op : BinOp} {t t2 : TypeId} {x y : Operand} {ox oy : Opd} (ho : o.op = .binOp op t x y t2) (hx : trOpd x = some ox) (hy : trOpd y = some oy) (h : sOp P G (.bins op ox oy) sl σ K Kp) : Does P G o a w w0 γ K Kp := by
  simp only [sOp] at h
  split at h
  · rename_i u v h1 h2
    have e1 := ev_sound hr hx h1
    have e2 := ev_sound hr hy h2
    generalize hxe : a.eval x = xe at e1
    generalize hye : a.eval y = ye at e2
    cases e1 with | str _ s1 q1 => cases e2 with | str _ s2 q2 =>
    obtain ⟨r, z, hK, hrun, hR⟩ := sBinS_sound (P := P) (w := w) (t := t) q1 q2 h
    refine .same hr.inv (x := z) ?_ (hR _ _) hK
    simp [execOp, ho, hxe, hye, run_eqGuard_plain, hrun]
  · exact h.elim

theorem do_binb (hr : Rel G w0 γ σ w n ds sl a) {op : BinOp} {neg : Bool} {t t2 : TypeId} {x y : Operand} {ox oy : Opd} (hop : op = if neg then .neq else .eql) (ho : o.op = .binOp op t x y t2) (ht : P.underlying t = some .bool) (hx : trOpd x = some ox) (hy : trOpd y = some oy) (h : sOp P G (.binb neg ox oy) sl σ K Kp) : Does P G o a w w0 γ K Kp := by
  simp only [sOp] at h
  split at h
  · rename_i u v h1 h2
    have e1 := ev_sound hr hx h1
    have e2 := ev_sound hr hy h2
    generalize hxe : a.eval x = xe at e1
    generalize hye : a.eval y = ye at e2
    cases e1; cases e2
    have hq : ∀ w : World, (Op.equal t (.bool u) (.bool v)).run P w = .ok (u == v) w := fun w => run_equalIn_bool' w 9999 t u v ht
    cases neg <;> simp at hop <;> subst hop
    · exact .same hr.inv (x := .bool (u == v)) (by simp [execOp, ho, hxe, hye, run_eqGuard_plain, binOp, hq]) (.bool _) h
    · exact .same hr.inv (x := .bool (u != v)) (by simp [execOp, ho, hxe, hye, run_eqGuard_plain, binOp, hq]; cases u <;> cases v <;> rfl) (.bool _) h
  · exact h.elim

/-- A struct all of whose fields are whole numbers, bools and strings, one cell each. -/
def flatF (P : Program) : List Field → Nat → Bool
  | [], _ => true
  | f :: r, i => f.name != "_" && f.offset == i && (match P.underlying f.type with | some (.int _) | some .bool | some .string => true | _ => false) && flatF P r (i + 1)

theorem eqV_sound {t : TypeId} (d : Nat) {x y : V} {u v : Value} {B : Nat} {γ : Gh} (ht : (match P.underlying t with | some (.int _) | some .bool | some .string => true | _ => false) = true) (hu : R B γ w x u) (hv : R B γ w y v) {b : Bool} (h : eqV x y = some b) (hok : (∃ k k', x = .int k k' ∧ ∃ q, P.underlying t = some (.int q)) ∨ (∃ k, x = .bool k ∧ P.underlying t = some .bool) ∨ (∃ k, x = .str k ∧ P.underlying t = some .string)) :
    (Op.equalIn (d + 1) t u v).run P w = .ok b w := by
  unfold eqV at h
  split at h
  · rename_i k p k' q
    split at h
    · rename_i hk; subst hk; injection h with h; subst h
      cases hu; cases hv
      rcases hok with ⟨_, _, _, q', hq'⟩ | ⟨_, h1, _⟩ | ⟨_, h1, _⟩
      · exact run_equalIn_int w d t k q' p q hq'
      · cases h1
      · cases h1
    · cases h
  · injection h with h; subst h
    cases hu; cases hv
    rcases hok with ⟨_, _, h1, _⟩ | ⟨_, _, hq⟩ | ⟨_, h1, _⟩
    · cases h1
    · exact run_equalIn_bool' w d t _ _ hq
    · cases h1
  · injection h with h; subst h
    cases hu with | str _ s1 q1 => cases hv with | str _ s2 q2 =>
    rcases hok with ⟨_, _, h1, _⟩ | ⟨_, h1, _⟩ | ⟨_, _, hq⟩
    · cases h1
    · cases h1
    · rw [run_equalIn_string w d t s1 s2 hq, ByteArray.toList_eq, ByteArray.toList_eq, q1, q2]
  · cases h

theorem run_part_leaf {t : TypeId} (ht : (match P.underlying t with | some (.int _) | some .bool | some .string => true | _ => false) = true) (xs : Array Value) (i : Nat) {u : Value} (h : xs[i]? = some u) : (part t xs i).run P w = .ok u w := by
  have hg : aggB P t = some false := by
    unfold aggB
    cases hd : P.underlying t with
    | none => simp [hd] at ht
    | some d => cases d <;> simp_all
  simp [part, aggB_sound hg, h]

/-- Which cells a field's type takes. -/
def leafFits (P : Program) (t : TypeId) (x : V) : Bool := match P.underlying t, x with
  | some (.int _), .int _ _ => true
  | some .bool, .bool _ => true
  | some .string, .str _ => true
  | _, _ => false
def fitsF (P : Program) : List Field → List V → Bool
  | [], [] => true
  | f :: r, x :: xs => leafFits P f.type x && fitsF P r xs
  | _, _ => false

theorem eqL_sound {B : Nat} {γ : Gh} (d : Nat) (us vs : Array Value) : ∀ (fs : List Field) (i : Nat) (xs ys : List V), flatF P fs i = true → fitsF P fs xs = true →
    (∀ (j : Nat) (x : V), xs[j]? = some x → ∃ u, us[i + j]? = some u ∧ R B γ w x u) → (∀ (j : Nat) (y : V), ys[j]? = some y → ∃ u, vs[i + j]? = some u ∧ R B γ w y u) → ∀ b, eqL xs ys = some b →
    (Op.eqFields (d + 1) us vs fs).run P w = .ok b w
  | [], i, xs, ys, _, hf, _, _, b, h => by
    cases xs with
    | nil =>
      cases ys with
      | nil => simp [eqL] at h; subst h; simp [Op.eqFields]
      | cons y ys => simp [eqL] at h
    | cons x xs => simp [fitsF] at hf
  | f :: fs, i, xs, ys, hfl, hf, hx, hy, b, h => by
    cases xs with
    | nil => simp [fitsF] at hf
    | cons x xs =>
      cases ys with
      | nil => simp [eqL] at h
      | cons y ys =>
        simp only [eqL] at h
        split at h
        · rename_i b1 b2 hb1 hb2
          injection h with h; subst h
          simp only [flatF, Bool.and_eq_true, bne_iff_ne, ne_eq, beq_iff_eq] at hfl
          obtain ⟨⟨⟨hn, hoff⟩, hleaf⟩, hfl⟩ := hfl
          simp only [fitsF, Bool.and_eq_true] at hf
          obtain ⟨hf1, hf⟩ := hf
          obtain ⟨u, hu, hRu⟩ := hx 0 x rfl
          obtain ⟨v, hv, hRv⟩ := hy 0 y rfl
          simp only [Nat.add_zero] at hu hv
          have hok : (∃ k k', x = .int k k' ∧ ∃ q, P.underlying f.type = some (.int q)) ∨ (∃ k, x = .bool k ∧ P.underlying f.type = some .bool) ∨ (∃ k, x = .str k ∧ P.underlying f.type = some .string) := by
            unfold leafFits at hf1
            split at hf1
            · rename_i k q _ hk; exact .inl ⟨_, _, rfl, _, hk⟩
            · rename_i hk; exact .inr (.inl ⟨_, rfl, hk⟩)
            · rename_i hk; exact .inr (.inr ⟨_, rfl, hk⟩)
            · cases hf1
          have he := eqV_sound (P := P) d hleaf hRu hRv hb1 hok
          have ih := eqL_sound d us vs fs (i + 1) xs ys hfl hf (fun j x' hj => by have := hx (j + 1) x' (by simpa using hj); rwa [show i + (j + 1) = i + 1 + j by omega] at this) (fun j x' hj => by have := hy (j + 1) x' (by simpa using hj); rwa [show i + (j + 1) = i + 1 + j by omega] at this) b2 hb2
          have hn' : f.name ≠ "_" := hn
          rw [Op.eqFields]
          simp only [if_pos hn', Sem.run_bind, hoff, run_part_leaf hleaf us i hu, run_part_leaf hleaf vs i hv, Result.andThen_ok, he]
          cases b1
          · simp
          · simpa using ih
        · cases h

end
end Go.Shadow

/- THE SHADOW LOGIC, part 6: the other operations are sound. -/
namespace Go.Shadow
open Go Go.RowKit

section
variable {P : Program} {G : Globs} {w0 w : World} {γ : Gh} {σ : St} {n : Nat} {ds : List Deferred} {sl : Slots} {a : Act} {o : Oper} {K Kp : V → St → Prop}

def leafK (P : Program) (t : TypeId) : Option Nat := match P.underlying t with
  | some (.int _) => some 0
  | some .bool => some 1
  | some .string => some 2
  | _ => none
def shF (P : Program) : List Field → Option (List Nat)
  | [] => some []
  | f :: r => match leafK P f.type, shF P r with
    | some k, some ks => some (k :: ks)
    | _, _ => none

theorem fits_of_shape : ∀ {fs : List Field} {sh : List Nat} {xs : List V}, shF P fs = some sh → shapeL sh xs = true → fitsF P fs xs = true
  | [], sh, xs, h, hs => by simp [shF] at h; subst h; cases xs <;> simp_all [shapeL, fitsF]
  | f :: fs, sh, xs, h, hs => by
    simp only [shF] at h
    split at h
    · rename_i k ks h1 h2
      injection h with h; subst h
      cases xs with
      | nil => simp [shapeL] at hs
      | cons x xs =>
        simp only [shapeL, Bool.and_eq_true] at hs
        simp only [fitsF, Bool.and_eq_true]
        refine ⟨?_, fits_of_shape h2 hs.2⟩
        have h3 := hs.1
        unfold leafK at h1
        unfold leafFits
        split at h1
        · rename_i hq; injection h1 with h1; subst h1; rw [hq]; cases x <;> simp_all [leafS]
        · rename_i hq; injection h1 with h1; subst h1; rw [hq]; cases x <;> simp_all [leafS]
        · rename_i hq; injection h1 with h1; subst h1; rw [hq]; cases x <;> simp_all [leafS]
        · cases h1
    · cases h

theorem do_eqs (hr : Rel G w0 γ σ w n ds sl a) {op : BinOp} {neg : Bool} {t t2 : TypeId} {fs : Array Field} {sh : List Nat} {x y : Operand} {ox oy : Opd} (hop : op = if neg then .neq else .eql) (ho : o.op = .binOp op t x y t2)
    (ht : P.underlying t = some (.struct fs)) (hp : P.stoodInHeld t = false) (hm : P.eqGuardType P.depth t = false) (hfl : flatF P fs.toList 0 = true) (hsh : shF P fs.toList = some sh) (hx : trOpd x = some ox) (hy : trOpd y = some oy) (h : sOp P G (.eqs neg sh ox oy) sl σ K Kp) : Does P G o a w w0 γ K Kp := by
  simp only [sOp] at h
  split at h
  · rename_i u v h1 h2
    obtain ⟨hs, h⟩ := h
    split at h
    · rename_i r hq
      have e1 := ev_sound hr hx h1
      have e2 := ev_sound hr hy h2
      generalize hxe : a.eval x = xe at e1
      generalize hye : a.eval y = ye at e2
      cases e1 with | agg _ us hl1 h11 hr1 => cases e2 with | agg _ vs hl2 h12 hr2 =>
      have hq' := eqL_sound (P := P) (w := w) (B := w0.heap.size) (γ := γ) 9998 us vs fs.toList 0 u v hfl (fits_of_shape hsh hs)
        (fun j z hj => by
          have hlt : j < us.size := by rw [← hl1]; exact (List.getElem?_eq_some_iff.1 hj).1
          exact ⟨us[j], by simp [hlt], hr1 j z _ hj (by simp [hlt])⟩)
        (fun j z hj => by
          have hlt : j < vs.size := by rw [← hl2]; exact (List.getElem?_eq_some_iff.1 hj).1
          exact ⟨vs[j], by simp [hlt], hr2 j z _ hj (by simp [hlt])⟩) r hq
      have hf : P.fieldsOf t = fs := by simp [Program.fieldsOf, ht]
      have he : (Op.equalIn 10000 t (.agg us) (.agg vs)).run P w = .ok r w := by
        rw [show (10000 : Nat) = 9999 + 1 from rfl, run_equalIn_struct (P := P) w 9999 t us vs (by rw [hf]; exact ht) hp, hf]
        exact hq'
      cases neg <;> simp at hop <;> subst hop
      · exact .same hr.inv (x := .bool r) (by simp only [execOp, ho, hxe, hye, Sem.run_bind, run_eqGuard_agg w _ t x y us vs hm, Result.andThen_ok, run_eql_struct, he]; rfl) (.bool _) h
      · exact .same hr.inv (x := .bool !r) (by simp only [execOp, ho, hxe, hye, Sem.run_bind, run_eqGuard_agg w _ t x y us vs hm, Result.andThen_ok, run_neq_struct, he]; rfl) (.bool _) h
    · exact h.elim
  · exact h.elim

/-- The nil that fits a type. -/
def nilFits (P : Program) (t : TypeId) (v : Value) : Bool := match P.underlying t, v with
  | some (.pointer _), .pointer none => true
  | some (.func _ _ _), .nilFunc => true
  | some (.interface _), .nilIface => true
  | some (.map _ _), .map none => true
  | some (.slice _), .slice none 0 0 => true
  | _, _ => false

theorem isNil_sound {t : TypeId} {c : Value} {u v : V} {x : Value} {B : Nat} {γ : Gh} {r : Bool} (hn : nilFits P t c = true) (hv : trV c = some v) (hR : R B γ w u x) (h : isNil u v = some r) : (Op.equal t x c).run P w = .ok r w := by
  suffices hd' : ∀ d, (Op.equalIn (d + 1) t x c).run P w = .ok r w from hd' 9999
  intro d'
  unfold nilFits at hn
  split at hn
  · rename_i hd
    simp only [trV, Option.some.injEq] at hv; subst hv
    cases hR <;> simp only [isNil, reduceCtorEq, Option.some.injEq] at h <;> subst h <;> simp [Op.equalIn, run_underlying hd]
  · rename_i hd
    simp only [trV, Option.some.injEq] at hv; subst hv
    cases hR <;> simp only [isNil, reduceCtorEq, Option.some.injEq] at h <;> subst h <;> simp [Op.equalIn, run_underlying hd]
  · rename_i hd
    simp only [trV, Option.some.injEq] at hv; subst hv
    cases hR <;> simp only [isNil, reduceCtorEq, Option.some.injEq] at h <;> subst h <;> simp [Op.equalIn, run_underlying hd]
  · rename_i hd
    simp only [trV, Option.some.injEq] at hv; subst hv
    cases hR <;> simp only [isNil, reduceCtorEq, Option.some.injEq] at h <;> subst h <;> simp [Op.equalIn, run_underlying hd]
  · rename_i hd
    simp only [trV, Option.some.injEq] at hv; subst hv
    cases hR <;> simp only [isNil, reduceCtorEq, Option.some.injEq] at h
    rename_i tag s es ad cap b o vs hs hl ha ht h1 hc hr
    cases tag with
    | nil =>
      obtain ⟨rfl, _, _⟩ := ht
      simp only [isNil, Option.some.injEq] at h; subst h
      simp [Op.equalIn, run_underlying hd]
    | _ =>
      cases es with
      | nil => simp [isNil] at h
      | cons e es =>
        simp only [isNil, Option.some.injEq] at h; subst h
        rcases ha with rfl | ⟨_, h0⟩
        · simp [Op.equalIn, run_underlying hd]
        · cases h0
  · cases hn

theorem do_eqn (hr : Rel G w0 γ σ w n ds sl a) {op : BinOp} {neg : Bool} {t t2 : TypeId} {x : Operand} {c : Value} {ox : Opd} {cv : V} (hop : op = if neg then .neq else .eql) (ho : o.op = .binOp op t x (.const c) t2)
    (hn : nilFits P t c = true) (hx : trOpd x = some ox) (hy : trV c = some cv) (h : sOp P G (.eqn neg ox (.c cv)) sl σ K Kp) : Does P G o a w w0 γ K Kp := by
  simp only [sOp, Opd.ev] at h
  split at h
  · rename_i u v h1 h2
    injection h2 with h2; subst h2
    split at h
    · rename_i r hq
      have e1 := ev_sound hr hx h1
      have hg : ∀ w : World, (eqGuard op t x (.const c) (a.eval x) c).run P w = .ok () w := by
        intro w
        unfold nilFits at hn
        split at hn <;> first | cases hn | skip
        all_goals (generalize a.eval x = xe; cases op <;> simp [eqGuard] <;> cases xe <;> simp)
      have he := isNil_sound (P := P) hn hy e1 hq
      have hb : (binOp op t (a.eval x) c).run P w = .ok (.bool (if neg then !r else r)) w := by
        unfold nilFits at hn
        split at hn <;> first | cases hn | skip
        all_goals
          cases neg <;> simp at hop <;> subst hop
          all_goals
            generalize a.eval x = xe at he
            cases xe <;> simp [binOp, he]
      refine .same hr.inv (x := .bool (if neg then !r else r)) ?_ (.bool _) h
      have hc : a.eval (.const c) = c := rfl
      simp only [execOp, ho, hc, Sem.run_bind, hg, Result.andThen_ok, hb]
      rfl
    · exact h.elim
  · exact h.elim

end
end Go.Shadow

/- THE SHADOW LOGIC, part 7: conversions, cuts, places, elements: sound. -/
namespace Go.Shadow
open Go Go.RowKit

section
variable {P : Program} {G : Globs} {w0 w : World} {γ : Gh} {σ : St} {n : Nat} {ds : List Deferred} {sl : Slots} {a : Act} {o : Oper} {K Kp : V → St → Prop}

theorem do_un (hr : Rel G w0 γ σ w n ds sl a) {op : UnOp} {t : TypeId} {x : Operand} {ox : Opd} (ho : o.op = .unOp op t x) (hx : trOpd x = some ox) (h : sOp P G (.un op ox) sl σ K Kp) : Does P G o a w w0 γ K Kp := by
  simp only [sOp] at h
  split at h
  · rename_i k q h1
    have e1 := ev_sound hr hx h1
    generalize hxe : a.eval x = xe at e1
    cases e1
    exact .same hr.inv (x := .int k (k.wrap (0 - q))) (by simp [execOp, ho, hxe, Op.unary, Op.intArith]) (.int _ _) h
  · rename_i b h1
    have e1 := ev_sound hr hx h1
    generalize hxe : a.eval x = xe at e1
    cases e1
    exact .same hr.inv (x := .bool !b) (by simp [execOp, ho, hxe, Op.unary]) (.bool _) h
  · rename_i k q h1
    have e1 := ev_sound hr hx h1
    generalize hxe : a.eval x = xe at e1
    cases e1
    exact .same hr.inv (x := .int k (bitsOp .xor k (if k.signed then -1 else k.max) q)) (by simp [execOp, ho, hxe, Op.unary, Op.intBits, bitsOp]) (.int _ _) h
  · exact h.elim

theorem do_i2i (hr : Rel G w0 γ σ w n ds sl a) {s t : TypeId} {k j : IntKind} {x : Operand} {ox : Opd} (ho : o.op = .convert s t x) (hs : P.underlying s = some (.int j)) (ht : P.underlying t = some (.int k)) (hx : trOpd x = some ox) (h : sOp P G (.i2i k ox) sl σ K Kp) : Does P G o a w w0 γ K Kp := by
  simp only [sOp] at h
  split at h
  · rename_i k' q h1
    have e1 := ev_sound hr hx h1
    generalize hxe : a.eval x = xe at e1
    cases e1
    exact .same hr.inv (x := .int k (k.wrap q)) (by simp [execOp, ho, hxe, convert, run_underlying hs, run_underlying ht, Conv.intToInt]) (.int _ _) h
  · exact h.elim

theorem do_s2s (hr : Rel G w0 γ σ w n ds sl a) {s t : TypeId} {x : Operand} {ox : Opd} (ho : o.op = .convert s t x) (hs : P.underlying s = some .string) (ht : P.underlying t = some .string) (hx : trOpd x = some ox)
    (h : sOp P G (.s2s ox) sl σ K Kp) : Does P G o a w w0 γ K Kp := by
  simp only [sOp] at h
  split at h
  · rename_i l h1
    have e1 := ev_sound hr hx h1
    generalize hxe : a.eval x = xe at e1
    cases e1 with | str _ s1 q1 =>
    exact .same hr.inv (x := .string s1) (by simp [execOp, ho, hxe, convert, run_underlying hs, run_underlying ht]) (.str _ _ q1) h
  · exact h.elim

theorem do_mkif (hr : Rel G w0 γ σ w n ds sl a) {t : TypeId} {d : TypeDesc} {x : Operand} {ox : Opd} (ho : o.op = .makeInterface t x) (hd : P.underlying t = some d) (hni : (match d with | .interface _ => false | _ => true) = true) (hx : trOpd x = some ox) (h : sOp P G (.mkif t ox) sl σ K Kp) : Does P G o a w w0 γ K Kp := by
  simp only [sOp] at h
  split at h
  · rename_i v h1
    have e1 := ev_sound hr hx h1
    refine .same hr.inv (x := .iface t (a.eval x)) ?_ (.iface t v _ e1) h
    cases d <;> simp at hni <;> simp [execOp, ho, Instr.makeInterface, run_underlying hd]
  · exact h.elim

theorem do_mkfn (hr : Rel G w0 γ σ w n ds sl a) {f : FuncId} {fi ca : Array Operand} {ofi oca : List Opd} (ho : o.op = .makeFunc (.func f) fi ca) (hf : trOpds fi.toList = some ofi) (hc : trOpds ca.toList = some oca) (h : sOp P G (.mkfn f ofi oca) sl σ K Kp) : Does P G o a w w0 γ K Kp := by
  simp only [sOp] at h
  split at h
  · rename_i u v h1 h2
    have e1 := evs_sound hr hf h1
    have e2 := evs_sound hr hc h2
    refine .same hr.inv (x := .func (.func f) (fi.map a.eval) (ca.map a.eval)) (by simp [execOp, ho, Instr.makeFunc]) (.func f u v _ _ (by simpa using e1.1) (by simpa using e2.1) (fun i x y hx hy => e1.2 i x y hx (by simpa using hy)) (fun i x y hx hy => e2.2 i x y hx (by simpa using hy))) h
  · exact h.elim

theorem do_faddr (hr : Rel G w0 γ σ w n ds sl a) {t : TypeId} {fs : Array Field} {f : Field} {i : TypeInfo} {k : Nat} {x : Operand} {ox : Opd} (ho : o.op = .fieldAddr t x k) (ht : P.underlying t = some (.struct fs)) (hf : fs[k]? = some f) (hi : P.info? f.type = some i) (hs : i.size ≠ 0) (hx : trOpd x = some ox) (h : sOp P G (.faddr f.offset ox) sl σ K Kp) : Does P G o a w w0 γ K Kp := by
  have hrun : ∀ b off, a.eval x = .pointer (some ⟨b, off, none⟩) → (execOp a.eval o).run P w = .ok (.value (.pointer (some ⟨b, off + f.offset, none⟩))) w := by
    intro b off hxe
    simp [execOp, ho, hxe, Instr.fieldAt, run_underlying ht, hf, Instr.sureAddr, fieldPlace, sizeOf, typeInfo, hi, hs, add_lit]
  simp only [sOp] at h
  split at h
  · rename_i b off h1
    have e1 := ev_sound hr hx h1
    generalize hxe : a.eval x = xe at e1
    cases e1
    exact .same hr.inv (hrun _ _ hxe) (.loc _ _) h
  · rename_i cs h1
    have e1 := ev_sound hr hx h1
    generalize hxe : a.eval x = xe at e1
    cases e1 with | ref _ b off vs h1' hc hr' =>
    refine .same hr.inv (hrun _ _ hxe) (.ref (cs.drop f.offset) b (off + f.offset) (fun j => vs (f.offset + j)) (fun j y hy => h1' (f.offset + j) y (by rw [List.getElem?_drop] at hy; exact hy)) (fun j y hy => ?_) (fun j y hy => hr' (f.offset + j) y (by rw [List.getElem?_drop] at hy; exact hy))) h
    have := hc (f.offset + j) y (by rw [List.getElem?_drop] at hy; exact hy)
    rwa [← Nat.add_assoc] at this
  · exact h.elim

theorem run_part {t : TypeId} {g : Bool} {i : TypeInfo} (hg : aggB P t = some g) (hi : P.info? t = some i) (hs : 0 < i.size) {vs : Array Value} {off : Nat} (hle : off + i.size ≤ vs.size) :
    (part t vs off).run P w = .ok (if g then .agg ((vs.toList.drop off).take i.size).toArray else ((vs.toList.drop off).take i.size).headD undef) w := by
  unfold part
  simp only [Sem.run_bind, aggB_sound hg, Result.andThen_ok]
  cases g with
  | true =>
    simp [sizeOf, typeInfo, hi]
    apply Array.ext'
    simp [Array.toList_extract, List.extract_eq_take_drop]
  | false =>
    have hlt : off < vs.size := by omega
    simp [hlt]
    rw [List.drop_eq_getElem_cons (by simpa using hlt)]
    cases hz : i.size with
    | zero => omega
    | succ m => simp

theorem part_sound {B : Nat} {γ : Gh} {w' : World} {cs : List V} {vs : Array Value} {g : Bool} {m off : Nat} {v : V} (hl : cs.length = vs.size) (h1 : ∀ (j : Nat) (x : V), cs[j]? = some x → x.one = true) (hr : ∀ (i : Nat) (x : V) (y : Value), cs[i]? = some x → vs[i]? = some y → R B γ w' x y) (hv : mkv g ((cs.drop off).take m) = some v) :
    R B γ w' v (if g then .agg ((vs.toList.drop off).take m).toArray else ((vs.toList.drop off).take m).headD undef) := by
  have hRL : RL B γ w' cs vs.toList := ⟨by simpa using hl, fun i x y hx hy => hr i x y hx (by simpa using hy)⟩
  refine mkv_sound ((hRL.drop off).take m) (fun j x hx => ?_) hv
  rw [List.getElem?_take] at hx
  split at hx
  · rw [List.getElem?_drop] at hx; exact h1 _ x hx
  · cases hx

theorem do_field (hr : Rel G w0 γ σ w n ds sl a) {t : TypeId} {fs : Array Field} {f : Field} {i : TypeInfo} {g : Bool} {k : Nat} {x : Operand} {ox : Opd} (ho : o.op = .field t x k) (ht : P.underlying t = some (.struct fs)) (hf : fs[k]? = some f) (hi : P.info? f.type = some i) (hg : aggB P f.type = some g) (hs : 0 < i.size) (hx : trOpd x = some ox) (h : sOp P G (.field g i.size f.offset ox) sl σ K Kp) : Does P G o a w w0 γ K Kp := by
  simp only [sOp] at h
  split at h
  · rename_i cs h1
    obtain ⟨hle, h⟩ := h
    split at h
    · rename_i v hv
      have e1 := ev_sound hr hx h1
      generalize hxe : a.eval x = xe at e1
      cases e1 with | agg _ vs hl h1' hr' =>
      refine .same hr.inv ?_ (part_sound hl h1' hr' hv) h
      simp [execOp, ho, hxe, Instr.field, run_underlying ht, hf, asAgg, run_part (w := w) hg hi hs (vs := vs) (off := f.offset) (by omega)]
    · exact h.elim
  · exact h.elim

theorem do_iaddr (hr : Rel G w0 γ σ w n ds sl a) {t e : TypeId} {i : TypeInfo} {x y : Operand} {ox oy : Opd} (ho : o.op = .indexAddr t x y) (ht : P.underlying t = some (.slice e)) (hi : P.info? e = some i) (hx : trOpd x = some ox) (hy : trOpd y = some oy) (h : sOp P G (.iaddr i.size ox oy) sl σ K Kp) : Does P G o a w w0 γ K Kp := by
  simp only [sOp] at h
  split at h
  · rename_i tag s es k q h1 h2
    obtain ⟨hs, h0, h⟩ := h
    split at h
    · rename_i el hel
      have e1 := ev_sound hr hx h1
      have e2 := ev_sound hr hy h2
      generalize hxe : a.eval x = xe at e1
      generalize hye : a.eval y = ye at e2
      cases e2
      cases e1 with | slice _ _ _ ad cap b off vs hes hl ha htg h1' hc hr' =>
      have hlt : q.toNat < es.length := (List.getElem?_eq_some_iff.1 hel).1
      have hss : s = i.size := by
        rcases hs with hs | rfl
        · exact hs
        · simp at hlt
      subst hss
      rcases ha with rfl | ⟨_, rfl⟩
      · have hq : q < (es.length : Int) := by omega
        have hflat : ∀ (j : Nat) (z : V), el[j]? = some z → es.flatten[q.toNat * i.size + j]? = some z := fun j z hz => flatten_get hes hel hz
        refine .same hr.inv (x := .pointer (some ⟨b, off + q.toNat * i.size, none⟩)) ?_ (.ref el b _ (fun j => vs (q.toNat * i.size + j)) (fun j z hz => h1' _ z (hflat j z hz)) (fun j z hz => ?_) (fun j z hz => hr' _ z (hflat j z hz))) h
        · simp [execOp, ho, hxe, hye, Instr.indexAt, asIntOf, run_underlying ht, h0, hq, sizeOf, typeInfo, hi, add_lit]
        · have := hc _ z (hflat j z hz)
          rwa [← Nat.add_assoc] at this
      · simp at hlt
    · exact h.elim
  · rename_i b off len cap k q h1 h2
    obtain ⟨h0, hq, h⟩ := h
    have e1 := ev_sound hr hx h1
    have e2 := ev_sound hr hy h2
    generalize hxe : a.eval x = xe at e1
    generalize hye : a.eval y = ye at e2
    cases e2; cases e1
    refine .same hr.inv (x := .pointer (some ⟨b, off + q.toNat * i.size, none⟩)) ?_ (.loc _ _) h
    simp [execOp, ho, hxe, hye, Instr.indexAt, asIntOf, run_underlying ht, h0, hq, sizeOf, typeInfo, hi, add_lit]
  · exact h.elim

theorem do_iaddrA (hr : Rel G w0 γ σ w n ds sl a) {t e : TypeId} {i : TypeInfo} {len : Nat} {x y : Operand} {ox oy : Opd} (ho : o.op = .indexAddr t x y) (ht : P.underlying t = some (.array len e)) (hi : P.info? e = some i) (hx : trOpd x = some ox) (hy : trOpd y = some oy) (h : sOp P G (.iaddrA i.size len ox oy) sl σ K Kp) : Does P G o a w w0 γ K Kp := by
  have hrun : ∀ b off k (q : Int), a.eval x = .pointer (some ⟨b, off, none⟩) → a.eval y = .int k q → 0 ≤ q → q < len → (execOp a.eval o).run P w = .ok (.value (.pointer (some ⟨b, off + q.toNat * i.size, none⟩))) w := by
    intro b off k q hxe hye h0 hq
    simp [execOp, ho, hxe, hye, Instr.indexAt, asIntOf, Instr.sureAddr, run_underlying ht, h0, hq, sizeOf, typeInfo, hi, add_lit]
  simp only [sOp] at h
  split at h
  · rename_i b off k q h1 h2
    obtain ⟨h0, hq, h⟩ := h
    have e1 := ev_sound hr hx h1
    have e2 := ev_sound hr hy h2
    generalize hxe : a.eval x = xe at e1
    generalize hye : a.eval y = ye at e2
    cases e2; cases e1
    exact .same hr.inv (hrun _ _ _ _ hxe hye h0 hq) (.loc _ _) h
  · rename_i cs k q h1 h2
    obtain ⟨h0, hq, h⟩ := h
    have e1 := ev_sound hr hx h1
    have e2 := ev_sound hr hy h2
    generalize hxe : a.eval x = xe at e1
    generalize hye : a.eval y = ye at e2
    cases e2
    cases e1 with | ref _ b off vs h1' hc hr' =>
    generalize hm : q.toNat * i.size = m at h hrun
    refine .same hr.inv (hrun _ _ _ _ hxe hye h0 hq) ?_ h
    rw [hm]
    refine .ref (cs.drop m) b (off + m) (fun j => vs (m + j)) (fun j z hz => h1' (m + j) z (by rw [List.getElem?_drop] at hz; exact hz)) (fun j z hz => ?_) (fun j z hz => hr' (m + j) z (by rw [List.getElem?_drop] at hz; exact hz))
    have := hc (m + j) z (by rw [List.getElem?_drop] at hz; exact hz)
    rwa [← Nat.add_assoc] at this
  · exact h.elim

theorem do_idxs (hr : Rel G w0 γ σ w n ds sl a) {t : TypeId} {x y : Operand} {ox oy : Opd} (ho : o.op = .index t x y) (ht : P.underlying t = some .string) (hx : trOpd x = some ox) (hy : trOpd y = some oy) (h : sOp P G (.idxs ox oy) sl σ K Kp) : Does P G o a w w0 γ K Kp := by
  simp only [sOp] at h
  split at h
  · rename_i l k q h1 h2
    obtain ⟨h0, h⟩ := h
    split at h
    · rename_i b hb
      have e1 := ev_sound hr hx h1
      have e2 := ev_sound hr hy h2
      generalize hxe : a.eval x = xe at e1
      generalize hye : a.eval y = ye at e2
      cases e2
      cases e1 with | str _ s1 q1 =>
      refine .same hr.inv (x := .int .u8 b.toNat) ?_ (.int _ _) h
      have hs : s1[q.toNat]? = some b := by
        have hlt : q.toNat < s1.size := by
          have := (List.getElem?_eq_some_iff.1 hb).1
          rw [← q1] at this; simpa using this
        have hg : s1[q.toNat]? = some s1[q.toNat] := by rw [getElem?_pos s1 q.toNat hlt]
        rw [hg, ← hb, ← q1]
        simp only [Array.getElem?_toList]
        rw [Array.getElem?_eq_getElem (by exact hlt)]; rfl
      simp [execOp, ho, hxe, hye, Instr.index, asIntOf, run_underlying ht, h0, hs]
    · exact h.elim
  · exact h.elim

theorem do_idxa (hr : Rel G w0 γ σ w n ds sl a) {t e : TypeId} {i : TypeInfo} {g : Bool} {len : Nat} {x y : Operand} {ox oy : Opd} (ho : o.op = .index t x y) (ht : P.underlying t = some (.array len e)) (hi : P.info? e = some i) (hg : aggB P e = some g) (hs : 0 < i.size) (hx : trOpd x = some ox) (hy : trOpd y = some oy) (h : sOp P G (.idxa g i.size len ox oy) sl σ K Kp) : Does P G o a w w0 γ K Kp := by
  simp only [sOp] at h
  split at h
  · rename_i cs k q h1 h2
    obtain ⟨h0, hq, hle, h⟩ := h
    split at h
    · rename_i v hv
      have e1 := ev_sound hr hx h1
      have e2 := ev_sound hr hy h2
      generalize hxe : a.eval x = xe at e1
      generalize hye : a.eval y = ye at e2
      cases e2
      cases e1 with | agg _ vs hl h1' hr' =>
      refine .same hr.inv ?_ (part_sound hl h1' hr' hv) h
      simp [execOp, ho, hxe, hye, Instr.index, asIntOf, run_underlying ht, h0, hq, sizeOf, typeInfo, hi, run_part (w := w) hg hi hs (vs := vs) (off := q.toNat * i.size) (by omega)]
    · exact h.elim
  · exact h.elim

theorem do_extract (hr : Rel G w0 γ σ w n ds sl a) {k : Nat} {x : Operand} {ox : Opd} (ho : o.op = .extract x k) (hx : trOpd x = some ox) (h : sOp P G (.extract k ox) sl σ K Kp) : Does P G o a w w0 γ K Kp := by
  simp only [sOp] at h
  split at h
  · rename_i cs h1
    split at h
    · rename_i v hv
      have e1 := ev_sound hr hx h1
      generalize hxe : a.eval x = xe at e1
      cases e1 with | tup _ vs hl hr' =>
      have hlt : k < vs.size := by rw [← hl]; exact (List.getElem?_eq_some_iff.1 hv).1
      exact .same hr.inv (x := vs[k]) (by simp [execOp, ho, hxe, Instr.extract, hlt]) (hr' k v _ hv (by simp [hlt])) h
    · exact h.elim
  · exact h.elim

theorem do_len (hr : Rel G w0 γ σ w n ds sl a) {t : TypeId} {str : Bool} {x : Operand} {ox : Opd} (ho : o.op = .call { callee := .builtin .len, args := #[x], argTypes := #[t] }) (ht : (str = true ∧ P.underlying t = some .string) ∨ (str = false ∧ ∃ e, P.underlying t = some (.slice e))) (hx : trOpd x = some ox)
    (h : sOp P G (.len str ox) sl σ K Kp) : Does P G o a w w0 γ K Kp := by
  simp only [sOp] at h
  split at h
  · rename_i tag s es h1
    have e1 := ev_sound hr hx h1
    generalize hxe : a.eval x = xe at e1
    cases e1
    rcases ht with ⟨ht, _⟩ | ⟨_, e, ht⟩
    · cases ht
    · exact .same hr.inv (x := .int .i64 es.length) (by simp [execOp, ho, hxe, resolve, invoke, builtin, Builtin.len_, run_underlying ht, goInt]) (.int _ _) h
  · rename_i b off len cap h1
    have e1 := ev_sound hr hx h1
    generalize hxe : a.eval x = xe at e1
    cases e1
    rcases ht with ⟨ht, _⟩ | ⟨_, e, ht⟩
    · cases ht
    · exact .same hr.inv (x := .int .i64 len) (by simp [execOp, ho, hxe, resolve, invoke, builtin, Builtin.len_, run_underlying ht, goInt]) (.int _ _) h
  · rename_i l h1
    have e1 := ev_sound hr hx h1
    generalize hxe : a.eval x = xe at e1
    cases e1 with | str _ s1 q1 =>
    have hs : s1.size = l.length := by rw [← q1]; rfl
    rcases ht with ⟨_, ht⟩ | ⟨ht, _⟩
    · exact .same hr.inv (x := .int .i64 l.length) (by simp [execOp, ho, hxe, resolve, invoke, builtin, Builtin.len_, run_underlying ht, goInt, hs]) (.int _ _) h
    · cases ht
  · exact h.elim

theorem do_panic (hr : Rel G w0 γ σ w n ds sl a) {x : Operand} {ox : Opd} (ho : o.op = .panic x ∨ ∃ ts, o.op = .call { callee := .builtin .panic, args := #[x], argTypes := ts }) (hx : trOpd x = some ox) (h : sOp P G (.panic ox) sl σ K Kp) : Does P G o a w w0 γ K Kp := by
  simp only [sOp] at h
  split at h
  · rename_i t v h1
    have e1 := ev_sound hr hx h1
    generalize hxe : a.eval x = xe at e1
    cases e1 with | iface _ _ y hy =>
    intro next Q _ hKp
    have hrun : (execOp a.eval o).run P w = .halt (.panic (.iface t y)) w := by
      rcases ho with ho | ⟨ts, ho⟩ <;> simp [execOp, ho, hxe, resolve, invoke, builtin, Instr.panic]
    rw [hrun]
    exact hKp γ σ w _ _ (Ext.refl _ _ _) hr.inv (.iface t v y hy) h
  · exact h.elim

theorem do_tassert (hr : Rel G w0 γ σ w n ds sl a) {t t2 : TypeId} {d : TypeDesc} {z : List V} {g ok : Bool} {x : Operand} {ox : Opd} (ho : o.op = .typeAssert x t2 t ok) (hd : P.underlying t = some d) (hni : (match d with | .interface _ => false | _ => true) = true) (hz : zeroL P t = some z) (hg : aggB P t = some g) (hzv : ∀ i v, P.info? t = some i → i.zero = some v → ((∃ cs, v = .agg cs) ↔ g = true)) (hx : trOpd x = some ox) (h : sOp P G (.tassert t z g ok ox) sl σ K Kp) : Does P G o a w w0 γ K Kp := by
  obtain ⟨i, zv, hi, hzv', hzs, hzt⟩ := zeroL_sound hz
  have hzero : ∀ u, mkv g z = some u → ∀ B γ, ∀ w : World, R B γ w u zv := by
    intro u hu B γ w
    have hRL := trVs_sound (B := B) (γ := γ) (w := w) hzt
    have := mkv_sound hRL (trVs_one hzt) hu
    cases g with
    | true =>
      obtain ⟨cs, rfl⟩ := (hzv i zv hi hzv').2 rfl
      simpa [Value.cells] using this
    | false =>
      have hna : ¬ ∃ cs, zv = .agg cs := fun h => by have := (hzv i zv hi hzv').1 h; cases this
      have hc : zv.cells = #[zv] := by cases zv <;> first | rfl | exact absurd ⟨_, rfl⟩ hna
      simpa [hc] using this
  have hassert : ∀ (t' : TypeId) (y : Value), (∀ hok : ok = true, t' ≠ t → (Instr.typeAssert (.iface t' y) t2 t ok).run P w = .ok (.tuple #[zv, .bool false]) w) ∧ (Instr.typeAssert (.iface t y) t2 t ok).run P w = .ok (if ok then .tuple #[y, .bool true] else y) w ∧ (ok = true → (Instr.typeAssert .nilIface t2 t ok).run P w = .ok (.tuple #[zv, .bool false]) w) := by
    intro t' y
    cases d <;> simp at hni <;> refine ⟨fun hok hne => ?_, ?_, fun hok => ?_⟩ <;>
      simp [Instr.typeAssert, run_underlying hd, zeroValue, typeInfo, hi, hzv', *]
  simp only [sOp] at h
  split at h
  · rename_i t' v h1
    have e1 := ev_sound hr hx h1
    generalize hxe : a.eval x = xe at e1
    cases e1 with | iface _ _ y hy =>
    split at h
    · rename_i htt; subst htt
      refine .same hr.inv (x := if ok then .tuple #[y, .bool true] else y) (by simp [execOp, ho, hxe, (hassert t' y).2.1]) ?_ h
      cases ok
      · exact hy
      · exact .tup _ _ rfl (fun k p q hp hq => by
          cases k with
          | zero => simp at hp hq; subst hp; subst hq; exact hy
          | succ k => cases k with
            | zero => simp at hp hq; subst hp; subst hq; exact .bool _
            | succ k => simp at hp)
    · rename_i htt
      obtain ⟨hok, h⟩ := h
      split at h
      · rename_i u hu
        refine .same hr.inv (x := .tuple #[zv, .bool false]) (by simp [execOp, ho, hxe, (hassert t' y).1 hok htt]) ?_ h
        exact .tup _ _ rfl (fun k p q hp hq => by
          cases k with
          | zero => simp at hp hq; subst hp; subst hq; exact hzero u hu _ _ _
          | succ k => cases k with
            | zero => simp at hp hq; subst hp; subst hq; exact .bool _
            | succ k => simp at hp)
      · exact h.elim
  · rename_i h1
    have e1 := ev_sound hr hx h1
    generalize hxe : a.eval x = xe at e1
    cases e1
    obtain ⟨hok, h⟩ := h
    split at h
    · rename_i u hu
      refine .same hr.inv (x := .tuple #[zv, .bool false]) (by simp [execOp, ho, hxe, (hassert t .nilIface).2.2 hok]) ?_ h
      exact .tup _ _ rfl (fun k p q hp hq => by
        cases k with
        | zero => simp at hp hq; subst hp; subst hq; exact hzero u hu _ _ _
        | succ k => cases k with
          | zero => simp at hp hq; subst hp; subst hq; exact .bool _
          | succ k => simp at hp)
    · exact h.elim
  · exact h.elim

end
end Go.Shadow

/- THE SHADOW LOGIC, part 8: cuts of slices and strings, literals, append, calls: sound. -/
namespace Go.Shadow
open Go Go.RowKit

section
variable {P : Program} {G : Globs} {w0 w : World} {γ : Gh} {σ : St} {n : Nat} {ds : List Deferred} {sl : Slots} {a : Act} {o : Oper} {K Kp : V → St → Prop}

theorem extract_list (s : ByteArray) (l : List UInt8) (h : s.data.toList = l) (i j : Nat) : (s.extract i j).data.toList = (l.take j).drop i := by
  simp only [ByteArray.data_extract, Array.toList_extract, List.extract_eq_take_drop, h]
  rw [List.drop_take]

theorem R.slice_cut {B : Nat} {γ : Gh} {w : World} {s : Nat} {es : List (List V)} {ad : Option Addr} {cap b off : Nat} {vs : Nat → Value}
    (hs : ∀ (i : Nat) (e : List V), es[i]? = some e → e.length = s) (hl : es.length ≤ cap) (ha : ad = some ⟨b, off, none⟩ ∨ (ad = none ∧ es = []))
    (h1 : ∀ (k : Nat) (x : V), es.flatten[k]? = some x → x.one = true)
    (hc : ∀ (k : Nat) (x : V), es.flatten[k]? = some x → Imm B γ b (off + k) ∧ w.cell? ⟨b, off + k, none⟩ = some (vs k))
    (hr : ∀ (k : Nat) (x : V), es.flatten[k]? = some x → R B γ w x (vs k)) {i j : Nat} (hij : i ≤ j) (hj : j ≤ es.length) :
    R B γ w (.slice .foreign s ((es.take j).drop i)) (Go.sliced ad i j cap s) := by
  have hlen : ((es.take j).drop i).length = j - i := by simp [Nat.min_eq_left hj]
  have hes : ∀ (p : Nat) (e : List V), ((es.take j).drop i)[p]? = some e → e.length = s := by
    intro p e he
    rw [List.getElem?_drop, List.getElem?_take] at he
    split at he
    · exact hs _ e he
    · cases he
  have hflat : ∀ (k : Nat) (x : V), ((es.take j).drop i).flatten[k]? = some x → es.flatten[i * s + k]? = some x := by
    intro k x hk
    have e1 : es = es.take i ++ ((es.take j).drop i ++ es.drop j) := by
      rw [← List.append_assoc]
      have : es.take i ++ (es.take j).drop i = es.take j := by
        have := List.take_append_drop i (es.take j)
        rw [List.take_take, Nat.min_eq_left hij] at this
        exact this
      rw [this, List.take_append_drop]
    have hil : (es.take i).flatten.length = i * s := by
      rw [flatten_length (s := s) (fun p e he => by
        rw [List.getElem?_take] at he
        split at he
        · exact hs p e he
        · cases he)]
      simp [Nat.min_eq_left (Nat.le_trans hij hj)]
    have hkl : k < ((es.take j).drop i).flatten.length := (List.getElem?_eq_some_iff.1 hk).1
    rw [e1]
    simp only [List.flatten_append]
    rw [List.getElem?_append_right (by omega), hil, Nat.add_sub_cancel_left, List.getElem?_append_left hkl]
    exact hk
  have hmk := fun (ad' : Option Addr) (ha' : ad' = some ⟨b, off + i * s, none⟩ ∨ (ad' = none ∧ (es.take j).drop i = [])) =>
    R.slice (B := B) (γ := γ) (w := w) .foreign s ((es.take j).drop i) ad' (cap - i) b (off + i * s) (fun k => vs (i * s + k)) hes (by rw [hlen]; omega) ha' trivial
      (fun k x hk => h1 _ x (hflat k x hk)) (fun k x hk => by have := hc _ x (hflat k x hk); rwa [← Nat.add_assoc] at this) (fun k x hk => hr _ x (hflat k x hk))
  rw [hlen] at hmk
  unfold Go.sliced
  by_cases hci : cap = i
  · rw [if_pos hci]
    have h0 : j - i = 0 := by omega
    have hnil : (es.take j).drop i = [] := List.eq_nil_of_length_eq_zero (by omega)
    rw [h0, hnil]
    have := R.slice (B := B) (γ := γ) (w := w) .foreign s [] ad (cap - i) b off vs (by simp) (by simp) (by rcases ha with h | ⟨h, _⟩; exact .inl h; exact .inr ⟨h, rfl⟩) trivial (by simp) (by simp) (by simp)
    exact this
  · rw [if_neg hci]
    rcases ha with rfl | ⟨rfl, rfl⟩
    · simp only [Option.map_some, add_lit]
      exact hmk _ (.inl rfl)
    · exact hmk none (.inr ⟨rfl, by simp⟩)

theorem elem_of {t e : TypeId} (h : P.underlying t = some (.slice e)) : P.elem t = e := by simp [Program.elem, h]

theorem lo_some {lo : Option Operand} {olo : Option Opd} (hlo : lo.map trOpd = olo.map some) : ∀ y, lo = some y → ∃ oy, olo = some oy ∧ trOpd y = some oy := by
  intro y hy; subst hy
  cases olo with
  | none => simp at hlo
  | some oy => simp at hlo; exact ⟨oy, rfl, hlo⟩
theorem lo_none {lo : Option Operand} {olo : Option Opd} (hlo : lo.map trOpd = olo.map some) : lo = none → olo = none := by rintro rfl; cases olo <;> simp_all
theorem int_of (hr : Rel G w0 γ σ w n ds sl a) {y : Operand} {oy : Opd} {k : IntKind} {q : Int} (hy : trOpd y = some oy) (hv : oy.ev sl G = some (.int k q)) : a.eval y = .int k q := by
  have := ev_sound hr hy hv
  generalize a.eval y = ye at this
  cases this; rfl

theorem do_cuts (hr : Rel G w0 γ σ w n ds sl a) {t : TypeId} {x : Operand} {lo hi : Option Operand} {ox : Opd} {olo ohi : Option Opd} (ho : o.op = .slice t x lo hi none) (ht : P.underlying t = some .string)
    (hx : trOpd x = some ox) (hlo : lo.map trOpd = olo.map some) (hhi : hi.map trOpd = ohi.map some) (h : sOp P G (.cuts ox olo ohi) sl σ K Kp) : Does P G o a w w0 γ K Kp := by
  have str : ∀ l, ox.ev sl G = some (.str l) → ∃ s : ByteArray, a.eval x = .string s ∧ s.data.toList = l ∧ s.size = l.length := by
    intro l hv
    have e1 := ev_sound hr hx hv
    generalize hxe : a.eval x = xe at e1
    cases e1 with | str _ s1 q1 =>
    exact ⟨s1, rfl, q1, by rw [← q1]; rfl⟩
  cases hlc : lo with
  | none =>
    have := lo_none hlo hlc; subst this
    cases hhc : hi with
    | none =>
      have := lo_none hhi hhc; subst this
      simp only [sOp, Option.map_none] at h
      cases hv : ox.ev sl G with
      | none => simp [hv] at h
      | some v =>
        rw [hv] at h
        cases v <;> simp only at h <;> first | exact h.elim | skip
        rename_i l
        obtain ⟨s, hs, hl, hsz⟩ := str l hv
        exact .same hr.inv (x := .string (s.extract 0 s.size)) (by simp [execOp, ho, hlc, hhc, hs, run_sliceAt_string w t _ _ _ _ ht, run_slice_string_all w t s ht]) (.str _ _ (by rw [extract_list s l hl, hsz]; simp)) h
    | some y =>
      obtain ⟨oy, rfl, hy⟩ := lo_some hhi y hhc
      simp only [sOp, Option.map_none, Option.map_some] at h
      cases hv : ox.ev sl G with
      | none => simp [hv] at h
      | some v =>
        cases hw : oy.ev sl G with
        | none => simp [hv, hw] at h
        | some u =>
          rw [hv, hw] at h
          cases v <;> cases u <;> simp only at h <;> first | exact h.elim | skip
          rename_i l k q
          obtain ⟨s, hs, hl, hsz⟩ := str l hv
          obtain ⟨h0, h1, h⟩ := h
          have hye := int_of hr hy hw
          exact .same hr.inv (x := .string (s.extract 0 q.toNat)) (by simp [execOp, ho, hlc, hhc, hs, hye, run_sliceAt_string w t _ _ _ _ ht, run_slice_string_h w t s ht k q h0 (by omega)]) (.str _ _ (by rw [extract_list s l hl]; simp)) h
  | some z =>
    obtain ⟨oz, rfl, hz⟩ := lo_some hlo z hlc
    cases hhc : hi with
    | none =>
      have := lo_none hhi hhc; subst this
      simp only [sOp, Option.map_none, Option.map_some] at h
      cases hv : ox.ev sl G with
      | none => simp [hv] at h
      | some v =>
        cases hw : oz.ev sl G with
        | none => simp [hv, hw] at h
        | some u =>
          rw [hv, hw] at h
          cases v <;> cases u <;> simp only at h <;> first | exact h.elim | skip
          rename_i l k q
          obtain ⟨s, hs, hl, hsz⟩ := str l hv
          obtain ⟨h0, h1, h⟩ := h
          have hye := int_of hr hz hw
          exact .same hr.inv (x := .string (s.extract q.toNat s.size)) (by simp [execOp, ho, hlc, hhc, hs, hye, run_sliceAt_string w t _ _ _ _ ht, run_slice_string_l w t s ht k q h0 (by omega)]) (.str _ _ (by rw [extract_list s l hl, hsz]; simp)) h
    | some y =>
      obtain ⟨oy, rfl, hy⟩ := lo_some hhi y hhc
      simp only [sOp, Option.map_some] at h
      cases hv : ox.ev sl G with
      | none => simp [hv] at h
      | some v =>
        cases hw : oz.ev sl G with
        | none => simp [hv, hw] at h
        | some u =>
          cases hw2 : oy.ev sl G with
          | none => simp [hv, hw, hw2] at h
          | some u2 =>
            rw [hv, hw, hw2] at h
            cases v <;> cases u <;> first | exact h.elim | skip
            all_goals cases u2 <;> simp only at h <;> first | exact h.elim | skip
            rename_i l k q k2 q2
            obtain ⟨s, hs, hl, hsz⟩ := str l hv
            obtain ⟨h0, h1, h2, h⟩ := h
            have hze := int_of hr hz hw
            have hye := int_of hr hy hw2
            have hrun := run_slice_string_if (P := P) (w := w) t s k k2 q q2 ht
            exact .same hr.inv (x := .string (s.extract q.toNat q2.toNat)) (by
              simp [execOp, ho, hlc, hhc, hs, hye, hze, run_sliceAt_string w t _ _ _ _ ht, hrun, h0, h1, show 0 ≤ q2 by omega, show q2 ≤ (s.size : Int) by omega]) (.str _ _ (by rw [extract_list s l hl])) h

theorem do_slice (hr : Rel G w0 γ σ w n ds sl a) {t e : TypeId} {i : TypeInfo} {x : Operand} {lo hi : Option Operand} {ox : Opd} {olo ohi : Option Opd} (ho : o.op = .slice t x lo hi none) (ht : P.underlying t = some (.slice e)) (hi' : P.info? e = some i)
    (hx : trOpd x = some ox) (hlo : lo.map trOpd = olo.map some) (hhi : hi.map trOpd = ohi.map some) (h : sOp P G (.slice i.size ox olo ohi) sl σ K Kp) : Does P G o a w w0 γ K Kp := by
  have hel := elem_of (P := P) ht
  have ht' : P.underlying t = some (.slice (P.elem t)) := by rw [hel]; exact ht
  cases hlc : lo with
  | none =>
    have := lo_none hlo hlc; subst this
    cases hhc : hi with
    | none =>
      have := lo_none hhi hhc; subst this
      simp only [sOp, Option.map_none] at h
      cases hv : ox.ev sl G with
      | none => simp [hv] at h
      | some v =>
        rw [hv] at h
        cases v <;> simp only at h <;> first | exact h.elim | skip
        rename_i g s es
        obtain ⟨hss, h⟩ := h
        have e1 := ev_sound hr hx hv
        generalize hxe : a.eval x = xe at e1
        have e1' := e1
        cases e1 with | slice _ _ _ ad cap b off vs hs hl ha htg h1 hc hr' =>
        refine .same hr.inv (x := .slice ad es.length cap) ?_ e1' h
        simp [execOp, ho, hlc, hhc, hxe, run_sliceAt_slice w t _ _ _ _ ht', run_slice_all w t ad es.length cap ht', hel, sizeOf, typeInfo, hi', Go.sliced]
        intro hcap
        rcases ha with rfl | ⟨rfl, _⟩ <;> simp [add_lit]
    | some y =>
      obtain ⟨oy, rfl, hy⟩ := lo_some hhi y hhc
      simp only [sOp, Option.map_none, Option.map_some] at h
      cases hv : ox.ev sl G with
      | none => simp [hv] at h
      | some v =>
        cases hw : oy.ev sl G with
        | none => simp [hv, hw] at h
        | some u =>
          rw [hv, hw] at h
          cases v <;> cases u <;> simp only at h <;> first | exact h.elim | skip
          rename_i g s es k q
          obtain ⟨hss, h0, h1, h⟩ := h
          have hye := int_of hr hy hw
          have e1 := ev_sound hr hx hv
          generalize hxe : a.eval x = xe at e1
          cases e1 with | slice _ _ _ ad cap b off vs hs hl ha htg h1' hc hr' =>
          have hcut := R.slice_cut hs hl ha h1' hc hr' (i := 0) (j := q.toNat) (Nat.zero_le _) (by omega)
          simp only [List.drop_zero] at hcut
          refine .same hr.inv (x := Go.sliced ad 0 q.toNat cap s) ?_ hcut h
          simp [execOp, ho, hlc, hhc, hxe, hye, run_sliceAt_slice w t _ _ _ _ ht', run_slice_h w t ad es.length cap ht' k q h0 (by omega), hel, sizeOf, typeInfo, hi', hss]
  | some z =>
    obtain ⟨oz, rfl, hz⟩ := lo_some hlo z hlc
    cases hhc : hi with
    | none =>
      have := lo_none hhi hhc; subst this
      simp only [sOp, Option.map_none, Option.map_some] at h
      cases hv : ox.ev sl G with
      | none => simp [hv] at h
      | some v =>
        cases hw : oz.ev sl G with
        | none => simp [hv, hw] at h
        | some u =>
          rw [hv, hw] at h
          cases v <;> cases u <;> simp only at h <;> first | exact h.elim | skip
          rotate_left
          · rename_i b off len cap k q
            obtain ⟨h0, h1, h2, h⟩ := h
            have hye := int_of hr hz hw
            have e1 := ev_sound hr hx hv
            generalize hxe : a.eval x = xe at e1
            cases e1
            refine .same hr.inv (x := Go.sliced (some ⟨b, off, none⟩) q.toNat len cap i.size) ?_ ?_ h
            · simp [execOp, ho, hlc, hhc, hxe, hye, run_sliceAt_slice w t _ _ _ _ ht', run_slice_l w t (some ⟨b, off, none⟩) len cap ht' k q h0 (by omega), hel, sizeOf, typeInfo, hi']
            · rw [show Go.sliced (some ⟨b, off, none⟩) q.toNat len cap i.size = .slice (some ⟨b, off + q.toNat * i.size, none⟩) (len - q.toNat) (cap - q.toNat) from by
                simp only [Go.sliced]; rw [if_neg (by omega)]; simp [add_lit]]
              exact .mslice _ _ _ _
          rename_i g s es k q
          obtain ⟨hss, h0, h1, h⟩ := h
          have hye := int_of hr hz hw
          have e1 := ev_sound hr hx hv
          generalize hxe : a.eval x = xe at e1
          cases e1 with | slice _ _ _ ad cap b off vs hs hl ha htg h1' hc hr' =>
          have hcut := R.slice_cut hs hl ha h1' hc hr' (i := q.toNat) (j := es.length) (by omega) (Nat.le_refl _)
          simp only [List.take_length] at hcut
          refine .same hr.inv (x := Go.sliced ad q.toNat es.length cap s) ?_ hcut h
          simp [execOp, ho, hlc, hhc, hxe, hye, run_sliceAt_slice w t _ _ _ _ ht', run_slice_l w t ad es.length cap ht' k q h0 (by omega), hel, sizeOf, typeInfo, hi', hss]
    | some y =>
      obtain ⟨oy, rfl, hy⟩ := lo_some hhi y hhc
      simp only [sOp, Option.map_some] at h
      cases hv : ox.ev sl G with
      | none => simp [hv] at h
      | some v =>
        cases hw : oz.ev sl G with
        | none => simp [hv, hw] at h
        | some u =>
          cases hw2 : oy.ev sl G with
          | none => simp [hv, hw, hw2] at h
          | some u2 =>
            rw [hv, hw, hw2] at h
            cases v <;> cases u <;> first | exact h.elim | skip
            all_goals cases u2 <;> simp only at h <;> first | exact h.elim | skip
            rename_i g s es k q k2 q2
            obtain ⟨hss, h0, h1, h2, h⟩ := h
            have hze := int_of hr hz hw
            have hye := int_of hr hy hw2
            have e1 := ev_sound hr hx hv
            generalize hxe : a.eval x = xe at e1
            cases e1 with | slice _ _ _ ad cap b off vs hs hl ha htg h1' hc hr' =>
            have hcut := R.slice_cut hs hl ha h1' hc hr' (i := q.toNat) (j := q2.toNat) (by omega) (by omega)
            refine .same hr.inv (x := Go.sliced ad q.toNat q2.toNat cap s) ?_ hcut h
            simp [execOp, ho, hlc, hhc, hxe, hye, hze, run_sliceAt_slice w t _ _ _ _ ht', run_slice_lh w t ad es.length cap ht' k k2 q q2 h0 h1 (by omega), hel, sizeOf, typeInfo, hi', hss]

end
end Go.Shadow

/- THE SHADOW LOGIC, part 9: literals, append, conversions of bytes, calls: sound. -/
namespace Go.Shadow
open Go Go.RowKit

section
variable {P : Program} {G : Globs} {w0 w : World} {γ : Gh} {σ : St} {n : Nat} {ds : List Deferred} {sl : Slots} {a : Act} {o : Oper} {K Kp : V → St → Prop}

theorem setL_length : ∀ (vs : List V) (cs : List V) (off : Nat), (setL cs off vs).length = cs.length
  | [], cs, off => rfl
  | v :: vs, cs, off => by rw [setL, setL_length vs]; simp

theorem foldl_setL {B : Nat} {γ : Gh} {w : World} {off : Nat} : ∀ {us : List Value} {vs : List V} {i : Nat} {cells : Array Value} {cs : List V}, RL B γ w vs us → RL B γ w cs cells.toList → 
    RL B γ w (setL cs (off + i) vs) ((us.zipIdx i).foldl (fun (q : Array Value) (p : Value × Nat) => q.setIfInBounds (off + p.2) p.1) cells).toList
  | us, [], i, cells, cs, h, hc => by
    have : us = [] := h.inv_nil
    subst this
    exact hc
  | us, v :: vs, i, cells, cs, h, hc => by
    obtain ⟨u, us', rfl, h1, h2⟩ := h.inv_cons
    simp only [List.zipIdx_cons, List.foldl_cons, setL]
    have := foldl_setL (off := off) (i := i + 1) (cells := cells.setIfInBounds (off + i) u) (cs := cs.set (off + i) v) h2 (by
      refine ⟨by simpa using hc.1, fun j x y hx hy => ?_⟩
      rw [List.getElem?_set] at hx
      simp only [Array.toList_setIfInBounds, List.getElem?_set] at hy
      have hl := hc.1
      split at hx
      · rename_i hij; subst hij
        split at hx
        · rename_i hlt
          injection hx with hx
          simp only [if_true, ← hl, hlt] at hy
          injection hy with hy
          subst hx; subst hy; exact h1
        · cases hx
      · rename_i hij
        simp only [if_neg hij] at hy
        exact hc.2 j x y hx hy)
    rwa [show off + (i + 1) = off + i + 1 by omega] at this

theorem fill_sound {B : Nat} {γ : Gh} {w : World} {place : Nat → Option (Nat × Nat)} : ∀ {ps : List (Nat × Value)} {qs : List (Nat × List V)} {cells : Array Value} {cs : List V}, RL B γ w cs cells.toList →
    ps.length = qs.length → (∀ (j : Nat) (p : Nat × Value) (q : Nat × List V), ps[j]? = some p → qs[j]? = some q → place p.1 = some (q.1, q.2.length) ∧ RL B γ w q.2 p.2.cells.toList ∧ q.1 + q.2.length ≤ cs.length) →
    ∃ cells', Instr.fill place cells ps = some cells' ∧ RL B γ w (fillL cs qs) cells'.toList ∧ (fillL cs qs).length = cs.length
  | [], qs, cells, cs, hc, hl, _ => by
    have : qs = [] := List.eq_nil_of_length_eq_zero hl.symm
    subst this
    exact ⟨cells, rfl, hc, rfl⟩
  | p :: ps, [], cells, cs, hc, hl, _ => by simp at hl
  | p :: ps, q :: qs, cells, cs, hc, hl, h => by
    obtain ⟨h1, h2, h3⟩ := h 0 p q rfl rfl
    have hsz : p.2.cells.size = q.2.length := by have := h2.1; simpa using this.symm
    have hcl : cs.length = cells.size := by simpa using hc.1
    have hf := foldl_setL (off := q.1) (i := 0) h2 hc
    have hlen : (setL cs q.1 q.2).length = cs.length := setL_length _ _ _
    obtain ⟨cells', h4, h5, h6⟩ := fill_sound (place := place) (ps := ps) (qs := qs) (cells := (p.2.cells.toList.zipIdx 0).foldl (fun (z : Array Value) (y : Value × Nat) => z.setIfInBounds (q.1 + y.2) y.1) cells) (cs := setL cs q.1 q.2) (by simpa using hf) (by simpa using hl) (fun j p' q' hp hq => by
      obtain ⟨g1, g2, g3⟩ := h (j + 1) p' q' (by simpa using hp) (by simpa using hq)
      exact ⟨g1, g2, by rw [hlen]; exact g3⟩)
    refine ⟨cells', ?_, h5, h6.trans hlen⟩
    obtain ⟨pi, pv⟩ := p
    simp only at h1 hsz h4
    simp only [Instr.fill, h1, hsz, ne_eq, not_true_eq_false, decide_false, Bool.false_or]
    rw [if_neg (by simp; omega)]
    rw [← h4]
    congr 1
    rw [← Array.foldl_toList]
    congr 1
    simp [Array.toList_zipIdx]

theorem offs_get : ∀ {parts : List (Nat × Nat × Opd)} {vs : List V}, partsOK parts vs → (offs parts vs).length = parts.length ∧ parts.length = vs.length ∧ ∀ (j : Nat) (q : Nat × List V), (offs parts vs)[j]? = some q → ∃ p v, parts[j]? = some p ∧ vs[j]? = some v ∧ q = (p.1, v.cells) ∧ v.notTup = true ∧ v.cells.length = p.2.1
  | [], [], _ => ⟨rfl, rfl, fun j q h => by simp [offs] at h⟩
  | [], v :: vs, h => h.elim
  | p :: ps, [], h => h.elim
  | p :: ps, v :: vs, ⟨h1, h2, h3⟩ => by
    obtain ⟨g1, g2, g3⟩ := offs_get h3
    refine ⟨by simp [offs, g1], by simp [g2], fun j q hq => ?_⟩
    cases j with
    | zero => simp [offs] at hq; exact ⟨p, v, rfl, rfl, hq.symm, h1, h2⟩
    | succ j => obtain ⟨p', v', k1, k2, k3⟩ := g3 j q (by simpa [offs] using hq); exact ⟨p', v', by simpa using k1, by simpa using k2, k3⟩

/-- The places of a struct's or an array's parts. -/
def placeOf (P : Program) (t : TypeId) (k : Nat) : Option (Nat × Nat) := match P.underlying t with
  | some (.struct fs) => match fs[k]? with
    | some f => (P.info? f.type).map fun i => (f.offset, i.size)
    | none => none
  | some (.array _ e) => (P.info? e).map fun i => (k * i.size, i.size)
  | _ => none
def trParts (P : Program) (t : TypeId) (len : Nat) : List (Nat × Operand) → Option (List (Nat × Nat × Opd))
  | [] => some []
  | (k, x) :: r => match placeOf P t k, trOpd x, trParts P t len r with
    | some (off, sz), some ox, some ps => if off + sz ≤ len then some ((off, sz, ox) :: ps) else none
    | _, _, _ => none

theorem trParts_sound {t : TypeId} {len : Nat} : ∀ {l : List (Nat × Operand)} {ps : List (Nat × Nat × Opd)}, trParts P t len l = some ps → trOpds (l.map (·.2)) = some (ps.map (·.2.2)) ∧ l.length = ps.length ∧
    ∀ (j : Nat) (q : Nat × Operand) (p : Nat × Nat × Opd), l[j]? = some q → ps[j]? = some p → placeOf P t q.1 = some (p.1, p.2.1) ∧ p.1 + p.2.1 ≤ len
  | [], ps, h => by simp [trParts] at h; subst h; exact ⟨rfl, rfl, fun j q p hq => by simp at hq⟩
  | (k, x) :: r, ps, h => by
    simp only [trParts] at h
    split at h
    · rename_i off sz ox ps' h1 h2 h3
      split at h
      · rename_i hle
        injection h with h; subst h
        obtain ⟨g1, g2, g3⟩ := trParts_sound h3
        refine ⟨by simp [trOpds, h2, g1], by simp [g2], fun j q p hq hp => ?_⟩
        cases j with
        | zero => simp at hq hp; subst hq; subst hp; exact ⟨h1, hle⟩
        | succ j => exact g3 j q p (by simpa using hq) (by simpa using hp)
      · cases h
    · cases h

theorem mapM_places {fs : List Field} {l : List (Nat × Nat)} (h : fs.mapM (fun f => (P.info? f.type).map fun i => (f.offset, i.size)) = some l) : ∀ (k : Nat), l[k]? = (match fs[k]? with | some f => (P.info? f.type).map fun i => (f.offset, i.size) | none => none) := by
  induction fs generalizing l with
  | nil => intro k; simp at h; subst h; simp
  | cons f fs ih =>
    intro k
    rw [List.mapM_cons] at h
    cases hf : P.info? f.type with
    | none => simp [hf] at h
    | some i =>
      cases hm : fs.mapM (fun f => (P.info? f.type).map fun i => (f.offset, i.size)) with
      | none => simp [hf, hm] at h
      | some l' =>
        simp [hf, hm] at h
        subst h
        cases k with
        | zero => simp [hf]
        | succ k => simpa using ih hm k

theorem do_build (hr : Rel G w0 γ σ w n ds sl a) {t : TypeId} {parts : Array (Nat × Operand)} {z : List V} {ps : List (Nat × Nat × Opd)} (ho : o.op = .build t parts) (hz : zeroL P t = some z) (hp : trParts P t z.length parts.toList = some ps)
    (hpl : (∃ fs, P.underlying t = some (.struct fs) ∧ (fs.toList.mapM (fun (f : Field) => (P.info? f.type).map fun (i : TypeInfo) => (f.offset, i.size))).isSome = true) ∨ ∃ m e i, P.underlying t = some (.array m e) ∧ P.info? e = some i) (h : sOp P G (.build z ps) sl σ K Kp) : Does P G o a w w0 γ K Kp := by
  simp only [sOp] at h
  obtain ⟨i, zv, hi, hzv, hzs, hzt⟩ := zeroL_sound hz
  obtain ⟨hops, hlen, hplaces⟩ := trParts_sound hp
  split at h
  · rename_i vs hvs
    obtain ⟨hok, h⟩ := h
    have hRL := evs_sound hr hops hvs
    obtain ⟨o1, o2, o3⟩ := offs_get hok
    have hget : ∀ (j : Nat) (p : Nat × Value) (q : Nat × List V), (parts.map fun (i, x) => (i, a.eval x)).toList[j]? = some p → (offs ps vs)[j]? = some q →
        placeOf P t p.1 = some (q.1, q.2.length) ∧ RL w0.heap.size γ w q.2 p.2.cells.toList ∧ q.1 + q.2.length ≤ z.length := by
      intro j p q hpj hq
      obtain ⟨p', v, k1, k2, rfl, k4, k5⟩ := o3 j q hq
      simp only [Array.toList_map, List.getElem?_map, Option.map_eq_some_iff] at hpj
      obtain ⟨⟨pi, px⟩, hpp, rfl⟩ := hpj
      obtain ⟨g1, g2⟩ := hplaces j (pi, px) p' hpp k1
      have hRv := hRL.2 j v (a.eval px) k2 (by simp [hpp])
      exact ⟨by rw [k5]; exact g1, hRv.cells (hRv.cells_one k4), by rw [k5]; exact g2⟩
    have hzr := trVs_sound (B := w0.heap.size) (γ := γ) (w := w) hzt
    have hl2 : (parts.map fun (i, x) => (i, a.eval x)).toList.length = (offs ps vs).length := by rw [o1, ← hlen]; simp
    have hone : ∀ (j : Nat) (x : V), (fillL z (offs ps vs))[j]? = some x → x.one = true := by
      have hall : ∀ q ∈ offs ps vs, ∀ x ∈ q.2, V.one x = true := by
        intro q hq x hx
        obtain ⟨j, hj⟩ := List.getElem?_of_mem hq
        obtain ⟨p', v, k1, k2, rfl, k4, k5⟩ := o3 j q hj
        have hjl : j < parts.toList.length := by rw [hlen]; exact (List.getElem?_eq_some_iff.1 k1).1
        have hRv := hRL.2 j v (a.eval (parts.toList[j]).2) k2 (by simp [List.getElem?_eq_getElem hjl])
        obtain ⟨j2, hj2⟩ := List.getElem?_of_mem hx
        exact hRv.cells_one k4 j2 x hj2
      have hset : ∀ (vs cs : List V) (off : Nat), (∀ x ∈ cs, V.one x = true) → (∀ x ∈ vs, V.one x = true) → ∀ x ∈ setL cs off vs, V.one x = true := by
        intro vs
        induction vs with
        | nil => intro cs off hc _; exact hc
        | cons v vs ih =>
          intro cs off hc hv
          refine ih _ _ (fun x hx => ?_) (fun x hx => hv x (by simp [hx]))
          rcases List.mem_or_eq_of_mem_set hx with h | h
          · exact hc x h
          · subst h; exact hv _ (by simp)
      have hfill : ∀ (qs : List (Nat × List V)) (cs : List V), (∀ x ∈ cs, V.one x = true) → (∀ q ∈ qs, ∀ x ∈ q.2, V.one x = true) → ∀ x ∈ fillL cs qs, V.one x = true := by
        intro qs
        induction qs with
        | nil => intro cs hc _; exact hc
        | cons q qs ih => intro cs hc hq; exact ih _ (hset _ _ _ hc (hq q (by simp))) (fun q' hq' => hq q' (by simp [hq']))
      intro j x hx
      exact hfill _ _ (fun y hy => by obtain ⟨j2, hj2⟩ := List.getElem?_of_mem hy; exact trVs_one hzt j2 y hj2) hall x (List.mem_of_getElem? hx)
    have hfin : ∀ cells', P.built t (parts.map fun (i, x) => (i, a.eval x)).toList = some cells' → RL w0.heap.size γ w (fillL z (offs ps vs)) cells'.toList → Does P G o a w w0 γ K Kp := by
      intro cells' hb hrl
      refine .same hr.inv (x := .agg cells') ?_ (.agg _ _ (by simpa using hrl.1) hone (fun j x y hx hy => hrl.2 j x y hx (by simpa using hy))) h
      simp only [execOp, ho, Sem.run_bind, run_build w t _ cells' hb, Result.andThen_ok]
      rfl
    rcases hpl with ⟨fs, hfs, hm⟩ | ⟨m, e, ie, he, hie⟩
    · obtain ⟨l, hl⟩ := Option.isSome_iff_exists.1 hm
      have hpe : ∀ k, l.toArray[k]? = placeOf P t k := by
        intro k
        simp only [placeOf, hfs, List.getElem?_toArray, mapM_places hl k]
        simp
      obtain ⟨cells', h1, h2, h3⟩ := fill_sound (place := (l.toArray[·]?)) hzr hl2 (fun j p q hj hq => by obtain ⟨g1, g2, g3⟩ := hget j p q hj hq; exact ⟨by rw [hpe]; exact g1, g2, g3⟩)
      exact hfin cells' (by simp only [Program.built, hi, hfs, hzv, hl]; exact h1) h2
    · have hpe : ∀ k, (some (k * ie.size, ie.size) : Option (Nat × Nat)) = placeOf P t k := by intro k; simp [placeOf, he, hie]
      obtain ⟨cells', h1, h2, h3⟩ := fill_sound (place := fun k => some (k * ie.size, ie.size)) hzr hl2 (fun j p q hj hq => by obtain ⟨g1, g2, g3⟩ := hget j p q hj hq; exact ⟨by rw [hpe]; exact g1, g2, g3⟩)
      exact hfin cells' (by simp only [Program.built, hi, he, hzv, hie]; exact h1) h2
  · exact h.elim

end
end Go.Shadow

/- THE SHADOW LOGIC, part 10: slice literals, max and min, append, bytes, calls: sound. -/
namespace Go.Shadow
open Go Go.RowKit

section
variable {P : Program} {G : Globs} {w0 w : World} {γ : Gh} {σ : St} {n : Nat} {ds : List Deferred} {sl : Slots} {a : Act} {o : Oper} {K Kp : V → St → Prop}

theorem setL_mid (pre mid post vs : List V) (h : mid.length = vs.length) : setL (pre ++ mid ++ post) pre.length vs = pre ++ vs ++ post := by
  induction vs generalizing pre mid with
  | nil => have : mid = [] := List.eq_nil_of_length_eq_zero h; subst this; rfl
  | cons v vs ih =>
    cases mid with
    | nil => simp at h
    | cons m mid =>
      have := ih (pre ++ [v]) mid (by simpa using h)
      simp only [setL]
      rw [show (pre ++ (m :: mid) ++ post).set pre.length v = (pre ++ [v]) ++ mid ++ post by simp]
      rw [show pre.length + 1 = (pre ++ [v]).length by simp, this]
      simp

theorem elsOK_get {s : Nat} : ∀ {vs : List V}, elsOK s vs → ∀ v ∈ vs, v.notTup = true ∧ v.cells.length = s
  | [], _, v, hv => by simp at hv
  | u :: us, ⟨h1, h2, h3⟩, v, hv => by
    simp at hv
    rcases hv with rfl | hv
    · exact ⟨h1, h2⟩
    · exact elsOK_get h3 v hv

theorem fillL_all {s : Nat} : ∀ (vs : List V) (k : Nat) (pre rest : List V), (∀ v ∈ vs, v.cells.length = s) → pre.length = k * s → rest.length = vs.length * s →
    fillL (pre ++ rest) ((vs.zipIdx k).map fun p => (p.2 * s, p.1.cells)) = pre ++ (vs.map V.cells).flatten
  | [], k, pre, rest, _, _, hr => by
    have : rest = [] := List.eq_nil_of_length_eq_zero (by simpa using hr)
    subst this; simp [fillL]
  | v :: vs, k, pre, rest, hv, hp, hr => by
    have hvl := hv v (by simp)
    simp only [List.zipIdx_cons, List.map_cons, fillL, List.flatten_cons]
    have hsplit : rest = rest.take s ++ rest.drop s := (List.take_append_drop s rest).symm
    have hrl : s ≤ rest.length := by rw [hr]; simp [Nat.succ_mul]
    have h1 : setL (pre ++ rest) (k * s) v.cells = (pre ++ v.cells) ++ rest.drop s := by
      rw [← hp]
      conv => lhs; rw [hsplit, ← List.append_assoc]
      rw [setL_mid pre (rest.take s) (rest.drop s) v.cells (by simp [hvl, Nat.min_eq_left hrl])]
    rw [h1, fillL_all vs (k + 1) (pre ++ v.cells) (rest.drop s) (fun u hu => hv u (by simp [hu])) (by simp [hp, hvl, Nat.succ_mul]) (by simp [hr, Nat.succ_mul])]
    simp

/-- The parts of a slice literal, each once and in order. -/
def trEls : Nat → List (Nat × Operand) → Option (List Opd)
  | _, [] => some []
  | k, (i, x) :: r => if i = k then match trOpd x, trEls (k + 1) r with
    | some y, some ys => some (y :: ys)
    | _, _ => none
    else none

theorem trEls_sound : ∀ {l : List (Nat × Operand)} {k : Nat} {ys : List Opd}, trEls k l = some ys → trOpds (l.map (·.2)) = some ys ∧ l = ((l.map (·.2)).zipIdx k).map fun p => (p.2, p.1)
  | [], k, ys, h => by simp [trEls] at h; subst h; exact ⟨rfl, rfl⟩
  | (i, x) :: r, k, ys, h => by
    simp only [trEls] at h
    split at h
    · rename_i hik; subst hik
      split at h
      · rename_i y ys' h1 h2
        injection h with h; subst h
        obtain ⟨g1, g2⟩ := trEls_sound h2
        refine ⟨by simp [trOpds, h1, g1], ?_⟩
        rw [List.map_cons, List.zipIdx_cons, List.map_cons, ← g2]
      · cases h
    · cases h

theorem do_mkslice (hr : Rel G w0 γ σ w n ds sl a) {t e : TypeId} {len : Nat} {parts : Array (Nat × Operand)} {i : TypeInfo} {z : List V} {ps : List Opd} (ho : o.op = .buildSlice t len parts) (ht : P.underlying t = some (.slice e)) (hi : P.info? e = some i) (hz : zeroL P e = some z) (hs : 0 < i.size)
    (hp : trEls 0 parts.toList = some ps) (hl : parts.size = len) (hsm : len * i.size ≤ 16777216) (h : sOp P G (.mkslice i.size ps) sl σ K Kp) : Does P G o a w w0 γ K Kp := by
  simp only [sOp] at h
  obtain ⟨i', zv, hi', hzv, hzs, hzt⟩ := zeroL_sound hz
  rw [hi] at hi'; injection hi' with hi'; subst hi'
  obtain ⟨hops, hpl⟩ := trEls_sound hp
  split at h
  · rename_i vs hvs
    obtain ⟨hok, h⟩ := h
    have hRL := evs_sound hr hops hvs
    have hlen : vs.length = len := by have := hRL.1; simp at this; omega
    have hzl : zv.cells.size = z.length := by have := (trVs_sound (B := 0) (γ := γ) (w := w) hzt).1; simpa using this.symm
    -- the row before the parts
    have hzeros : ∃ (Z : Array Value) (zs : List V), (if len * i.size = 0 then (pure #[] : Sem (Array Value)) else do pure (← zeroValue e).cells).run P w = .ok (if len * i.size = 0 then #[] else zv.cells) w ∧
        Z = (Array.range (len * i.size)).map (fun k => (if len * i.size = 0 then (#[] : Array Value) else zv.cells)[k % (if len * i.size = 0 then (#[] : Array Value) else zv.cells).size]!) ∧ RL w0.heap.size γ w zs Z.toList ∧ zs.length = len * i.size := by
      refine ⟨_, (List.range (len * i.size)).map (fun k => z.getD (k % i.size) .nilptr), ?_, rfl, ?_, by simp⟩
      · split
        · rfl
        · simp [zeroValue, typeInfo, hi, hzv]
      · refine ⟨by simp, fun k x y hx hy => ?_⟩
        have hk : k < len * i.size := by have := (List.getElem?_eq_some_iff.1 hx).1; simpa using this
        have hne : ¬ (len * i.size = 0) := by omega
        simp only [if_neg hne] at hy
        simp [hk] at hx
        simp [hk] at hy
        have hm : k % i.size < i.size := Nat.mod_lt _ hs
        have hml : k % i.size < z.length := by omega
        rw [hzs] at hy
        rw [List.getElem?_eq_getElem hml] at hx
        simp at hx
        have := (trVs_sound (B := w0.heap.size) (γ := γ) (w := w) hzt).2 (k % i.size) x y (by rw [List.getElem?_eq_getElem hml, hx]) (by
          rw [getElem!_pos zv.cells (k % i.size) (by omega)] at hy
          simp [show k % i.size < zv.cells.size by omega, hy])
        exact this
    obtain ⟨Z, zs, hz0, hZ, hzr, hzl2⟩ := hzeros
    have hqs : (parts.map fun (i, x) => (i, a.eval x)).toList.length = ((vs.zipIdx 0).map fun p => (p.2 * i.size, p.1.cells)).length := by simp [hl, hlen]
    obtain ⟨cells', h1, h2, h3⟩ := fill_sound (place := fun k => some (k * i.size, i.size)) hzr hqs (fun j p q hj hq => by
      simp only [List.getElem?_map, List.getElem?_zipIdx, Option.map_eq_some_iff, Nat.zero_add] at hq
      obtain ⟨⟨v, k⟩, ⟨v', hv', hvk⟩, rfl⟩ := hq
      injection hvk with e1 e2; subst e1; subst e2
      simp only [Array.toList_map, List.getElem?_map, Option.map_eq_some_iff] at hj
      obtain ⟨⟨pi, px⟩, hpp, rfl⟩ := hj
      have hjl : j < vs.length := (List.getElem?_eq_some_iff.1 hv').1
      obtain ⟨hn, hc⟩ := elsOK_get hok v' (List.mem_of_getElem? hv')
      have hpij : pi = j := by
        rw [hpl] at hpp
        simp only [List.getElem?_map, List.getElem?_zipIdx, Option.map_eq_some_iff, Nat.zero_add] at hpp
        obtain ⟨⟨q1, q2⟩, ⟨_, _, h5⟩, h6⟩ := hpp
        injection h5 with _ h5
        injection h6 with h6 _
        simp at h5 h6
        omega
      subst hpij
      have hRv := hRL.2 pi v' (a.eval px) hv' (by
        have : (parts.toList.map (·.2))[pi]? = some px := by simp only [List.getElem?_map, hpp]; rfl
        simp only [List.getElem?_map] at this ⊢
        rw [hpp]; rfl)
      refine ⟨by simp [hc], hRv.cells (hRv.cells_one hn), ?_⟩
      simp only [hc, hzl2]
      rw [← Nat.succ_mul]
      exact Nat.mul_le_mul_right _ (by omega))
    have hfl := fillL_all (s := i.size) vs 0 [] zs (fun v hv => (elsOK_get hok v hv).2) (by simp) (by rw [hzl2, hlen])
    simp only [List.nil_append] at hfl
    rw [hfl] at h2
    -- the new row
    obtain ⟨γ', hI, hE, hrow, _⟩ := hr.inv.row_new e cells'
    have hrun : (execOp a.eval o).run P w = .ok (.value (.slice (some ⟨w.heap.size, 0, none⟩) len len)) (w.alloc (.cells cells' e)) := by
      have hns : ¬ (len * i.size > 16777216) := by omega
      by_cases h0 : len * i.size = 0
      · simp only [if_pos h0] at hZ
        rw [hZ] at h1
        simp only [execOp, ho, Instr.buildSlice, Sem.run_bind, run_underlying ht, Result.andThen_ok, sizeOf, typeInfo, run_program, hi, Sem.run_pure, Nat.reducePow, if_neg hns, if_pos h0]
        change ((Sem.run P (match Instr.fill _ _ _ with | some cells => _ | _ => _) w).andThen _) = _
        rw [h1]
        rfl
      · simp only [if_neg h0] at hZ
        rw [hZ] at h1
        simp only [execOp, ho, Instr.buildSlice, Sem.run_bind, run_underlying ht, Result.andThen_ok, sizeOf, typeInfo, zeroValue, run_program, hi, hzv, Sem.run_pure, Nat.reducePow, if_neg hns, if_neg h0]
        change ((Sem.run P (match Instr.fill _ _ _ with | some cells => _ | _ => _) w).andThen _) = _
        rw [h1]
        rfl
    have hcs : cells'.size = len * i.size := by
      have := h2.1
      rw [← List.length_map (as := vs) (f := V.cells)] at hlen
      simp only [Array.length_toList] at this
      rw [← this, flatten_length (s := i.size) (fun k el hel => by
        simp only [List.getElem?_map, Option.map_eq_some_iff] at hel
        obtain ⟨v, hv, rfl⟩ := hel
        exact (elsOK_get hok v (List.mem_of_getElem? hv)).2), hlen]
    have hels : ∀ (k : Nat) (el : List V), (vs.map V.cells)[k]? = some el → el.length = i.size := by
      intro k el hel
      simp only [List.getElem?_map, Option.map_eq_some_iff] at hel
      obtain ⟨v, hv, rfl⟩ := hel
      exact (elsOK_get hok v (List.mem_of_getElem? hv)).2
    have hnb := heap_alloc_new w (.cells cells' e)
    have h2' := h2.ext hE
    refine .value hrun hE hI ?_ h
    have hmk := R.slice (B := w0.heap.size) (γ := γ') (w := w.alloc (.cells cells' e)) .full i.size (vs.map V.cells) (some ⟨w.heap.size, 0, none⟩) len w.heap.size 0 (fun k => cells'.toList.getD k undef) hels (by simp [hlen]) (.inl rfl) (by simp [TagOK, hlen])
      (fun k x hk => ?_) (fun k x hk => ?_) (fun k x hk => ?_)
    · simpa [hlen] using hmk
    · obtain ⟨el, hel, hx⟩ := List.mem_flatten.1 (List.mem_of_getElem? hk)
      obtain ⟨v, hv, rfl⟩ := List.mem_map.1 hel
      obtain ⟨j, hj⟩ := List.getElem?_of_mem hv
      obtain ⟨j2, hj2⟩ := List.getElem?_of_mem hx
      have hjl : j < vs.length := (List.getElem?_eq_some_iff.1 hj).1
      have hjp : j < (parts.toList.map (·.2)).length := by simp [hl]; omega
      have hRv := hRL.2 j v _ hj (by rw [List.getElem?_map, List.getElem?_eq_getElem hjp]; rfl)
      exact hRv.cells_one (elsOK_get hok v hv).1 j2 x hj2
    · have hkl : k < cells'.size := by have := (List.getElem?_eq_some_iff.1 hk).1; have h9 := h2.1; simp only [Array.length_toList] at h9; omega
      refine ⟨.inr ⟨_, hrow, by simpa using hkl⟩, ?_⟩
      simp only [Nat.zero_add]
      rw [cell_of_row _ _ k _ _ _ hnb, List.getD_eq_getElem?_getD]
      simp [hkl]
    · have hkl : k < cells'.size := by have := (List.getElem?_eq_some_iff.1 hk).1; have h9 := h2.1; simp only [Array.length_toList] at h9; omega
      exact h2'.2 k x _ hk (by rw [List.getD_eq_getElem?_getD]; simp [hkl])
  · exact h.elim

theorem mm_sound : ∀ {vs : List V} {us : List Value} {m r : Int} {B : Nat} {γ : Gh}, RL B γ w vs us →
    (maxOf m vs = some r → (us.foldlM Builtin.max2 (.int .i64 m)).run P w = .ok (.int .i64 r) w) ∧ (minOf m vs = some r → (us.foldlM Builtin.min2 (.int .i64 m)).run P w = .ok (.int .i64 r) w)
  | [], us, m, r, B, γ, h => by
    obtain rfl := h.inv_nil
    exact ⟨fun e => by simp [maxOf] at e; subst e; simp, fun e => by simp [minOf] at e; subst e; simp⟩
  | v :: vs, us, m, r, B, γ, h => by
    obtain ⟨u, us', rfl, h1, h2⟩ := h.inv_cons
    refine ⟨fun e => ?_, fun e => ?_⟩
    · cases v <;> first | (simp [maxOf] at e; done) | skip
      rename_i k y
      cases k <;> first | (simp [maxOf] at e; done) | skip
      simp only [maxOf] at e
      cases h1
      have := (mm_sound (m := if y > m then y else m) (r := r) h2).1 e
      simp only [List.foldlM_cons, Builtin.max2, Sem.run_bind, Sem.run_pure, Result.andThen_ok]
      exact this
    · cases v <;> first | (simp [minOf] at e; done) | skip
      rename_i k y
      cases k <;> first | (simp [minOf] at e; done) | skip
      simp only [minOf] at e
      cases h1
      have := (mm_sound (m := if y < m then y else m) (r := r) h2).2 e
      simp only [List.foldlM_cons, Builtin.min2, Sem.run_bind, Sem.run_pure, Result.andThen_ok]
      exact this

theorem do_mm (hr : Rel G w0 γ σ w n ds sl a) {mx : Bool} {xs : Array Operand} {ts : Array TypeId} {oxs : List Opd} (ho : o.op = .call { callee := .builtin (if mx then .max else .min), args := xs, argTypes := ts }) (hx : trOpds xs.toList = some oxs) (h : sOp P G (.mm mx oxs) sl σ K Kp) : Does P G o a w w0 γ K Kp := by
  simp only [sOp] at h
  split at h
  · rename_i x r hv
    have hRL := evs_sound hr hx hv
    obtain ⟨u, us, hus, h1, h2⟩ := hRL.inv_cons
    cases h1
    have hm : (xs.map a.eval).toList = .int .i64 x :: us := by simpa using hus
    split at h
    · rename_i m hmm
      refine .same hr.inv (x := .int .i64 m) ?_ (.int _ _) h
      cases mx
      · have := (mm_sound (P := P) (w := w) (m := x) (r := m) h2).2 (by simpa using hmm)
        simp only [execOp, ho, resolve, invoke, builtin, Sem.run_bind, Sem.run_pure, Result.andThen_ok, Bool.false_eq_true, if_false, Builtin.min_, hm, this]
      · have := (mm_sound (P := P) (w := w) (m := x) (r := m) h2).1 (by simpa using hmm)
        simp only [execOp, ho, resolve, invoke, builtin, Sem.run_bind, Sem.run_pure, Result.andThen_ok, if_true, Builtin.max_, hm, this]
    · exact h.elim
  · exact h.elim

theorem R.retag {B : Nat} {γ : Gh} {w : World} {s s' : Nat} {es : List (List V)} {v : Value} (h : R B γ w (.slice .nil s es) v) : R B γ w (.slice .nil s' es) v := by
  cases h with
  | slice _ _ _ ad cap b off vs hs hl ha htg h1 hc hr =>
    obtain ⟨e1, e2, e3⟩ := htg
    have : es = [] := List.eq_nil_of_length_eq_zero e2
    subst this
    exact .slice .nil s' [] ad cap b off vs (by simp) hl ha ⟨e1, e2, e3⟩ (by simp) (by simp) (by simp)
theorem R.resize {B : Nat} {γ : Gh} {w : World} {s s' : Nat} {v : Value} {tag : Tag} (h : R B γ w (.slice tag s []) v) : R B γ w (.slice .foreign s' []) v := by
  cases h with
  | slice _ _ _ ad cap b off vs hs hl ha htg h1 hc hr => exact .slice .foreign s' [] ad cap b off vs (by simp) hl ha trivial (by simp) (by simp) (by simp)

theorem flatten_byteEls (l : List UInt8) : (byteEls l).flatten = l.map fun b => V.int .u8 b.toNat := by
  induction l with
  | nil => rfl
  | cons b l ih => simp only [byteEls, List.map_cons, List.flatten_cons] at ih ⊢; rw [ih]; rfl

theorem run_append_call {t t2 : TypeId} {x y : Operand} (ho : o.op = .call { callee := .builtin .append, args := #[x, y], argTypes := #[t, t2] }) :
    (execOp a.eval o).run P w = ((Builtin.append_ #[t, t2] o.type #[a.eval x, a.eval y]).run P w).andThen fun v w' => .ok (.value v) w' := by
  simp only [execOp, ho, resolve, invoke, builtin, Sem.run_bind, Sem.run_pure, Result.andThen_ok, List.map_toArray, List.map_cons, List.map_nil]

theorem do_append (hr : Rel G w0 γ σ w n ds sl a) {t t2 e e2 : TypeId} {x y : Operand} {ox oy : Opd} {i : TypeInfo} {z : Value} (ho : o.op = .call { callee := .builtin .append, args := #[x, y], argTypes := #[t, t2] }) (ht : P.underlying t = some (.slice e)) (hi : P.info? e = some i) (hz : i.zero = some z) (hzs : z.cells.size = i.size) (hsz : 0 < i.size)
    (ht2 : P.underlying t2 = some (.slice e2)) (hx : trOpd x = some ox) (hy : trOpd y = some oy) (h : sOp P G (.append i.size i.bytes ox oy) sl σ K Kp) : Does P G o a w w0 γ K Kp := by
  simp only [sOp] at h
  split at h
  · rename_i tag s' es tg2 s2 ns h1 h2
    obtain ⟨hs', hs2, hb, hb2, h⟩ := h
    have e1 := ev_sound hr hx h1
    have e2' := ev_sound hr hy h2
    cases ns with
    | nil =>
      simp only at h
      refine .same hr.inv (x := a.eval x) ?_ e1 h
      have hsrc : Src P w i.size t2 (a.eval y) 0 [] := by
        obtain ⟨news, g1, g2, g3⟩ := Src.of_slice (s := i.size) ht2 (e2'.resize (s' := i.size))
        have : news = [] := List.eq_nil_of_length_eq_zero (by simpa using g1.size)
        subst this; exact g1
      rw [run_append_call ho]
      generalize hxe : a.eval x = xe at e1
      cases e1 with | slice _ _ _ ad cap b off vs hs hl ha htg h1' hc hr' =>
      rw [run_app_none w t t2 o.type e i ht hi ad es.length cap (a.eval y) hsrc hl]
      rfl
    | cons nn ns =>
      have hs2' : s2 = i.size := by rcases hs2 with h | h; exact h; cases h
      subst hs2'
      obtain ⟨news, g1, g2, g3⟩ := Src.of_slice (w := w) ht2 e2'
      have hnse : ∀ (k : Nat) (el : List V), (nn :: ns)[k]? = some el → el.length = i.size := by
        have := e2'
        generalize a.eval y = ye at this
        cases this with | slice _ _ _ ad cap b off vs hs hl ha htg h1' hc hr' => exact hs
      have hns1 : ∀ (k : Nat) (x : V), (nn :: ns).flatten[k]? = some x → x.one = true := by
        have := e2'
        generalize a.eval y = ye at this
        cases this with | slice _ _ _ ad cap b off vs hs hl ha htg h1' hc hr' => exact h1'
      have e1' : R w0.heap.size γ w (.slice tag i.size es) (a.eval x) := by
        rcases hs' with rfl | rfl
        · exact e1.retag
        · exact e1
      have go : (tag = .nil ∨ tag = .full ∨ ∃ k, tag = .tip k ∧ σ.live k = true) → (∀ t', σ.live t' = false → K (.slice (.tip t') i.size (es ++ nn :: ns)) ((match tag with | .tip k => σ.off k | _ => σ).on t')) → Does P G o a w w0 γ K Kp := by
        intro htag hk
        obtain ⟨t', γ', v', w', hrun, hlv, hE, hI, hR⟩ := hr.inv.append (P := P) (t := t) (xT := t2) (ty := o.type) ht hi hz hzs e1' htag g1 hnse g2 hns1 (by simp) hb hb2
        exact .value (by rw [run_append_call ho, hrun]; rfl) hE hI hR (hk t' hlv)
      cases tag with
      | tip k => simp only at h; exact go (.inr (.inr ⟨k, rfl, h.1⟩)) h.2
      | foreign => exact h.elim
      | nil => exact go (.inl rfl) h
      | full => exact go (.inr (.inl rfl)) h
  · exact h.elim

theorem do_append_str (hr : Rel G w0 γ σ w n ds sl a) {t t2 e : TypeId} {x y : Operand} {ox oy : Opd} {i : TypeInfo} {z : Value} (ho : o.op = .call { callee := .builtin .append, args := #[x, y], argTypes := #[t, t2] }) (ht : P.underlying t = some (.slice e)) (hi : P.info? e = some i) (hz : i.zero = some z) (hzs : z.cells.size = i.size) (hs1 : i.size = 1)
    (ht2 : P.underlying t2 = some .string) (hx : trOpd x = some ox) (hy : trOpd y = some oy) (h : sOp P G (.appends i.bytes ox oy) sl σ K Kp) : Does P G o a w w0 γ K Kp := by
  simp only [sOp] at h
  split at h
  · rename_i tag s' es l h1 h2
    obtain ⟨hs', hb, hb2, h⟩ := h
    have hsz : 0 < i.size := by omega
    have e1 := ev_sound hr hx h1
    have e2' := ev_sound hr hy h2
    obtain ⟨s1, hye, hl1⟩ : ∃ s1 : ByteArray, a.eval y = .string s1 ∧ s1.data.toList = l := by
      generalize a.eval y = ye at e2'
      cases e2' with | str _ s1 q1 => exact ⟨s1, rfl, q1⟩
    have hsrc := Src.of_str (P := P) (w := w) ht2 l s1 hl1
    rw [← hye] at hsrc
    rw [← hs1] at hsrc
    cases l with
    | nil =>
      simp only at h
      refine .same hr.inv (x := a.eval x) ?_ e1 h
      rw [run_append_call ho]
      generalize hxe : a.eval x = xe at e1
      cases e1 with | slice _ _ _ ad cap b off vs hs hl ha htg h1' hc hr' =>
      rw [run_app_none w t t2 o.type e i ht hi ad es.length cap (a.eval y) hsrc hl]
      rfl
    | cons c l =>
      have e1' : R w0.heap.size γ w (.slice tag i.size es) (a.eval x) := by
        rcases hs' with rfl | rfl
        · exact e1.retag
        · rw [hs1]; exact e1
      have hflat := flatten_byteEls (c :: l)
      have hRLn : RL w0.heap.size γ w (byteEls (c :: l)).flatten ((c :: l).map fun b => Value.int .u8 b.toNat) := by
        rw [hflat]
        refine ⟨by simp, fun k x y hx hy => ?_⟩
        simp only [List.getElem?_map, Option.map_eq_some_iff] at hx hy
        obtain ⟨b1, hb1, rfl⟩ := hx
        obtain ⟨b2, hb2, rfl⟩ := hy
        rw [hb1] at hb2; injection hb2 with hb2; subst hb2
        exact .int _ _
      have hlen2 : (byteEls (c :: l)).length = (c :: l).length := by simp [byteEls]
      have hnse : ∀ (k : Nat) (el : List V), (byteEls (c :: l))[k]? = some el → el.length = i.size := by
        intro k el hel
        simp only [byteEls, List.getElem?_map, Option.map_eq_some_iff] at hel
        obtain ⟨b, _, rfl⟩ := hel
        simp [hs1]
      have hns1 : ∀ (k : Nat) (x : V), (byteEls (c :: l)).flatten[k]? = some x → x.one = true := by
        intro k x hx
        rw [hflat] at hx
        simp only [List.getElem?_map, Option.map_eq_some_iff] at hx
        obtain ⟨b, _, rfl⟩ := hx
        rfl
      rw [← hlen2] at hsrc hb hb2
      have go : (tag = .nil ∨ tag = .full ∨ ∃ k, tag = .tip k ∧ σ.live k = true) → (∀ t', σ.live t' = false → K (.slice (.tip t') 1 (es ++ byteEls (c :: l))) ((match tag with | .tip k => σ.off k | _ => σ).on t')) → Does P G o a w w0 γ K Kp := by
        intro htag hk
        obtain ⟨t', γ', v', w', hrun, hlv, hE, hI, hR⟩ := hr.inv.append (P := P) (t := t) (xT := t2) (ty := o.type) ht hi hz hzs e1' htag hsrc hnse hRLn hns1 (by simp [byteEls]) hb hb2
        rw [hs1] at hR
        exact .value (by rw [run_append_call ho, hrun]; rfl) hE hI hR (hk t' hlv)
      cases tag with
      | tip k => simp only at h; exact go (.inr (.inr ⟨k, rfl, h.1⟩)) h.2
      | foreign => exact h.elim
      | nil => exact go (.inl rfl) h
      | full => exact go (.inr (.inl rfl)) h
  · exact h.elim

theorem bytes_nums : ∀ {es : List (List V)} {l : List UInt8}, V.bytes es = some l → ∃ ns : List Int, es = ns.map (fun q => [V.int .u8 q]) ∧ l = ns.map fun q => UInt8.ofNat q.toNat
  | [], l, h => by simp [V.bytes] at h; subst h; exact ⟨[], rfl, rfl⟩
  | e :: es, l, h => by
    unfold V.bytes at h
    split at h
    · cases ‹_ :: _ = []›
    · rename_i q r heq
      injection heq with h1 h2; subst h1; subst h2
      split at h
      · simp only [Option.map_eq_some_iff] at h
        obtain ⟨l', hl', rfl⟩ := h
        obtain ⟨ns, e1, e2⟩ := bytes_nums hl'
        exact ⟨q :: ns, by simp [e1], by simp [e2]⟩
      · cases h
    · cases h

theorem do_b2s (hr : Rel G w0 γ σ w n ds sl a) {s t e : TypeId} {x : Operand} {ox : Opd} (ho : o.op = .convert s t x) (hs : P.underlying s = some (.slice e)) (he : P.underlying e = some (.int .u8)) (ht : P.underlying t = some .string) (hx : trOpd x = some ox) (h : sOp P G (.b2s ox) sl σ K Kp) : Does P G o a w w0 γ K Kp := by
  simp only [sOp] at h
  split at h
  · rename_i tag s' es h1
    obtain ⟨hs1, h⟩ := h
    split at h
    · rename_i l hl
      have e1 := ev_sound hr hx h1
      generalize hxe : a.eval x = xe at e1
      obtain ⟨ns, hes, hln⟩ := bytes_nums hl
      cases e1 with | slice _ _ _ ad cap b off vs hsz hcap ha htg h1' hc hr' =>
      have hflat : es.flatten = ns.map fun q => V.int .u8 q := by
        rw [hes]; clear hes hln; induction ns with
        | nil => rfl
        | cons q ns ih => simp [ih]
      have hlen : es.length = ns.length := by rw [hes]; simp
      have hstr : (strOfNums ns).data.toList = l := by rw [strOfNums_data, hln]
      refine .same hr.inv (x := .string (strOfNums ns)) ?_ (.str _ _ hstr) h
      rcases ha with rfl | ⟨rfl, rfl⟩
      · have := run_convert_bytes_arg (P := P) w s e hs he b off es.length cap ns hlen.symm (fun k hk => by
          have hk' : k < ns.length := by omega
          have hx' : es.flatten[k]? = some (V.int .u8 ns[k]) := by rw [hflat]; simp [hk']
          have h2 := hr' k _ hx'
          have h3 := (hc k _ hx').2
          generalize vs k = vk at h2 h3
          cases h2
          rw [h3]; simp [hk']) t ht
        simp only [execOp, ho, hxe, Sem.run_bind, this, Result.andThen_ok]; rfl
      · have : ns = [] := List.eq_nil_of_length_eq_zero (by simpa using hlen.symm)
        subst this
        have := run_convert_bytes_nil (P := P) w s e hs he 0 cap t ht
        simp only [execOp, ho, hxe, Sem.run_bind, List.length_nil, this, Result.andThen_ok]; rfl
    · exact h.elim
  · rename_i b off len cap h1
    split at h
    · rename_i cs hcs
      obtain ⟨hle, h⟩ := h
      split at h
      · rename_i l hl
        have e1 := ev_sound hr hx h1
        generalize hxe : a.eval x = xe at e1
        cases e1
        obtain ⟨ns, hes, hln⟩ := bytes_nums hl
        obtain ⟨_, _, _, vs, ty, hh, hRL⟩ := hr.inv.box b cs hcs
        have hlen : len = ns.length := by have := congrArg List.length hes; simp at this; omega
        have hstr : (strOfNums ns).data.toList = l := by rw [strOfNums_data, hln]
        refine .same hr.inv (x := .string (strOfNums ns)) ?_ (.str _ _ hstr) h
        have := run_convert_bytes_arg (P := P) w s e hs he b off len cap ns hlen.symm (fun k hk => by
          have hk' : k < ns.length := by omega
          have hx' : cs[off + k]? = some (V.int .u8 ns[k]) := by
            have h3 := congrArg (fun L => L[k]?) hes
            simp only [List.getElem?_map, List.getElem?_take, List.getElem?_drop] at h3
            rw [if_pos hk] at h3
            have hlt : off + k < cs.length := by omega
            rw [List.getElem?_eq_getElem hlt, List.getElem?_eq_getElem hk'] at h3
            simp only [Option.map_some, Option.some.injEq, List.cons.injEq, and_true] at h3
            rw [List.getElem?_eq_getElem hlt, h3]
          have hvl : off + k < vs.size := by have := hRL.1; simp at this; omega
          have h2 := hRL.2 (off + k) _ vs[off + k] hx' (by simp [hvl])
          have hcell : w.cell? ⟨b, off + k, none⟩ = some vs[off + k] := by
            simp [World.cell?, hh, hvl]
          rw [hcell]
          generalize vs[off + k] = vk at h2
          cases h2
          simp [hk']) t ht
        simp only [execOp, ho, hxe, Sem.run_bind, this, Result.andThen_ok]; rfl
      · exact h.elim
    · exact h.elim
  · exact h.elim

theorem cell_freeze (w : World) (ad : Addr) (k : Nat) (b : Addr) : (w.freeze ad k).cell? b = w.cell? b := by
  unfold World.freeze
  split
  · rfl
  · simp only [World.cell?, Array.getElem?_modify]
    by_cases hb : ad.block = b.block
    · simp only [if_pos hb]
      cases w.heap[b.block]? with
      | none => rfl
      | some o => cases o <;> simp
    · simp only [if_neg hb]
theorem shape_freeze (w : World) (ad : Addr) (k : Nat) (b : Nat) : (w.freeze ad k).shape? b = w.shape? b := by
  unfold World.freeze
  split
  · rfl
  · simp only [World.shape?, Array.getElem?_modify]
    by_cases hb : ad.block = b
    · simp only [if_pos hb]
      cases w.heap[b]? with
      | none => rfl
      | some o => cases o <;> simp
    · simp only [if_neg hb]
theorem heap_freeze (w : World) (ad : Addr) (k : Nat) (b : Nat) (h : b ≠ ad.block) : (w.freeze ad k).heap[b]? = w.heap[b]? := by
  unfold World.freeze
  split
  · rfl
  · simp [Array.getElem?_modify, Ne.symm h]
theorem size_freeze (w : World) (ad : Addr) (k : Nat) : (w.freeze ad k).heap.size = w.heap.size := by
  unfold World.freeze
  split <;> simp

theorem heap_freeze_map (w : World) (ad : Addr) (k : Nat) (r : Nat) {es : Array MapEntry} {c : Nat} (h : w.heap[r]? = some (.map es c)) : (w.freeze ad k).heap[r]? = some (.map es c) := by
  unfold World.freeze
  split
  · exact h
  · simp only [Array.getElem?_modify, h]
    split <;> rfl
/-- Cells of a row are marked as a string's. -/
theorem Inv.freeze {G : Globs} {w0 w : World} {γ : Gh} {σ : St} (hI : Inv G w0 γ σ w) {b u : Nat} (off k : Nat) (hrow : γ.row b = some u) (htip : ∀ t, γ.tip t ≠ some b) :
    Inv G w0 γ σ (w.freeze ⟨b, off, none⟩ k) ∧ Ext w0.heap.size γ w γ (w.freeze ⟨b, off, none⟩ k) := by
  have hB := (hI.rowlt b u hrow).1
  have he : Ext w0.heap.size γ w γ (w.freeze ⟨b, off, none⟩ k) := ⟨by rw [size_freeze]; exact Nat.le_refl _, fun b' o v _ hc => by rw [cell_freeze]; exact hc, fun _ u hu => ⟨u, hu, Nat.le_refl _⟩, Nat.le_refl _, fun _ _ _ hg => ⟨hg, rfl⟩, fun b' x hx => by rw [shape_freeze]; exact hx⟩
  refine ⟨hI.ext he (hI.bel.trans ⟨?_, ?_, ?_, by rw [size_freeze]; exact Nat.le_refl _, fun c hc => heap_freeze w _ k c (by simp only; omega)⟩) (fun c cs h => ?_) hI.live (fun t g h => ?_) hI.inj (fun c u' h => ?_) (fun r es c' h => ?_), he⟩
  · unfold World.freeze; split <;> rfl
  · unfold World.freeze; split <;> rfl
  · unfold World.freeze; split <;> rfl
  · obtain ⟨h1, h2, h3, vs, ty, h4, h5⟩ := hI.box c cs h
    have hne : c ≠ b := by rintro rfl; rw [hrow] at h2; cases h2
    exact ⟨h1, h2, h3, vs, ty, (heap_freeze w _ k c hne).trans h4, h5.ext he⟩
  · obtain ⟨h1, h2, u', vs, ty, h3, h4, h5⟩ := hI.tip t g h
    have hne : g ≠ b := by rintro rfl; exact htip t h
    exact ⟨h1, h2, u', vs, ty, h3, (heap_freeze w _ k g hne).trans h4, h5⟩
  · have := hI.rowlt c u' h
    exact ⟨this.1, by rw [size_freeze]; exact this.2⟩
  · exact heap_freeze_map w _ k r h

theorem do_s2b (hr : Rel G w0 γ σ w n ds sl a) {s t e : TypeId} {x : Operand} {ox : Opd} (ho : o.op = .convert s t x) (hs : P.underlying s = some .string) (ht : P.underlying t = some (.slice e)) (he : P.underlying e = some (.int .u8)) (hx : trOpd x = some ox) (h : sOp P G (.s2b ox) sl σ K Kp) : Does P G o a w w0 γ K Kp := by
  simp only [sOp] at h
  split at h
  · rename_i l h1
    have e1 := ev_sound hr hx h1
    generalize hxe : a.eval x = xe at e1
    cases e1 with | str _ s1 q1 =>
    have hsz : s1.size = l.length := by rw [← q1]; rfl
    generalize hcap : (Question.appendCap l.length 0 e).cut (w.tape w.drawn (.appendCap l.length 0 e)) = cap
    have hge : l.length ≤ cap := by rw [← hcap]; simp [Question.cut]
    generalize hC : (s1.data.map fun b => Value.int .u8 b.toNat) ++ Array.replicate (cap - l.length) (Value.int .u8 0) = C
    obtain ⟨hI1, hE1⟩ := hr.inv.drew
    obtain ⟨γ', hI2, hE2, hrow, htp⟩ := hI1.row_new e C
    have hE := hE1.trans hE2
    have hWs : w.drew.heap.size = w.heap.size := rfl
    rw [hWs] at hrow
    have htip : ∀ t, γ'.tip t ≠ some w.heap.size := by
      intro t ht'
      rw [htp] at ht'
      obtain ⟨_, _, u0, vs0, ty0, _, h40, _⟩ := hr.inv.tip t _ ht'
      have := lt_of_heap h40; omega
    obtain ⟨hI3, hE3⟩ := hI2.freeze C.size 1 hrow htip
    have hE' := hE.trans hE3
    refine .value (w' := (w.drew.alloc (.cells C e)).freeze ⟨w.heap.size, C.size, none⟩ 1) (x := .slice (some ⟨w.heap.size, 0, none⟩) l.length cap) ?_ hE' hI3 ?_ h
    · have hsh : (w.drew.alloc (.cells C e)).shape? w.heap.size = some (e, C.size) := by
        have := heap_alloc_new w.drew (.cells C e)
        rw [hWs] at this
        simp only [World.shape?, this]
      have hCs : C.size = cap := by rw [← hC]; simp; omega
      simp [execOp, ho, hxe, convert, run_underlying hs, run_underlying ht, run_underlying he, Conv.stringToBytes, Question.forced, hsz, hcap, hC, newRow, markStringish, hsh, hCs]
    · have hnb := heap_alloc_new w.drew (.cells C e)
      rw [hWs] at hnb
      have hflat := flatten_byteEls l
      have hmk := R.slice (B := w0.heap.size) (γ := γ') (w := (w.drew.alloc (.cells C e)).freeze ⟨w.heap.size, C.size, none⟩ 1) .foreign 1 (byteEls l) (some ⟨w.heap.size, 0, none⟩) cap w.heap.size 0 (fun k => Value.int .u8 (l.getD k 0).toNat)
        (fun k el hel => by simp only [byteEls, List.getElem?_map, Option.map_eq_some_iff] at hel; obtain ⟨b, _, rfl⟩ := hel; rfl) (by simp [byteEls]; exact hge) (.inl rfl) trivial (fun k y hk => ?_) (fun k y hk => ?_) (fun k y hk => ?_)
      · simpa [byteEls] using hmk
      · rw [hflat] at hk; simp only [List.getElem?_map, Option.map_eq_some_iff] at hk; obtain ⟨b, _, rfl⟩ := hk; rfl
      · rw [hflat] at hk; simp only [List.getElem?_map, Option.map_eq_some_iff] at hk; obtain ⟨b, hb, rfl⟩ := hk
        have hkl : k < l.length := (List.getElem?_eq_some_iff.1 hb).1
        have hCk : C[k]? = some (.int .u8 b.toNat) := by
          rw [← hC, Array.getElem?_append_left (by simp; omega)]
          have : s1.data[k]? = some b := by rw [← Array.getElem?_toList, q1]; exact hb
          simp [this]
        refine ⟨.inr ⟨_, hrow, by have := (Array.getElem?_eq_some_iff.1 hCk).1; simpa using this⟩, ?_⟩
        rw [cell_freeze, Nat.zero_add, cell_of_row _ _ k _ _ _ hnb, hCk]
        simp [List.getD_eq_getElem?_getD, hb]
      · rw [hflat] at hk; simp only [List.getElem?_map, Option.map_eq_some_iff] at hk; obtain ⟨b, hb, rfl⟩ := hk
        simp only [List.getD_eq_getElem?_getD, hb, Option.getD_some]
        exact .int _ _
  · exact h.elim

theorem scall_does {f : FuncId} {vs : List V} {xs : Array Value} (hI : Inv G w0 γ σ w) (hRL : RL w0.heap.size γ w vs xs.toList) (hrun : (execOp a.eval o).run P w = (callFunc f xs).run P w)
    (h : SCall P G f vs σ fun e σ' => match e with | .ret v => K v σ' | .pan v => Kp v σ') : Does P G o a w w0 γ K Kp := by
  intro next Q hK hKp
  rw [hrun]
  rcases h w0 γ w xs hI hRL with ⟨h1, h2⟩ | ⟨x, w', h1, γ', σ', h2, h3, r, y, h4, h5⟩
  · rw [h1]
    refine h2.mono ?_
    rintro e w' ⟨γ', σ', h2, h3, r, y, h4, h5⟩
    rcases h5 with ⟨rfl, h5⟩ | ⟨rfl, h5⟩
    · exact hK γ' σ' w' r y h2 h3 h4 h5
    · exact hKp γ' σ' w' r y h2 h3 h4 h5
  · rw [h1]
    rcases h5 with ⟨h5, h6⟩ | ⟨h5, h6⟩
    · injection h5 with h5; subst h5
      exact hK γ' σ' w' r x h2 h3 h4 h6
    · cases h5

theorem do_call (hr : Rel G w0 γ σ w n ds sl a) {f : FuncId} {xs : Array Operand} {ts : Array TypeId} {oxs : List Opd} (ho : o.op = .call { callee := .value (.func f), args := xs, argTypes := ts }) (hx : trOpds xs.toList = some oxs) (h : sOp P G (.call f oxs) sl σ K Kp) : Does P G o a w w0 γ K Kp := by
  simp only [sOp] at h
  split at h
  · rename_i vs hv
    have hRL := evs_sound hr hx hv
    refine scall_does hr.inv (xs := xs.map a.eval) (by simpa using hRL) ?_ h
    simp [execOp, ho, resolve, Deferred.ofValue, Act.eval, invoke]
  · exact h.elim

theorem do_callv (hr : Rel G w0 γ σ w n ds sl a) {x : Operand} {ox : Opd} {xs : Array Operand} {ts : Array TypeId} {oxs : List Opd} (ho : o.op = .call { callee := .value x, args := xs, argTypes := ts }) (hx0 : trOpd x = some ox) (hx : trOpds xs.toList = some oxs) (h : sOp P G (.callv ox oxs) sl σ K Kp) : Does P G o a w w0 γ K Kp := by
  simp only [sOp] at h
  split at h
  · rename_i f u1 u2 vs h1 hv
    have hRL := evs_sound hr hx hv
    have e1 := ev_sound hr hx0 h1
    generalize hxe : a.eval x = xe at e1
    cases e1 with | func _ _ _ fs cs hl1 hl2 hr1 hr2 =>
    have r1 : RL w0.heap.size γ w u1 fs.toList := ⟨by simpa using hl1, fun i x y hx hy => hr1 i x y hx (by simpa using hy)⟩
    have r2 : RL w0.heap.size γ w u2 cs.toList := ⟨by simpa using hl2, fun i x y hx hy => hr2 i x y hx (by simpa using hy)⟩
    refine scall_does hr.inv (xs := fs ++ xs.map a.eval ++ cs) (by simpa using (r1.append hRL).append r2) ?_ h
    simp [execOp, ho, resolve, hxe, Deferred.ofValue, invoke]
  · exact h.elim

end
end Go.Shadow
