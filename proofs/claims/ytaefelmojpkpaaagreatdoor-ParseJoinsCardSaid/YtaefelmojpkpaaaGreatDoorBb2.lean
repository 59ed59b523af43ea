/- Proved: parts of the proof: THE SHADOW LOGIC, part 16: the same, cut for stepping: each place where a proof has to say something is a structure of its own; THE SHADOW LOGIC, part 19: functions that defer calls; THE SHADOW LOGIC, part 22: deferred functions that recover; Shadow code of the parser (printed by a program); Shadow code of the functions of the lexer (printed by a program); DERIVED: THE SHELF's CONTRACTS AT THIS DUMP, IN PLAIN WORDS (tools/lay-plain; THE SHADOW LOGIC, part 17: contracts proved otherwise ('Calls') taken over; The library's functions that the lexer calls, as shadow contracts; Proved: what the lex. Conditions: as each theorem says. -/
import Derived.Test.YtaefelmojpkpaaaGreatDoorBb1
import Derived.IntWalk
import Derived.Defers
import Derived.Recover
import Derived.Test.YtaefelmojpkpaaaGreatDoorProg
import Derived.Shelf.Strings.Builder1
import Derived.Shelf.Strings.Builder2
import Derived.Shelf.Strings.OnBuilder
import Derived.Shelf.Small.Strs
import Derived.Shelf.Strings.BuilderF
import Derived.Shelf.Utf8.RuneCount
import Derived.Shelf.Strings.Builder2Cap
import Derived.Shelf.Strconv.Atoi
import Derived.Shelf.Strconv.Itoa0
import Derived.Shelf.Strconv.Itoa1
import Derived.Shelf.LaysM
import Derived.Shelf.Strconv.Itoa2
import Derived.Shelf.Strconv.Itoa3
import Derived.Shelf.Strconv.AtoiErrFast
import Derived.Shelf.Strconv.ParseIntEmpty
import Derived.Shelf.Strconv.AtoiFail
import Derived.Shelf.Strconv.Clone
import Derived.Shelf.Strconv.SyntaxError
import Derived.Shelf.LaysC
import Derived.Shelf.Strconv.ToError
import Derived.Shelf.Strconv.Lower
import Derived.Shelf.Strconv.ParseUint10
import Derived.Shelf.Strconv.ParseUint10Empty
import Derived.Shelf.Strconv.ParseUint10Any
import Derived.Shelf.Strconv.ParseInt10
import Derived.Shelf.Strconv.AtoiLong
import Derived.Shelf.Strconv.AtoiInnerAll
import Derived.Shelf.Strconv.RangeError
import Derived.Shelf.Strconv.ToErrorRange
import Derived.Shelf.Strconv.AtoiAll
import Derived.Shelf.Strconv.ParseUintEmpty
import Derived.Shelf.Strings.Search1
import Derived.Shelf.Strings.Search2
import Derived.Shelf.Strings.Search3
import Derived.Shelf.Strings.Count
import Derived.Shelf.Strings.Shaped
import Derived.Shelf.Strings.Prefix
import Derived.Shelf.Strings.Split
import Derived.Shelf.Strings.Fields
import Derived.Shelf.Strings.SplitShaped
import Derived.Shelf.Unicode.Latin
import Derived.Shelf.Strings.RuneCount
import Derived.Shelf.Unicode.Is16White
import Derived.Shelf.Unicode.IsSpaceAny
import Derived.Shelf.Unicode.Is16WhiteD
import Derived.Shelf.Unicode.IsSpaceAnyD
import Derived.Shelf.Strings.FieldsAny
import Derived.Shelf.Strings.FieldsFuncAny
import Derived.Shelf.Unicode.Is16Any
import Derived.Shelf.Unicode.Is32Any
import Derived.Shelf.Unicode.ExclAny
import Derived.Shelf.Abstract
import Derived.Lib.AppendIntMem
import Derived.Lib.AtoiErrMem

/- THE SHADOW LOGIC, part 16: the same, cut for stepping: each place where a proof has to say something is a structure of its own. -/
namespace Go.Shadow
open Go Go.RowKit

/-! ### stops -/
structure Test (p : Prop) [Decidable p] (K : V → Prop) : Prop where
  h : K (.bool (decide p))
theorem Test.split {p : Prop} [Decidable p] {K : V → Prop} (h1 : p → K (.bool true)) (h2 : ¬ p → K (.bool false)) : Test p K := by
  constructor
  by_cases hp : p
  · rw [decide_eq_true hp]; exact h1 hp
  · rw [decide_eq_false hp]; exact h2 hp
theorem Test.yes {p : Prop} [Decidable p] {K : V → Prop} (hp : p) (h : K (.bool true)) : Test p K := .split (fun _ => h) (fun n => absurd hp n)
theorem Test.no {p : Prop} [Decidable p] {K : V → Prop} (hp : ¬ p) (h : K (.bool false)) : Test p K := .split (fun n => absurd n hp) (fun _ => h)

structure BTest (b : Bool) (K : V → Prop) : Prop where
  h : K (.bool b)
theorem BTest.split {b : Bool} {K : V → Prop} (h1 : b = true → K (.bool true)) (h2 : b = false → K (.bool false)) : BTest b K := by
  constructor
  cases b
  · exact h2 rfl
  · exact h1 rfl

theorem BTest.yes {b : Bool} {K : V → Prop} (hb : b = true) (h : K (.bool true)) : BTest b K := .split (fun _ => h) (fun n => by rw [hb] at n; cases n)
theorem BTest.no {b : Bool} {K : V → Prop} (hb : b = false) (h : K (.bool false)) : BTest b K := .split (fun n => by rw [hb] at n; cases n) (fun _ => h)

structure Arith (k : IntKind) (z : Int) (K : V → Prop) : Prop where
  h : K (.int k (k.wrap z))
theorem Arith.i64 {z : Int} {K : V → Prop} (y : Int) (e : z = y) (h : -9223372036854775808 ≤ y ∧ y ≤ 9223372036854775807) (k : K (.int .i64 y)) : Arith .i64 z K := by
  subst e; exact ⟨by rw [IntWalk.i64_in _ h]; exact k⟩
theorem Arith.u8 {z : Int} {K : V → Prop} (y : Int) (e : z = y) (h : 0 ≤ y ∧ y ≤ 255) (k : K (.int .u8 y)) : Arith .u8 z K := by
  subst e; exact ⟨by rw [IntWalk.u8_in _ h]; exact k⟩

structure Load (σ : St) (b off n : Nat) (K : List V → Prop) : Prop where
  h : ∃ cs, σ.box b = some cs ∧ off + n ≤ cs.length ∧ K ((cs.drop off).take n)
theorem Load.mk' {σ : St} {b off n : Nat} {K : List V → Prop} {cs : List V} (hb : σ.box b = some cs) (hl : off + n ≤ cs.length) (k : K ((cs.drop off).take n)) : Load σ b off n K := ⟨cs, hb, hl, k⟩
structure Store (σ : St) (b off : Nat) (vs : List V) (K : St → Prop) : Prop where
  h : ∃ cs, σ.box b = some cs ∧ off + vs.length ≤ cs.length ∧ K (σ.put b (setL cs off vs))
theorem Store.mk' {σ : St} {b off : Nat} {vs : List V} {K : St → Prop} {cs : List V} (cs' : List V) (hb : σ.box b = some cs) (hl : off + vs.length ≤ cs.length) (e : setL cs off vs = cs') (k : ∀ σ', σ' = σ.put b cs' → K σ') : Store σ b off vs K :=
  ⟨cs, hb, hl, k _ (by rw [e])⟩
structure RefLoad (cs : List V) (n : Nat) (K : List V → Prop) : Prop where
  h : n ≤ cs.length ∧ K (cs.take n)

/-- An entry that is put into a map, and one that is looked up. -/
structure MIns (kd r : Nat) (k v : V) (σ : St) (K : V → St → Prop) : Prop where
  h : ∃ es, σ.map r = some es ∧ leafS kd k = true ∧ v.notTup' = true ∧ findV k es = some none ∧ K (.tup []) (σ.putm r (es ++ [(k, v)]))
theorem MIns.mk' {kd r : Nat} {k v : V} {σ : St} {K : V → St → Prop} {es : List (V × V)} (he : σ.map r = some es) (hs : leafS kd k = true ∧ v.notTup' = true ∧ findV k es = some none) (h : ∀ σ', σ' = σ.putm r (es ++ [(k, v)]) → K (.tup []) σ') : MIns kd r k v σ K :=
  ⟨es, he, hs.1, hs.2.1, hs.2.2, h _ rfl⟩
structure MLook (kd r : Nat) (k : V) (z : Option V) (ok : Bool) (σ : St) (K : V → St → Prop) : Prop where
  h : ∃ es, σ.map r = some es ∧ leafS kd k = true ∧ match findV k es with
    | some (some v) => K (if ok = true then .tup [v, .bool true] else v) σ
    | some none => match z with
      | some z => K (if ok = true then .tup [z, .bool false] else z) σ
      | none => False
    | none => False
theorem MLook.mk' {kd r : Nat} {k : V} {z : Option V} {ok : Bool} {σ : St} {K : V → St → Prop} {es : List (V × V)} {v : V} (he : σ.map r = some es) (hl : leafS kd k = true) (hf : findV k es = some (some v)) (h : K (if ok = true then .tup [v, .bool true] else v) σ) : MLook kd r k z ok σ K :=
  ⟨es, he, hl, by simp only [hf]; exact h⟩
theorem MLook.none {kd r : Nat} {k z : V} {ok : Bool} {σ : St} {K : V → St → Prop} {es : List (V × V)} (he : σ.map r = some es) (hl : leafS kd k = true) (hf : findV k es = some Option.none) (h : K (if ok = true then .tup [z, .bool false] else z) σ) : MLook kd r k (some z) ok σ K :=
  ⟨es, he, hl, by simp only [hf]; exact h⟩

structure Idx (l : List UInt8) (i : Int) (K : UInt8 → Prop) : Prop where
  h : 0 ≤ i ∧ ∃ c, l[i.toNat]? = some c ∧ K c
theorem Idx.mk' {l : List UInt8} {i : Int} {K : UInt8 → Prop} (n : Nat) (c : UInt8) (e : i = n) (hc : l[n]? = some c) (k : K c) : Idx l i K := by subst e; exact ⟨by omega, c, by simpa using hc, k⟩
structure IdxE (es : List (List V)) (i : Int) (K : List V → Prop) : Prop where
  h : 0 ≤ i ∧ ∃ e, es[i.toNat]? = some e ∧ K e
theorem IdxE.mk' {es : List (List V)} {i : Int} {K : List V → Prop} (n : Nat) (c : List V) (e : i = n) (hc : es[n]? = some c) (k : K c) : IdxE es i K := by subst e; exact ⟨by omega, c, by simpa using hc, k⟩
structure Cut {α : Type} (l : List α) (i j : Int) (K : List α → Prop) : Prop where
  h : 0 ≤ i ∧ i ≤ j ∧ j ≤ l.length ∧ K ((l.take j.toNat).drop i.toNat)
theorem Cut.mk' {α : Type} {l : List α} {i j : Int} {K : List α → Prop} (a b : Nat) (e1 : i = a) (e2 : j = b) (h1 : a ≤ b) (h2 : b ≤ l.length) (k : K ((l.take b).drop a)) : Cut l i j K := by
  subst e1; subst e2; exact ⟨by omega, by omega, by omega, by simpa using k⟩
structure CutR {α : Type} (l : List α) (i : Int) (K : List α → Prop) : Prop where
  h : 0 ≤ i ∧ i ≤ l.length ∧ K (l.drop i.toNat)
theorem CutR.mk' {α : Type} {l : List α} {i : Int} {K : List α → Prop} (a : Nat) (e1 : i = a) (h2 : a ≤ l.length) (k : K (l.drop a)) : CutR l i K := by
  subst e1; exact ⟨by omega, by omega, by simpa using k⟩
structure CutL {α : Type} (l : List α) (j : Int) (K : List α → Prop) : Prop where
  h : 0 ≤ j ∧ j ≤ l.length ∧ K (l.take j.toNat)
theorem CutL.mk' {α : Type} {l : List α} {j : Int} {K : List α → Prop} (b : Nat) (e1 : j = b) (h2 : b ≤ l.length) (k : K (l.take b)) : CutL l j K := by
  subst e1; exact ⟨by omega, by omega, by simpa using k⟩

structure CallK (P : Program) (G : Globs) (f : FuncId) (args : List V) (σ : St) (K Kp : V → St → Prop) : Prop where
  h : SCall P G f args σ fun e σ' => match e with
      | .ret v => K v σ'
      | .pan v => Kp v σ'
theorem CallK.mk' {P : Program} {G : Globs} {f : FuncId} {args : List V} {σ : St} {K Kp : V → St → Prop} {Post : SEnd → St → Prop} (h : SCall P G f args σ Post) (k : ∀ e σ', Post e σ' → match e with
      | .ret v => K v σ'
      | .pan v => Kp v σ') : CallK P G f args σ K Kp := ⟨h.mono k⟩
/-- A call that returns a value and leaves all as it was. -/
def SRet (P : Program) (G : Globs) (f : FuncId) (args : List V) (r : V) : Prop := ∀ σ, SCall P G f args σ fun e σ' => σ' = σ ∧ e = .ret r
theorem CallK.pure {P : Program} {G : Globs} {f : FuncId} {args : List V} {σ : St} {K Kp : V → St → Prop} {r : V} (h : SRet P G f args r) (k : K r σ) : CallK P G f args σ K Kp :=
  .mk' (h σ) (by rintro e σ' ⟨rfl, rfl⟩; exact k)

structure App (s : Nat) (bytes : Nat) (tag : Tag) (s' : Nat) (es : List (List V)) (s2 : Nat) (ns : List (List V)) (σ : St) (K : V → St → Prop) : Prop where
  h : (tag = .nil ∨ s' = s) ∧ (s2 = s ∨ ns = []) ∧ (es.length + ns.length) * bytes ≤ 140737488355328 ∧ es.length + ns.length ≤ 9223372036854775807 ∧
      match ns, tag with
      | [], _ => K (.slice tag s' es) σ
      | _ :: _, .tip k => σ.live k = true ∧ ∀ t', σ.live t' = false → K (.slice (.tip t') s (es ++ ns)) ((σ.off k).on t')
      | _ :: _, .foreign => False
      | _ :: _, _ => ∀ t', σ.live t' = false → K (.slice (.tip t') s (es ++ ns)) (σ.on t')
structure AppS (bytes : Nat) (tag : Tag) (s' : Nat) (es : List (List V)) (l : List UInt8) (σ : St) (K : V → St → Prop) : Prop where
  h : (tag = .nil ∨ s' = 1) ∧ (es.length + l.length) * bytes ≤ 140737488355328 ∧ es.length + l.length ≤ 9223372036854775807 ∧
      match l, tag with
      | [], _ => K (.slice tag s' es) σ
      | _ :: _, .tip k => σ.live k = true ∧ ∀ t', σ.live t' = false → K (.slice (.tip t') 1 (es ++ byteEls l)) ((σ.off k).on t')
      | _ :: _, .foreign => False
      | _ :: _, _ => ∀ t', σ.live t' = false → K (.slice (.tip t') 1 (es ++ byteEls l)) (σ.on t')

/-- A slice whose spare room is this call's own, out of the state 'σ1'. -/
def Mine (σ1 σ : St) : Tag → Prop
  | .foreign => False
  | .tip t => σ.live t = true ∧ σ1.live t = false
  | _ => True
theorem Mine.over {σ1 σ σ' : St} {tag : Tag} (h : Mine σ1 σ tag) (o : Over σ σ') : Mine σ1 σ' tag := by
  cases tag with
  | tip t => exact ⟨o.live t h.1, h.2⟩
  | _ => exact h
theorem App.mk' {s bytes : Nat} {tag : Tag} {s' : Nat} {es : List (List V)} {s2 : Nat} {ns : List (List V)} {σ σ1 : St} {K : V → St → Prop} (o : Over σ1 σ) (m : Mine σ1 σ tag) (hs : tag = .nil ∨ s' = s) (hs2 : s2 = s) (hb : (es.length + ns.length) * bytes ≤ 140737488355328) (hb0 : es.length + ns.length ≤ 9223372036854775807)
    (hn : ns ≠ []) (k : ∀ t' σ', Over σ1 σ' → Mine σ1 σ' (.tip t') → σ'.box = σ.box → (∀ t, σ.live t = true → tag ≠ .tip t → σ'.live t = true ∧ t ≠ t') → K (.slice (.tip t') s (es ++ ns)) σ') : App s bytes tag s' es s2 ns σ K := by
  refine ⟨hs, .inl hs2, hb, hb0, ?_⟩
  have on : ∀ t', σ.live t' = false → Over σ1 (σ.on t') ∧ Mine σ1 (σ.on t') (.tip t') ∧ (∀ t, σ.live t = true → (σ.on t').live t = true ∧ t ≠ t') := by
    intro t' ht'
    refine ⟨⟨o.box, fun t h => by simp [St.on, o.live t h], o.map⟩, ⟨by simp [St.on], ?_⟩, fun t h => ⟨by simp [St.on, h], fun e => by subst e; rw [h] at ht'; cases ht'⟩⟩
    cases h : σ1.live t' with
    | false => rfl
    | true => rw [o.live t' h] at ht'; cases ht'
  match ns, hn with
  | n :: ns, _ =>
    cases tag with
    | nil => exact fun t' h => k t' _ (on t' h).1 (on t' h).2.1 rfl (fun t ht _ => (on t' h).2.2 t ht)
    | full => exact fun t' h => k t' _ (on t' h).1 (on t' h).2.1 rfl (fun t ht _ => (on t' h).2.2 t ht)
    | foreign => exact m.elim
    | tip u =>
      refine ⟨m.1, fun t' h => k t' _ ⟨o.box, fun t ht => ?_, o.map⟩ ⟨by simp [St.on], (on t' h).2.1.2⟩ rfl (fun t ht hne => ⟨?_, ?_⟩)⟩
      · have hne : t ≠ u := fun e => by subst e; rw [m.2] at ht; cases ht
        simp [St.on, St.off, o.live t ht, hne]
      · have hne' : t ≠ u := fun e => hne (by rw [e])
        simp [St.on, St.off, ht, hne']
      · intro e; subst e; rw [ht] at h; cases h

def BrE (b : Bool) (x y : Prop) : Prop := match b with
  | true => x
  | false => y
theorem BrE.br {b : Bool} {x y : Prop} (h : BrE b x y) : Br b x y := by
  cases b
  · simpa [BrE, Br_true, Br_false] using h
  · simpa [BrE, Br_true, Br_false] using h

def partsB : List (Nat × Nat × Opd) → List V → Bool
  | [], [] => true
  | p :: ps, v :: vs => v.notTup && v.cells.length == p.2.1 && partsB ps vs
  | _, _ => false
theorem partsB_ok : ∀ {ps : List (Nat × Nat × Opd)} {vs : List V}, partsB ps vs = true → partsOK ps vs
  | [], [], _ => trivial
  | p :: ps, v :: vs, h => by
    simp only [partsB, Bool.and_eq_true, beq_iff_eq] at h
    exact ⟨h.1.1, h.1.2, partsB_ok h.2⟩
  | [], _ :: _, h => by cases h
  | _ :: _, [], h => by cases h
def elsB (s : Nat) : List V → Bool
  | [] => true
  | v :: vs => v.notTup && v.cells.length == s && elsB s vs
theorem elsB_ok {s : Nat} : ∀ {vs : List V}, elsB s vs = true → elsOK s vs
  | [], _ => trivial
  | v :: vs, h => by
    simp only [elsB, Bool.and_eq_true, beq_iff_eq] at h
    exact ⟨h.1.1, h.1.2, elsB_ok h.2⟩
structure B2S (es : List (List V)) (K : List UInt8 → Prop) : Prop where
  h : ∃ l, V.bytes es = some l ∧ K l
theorem bytes_byteEls : ∀ l : List UInt8, V.bytes (byteEls l) = some l
  | [] => rfl
  | b :: l => by
    have hb := b.toNat_lt
    have : V.bytes (byteEls (b :: l)) = (V.bytes (byteEls l)).map (UInt8.ofNat ((b.toNat : Int)).toNat :: ·) := by
      show (if 0 ≤ (b.toNat : Int) ∧ (b.toNat : Int) < 256 then _ else none) = _
      rw [if_pos ⟨by omega, by omega⟩]
      rfl
    rw [this, bytes_byteEls l]
    simp
theorem B2S.mk' {l : List UInt8} {K : List UInt8 → Prop} (k : K l) : B2S (byteEls l) K := ⟨l, bytes_byteEls l, k⟩
structure Sure (p : Prop) (q : Prop) : Prop where
  h : p ∧ q
theorem Sure.mk' {p q : Prop} (h : p) (k : q) : Sure p q := ⟨h, k⟩

def sBinE (op : BinOp) (k : IntKind) (x y : Int) (K : V → Prop) : Prop :=
  match op with
  | .add => Arith k (x + y) K
  | .sub => Arith k (x - y) K
  | .mul => Arith k (x * y) K
  | .quo => Sure (y ≠ 0) (Arith k (x.tdiv y) K)
  | .rem => Sure (y ≠ 0) (K (.int k (x.tmod y)))
  | .eql => Test (x = y) K
  | .neq => Test (x ≠ y) K
  | .lss => Test (x < y) K
  | .leq => Test (x ≤ y) K
  | .gtr => Test (y < x) K
  | .geq => Test (y ≤ x) K
  | op => sBin op k x y K
theorem sBinE.bin {op : BinOp} {k : IntKind} {x y : Int} {K : V → Prop} (h : sBinE op k x y K) : sBin op k x y K := by
  cases op <;> simp only [sBinE, sBin] at h ⊢
  case quo => exact ⟨h.h.1, h.h.2.h⟩
  case eql =>
    have := h.h
    rwa [show decide (x = y) = (x == y) from by rw [Bool.eq_iff_iff]; simp] at this
  case neq =>
    have := h.h
    rwa [show decide (x ≠ y) = (x != y) from by rw [Bool.eq_iff_iff]; simp] at this
  all_goals first | exact h | exact h.h
def sBinSE (op : BinOp) (x y : List UInt8) (K : V → Prop) : Prop :=
  match op with
  | .add => Sure (x.length + y.length ≤ 9223372036854775807) (K (.str (x ++ y)))
  | .eql => Test (x = y) K
  | .neq => Test (x ≠ y) K
  | .lss => BTest (Op.bytesLess x y) K
  | op => sBinS op x y K
theorem sBinSE.bin {op : BinOp} {x y : List UInt8} {K : V → Prop} (h : sBinSE op x y K) : sBinS op x y K := by
  cases op <;> simp only [sBinSE, sBinS] at h ⊢
  case eql =>
    have := h.h
    rwa [show decide (x = y) = (x == y) from by rw [Bool.eq_iff_iff]; simp] at this
  case neq =>
    have := h.h
    rwa [show decide (x ≠ y) = (!(x == y)) from by rw [Bool.eq_iff_iff]; simp] at this
  all_goals first | exact h | exact h.h

/-- A slice that is made: empty ones grow, others are written. -/
structure MkSl (s bytes : Nat) (zero : List V) (l c : Int) (σ : St) (K : V → St → Prop) : Prop where
  h : 0 ≤ l ∧ l ≤ c ∧ (bytes : Int) * c ≤ 140737488355328 ∧ c ≤ 9223372036854775807 ∧ c.toNat * s ≤ 16777216 ∧ match l with
      | .ofNat 0 => ∀ t', σ.live t' = false → K (.slice (.tip t') s []) (σ.on t')
      | .ofNat (Nat.succ n) => l = c ∧ s = 1 ∧ ∀ b, σ.box b = none → K (.mslice b 0 (n + 1) (n + 1)) (σ.put b (List.replicate (n + 1) zero).flatten)
      | .negSucc _ => False
theorem MkSl.empty {s bytes : Nat} {zero : List V} {c : Int} {σ : St} {K : V → St → Prop} (h1 : 0 ≤ c) (h2 : (bytes : Int) * c ≤ 140737488355328) (h3 : c ≤ 9223372036854775807) (h4 : c.toNat * s ≤ 16777216)
    (k : ∀ t', σ.live t' = false → K (.slice (.tip t') s []) (σ.on t')) : MkSl s bytes zero 0 c σ K := ⟨by omega, h1, h2, h3, h4, k⟩
theorem MkSl.full {bytes : Nat} {zero : List V} {l : Int} {σ : St} {K : V → St → Prop} (n : Nat) (e : l = n) (hn : 0 < n) (h2 : bytes * n ≤ 140737488355328) (h4 : n ≤ 16777216)
    (k : ∀ b, σ.box b = none → K (.mslice b 0 n n) (σ.put b (List.replicate n zero).flatten)) : MkSl 1 bytes zero l l σ K := by
  subst e
  cases n with
  | zero => omega
  | succ n => exact ⟨by omega, by omega, by
      rw [← Int.natCast_mul]
      generalize bytes * (n + 1) = q at h2 ⊢
      omega, by omega, by rw [Int.toNat_natCast]; omega, rfl, rfl, k⟩
structure CopyK (b off len s : Nat) (es : List (List V)) (σ : St) (K : V → St → Prop) : Prop where
  h : ∃ cs, σ.box b = some cs ∧ s = 1 ∧ off + len ≤ cs.length ∧ es.length ≤ len ∧ 0 < es.length ∧ K (.int .i64 es.length) (σ.put b (setL cs off es.flatten))
theorem CopyK.mk' {b off len s : Nat} {es : List (List V)} {σ : St} {K : V → St → Prop} {cs : List V} (cs' : List V) (hb : σ.box b = some cs) (hs : s = 1) (h1 : off + len ≤ cs.length) (h2 : es.length ≤ len) (h3 : 0 < es.length) (e : setL cs off es.flatten = cs')
    (k : ∀ σ', σ' = σ.put b cs' → K (.int .i64 es.length) σ') : CopyK b off len s es σ K := ⟨cs, hb, hs, h1, h2, h3, k _ (by rw [e])⟩

def sOpE (P : Program) (G : Globs) (o : SOp) (sl : Slots) (σ : St) (K : V → St → Prop) (Kp : V → St → Prop) : Prop :=
  match o with
  | .pick c a b => match c.ev sl G, a.ev sl G, b.ev sl G with
    | some (.bool c), some a, some b => BrE c (K a σ) (K b σ)
    | _, _, _ => False
  | .build zero parts => match evs sl G (parts.map (·.2.2)) with
    | some vs => match partsB parts vs with
      | true => K (.agg (fillL zero (offs parts vs))) σ
      | false => False
    | none => False
  | .mkslice s parts => match evs sl G parts with
    | some vs => match elsB s vs with
      | true => K (.slice .full s (vs.map V.cells)) σ
      | false => False
    | none => False
  | .load agg n a => match a.ev sl G with
    | some (.loc b off) => Load σ b off n fun cs => match mkv agg cs with
      | some v => K v σ
      | none => False
    | some (.ref cs) => RefLoad cs n fun cs => match mkv agg cs with
      | some v => K v σ
      | none => False
    | _ => False
  | .store n a x => match a.ev sl G, x.ev sl G with
    | some (.loc b off), some v => match v.notTup with
      | true => Sure (v.cells.length = n) (Store σ b off v.cells fun σ' => K (.tup []) σ')
      | false => False
    | _, _ => False
  | .bin op x y => match x.ev sl G, y.ev sl G with
    | some (.int k a), some (.int k' b) => match (decide (k = k') || decide (op = .shl) || decide (op = .shr)) with
      | true => sBinE op k a b (K · σ)
      | false => False
    | _, _ => False
  | .bins op x y => match x.ev sl G, y.ev sl G with
    | some (.str a), some (.str b) => sBinSE op a b (K · σ)
    | _, _ => False
  | .binb neg x y => match x.ev sl G, y.ev sl G with
    | some (.bool a), some (.bool b) => BTest (if neg then a != b else a == b) (K · σ)
    | _, _ => False
  | .eqs neg sh x y => match x.ev sl G, y.ev sl G with
    | some (.agg a), some (.agg b) => match shapeL sh a with
      | true => match eqL a b with
        | some r => BTest (if neg then !r else r) (K · σ)
        | none => False
      | false => False
    | _, _ => False
  | .un op x => match op, x.ev sl G with
    | .neg, some (.int k a) => Arith k (0 - a) (K · σ)
    | .not, some (.bool b) => K (.bool !b) σ
    | .xor, some (.int k a) => K (.int k (bitsOp .xor k (if k.signed then -1 else k.max) a)) σ
    | _, _ => False
  | .i2i k x => match x.ev sl G with
    | some (.int _ a) => Arith k a (K · σ)
    | _ => False
  | .b2s x => match x.ev sl G with
    | some (.slice _ s es) => Sure (s = 1 ∨ es = []) (B2S es fun l => K (.str l) σ)
    | some (.mslice b off len _) => Load σ b off len fun cs => B2S (cs.map ([·])) fun l => K (.str l) σ
    | _ => False
  | .cuts x lo hi => match x.ev sl G, lo.map (fun y : Opd => y.ev sl G), hi.map (fun y : Opd => y.ev sl G) with
    | some (.str l), some (some (.int _ i)), some (some (.int _ j)) => Cut l i j fun l => K (.str l) σ
    | some (.str l), some (some (.int _ i)), none => CutR l i fun l => K (.str l) σ
    | some (.str l), none, some (some (.int _ j)) => CutL l j fun l => K (.str l) σ
    | some (.str l), none, none => K (.str l) σ
    | _, _, _ => False
  | .slice z x lo hi => match x.ev sl G, lo.map (fun y : Opd => y.ev sl G), hi.map (fun y : Opd => y.ev sl G) with
    | some (.slice _ s es), some (some (.int _ i)), some (some (.int _ j)) => Sure (s = z) (Cut es i j fun es => K (.slice .foreign s es) σ)
    | some (.slice _ s es), some (some (.int _ i)), none => Sure (s = z) (CutR es i fun es => K (.slice .foreign s es) σ)
    | some (.mslice b off len cap), some (some (.int _ i)), none => Sure (0 ≤ i ∧ i < len ∧ len ≤ cap) (K (.mslice b (off + i.toNat * z) (len - i.toNat) (cap - i.toNat)) σ)
    | some (.slice _ s es), none, some (some (.int _ j)) => Sure (s = z) (CutL es j fun es => K (.slice .foreign s es) σ)
    | some (.slice t s es), none, none => Sure (s = z) (K (.slice t s es) σ)
    | _, _, _ => False
  | .iaddr s x i => match x.ev sl G, i.ev sl G with
    | some (.slice _ s' es), some (.int _ i) => Sure (s' = s ∨ es = []) (IdxE es i fun e => K (.ref e) σ)
    | some (.mslice b off len _), some (.int _ i) => Sure (0 ≤ i ∧ i < len) (K (.loc b (off + i.toNat * s)) σ)
    | _, _ => False
  | .iaddrA s len x i => match x.ev sl G, i.ev sl G with
    | some (.loc b o), some (.int _ i) => Sure (0 ≤ i ∧ i < len) (K (.loc b (o + i.toNat * s)) σ)
    | some (.ref cs), some (.int _ i) => Sure (0 ≤ i ∧ i < len) (K (.ref (cs.drop (i.toNat * s))) σ)
    | _, _ => False
  | .idxs x i => match x.ev sl G, i.ev sl G with
    | some (.str l), some (.int _ i) => Idx l i fun b => K (.int .u8 b.toNat) σ
    | _, _ => False
  | .call f args => match evs sl G args with
    | some vs => CallK P G f vs σ K Kp
    | none => False
  | .callv x args => match x.ev sl G, evs sl G args with
    | some (.func f a b), some vs => CallK P G f (a ++ vs ++ b) σ K Kp
    | _, _ => False
  | .callk f args => match evs sl G args with
    | some vs => CallK P G f vs σ (fun v σ' => Kept σ σ' (K v σ')) Kp
    | none => False
  | .minsert kd m k v => match m.ev sl G, k.ev sl G, v.ev sl G with
    | some (.map r), some k, some v => MIns kd r k v σ K
    | _, _, _ => False
  | .mlook kd z g ok m k => match m.ev sl G, k.ev sl G with
    | some (.map r), some k => MLook kd r k (mkv g z) ok σ K
    | _, _ => False
  | .callvk x args => match x.ev sl G, evs sl G args with
    | some (.func f a b), some vs => CallK P G f (a ++ vs ++ b) σ (fun v σ' => Kept σ σ' (K v σ')) Kp
    | _, _ => False
  | .loadr root agg n a => match a.ev sl G with
    | some (.loc b off) => match root with
      | some r => match sl r with
        | some (.loc b' _) => Sure (b' = b) (Load σ b off n fun cs => match mkv agg cs with
          | some v => K v σ
          | none => False)
        | _ => False
      | none => False
    | some (.ref cs) => RefLoad cs n fun cs => match mkv agg cs with
      | some v => K v σ
      | none => False
    | _ => False
  | .callr ls f args => match evs sl G args with
    | some vs => CallK P G f vs σ (fun v σ' => KeptL sl σ σ' (K v σ') ls) Kp
    | none => False
  | .callvr ls x args => match x.ev sl G, evs sl G args with
    | some (.func f a b), some vs => CallK P G f (a ++ vs ++ b) σ (fun v σ' => KeptL sl σ σ' (K v σ') ls) Kp
    | _, _ => False
  | .stored os n a x => match a.ev sl G, x.ev sl G with
    | some (.loc b off), some v => match v.notTup with
      | true => Sure (farL sl b os ∧ v.cells.length = n) (Store σ b off v.cells fun σ' => K (.tup []) σ')
      | false => False
    | _, _ => False
  | .calli tbl x args => match x.ev sl G, evs sl G args with
    | some (.iface t v), some vs => match tbl.lookup t with
      | some f => CallK P G f (v :: vs) σ K Kp
      | none => False
    | _, _ => False
  | .mkmsl s bytes zero len cap => match len.ev sl G, cap.ev sl G with
    | some (.int _ l), some (.int _ c) => MkSl s bytes zero l c σ K
    | _, _ => False
  | .copy x y => match x.ev sl G, y.ev sl G with
    | some (.mslice b off len _), some (.slice _ s es) => CopyK b off len s es σ K
    | _, _ => False
  | .conv2u x => match x.ev sl G with
    | some (.loc b o) => Load σ b o 1 fun _ => K (.loc b o) σ
    | _ => False
  | .append s bytes a b => match a.ev sl G, b.ev sl G with
    | some (.slice tag s' es), some (.slice _ s2 ns) => App s bytes tag s' es s2 ns σ K
    | _, _ => False
  | .appends bytes a b => match a.ev sl G, b.ev sl G with
    | some (.slice tag s' es), some (.str l) => AppS bytes tag s' es l σ K
    | _, _ => False
  | o => sOp P G o sl σ K Kp

theorem sOpE.op {P : Program} {G : Globs} {o : SOp} {sl : Slots} {σ : St} {K Kp : V → St → Prop} (h : sOpE P G o sl σ K Kp) : sOp P G o sl σ K Kp := by
  cases o <;> simp only [sOpE] at h
  case mv => exact h
  all_goals first | exact h | skip
  all_goals simp only [sOp]
  case pick => 
    split at h
    · rename_i e1 e2 e3; simp only [e1, e2, e3]; exact h.br
    · exact h.elim
  case build => 
    split at h
    · rename_i e1
      split at h
      · rename_i hp; simp only [e1]; exact ⟨partsB_ok hp, h⟩
      · exact h.elim
    · exact h.elim
  case mkslice => 
    split at h
    · rename_i e1
      split at h
      · rename_i hp; simp only [e1]; exact ⟨elsB_ok hp, h⟩
      · exact h.elim
    · exact h.elim
  case load =>
    split at h
    · rename_i e
      obtain ⟨cs, h1, h2, h3⟩ := h.h
      simp only [e, Option.bind_some, St.at, h1, Option.map_some, List.length_drop]
      exact ⟨by omega, h3⟩
    · rename_i e
      obtain ⟨h2, h3⟩ := h.h
      simp only [e, Option.bind_some, St.at]
      exact ⟨h2, h3⟩
    · exact h.elim
  case store =>
    split at h
    · rename_i e1 e2
      split at h
      · rename_i hn
        obtain ⟨hl, hs⟩ := h.h
        obtain ⟨cs, h1, h2, h3⟩ := hs.h
        simp only [e1, e2, h1]
        exact ⟨hn, hl, by omega, h3⟩
      · exact h.elim
    · exact h.elim
  case bin =>
    split at h
    · rename_i e1 e2
      split at h
      · rename_i hd
        simp only [Bool.or_eq_true, decide_eq_true_eq] at hd
        simp only [e1, e2]
        exact ⟨by rcases hd with (hd | hd) | hd <;> simp [hd], h.bin⟩
      · exact h.elim
    · exact h.elim
  case bins =>
    split at h
    · rename_i e1 e2; simp only [e1, e2]; exact h.bin
    · exact h.elim
  case binb =>
    split at h
    · rename_i e1 e2; simp only [e1, e2]; exact h.h
    · exact h.elim
  case eqs =>
    split at h
    · rename_i e1 e2
      split at h
      · rename_i hs
        split at h
        · rename_i e3; simp only [e1, e2, e3]; exact ⟨hs, h.h⟩
        · exact h.elim
      · exact h.elim
    · exact h.elim
  case un =>
    split at h
    · rename_i e1; simp only [e1]; exact h.h
    · rename_i e1; simp only [e1]; exact h
    · rename_i e1; simp only [e1]; exact h
    · exact h.elim
  case i2i =>
    split at h
    · rename_i e1; simp only [e1]; exact h.h
    · exact h.elim
  case b2s =>
    split at h
    · rename_i e1
      obtain ⟨h1, h2⟩ := h.h
      obtain ⟨l, h3, h4⟩ := h2.h
      simp only [e1, h3]
      exact ⟨h1, h4⟩
    · rename_i e1
      obtain ⟨cs, h1, h2, h3⟩ := h.h
      obtain ⟨l, h4, h5⟩ := h3.h
      simp only [e1, h1, h4]
      exact ⟨h2, h5⟩
    · exact h.elim
  case cuts =>
    split at h
    · rename_i e1 e2 e3; simp only [e1, e2, e3]; exact h.h
    · rename_i e1 e2 e3; simp only [e1, e2, e3]; exact h.h
    · rename_i e1 e2 e3; simp only [e1, e2, e3]; exact h.h
    · rename_i e1 e2 e3; simp only [e1, e2, e3]; exact h
    · exact h.elim
  case slice =>
    split at h
    · rename_i e1 e2 e3; simp only [e1, e2, e3]; exact ⟨h.h.1, h.h.2.h⟩
    · rename_i e1 e2 e3; simp only [e1, e2, e3]; exact ⟨h.h.1, h.h.2.h⟩
    · rename_i e1 e2 e3; simp only [e1, e2, e3]; exact ⟨h.h.1.1, h.h.1.2.1, h.h.1.2.2, h.h.2⟩
    · rename_i e1 e2 e3; simp only [e1, e2, e3]; exact ⟨h.h.1, h.h.2.h⟩
    · rename_i e1 e2 e3; simp only [e1, e2, e3]; exact h.h
    · exact h.elim
  case iaddr =>
    split at h
    · rename_i e1 e2
      obtain ⟨h1, h2⟩ := h.h
      obtain ⟨h3, e, h4, h5⟩ := h2.h
      simp only [e1, e2, h4]
      exact ⟨h1, h3, h5⟩
    · rename_i e1 e2; simp only [e1, e2]; exact ⟨h.h.1.1, h.h.1.2, h.h.2⟩
    · exact h.elim
  case iaddrA =>
    split at h
    · rename_i e1 e2; simp only [e1, e2]; exact ⟨h.h.1.1, h.h.1.2, h.h.2⟩
    · rename_i e1 e2; simp only [e1, e2]; exact ⟨h.h.1.1, h.h.1.2, h.h.2⟩
    · exact h.elim
  case idxs =>
    split at h
    · rename_i e1 e2
      obtain ⟨h3, e, h4, h5⟩ := h.h
      simp only [e1, e2, h4]
      exact ⟨h3, h5⟩
    · exact h.elim
  case call =>
    split at h
    · rename_i e1; simp only [e1]; exact h.h
    · exact h.elim
  case callv =>
    split at h
    · rename_i e1 e2; simp only [e1, e2]; exact h.h
    · exact h.elim
  case callk =>
    split at h
    · rename_i e1; simp only [e1]; exact h.h
    · exact h.elim
  case minsert =>
    split at h
    · rename_i e1 e2 e3
      obtain ⟨es, h1, h2⟩ := h.h
      simp only [e1, e2, e3, h1]
      exact h2
    · exact h.elim
  case mlook =>
    split at h
    · rename_i e1 e2
      obtain ⟨es, h1, h2⟩ := h.h
      simp only [e1, e2, h1]
      exact h2
    · exact h.elim
  case callvk =>
    split at h
    · rename_i e1 e2; simp only [e1, e2]; exact h.h
    · exact h.elim
  case loadr root agg n x =>
    split at h
    · rename_i e
      split at h
      · rename_i r
        split at h
        · rename_i b' off' hr
          obtain ⟨h0, h⟩ := h.h
          subst h0
          obtain ⟨cs, h1, h2, h3⟩ := h.h
          simp only [e, Option.bind_some, St.at, h1, Option.map_some, List.length_drop, RootOK, hr]
          exact ⟨trivial, by omega, h3⟩
        · exact h.elim
      · exact h.elim
    · rename_i e
      obtain ⟨h2, h3⟩ := h.h
      simp only [e, Option.bind_some, St.at, RootOK]
      exact ⟨trivial, h2, h3⟩
    · exact h.elim
  case callr =>
    split at h
    · rename_i e1; simp only [e1]; exact h.h
    · exact h.elim
  case callvr =>
    split at h
    · rename_i e1 e2; simp only [e1, e2]; exact h.h
    · exact h.elim
  case stored =>
    split at h
    · rename_i e1 e2
      split at h
      · rename_i hn
        obtain ⟨⟨h0, hl⟩, hs⟩ := h.h
        obtain ⟨cs, h1, h2, h3⟩ := hs.h
        simp only [e1, e2, h1]
        exact ⟨h0, hn, hl, by omega, h3⟩
      · exact h.elim
    · exact h.elim
  case calli =>
    split at h
    · rename_i e1 e2
      split at h
      · rename_i e3; simp only [e1, e2, e3]; exact h.h
      · exact h.elim
    · exact h.elim
  case mkmsl =>
    split at h
    · rename_i e1 e2; simp only [e1, e2]; exact h.h
    · exact h.elim
  case copy =>
    split at h
    · rename_i e1 e2
      obtain ⟨cs, h1, h2⟩ := h.h
      simp only [e1, e2, h1]; exact h2
    · exact h.elim
  case conv2u =>
    split at h
    · rename_i e1
      obtain ⟨cs, h1, h2, h3⟩ := h.h
      simp only [e1, h1]; exact ⟨by omega, h3⟩
    · exact h.elim
  case append =>
    split at h
    · rename_i e1 e2; simp only [e1, e2]; exact h.h
    · exact h.elim
  case appends =>
    split at h
    · rename_i e1 e2; simp only [e1, e2]; exact h.h
    · exact h.elim

def sOperE (P : Program) (G : Globs) (o : SOper) (sl : Slots) (σ : St) (K : Slots → St → Prop) (Kp : V → St → Prop) : Prop :=
  match o.guard with
  | none => sOpE P G o.op sl σ (fun v σ' => K (putD sl o.dst v) σ') Kp
  | some (g, want) => match sl g with
    | some (.bool b) => BrE (b == want) (sOpE P G o.op sl σ (fun v σ' => K (putD sl o.dst v) σ') Kp) (K (putD sl o.dst (.tup [])) σ)
    | some (.tup []) => K (putD sl o.dst (.tup [])) σ
    | _ => False
def sOpsE (P : Program) (G : Globs) (Kp : V → St → Prop) (K : Slots → St → Prop) : List SOper → Slots → St → Prop
  | [], sl, σ => K sl σ
  | o :: r, sl, σ => sOperE P G o sl σ (sOpsE P G Kp K r) Kp
theorem sOpsE.ops {P : Program} {G : Globs} {Kp : V → St → Prop} {K K' : Slots → St → Prop} (hK : ∀ sl σ, K sl σ → K' sl σ) : ∀ {l : List SOper} {sl : Slots} {σ : St}, sOpsE P G Kp K l sl σ → sOps P G Kp K' l sl σ
  | [], _, _, h => hK _ _ h
  | o :: r, sl, σ, h => by
    simp only [sOpsE, sOperE] at h
    simp only [sOps, sOper]
    cases hg : o.guard with
    | none =>
      rw [hg] at h
      exact sOp_mono (fun v σ' h => sOpsE.ops hK h) h.op
    | some gw =>
      obtain ⟨g, want⟩ := gw
      rw [hg] at h
      simp only at h ⊢
      split at h
      · rename_i e1
        have := h.br
        simp only [e1]
        exact ⟨fun e => sOp_mono (fun v σ' h => sOpsE.ops hK h) (this.1 e).op, fun e => sOpsE.ops hK (this.2 e)⟩
      · rename_i e1
        simp only [e1]
        exact sOpsE.ops hK h
      · exact h.elim

/-- A loop: what holds ahead of each round, counted down. -/
structure LoopK (body : (SExit → Slots → St → Prop) → Slots → St → Prop) (Q : SExit → Slots → St → Prop) (sl : Slots) (σ : St) : Prop where
  h : ∃ (I : Nat → Slots → St → Prop) (n : Nat), I n sl σ ∧ ∀ n sl σ, I n sl σ → body (fun e sl' σ' => match e with
    | .normal => ∃ m σ'', m < n ∧ Forget σ' σ'' ∧ I m sl' σ''
    | .exit id => Q (.exit id) sl' σ'
    | .ret => Q .ret sl' σ'
    | .pan v => Q (.pan v) sl' σ') sl σ

theorem App1.mono {G : Globs} {T : AppT} {sl : Slots} {σ : St} {K K' : Slots → St → Prop} (hK : ∀ sl σ, K sl σ → K' sl σ) (h : App1 G T sl σ K) : App1 G T sl σ K' := by
  unfold App1 at h ⊢
  split
  · rename_i e1 e2 e3 e4 e5
    simp only [e1, e2, e3, e4, e5] at h
    obtain ⟨h1, h2, h3, h4, h5, h6, h7, h8, cs, h9, h10, h11⟩ := h
    exact ⟨h1, h2, h3, h4, h5, h6, h7, h8, cs, h9, h10, fun t' ht => hK _ _ (h11 t' ht)⟩
  · rename_i hne
    split at h
    · rename_i e1 e2 e3 e4 e5; exact (hne _ _ _ _ _ _ _ _ _ _ _ e1 e2 e3 e4 e5).elim
    · exact h.elim
def swpE (P : Program) (G : Globs) : SC → (SExit → Slots → St → Prop) → Slots → St → Prop
  | .skip, Q, sl, σ => Q .normal sl σ
  | .ret, Q, sl, σ => Q .ret sl σ
  | .exit id, Q, sl, σ => Q (.exit id) sl σ
  | .seq a b, Q, sl, σ => swpE P G a (fun e sl σ => match e with
    | .normal => swpE P G b Q sl σ
    | .exit id => Q (.exit id) sl σ
    | .ret => Q .ret sl σ
    | .pan v => Q (.pan v) sl σ) sl σ
  | .cond c ks a b, Q, sl, σ => match c.ev sl G with
    | some (.bool t) => BrE t (swpE P G a Q (keepO ks sl) σ) (swpE P G b Q (keepO ks sl) σ)
    | _ => False
  | .block id c, Q, sl, σ => swpE P G c (fun e sl σ => match e with
    | .normal => Q .normal sl σ
    | .exit id' => if id' = id then Q .normal sl σ else Q (.exit id') sl σ
    | .ret => Q .ret sl σ
    | .pan v => Q (.pan v) sl σ) sl σ
  | .loop c, Q, sl, σ => LoopK (swpE P G c) Q sl σ
  | .region ops ks, Q, sl, σ => sOpsE P G (fun v σ' => Q (.pan v) (dropS (dsts ops) sl) σ') (fun sl σ => Q .normal (keepO ks sl) σ) ops sl σ
  | .app1 T ks, Q, sl, σ => App1 G T sl σ (fun sl σ => Q .normal (keepO ks sl) σ)
  | .stop, _, _, _ => False

theorem swpE.swp {P : Program} {G : Globs} : ∀ {sc : SC} {Q Q' : SExit → Slots → St → Prop} {sl : Slots} {σ : St}, (∀ e sl σ, Q e sl σ → Q' e sl σ) → (∀ v, Q (.pan v) = Q' (.pan v)) → swpE P G sc Q sl σ → swp P G sc Q' sl σ
  | .skip, Q, Q', sl, σ, hQ, hP, h => hQ _ _ _ h
  | .ret, Q, Q', sl, σ, hQ, hP, h => hQ _ _ _ h
  | .exit id, Q, Q', sl, σ, hQ, hP, h => hQ _ _ _ h
  | .seq a b, Q, Q', sl, σ, hQ, hP, h => by
    simp only [swpE] at h
    simp only [Shadow.swp]
    refine swpE.swp (sc := a) ?_ ?_ h
    rotate_left
    · intro v; exact hP v
    intro e sl σ h
    cases e with
    | normal => exact swpE.swp (sc := b) hQ hP h
    | exit id => exact hQ _ _ _ h
    | ret => exact hQ _ _ _ h
    | pan v => exact hQ _ _ _ h
  | .cond c ks a b, Q, Q', sl, σ, hQ, hP, h => by
    simp only [swpE] at h
    simp only [Shadow.swp]
    split at h
    · rename_i e1
      have := h.br
      try simp only [e1]
      exact ⟨fun e => swpE.swp (sc := a) hQ hP (this.1 e), fun e => swpE.swp (sc := b) hQ hP (this.2 e)⟩
    · exact h.elim
  | .block id c, Q, Q', sl, σ, hQ, hP, h => by
    simp only [swpE] at h
    simp only [Shadow.swp]
    refine swpE.swp (sc := c) ?_ ?_ h
    rotate_left
    · intro v; exact hP v
    intro e sl σ h
    cases e with
    | normal => exact hQ _ _ _ h
    | exit id' =>
      simp only at h ⊢
      split at h
      · rename_i e1; rw [if_pos e1]; exact hQ _ _ _ h
      · rename_i e1; rw [if_neg e1]; exact hQ _ _ _ h
    | ret => exact hQ _ _ _ h
    | pan v => exact hQ _ _ _ h
  | .loop c, Q, Q', sl, σ, hQ, hP, h => by
    obtain ⟨I, n, h0, hs⟩ := (show LoopK _ _ _ _ from h).h
    refine ⟨I, n, h0, fun n sl σ hI => ?_⟩
    refine swpE.swp (sc := c) ?_ ?_ (hs n sl σ hI)
    rotate_left
    · intro v; exact hP v
    intro e sl σ h
    cases e with
    | normal => exact h
    | exit id => exact hQ _ _ _ h
    | ret => exact hQ _ _ _ h
    | pan v => exact hQ _ _ _ h
  | .region ops ks, Q, Q', sl, σ, hQ, hP, h => by
    simp only [swpE] at h
    simp only [Shadow.swp]
    simp only [hP] at h
    exact sOpsE.ops (fun _ _ h => hQ _ _ _ h) h
  | .app1 T ks, Q, Q', sl, σ, hQ, hP, h => by
    simp only [swpE] at h
    simp only [Shadow.swp]
    exact App1.mono (fun _ _ h => hQ _ _ _ h) h
  | .stop, Q, Q', sl, σ, hQ, hP, h => by
    simp only [swpE] at h

structure Ret (v : V) (σ : St) (Post : SEnd → St → Prop) : Prop where
  h : ∃ r σ', Weak v r ∧ Forget σ σ' ∧ Post (.ret r) σ'
theorem Ret.mk' {v : V} {σ : St} {Post : SEnd → St → Prop} (h : Post (.ret v) σ) : Ret v σ Post := ⟨v, σ, .refl _, .refl _, h⟩
theorem Ret.weak {v r : V} {σ σ' : St} {Post : SEnd → St → Prop} (hw : Weak v r) (hf : Over σ' σ) (h : Post (.ret r) σ') : Ret v σ Post := ⟨r, σ', hw, hf.forget, h⟩
structure Pan (v : V) (σ : St) (Post : SEnd → St → Prop) : Prop where
  h : ∃ r σ', Weak v r ∧ Forget σ σ' ∧ Post (.pan r) σ'
def resK (sl : Slots) (σ : St) : List (Nat × Option (Bool × Nat)) → (List V → Prop) → Prop
  | [], K => K []
  | (t, none) :: r, K => match sl t with
    | some v => resK sl σ r (fun vs => K (v :: vs))
    | none => False
  | (t, some (g, m)) :: r, K => match sl t with
    | some (.loc b off) => Load σ b off m (fun cs => match mkv g cs with
      | some v => resK sl σ r (fun vs => K (v :: vs))
      | none => False)
    | _ => False
abbrev wrapRes : List V → V
  | [v] => v
  | vs => .tup vs
theorem resK_sound {sl : Slots} {σ : St} : ∀ {rs : List (Nat × Option (Bool × Nat))} {K : List V → Prop}, resK sl σ rs K → ∃ vs, sResL sl σ rs = some vs ∧ K vs
  | [], K, h => ⟨[], rfl, h⟩
  | (t, none) :: r, K, h => by
    simp only [resK] at h
    split at h
    · rename_i v e
      obtain ⟨vs, h1, h2⟩ := resK_sound h
      exact ⟨v :: vs, by simp only [sResL, sRes1, e, h1], h2⟩
    · exact h.elim
  | (t, some (g, m)) :: r, K, h => by
    simp only [resK] at h
    split at h
    · rename_i b off e
      obtain ⟨cs, h1, h2, h3⟩ := h.h
      split at h3
      · rename_i v hv
        obtain ⟨vs, h4, h5⟩ := resK_sound h3
        refine ⟨v :: vs, ?_, h5⟩
        simp only [sResL, sRes1, e, Option.bind_some, St.at, h1, Option.map_some, List.length_drop]
        rw [if_pos (by omega), hv]
        simp only [h4]
      · exact h3.elim
    · exact h.elim
theorem wrapRes_sRes {sl : Slots} {σ : St} {rs : List (Nat × Option (Bool × Nat))} {vs : List V} (h : sResL sl σ rs = some vs) : sRes sl σ rs = some (wrapRes vs) := by
  unfold sRes
  rw [h]
  match vs with
  | [] => rfl
  | [v] => rfl
  | v :: u :: vs => rfl
def retE (rs : List (Nat × Option (Bool × Nat))) (Post : SEnd → St → Prop) : SExit → Slots → St → Prop
  | .normal, sl, σ => resK sl σ rs fun vs => Ret (wrapRes vs) σ Post
  | .ret, sl, σ => resK sl σ rs fun vs => Ret (wrapRes vs) σ Post
  | .pan v, _, σ => ∃ r σ', Weak v r ∧ Forget σ σ' ∧ Post (.pan r) σ'
  | .exit _, _, _ => False

/-- The loaded function 'f' has this shadow code. -/
structure IsCode (P : Program) (f : FuncId) (sc : SC) (rs : List (Nat × Option (Bool × Nat))) (n : Nat) : Prop where
  h : ∃ fn c, P.funcs[f]? = some fn ∧ (fn.name == "runtime.NumGoroutine") = false ∧ fn.body = some c ∧ tr P fn.ntmps c = some (strip sc) ∧ trRes P fn.results.toList = some rs ∧ fn.ntmps = n
theorem IsCode.mk' {P : Program} {f : FuncId} {sc : SC} {rs : List (Nat × Option (Bool × Nat))} {n : Nat} {fn : Func} (h1 : P.funcs[f]? = some fn) (h2 : (fn.name == "runtime.NumGoroutine") = false)
    (h3 : fn.body.bind (tr P fn.ntmps) = some (strip sc)) (h4 : trRes P fn.results.toList = some rs) (h5 : fn.ntmps = n) : IsCode P f sc rs n := by
  rw [Option.bind_eq_some_iff] at h3
  obtain ⟨c, h3, h6⟩ := h3
  exact ⟨fn, c, h1, h2, h3, h6, h4, h5⟩
theorem IsCode.call {P : Program} {G : Globs} (hm : P.follows .mixedOrders = true) {f : FuncId} {sc : SC} {rs : List (Nat × Option (Bool × Nat))} {n : Nat} {args : List V} {σ : St} {Post : SEnd → St → Prop} (hc : IsCode P f sc rs n) (hl : args.length ≤ n)
    (h : swpE P G sc (retE rs Post) (argS 0 args) σ) : SCall P G f args σ Post := by
  obtain ⟨fn, c, h1, h2, h3, h4, h5, h6⟩ := hc
  subst h6
  refine SCall.of_code hm h1 h2 h3 h4 h5 hl (swpE.swp (Q := retE rs Post) (Q' := retQ rs Post) ?_ (fun v => rfl) h)
  intro e sl σ h
  cases e with
  | normal =>
    obtain ⟨vs, h1, h2⟩ := resK_sound (show resK sl σ rs fun vs => Ret (wrapRes vs) σ Post from h)
    simp only [retQ, wrapRes_sRes h1]
    exact h2.h
  | ret =>
    obtain ⟨vs, h1, h2⟩ := resK_sound (show resK sl σ rs fun vs => Ret (wrapRes vs) σ Post from h)
    simp only [retQ, wrapRes_sRes h1]
    exact h2.h
  | pan v => exact h
  | exit id => exact h

end Go.Shadow

/- THE SHADOW LOGIC, part 19: functions that defer calls. -/
namespace Go.Shadow
open Go Go.RowKit

/-- Code with its deferred calls at the outside. -/
inductive SD where
  | code (c : SC)
  | seq (c : SC) (d : SD)
  | defer (ops : List SOper) (x : Opd) (args : List Opd) (ks : Option (List Nat)) (d : SD)
  | cond (c : Opd) (ks : Option (List Nat)) (a b : SD)

section
variable {P : Program} {G : Globs} {w0 w : World} {γ : Gh} {σ : St} {n : Nat} {sl : Slots} {a : Act}

/-- A frame's mode: none: it returns; a value: it panics with it. -/
def ModeRel (B : Nat) (γ : Gh) (w : World) : Option V → FrameMode → Prop
  | none, u => u = .returning
  | some v, u => ∃ x, u = .panicking [{ v := x, recovered := false }] ∧ R B γ w v x
def recMode : FrameMode → FrameMode
  | .panicking [e] => .panicking [{ e with recovered := true }]
  | u => u
/-- What a deferred call does: it returns, and has recovered or not. -/
def SDCall (P : Program) (G : Globs) (f : FuncId) (args : List V) (mode : Option V) (σ : St) (Post : Bool → St → Prop) : Prop :=
  ∀ (w0 : World) (γ : Gh) (w : World) (xs : Array Value) (u : FrameMode), Inv G w0 γ σ w → RL w0.heap.size γ w args xs.toList → ModeRel w0.heap.size γ w mode u →
    (callFunc f xs).run P w = .ok (.enter f xs) w ∧ CallsD P f xs u w fun e u' w' => ∃ γ' σ' r, Ext w0.heap.size γ w γ' w' ∧ Inv G w0 γ' σ' w' ∧ (∃ v, e = .returned v) ∧ Post r σ' ∧ u' = (if r then recMode u else u)

theorem ModeRel.ext {γ' : Gh} {w' : World} {B : Nat} {m : Option V} {u : FrameMode} (he : Ext B γ w γ' w') (h : ModeRel B γ w m u) : ModeRel B γ' w' m u := by
  cases m with
  | none => exact h
  | some v => obtain ⟨x, h1, h2⟩ := h; exact ⟨x, h1, h2.ext he⟩
theorem ModeRel.settle {B : Nat} {m : Option V} {u : FrameMode} (h : ModeRel B γ w m u) (r : Bool) : ModeRel B γ w (if r then none else m) (settle (if r then recMode u else u)) := by
  cases m with
  | none => have h : u = .returning := h; subst h; cases r <;> rfl
  | some v =>
    obtain ⟨x, rfl, h2⟩ := h
    cases r
    · exact ⟨x, rfl, h2⟩
    · rfl

/-- A deferred call, as the frame keeps it. -/
def DRel (B : Nat) (γ : Gh) (w : World) (d : FuncId × List V) (x : Deferred) : Prop := ∃ cap, x.target = .fn (.func d.1) cap ∧ RL B γ w d.2 (x.args ++ cap).toList
def DRels (B : Nat) (γ : Gh) (w : World) : List (FuncId × List V) → List Deferred → Prop
  | [], [] => True
  | d :: ds, x :: xs => DRel B γ w d x ∧ DRels B γ w ds xs
  | _, _ => False
theorem DRels.ext {γ' : Gh} {w' : World} {B : Nat} (he : Ext B γ w γ' w') : ∀ {ds : List (FuncId × List V)} {xs : List Deferred}, DRels B γ w ds xs → DRels B γ' w' ds xs
  | [], [], _ => trivial
  | d :: ds, x :: xs, h => by
    obtain ⟨⟨cap, h1, h2⟩, h3⟩ := h
    exact ⟨⟨cap, h1, h2.ext he⟩, DRels.ext he h3⟩
  | [], _ :: _, h => h.elim
  | _ :: _, [], h => h.elim

/-- The way out of a function: its deferred calls, and then its results. -/
def SLeave (P : Program) (G : Globs) (rs : List (Nat × Option (Bool × Nat))) (Post : SEnd → St → Prop) : List (FuncId × List V) → Option V → Slots → St → Prop
  | [], none, sl, σ => retQ rs Post .ret sl σ
  | [], some v, sl, σ => retQ rs Post (.pan v) sl σ
  | (f, vs) :: ds, m, sl, σ => SDCall P G f vs m σ fun r σ' => SLeave P G rs Post ds (if r then none else m) sl σ'

def retR (G : Globs) (w0 : World) (γ : Gh) (w : World) (Post : SEnd → St → Prop) (e : Ending) (w' : World) : Prop :=
  ∃ γ' σ', Ext w0.heap.size γ w γ' w' ∧ Inv G w0 γ' σ' w' ∧ ∃ r x, R w0.heap.size γ' w' r x ∧
      ((e = .returned x ∧ Post (.ret r) σ') ∨ (e = .panicked [{ v := x, recovered := false }] ∧ Post (.pan r) σ'))

theorem leave_sound {fn : Func} {rs : List (Nat × Option (Bool × Nat))} {Post : SEnd → St → Prop} (hres : trRes P fn.results.toList = some rs) {γ0 : Gh} {wb : World} : ∀ (ds : List (FuncId × List V)) (xs : List Deferred) (m : Option V) (u : FrameMode) {γ : Gh} {σ : St} {w : World} {sl : Slots} {a : Act} {dd : List Deferred},
    Ext w0.heap.size γ0 wb γ w → Rel G w0 γ σ w n dd sl a → DRels w0.heap.size γ w ds xs → ModeRel w0.heap.size γ w m u → SLeave P G rs Post ds m sl σ → Leaves P fn a.tmps (retR G w0 γ0 wb Post) xs u w
  | [], [], none, u, γ, σ, w, sl, a, dd, he, hr, _, hm, h => by
    have hm : u = .returning := hm
    subst hm
    simp only [SLeave, retQ] at h
    split at h
    · rename_i v hv
      obtain ⟨r, σ'', hw, hf, hp⟩ := h
      obtain ⟨x, h1, h2⟩ := res_sound (P := P) hr hres hv
      exact ⟨x, h1, γ, σ'', he, hr.inv.forget hf, r, x, hw _ _ _ _ h2, .inl ⟨rfl, hp⟩⟩
    · exact h.elim
  | [], [], some v, u, γ, σ, w, sl, a, dd, he, hr, _, hm, h => by
    obtain ⟨x, rfl, hv⟩ := hm
    obtain ⟨r, σ'', hw, hf, hp⟩ := h
    exact ⟨γ, σ'', he, hr.inv.forget hf, r, x, hw _ _ _ _ hv, .inr ⟨rfl, hp⟩⟩
  | (f, vs) :: ds, x :: xs, m, u, γ, σ, w, sl, a, dd, he, hr, hd, hm, h => by
    obtain ⟨⟨cap, h1, h2⟩, h3⟩ := hd
    have h : SDCall P G f vs m σ fun r σ' => SLeave P G rs Post ds (if r then none else m) sl σ' := h
    obtain ⟨g1, g2⟩ := h w0 γ w (x.args ++ cap) u hr.inv h2 hm
    obtain ⟨t, xa⟩ := x
    simp only at h1 g1 g2
    subst h1
    have hu : u ≠ .run := by
      cases m with
      | none => have hm : u = .returning := hm; subst hm; simp
      | some v => obtain ⟨x, rfl, _⟩ := hm; simp
    refine leaves_cons (f := f) (args := xa ++ cap) hu (by simpa [invoke] using g1) (g2.mono ?_)
    rintro e u' w' ⟨γ', σ', r, he', hI', ⟨v, rfl⟩, hp, rfl⟩
    exact leave_sound hres ds xs _ _ (he.trans he') (hr.ext he' hI') (h3.ext he') ((hm.ext he').settle r) hp
  | [], _ :: _, _, _, _, _, _, _, _, _, _, _, hd, _, _ => hd.elim
  | _ :: _, [], _, _, _, _, _, _, _, _, _, _, hd, _, _ => hd.elim

def swpD (P : Program) (G : Globs) (rs : List (Nat × Option (Bool × Nat))) (Post : SEnd → St → Prop) : SD → List (FuncId × List V) → Slots → St → Prop
  | .code c, ds, sl, σ => swp P G c (fun e sl σ => match e with
    | .normal => SLeave P G rs Post ds none sl σ
    | .ret => SLeave P G rs Post ds none sl σ
    | .pan v => SLeave P G rs Post ds (some v) sl σ
    | .exit _ => False) sl σ
  | .seq c d, ds, sl, σ => swp P G c (fun e sl σ => match e with
    | .normal => swpD P G rs Post d ds sl σ
    | .ret => SLeave P G rs Post ds none sl σ
    | .pan v => SLeave P G rs Post ds (some v) sl σ
    | .exit _ => False) sl σ
  | .defer ops x args ks d, ds, sl, σ => sOps P G (fun v σ => SLeave P G rs Post ds (some v) (fun _ => none) σ) (fun sl σ => match x.ev sl G, evs sl G args with
    | some (.func f u v), some vs => swpD P G rs Post d ((f, u ++ vs ++ v) :: ds) (keepO ks sl) σ
    | _, _ => False) ops sl σ
  | .cond c ks x y, ds, sl, σ => match c.ev sl G with
    | some (.bool t) => Br t (swpD P G rs Post x ds (keepO ks sl) σ) (swpD P G rs Post y ds (keepO ks sl) σ)
    | _ => False

def deferOp (o : Oper) : Option (Operand × List Operand) := match o.op, o.guard, o.dst with
  | .defer { callee := .value x, args, argTypes := _ }, none, none => some (x, args.toList)
  | _, _, _ => none
/-- The code is this shadow code. -/
def trD (P : Program) (n : Nat) : SD → Code → Prop
  | .code sc, c => tr P n c = some (strip sc)
  | .seq sc d, .seq a b => tr P n a = some (strip sc) ∧ trD P n d b
  | .defer ops x args _ d, .seq (.region _ os false) b => (∃ k, os.size = k + 1 ∧ trOpers P n os (os.toList.take k) = some ops ∧ ∃ o y ys, os[k]? = some o ∧ deferOp o = some (y, ys) ∧ trOpd y = some x ∧ trOpds ys = some args) ∧ trD P n d b
  | .cond oc _ x y, .cond c a b => trOpd c = some oc ∧ trD P n x a ∧ trD P n y b
  | _, _ => False

theorem wpOps_append {ops : Array Oper} {Q : Exit → Act → World → Prop} : ∀ (l1 l2 : List Nat) (a : Act) (w : World), wpOps P ops (fun e a w => match e with
      | .normal => wpOps P ops Q l2 a w
      | e => Q e a w) l1 a w → wpOps P ops Q (l1 ++ l2) a w
  | [], l2, a, w, h => h
  | i :: l1, l2, a, w, h => by
    simp only [List.cons_append, wpOps] at h ⊢
    split
    · rename_i ho; simp only [ho] at h; exact wpOps_append l1 l2 a w h
    · rename_i o ho
      simp only [ho] at h
      split
      · rename_i hw
        simp only [hw, if_true] at h
        have key : ∀ r : Result Next, o.upon P a (wpOps P ops (fun e a w => match e with
            | .normal => wpOps P ops Q l2 a w
            | e => Q e a w) l1) (fun e a w => match e with
            | .normal => wpOps P ops Q l2 a w
            | e => Q e a w) r → o.upon P a (wpOps P ops Q (l1 ++ l2)) Q r := by
          intro r hr
          unfold Oper.upon at hr ⊢
          split at hr
          · exact wpOps_append l1 l2 _ _ hr
          · exact wpOps_append l1 l2 _ _ hr
          · exact wpOps_append l1 l2 _ _ hr
          · refine hr.mono fun e w' he => ?_
            cases e with
            | returned v => exact wpOps_append l1 l2 _ _ he
            | panicked ch => exact he
            | outgrown => exact he
          · exact hr.mono fun v w' he => wpOps_append l1 l2 _ _ he
          · exact hr
          · exact hr.elim
        rcases h with h | h
        · exact .inl (key _ h)
        · exact .inr h
      · rename_i hw
        simp only [hw, if_false] at h
        exact wpOps_append l1 l2 _ _ h

theorem swpD_sound (hm : P.follows .mixedOrders = true) {fn : Func} {rs : List (Nat × Option (Bool × Nat))} {Post : SEnd → St → Prop} (hres : trRes P fn.results.toList = some rs) {γ0 : Gh} {wb : World} : ∀ (sd : SD) {c : Code} {ds : List (FuncId × List V)} {γ : Gh} {σ : St} {w : World} {sl : Slots} {a : Act} {dd : List Deferred},
    trD P n sd c → Ext w0.heap.size γ0 wb γ w → Rel G w0 γ σ w n dd sl a → DRels w0.heap.size γ w ds dd → swpD P G rs Post sd ds sl σ → c.wp P (bodyPostD P fn (retR G w0 γ0 wb Post)) a w
  | .code sc, c, ds, γ, σ, w, sl, a, dd, ht, he, hr, hd, h => by
    refine wp_mono (swp_sound hm sc ht hr h) ?_
    rintro e a' w' ⟨γ', σ', sl', he', hr', hq⟩
    cases e with
    | normal => simp only [bodyPostD]; rw [hr'.defs]; exact leave_sound hres ds dd none _ (he.trans he') hr' (hd.ext he') rfl hq
    | ret => simp only [bodyPostD]; rw [hr'.defs]; exact leave_sound hres ds dd none _ (he.trans he') hr' (hd.ext he') rfl hq
    | exit id => exact hq.elim
    | panic ch =>
      obtain ⟨v, x, rfl, hv, hq⟩ := hq
      simp only [bodyPostD]; rw [hr'.defs]; exact leave_sound hres ds dd (some v) _ (he.trans he') hr' (hd.ext he') ⟨x, rfl, hv⟩ hq
    | goto l => exact hq.elim
    | outgrown => exact hq.elim
  | .seq sc d, c, ds, γ, σ, w, sl, a, dd, ht, he, hr, hd, h => by
    cases c <;> simp only [trD] at ht <;> first | exact ht.elim | skip
    refine wp_seq (wp_mono (swp_sound hm sc ht.1 hr h) ?_)
    rintro e a' w' ⟨γ', σ', sl', he', hr', hq⟩
    cases e with
    | normal => exact swpD_sound hm hres d ht.2 (he.trans he') hr' (hd.ext he') hq
    | ret => simp only [Exit.then, bodyPostD]; rw [hr'.defs]; exact leave_sound hres ds dd none _ (he.trans he') hr' (hd.ext he') rfl hq
    | exit id => exact hq.elim
    | panic ch =>
      obtain ⟨v, x, rfl, hv, hq⟩ := hq
      simp only [Exit.then, bodyPostD]; rw [hr'.defs]; exact leave_sound hres ds dd (some v) _ (he.trans he') hr' (hd.ext he') ⟨x, rfl, hv⟩ hq
    | goto l => exact hq.elim
    | outgrown => exact hq.elim
  | .cond oc ks x y, c, ds, γ, σ, w, sl, a, dd, ht, he, hr, hd, h => by
    cases c <;> simp only [trD] at ht <;> first | exact ht.elim | skip
    simp only [swpD] at h
    split at h
    · rename_i t hv
      have hR := ev_sound hr ht.1 hv
      generalize hce : a.eval _ = cv at hR
      cases hR
      exact wp_cond_split hce (fun e => swpD_sound hm hres x ht.2.1 he (hr.keep ks) hd (h.1 e)) (fun e => swpD_sound hm hres y ht.2.2 he (hr.keep ks) hd (h.2 e))
    · exact h.elim
  | .defer ops x args ks d, c, ds, γ, σ, w, sl, a, dd, ht, he, hr, hd, h => by
    cases c <;> first | exact False.elim ht | skip
    rename_i c1 c2
    cases c1 <;> first | exact False.elim ht | skip
    rename_i id os draw
    cases draw <;> first | exact False.elim ht | skip
    obtain ⟨⟨k, hk, hops, o, y, ys, ho, hdo, hy, hys⟩, ht2⟩ := ht
    obtain ⟨hl, hget⟩ := trOpers_get hops
    have hlk : (os.toList.take k).length = k := by simp [hk]
    refine wp_seq (wp_region ?_)
    rw [hk, List.range_succ]
    refine wpOps_append _ _ _ _ ?_
    refine sOps_sound (G := G) (w0 := w0) (K := fun sl σ => match x.ev sl G, evs sl G args with
      | some (.func f u v), some vs => swpD P G rs Post d ((f, u ++ vs ++ v) :: ds) (keepO ks sl) σ
      | _, _ => False) (Kp := fun v σ => SLeave P G rs Post ds (some v) (fun _ => none) σ) (List.range k) ops hr (by simp; omega) (fun j i so hj hso => ?_) h (fun γ' σ' w' sl' a' he' hr' hq => ?_) (fun γ' σ' w' v x' a' he' hr' hv hq _ => ?_)
    · obtain ⟨o', h1, h2⟩ := hget j so hso
      have hj' : j < k := by have := (List.getElem?_eq_some_iff.1 hj).1; simpa using this
      have : i = j := by simp [hj'] at hj; exact hj.symm
      subst this
      refine ⟨o', ?_, h2⟩
      rw [List.getElem?_take, if_pos hj'] at h1
      simpa using h1
    · -- the deferred call
      split at hq
      · rename_i f u v vs h1 h2
        have e1 := ev_sound hr' hy h1
        have hRL := evs_sound hr' hys h2
        unfold deferOp at hdo
        split at hdo
        · rename_i xo xargs xts hop hguard hdst
          injection hdo with hdo; injection hdo with q1 q2; subst q1; subst q2
          generalize hxe : a'.eval xo = xe at e1
          cases e1 with | func _ _ _ fs cs hl1 hl2 hr1 hr2 =>
          have r1 : RL w0.heap.size γ' w' u fs.toList := ⟨by simpa using hl1, fun i x y hx hy => hr1 i x y hx (by simpa using hy)⟩
          have r2 : RL w0.heap.size γ' w' v cs.toList := ⟨by simpa using hl2, fun i x y hx hy => hr2 i x y hx (by simpa using hy)⟩
          have hexec : (execOp a'.eval o).run P w' = .ok (.defer { target := .fn (.func f) cs, args := fs ++ xargs.map a'.eval }) w' := by
            simp [execOp, hop, resolve, hxe, Deferred.ofValue]
          have hwant : Region.wanted o (yielded os a'.tmps) = true := by simp [Region.wanted, hguard]
          simp only [wpOps, ho, hwant, if_true]
          refine .inl ?_
          unfold Oper.wp
          rw [hexec, Oper.upon_defer]
          have hput : ∀ b : Act, b.put o.dst undef = b := by intro b; rw [hdst]; rfl
          rw [hput]
          have hr2' : Rel G w0 γ' σ' w' n ({ target := .fn (.func f) cs, args := fs ++ xargs.map a'.eval } :: dd) sl' { a' with defers := { target := .fn (.func f) cs, args := fs ++ xargs.map a'.eval } :: a'.defers } :=
            ⟨hr'.inv, hr'.slots, hr'.size, by simp [hr'.defs]⟩
          exact swpD_sound (ds := (f, u ++ vs ++ v) :: ds) hm hres d ht2 (he.trans he') (hr2'.keep ks) ⟨⟨cs, rfl, by simpa using (r1.append hRL).append r2⟩, hd.ext he'⟩ hq
        · cases hdo
      · exact hq.elim
    · simp only [Exit.then, bodyPostD]; rw [hr'.defs]; exact leave_sound hres ds dd (some v) _ (he.trans he') hr' (hd.ext he') ⟨x', rfl, hv⟩ hq

/-- A function that defers calls. -/
structure IsCodeD (P : Program) (f : FuncId) (sd : SD) (rs : List (Nat × Option (Bool × Nat))) (n : Nat) : Prop where
  h : ∃ fn c, P.funcs[f]? = some fn ∧ (fn.name == "runtime.NumGoroutine") = false ∧ fn.body = some c ∧ trD P fn.ntmps sd c ∧ trRes P fn.results.toList = some rs ∧ fn.ntmps = n
theorem SCall.of_codeD (hm : P.follows .mixedOrders = true) {f : FuncId} {sd : SD} {rs : List (Nat × Option (Bool × Nat))} {args : List V} {Post : SEnd → St → Prop} (hc : IsCodeD P f sd rs n) (hl : args.length ≤ n) (h : swpD P G rs Post sd [] (argS 0 args) σ) : SCall P G f args σ Post := by
  obtain ⟨fn, c, hf, hname, hb, htr, hres, hn⟩ := hc
  subst hn
  intro w0 γ w xs hI hRL
  have hname' : ¬ fn.name = "runtime.NumGoroutine" := by simpa using hname
  refine .inl ⟨by simp [callFunc, hf, hname', hb], calls_of_wp_defers hf hb ?_⟩
  have hlen : args.length = xs.size := by simpa using hRL.1
  have hrel : Rel G w0 γ σ w fn.ntmps [] (argS 0 args) { tmps := xs ++ Array.replicate (fn.ntmps - xs.size) undef, defers := [] } := by
    refine ⟨hI, fun t v hv => ?_, by simp; omega, rfl⟩
    obtain ⟨j, rfl, hj⟩ := argS_get hv
    have hjl : j < xs.size := by rw [← hlen]; exact (List.getElem?_eq_some_iff.1 hj).1
    have := hRL.2 j v xs[j] hj (by simp [hjl])
    simp only [Nat.zero_add, Array.getD_eq_getD_getElem?]
    rw [Array.getElem?_append_left hjl, Array.getElem?_eq_getElem hjl]
    exact this
  exact swpD_sound (ds := []) hm hres sd htr (.refl _ _ _) hrel (show DRels _ _ _ [] [] from trivial) h

/-- A deferred call of a function that defers and recovers nothing. -/
theorem SDCall.of_code (hm : P.follows .mixedOrders = true) {f : FuncId} {sc : SC} {rs : List (Nat × Option (Bool × Nat))} {args : List V} {mode : Option V} {Post : Bool → St → Prop} (hc : IsCode P f sc rs n) (hl : args.length ≤ n)
    (h : swpE P G sc (retE rs fun e σ' => (∃ v, e = .ret v) ∧ Post false σ') (argS 0 args) σ) : SDCall P G f args mode σ Post := by
  obtain ⟨fn, c, h1, h2, h3, h4, h5, h6⟩ := hc
  subst h6
  intro w0 γ w xs u hI hRL hmode
  have hs : SCall P G f args σ (fun e σ' => (∃ v, e = .ret v) ∧ Post false σ') := IsCode.call hm ⟨fn, c, h1, h2, h3, h4, h5, rfl⟩ hl h
  have hname' : ¬ fn.name = "runtime.NumGoroutine" := by simpa using h2
  refine ⟨by simp [callFunc, h1, hname', h3], ?_⟩
  have hlen : args.length = xs.size := by simpa using hRL.1
  have hrel : Rel G w0 γ σ w fn.ntmps [] (argS 0 args) { tmps := xs ++ Array.replicate (fn.ntmps - xs.size) undef, defers := [] } := by
    refine ⟨hI, fun t v hv => ?_, by simp; omega, rfl⟩
    obtain ⟨j, rfl, hj⟩ := argS_get hv
    have hjl : j < xs.size := by rw [← hlen]; exact (List.getElem?_eq_some_iff.1 hj).1
    have := hRL.2 j v xs[j] hj (by simp [hjl])
    simp only [Nat.zero_add, Array.getD_eq_getD_getElem?]
    rw [Array.getElem?_append_left hjl, Array.getElem?_eq_getElem hjl]
    exact this
  have hswp := swpE.swp (Q := retE rs fun e σ' => (∃ v, e = .ret v) ∧ Post false σ') (Q' := retE rs fun e σ' => (∃ v, e = .ret v) ∧ Post false σ') (fun _ _ _ h => h) (fun _ => rfl) h
  refine (callsD_of_wp (R := fun e w' => ∃ γ' σ', Ext w0.heap.size γ w γ' w' ∧ Inv G w0 γ' σ' w' ∧ (∃ v, e = .returned v) ∧ Post false σ') h1 h3 (wp_mono (swp_sound hm sc h4 hrel hswp) ?_)).mono ?_
  · rintro e a' w' ⟨γ', σ', sl', he, hr', hq⟩
    have fin : (∃ vs, sResL sl' σ' rs = some vs ∧ Ret (wrapRes vs) σ' (fun e σ' => (∃ v, e = .ret v) ∧ Post false σ')) → bodyPost P fn (fun e w' => ∃ γ' σ', Ext w0.heap.size γ w γ' w' ∧ Inv G w0 γ' σ' w' ∧ (∃ v, e = .returned v) ∧ Post false σ') .ret a' w' := by
      rintro ⟨vs, hv, ⟨r, σ'', hw, hf, _, hp⟩⟩
      obtain ⟨x, q1, q2⟩ := res_sound (P := P) hr' h5 (wrapRes_sRes hv)
      exact ⟨hr'.defs, x, q1, γ', σ'', he, hr'.inv.forget hf, ⟨x, rfl⟩, hp⟩
    cases e with
    | normal => exact fin (resK_sound hq)
    | ret => exact fin (resK_sound hq)
    | exit id => exact hq.elim
    | panic ch =>
      obtain ⟨v, x, rfl, hv, r, σ'', hw, hf, ⟨v', hv'⟩, hp⟩ := hq
      cases hv'
    | goto l => exact hq.elim
    | outgrown => exact hq.elim
  · rintro e u' w' ⟨rfl, γ', σ', he, hI', hv, hp⟩
    exact ⟨γ', σ', false, he, hI', hv, hp, rfl⟩

/-! ### the same, cut for stepping -/
structure DefK (P : Program) (G : Globs) (f : FuncId) (args : List V) (mode : Option V) (σ : St) (K : Bool → St → Prop) : Prop where
  h : SDCall P G f args mode σ K
theorem SDCall.mono {f : FuncId} {args : List V} {mode : Option V} {σ : St} {K K' : Bool → St → Prop} (h : SDCall P G f args mode σ K) (k : ∀ r σ', K r σ' → K' r σ') : SDCall P G f args mode σ K' := by
  intro w0 γ w xs u hI hRL hm
  obtain ⟨h1, h2⟩ := h w0 γ w xs u hI hRL hm
  exact ⟨h1, h2.mono fun e u' w' ⟨γ', σ', r, g1, g2, g3, g4, g5⟩ => ⟨γ', σ', r, g1, g2, g3, k _ _ g4, g5⟩⟩
theorem DefK.mk' {f : FuncId} {args : List V} {mode : Option V} {σ : St} {K K' : Bool → St → Prop} (h : SDCall P G f args mode σ K) (k : ∀ r σ', K r σ' → K' r σ') : DefK P G f args mode σ K' := ⟨h.mono k⟩
def SLeaveE (P : Program) (G : Globs) (rs : List (Nat × Option (Bool × Nat))) (Post : SEnd → St → Prop) : List (FuncId × List V) → Option V → Slots → St → Prop
  | [], none, sl, σ => retE rs Post .ret sl σ
  | [], some v, _, σ => Pan v σ Post
  | (f, vs) :: ds, m, sl, σ => DefK P G f vs m σ fun r σ' => SLeaveE P G rs Post ds (if r then none else m) sl σ'
theorem SLeaveE.leave {rs : List (Nat × Option (Bool × Nat))} {Post : SEnd → St → Prop} : ∀ {ds : List (FuncId × List V)} {m : Option V} {sl : Slots} {σ : St}, SLeaveE P G rs Post ds m sl σ → SLeave P G rs Post ds m sl σ
  | [], none, sl, σ, h => by
    obtain ⟨vs, h1, h2⟩ := resK_sound (show resK sl σ rs fun vs => Ret (wrapRes vs) σ Post from h)
    simp only [SLeave, retQ, wrapRes_sRes h1]
    exact h2.h
  | [], some v, sl, σ, h => (show Pan v σ Post from h).h
  | (f, vs) :: ds, m, sl, σ, h => (show DefK P G f vs m σ _ from h).h.mono fun r σ' h => SLeaveE.leave h
def swpDE (P : Program) (G : Globs) (rs : List (Nat × Option (Bool × Nat))) (Post : SEnd → St → Prop) : SD → List (FuncId × List V) → Slots → St → Prop
  | .code c, ds, sl, σ => swpE P G c (fun e sl σ => match e with
    | .normal => SLeaveE P G rs Post ds none sl σ
    | .ret => SLeaveE P G rs Post ds none sl σ
    | .pan v => SLeave P G rs Post ds (some v) sl σ
    | .exit _ => False) sl σ
  | .seq c d, ds, sl, σ => swpE P G c (fun e sl σ => match e with
    | .normal => swpDE P G rs Post d ds sl σ
    | .ret => SLeaveE P G rs Post ds none sl σ
    | .pan v => SLeave P G rs Post ds (some v) sl σ
    | .exit _ => False) sl σ
  | .defer ops x args ks d, ds, sl, σ => sOpsE P G (fun v σ => SLeave P G rs Post ds (some v) (fun _ => none) σ) (fun sl σ => match x.ev sl G, evs sl G args with
    | some (.func f u v), some vs => swpDE P G rs Post d ((f, u ++ vs ++ v) :: ds) (keepO ks sl) σ
    | _, _ => False) ops sl σ
  | .cond c ks x y, ds, sl, σ => match c.ev sl G with
    | some (.bool t) => BrE t (swpDE P G rs Post x ds (keepO ks sl) σ) (swpDE P G rs Post y ds (keepO ks sl) σ)
    | _ => False
theorem swpDE.swpD {rs : List (Nat × Option (Bool × Nat))} {Post : SEnd → St → Prop} : ∀ {sd : SD} {ds : List (FuncId × List V)} {sl : Slots} {σ : St}, swpDE P G rs Post sd ds sl σ → Shadow.swpD P G rs Post sd ds sl σ
  | .code c, ds, sl, σ, h => by
    refine swpE.swp ?_ ?_ (show swpE P G c _ sl σ from h)
    · intro e sl σ h
      cases e with
      | normal => exact SLeaveE.leave h
      | ret => exact SLeaveE.leave h
      | pan v => exact h
      | exit id => exact h
    · intro v; rfl
  | .seq c d, ds, sl, σ, h => by
    refine swpE.swp ?_ ?_ (show swpE P G c _ sl σ from h)
    · intro e sl σ h
      cases e with
      | normal => exact swpDE.swpD h
      | ret => exact SLeaveE.leave h
      | pan v => exact h
      | exit id => exact h
    · intro v; rfl
  | .defer ops x args ks d, ds, sl, σ, h => by
    refine sOpsE.ops (fun sl σ h => ?_) (show sOpsE P G _ _ ops sl σ from h)
    revert h
    cases x.ev sl G with
    | none => exact False.elim
    | some u =>
      cases evs sl G args with
      | none => intro h; cases u <;> exact h.elim
      | some vs =>
        cases u <;> first | exact False.elim | exact fun h => swpDE.swpD h
  | .cond c ks x y, ds, sl, σ, h => by
    simp only [swpDE] at h
    simp only [Shadow.swpD]
    split at h
    · rename_i e1
      have := h.br
      try simp only [e1]
      exact ⟨fun e => swpDE.swpD (this.1 e), fun e => swpDE.swpD (this.2 e)⟩
    · exact h.elim
def stripD : SD → SD
  | .code c => .code (strip c)
  | .seq c d => .seq (strip c) (stripD d)
  | .defer ops x args _ d => .defer ops x args none (stripD d)
  | .cond c _ a b => .cond c none (stripD a) (stripD b)
def trX (P : Program) (n : Nat) : SD → Code → Option SD
  | .code _, c => match tr P n c with
    | some x => some (.code x)
    | none => none
  | .seq _ d, .seq a b => match tr P n a, trX P n d b with
    | some x, some y => some (.seq x y)
    | _, _ => none
  | .defer _ _ _ _ d, .seq (.region _ os false) b => match os[os.size - 1]? with
    | some o => match trOpers P n os (os.toList.take (os.size - 1)), deferOp o, trX P n d b with
      | some ops, some (y, ys), some r => match trOpd y, trOpds ys with
        | some x, some args => some (.defer ops x args none r)
        | _, _ => none
      | _, _, _ => none
    | none => none
  | .cond _ _ x y, .cond c a b => match trOpd c, trX P n x a, trX P n y b with
    | some oc, some x, some y => some (.cond oc none x y)
    | _, _, _ => none
  | _, _ => none
theorem trX_spec : ∀ {sd : SD} {c : Code}, trX P n sd c = some (stripD sd) → trD P n sd c
  | .code sc, c, h => by
    simp only [trX, stripD] at h
    split at h
    · rename_i x hx; injection h with h; injection h with h; subst h; exact hx
    · cases h
  | .seq sc d, c, h => by
    cases c <;> simp only [trX, stripD] at h <;> first | cases h | skip
    split at h
    · rename_i x y h1 h2; injection h with h; injection h with e1 e2; subst e1; subst e2
      exact ⟨h1, trX_spec h2⟩
    · cases h
  | .cond oc ks x y, c, h => by
    cases c <;> simp only [trX, stripD] at h <;> first | cases h | skip
    split at h
    · rename_i x y h0 h1 h2; injection h with h; injection h with e0 _ e1 e2; subst e0; subst e1; subst e2
      exact ⟨h0, trX_spec h1, trX_spec h2⟩
    · cases h
  | .defer ops x args ks d, c, h => by
    cases c <;> first | (exfalso; simp [trX, stripD] at h; done) | skip
    rename_i c1 c2
    cases c1 <;> first | (exfalso; simp [trX, stripD] at h; done) | skip
    rename_i id os draw
    cases draw <;> first | (exfalso; simp [trX, stripD] at h; done) | skip
    simp only [trX, stripD] at h
    split at h
    · rename_i o ho
      split at h
      · rename_i ops' y ys r h1 h2 h3
        split at h
        · rename_i x' args' h4 h5
          injection h with h; injection h with e0 e1 e2 _ e3; subst e0; subst e1; subst e2; subst e3
          have hlt : os.size - 1 < os.size := (Array.getElem?_eq_some_iff.1 ho).1
          exact ⟨⟨os.size - 1, by omega, h1, o, y, ys, ho, h2, h4, h5⟩, trX_spec h3⟩
        · cases h
      · cases h
    · cases h
theorem IsCodeD.mk' {f : FuncId} {sd : SD} {rs : List (Nat × Option (Bool × Nat))} {fn : Func} (h1 : P.funcs[f]? = some fn) (h2 : (fn.name == "runtime.NumGoroutine") = false)
    (h3 : fn.body.bind (trX P fn.ntmps sd) = some (stripD sd)) (h4 : trRes P fn.results.toList = some rs) (h5 : fn.ntmps = n) : IsCodeD P f sd rs n := by
  rw [Option.bind_eq_some_iff] at h3
  obtain ⟨c, h3, h6⟩ := h3
  exact ⟨fn, c, h1, h2, h3, trX_spec h6, h4, h5⟩
theorem IsCodeD.call (hm : P.follows .mixedOrders = true) {f : FuncId} {sd : SD} {rs : List (Nat × Option (Bool × Nat))} {n : Nat} {args : List V} {σ : St} {Post : SEnd → St → Prop} (hc : IsCodeD P f sd rs n) (hl : args.length ≤ n) (h : swpDE P G rs Post sd [] (argS 0 args) σ) : SCall P G f args σ Post :=
  SCall.of_codeD hm hc hl h.swpD
end
end Go.Shadow

/- THE SHADOW LOGIC, part 22: deferred functions that recover. -/
namespace Go.Shadow
open Go Go.RowKit

def moveOf : Op → Option Nat
  | .move (.tmp t) => some t
  | .assign (.tmp t) => some t
  | _ => none
def isRec : Op → Bool
  | .call { callee := .builtin .recover, args := ⟨[]⟩, argTypes := _ } => true
  | _ => false
/-- A region that recovers, and moves what it has got. -/
def recOps (os : List Oper) : Option (Nat × Nat) := match os with
  | [o1, o2] => match isRec o1.op, o1.guard, o1.dst, moveOf o2.op, o2.guard, o2.dst with
    | true, none, some d1, some t, none, some d2 => if t = d1 then some (d1, d2) else none
    | _, _, _, _, _, _ => none
  | _ => none
def trR (P : Program) (n : Nat) (sc : SC) (d1 d2 : Nat) : Code → Prop
  | .seq (.region _ os false) c => recOps os.toList = some (d1, d2) ∧ tr P n c = some (strip sc)
  | _ => False

section
variable {P : Program} {G : Globs} {w0 w : World} {γ : Gh} {σ : St} {n : Nat} {sl : Slots} {a : Act} {rs : List (Nat × Option (Bool × Nat))}

structure IsCodeR (P : Program) (f : FuncId) (d1 d2 : Nat) (sc : SC) (rs : List (Nat × Option (Bool × Nat))) (n : Nat) : Prop where
  h : ∃ fn c, P.funcs[f]? = some fn ∧ (fn.name == "runtime.NumGoroutine") = false ∧ fn.body = some c ∧ trR P n sc d1 d2 c ∧ trRes P fn.results.toList = some rs ∧ fn.ntmps = n ∧ d1 < n ∧ d2 < n

theorem isRec_run {P : Program} {o : Oper} {ev : Operand → Value} {w : World} (h : isRec o.op = true) : (execOp ev o).run P w = .ok .recover w := by
  unfold isRec at h
  split at h
  · rename_i ts hop
    simp [execOp, hop]
    rfl
  · cases h
theorem moveOf_run {P : Program} {o : Oper} {ev : Operand → Value} {w : World} {t : Nat} (h : moveOf o.op = some t) : (execOp ev o).run P w = .ok (.value (ev (.tmp t))) w := by
  unfold moveOf at h
  split at h
  · rename_i t' hop; injection h with h; subst h; simp [execOp, hop]
  · rename_i t' hop; injection h with h; subst h; simp [execOp, hop]
  · cases h

theorem SDCall.of_rec (hm : P.follows .mixedOrders = true) {f : FuncId} {d1 d2 : Nat} {sc : SC} {args : List V} {mode : Option V} {Post : Bool → St → Prop} (hc : IsCodeR P f d1 d2 sc rs n) (hl : args.length ≤ n)
    (h : swpE P G sc (retE rs fun e σ' => (∃ v, e = .ret v) ∧ Post mode.isSome σ') (((argS 0 args).upd d1 (mode.getD .nilIface)).upd d2 (mode.getD .nilIface)) σ) : SDCall P G f args mode σ Post := by
  obtain ⟨fn, c, h1, h2, h3, h4, h5, h6, hd1, hd2⟩ := hc
  subst h6
  cases c <;> first | exact False.elim h4 | skip
  rename_i c1 c2
  cases c1 <;> first | exact False.elim h4 | skip
  rename_i id os draw
  cases draw <;> first | exact False.elim h4 | skip
  obtain ⟨h4, h4'⟩ := h4
  intro w0 γ w xs u hI hRL hmode
  have hname' : ¬ fn.name = "runtime.NumGoroutine" := by simpa using h2
  refine ⟨by simp [callFunc, h1, hname', h3], ?_⟩
  have hlen : args.length = xs.size := by simpa using hRL.1
  have hrel : Rel G w0 γ σ w fn.ntmps [] (argS 0 args) { tmps := xs ++ Array.replicate (fn.ntmps - xs.size) undef, defers := [] } := by
    refine ⟨hI, fun t v hv => ?_, by simp; omega, rfl⟩
    obtain ⟨j, rfl, hj⟩ := argS_get hv
    have hjl : j < xs.size := by rw [← hlen]; exact (List.getElem?_eq_some_iff.1 hj).1
    have := hRL.2 j v xs[j] hj (by simp [hjl])
    simp only [Nat.zero_add, Array.getD_eq_getD_getElem?]
    rw [Array.getElem?_append_left hjl, Array.getElem?_eq_getElem hjl]
    exact this
  have hswp := swpE.swp (Q := retE rs fun e σ' => (∃ v, e = .ret v) ∧ Post mode.isSome σ') (Q' := retE rs fun e σ' => (∃ v, e = .ret v) ∧ Post mode.isSome σ') (fun _ _ _ h => h) (fun _ => rfl) h
  -- the region
  obtain ⟨o1, o2, hos, g1, g2, g3, g4, g5, g6⟩ : ∃ o1 o2, os.toList = [o1, o2] ∧ isRec o1.op = true ∧ o1.guard = none ∧ o1.dst = some d1 ∧ moveOf o2.op = some d1 ∧ o2.guard = none ∧ o2.dst = some d2 := by
    unfold recOps at h4
    split at h4
    · rename_i o1 o2 e
      split at h4
      · rename_i e1 e2 e3 e4 e5 e6
        split at h4
        · rename_i ht
          injection h4 with h4; injection h4 with q1 q2; subst q1; subst q2; subst ht
          exact ⟨o1, o2, e, e1, e2, e3, e4, e5, e6⟩
        · cases h4
      · cases h4
    · cases h4
  have hos' : os = #[o1, o2] := by cases os; simp at hos; rw [hos]
  subst hos'
  refine callsD_of_wpS h1 h3 fun c₀ cs hu => wpS_seq (wpS_region ?_)
  generalize ha : ({ tmps := xs ++ Array.replicate (fn.ntmps - xs.size) undef, defers := [] } : Act) = a0 at hrel
  have hput : ∀ {a : Act} {sl : Slots} {γ : Gh} {σ : St} {w : World} {d : Nat} {v : V} {x : Value}, Rel G w0 γ σ w fn.ntmps [] sl a → d < fn.ntmps → R w0.heap.size γ w v x → Rel G w0 γ σ w fn.ntmps [] (sl.upd d v) (a.put (some d) x) :=
    fun hr hd hv => hr.put (d := some _) (fun k hk => by injection hk with hk; subst hk; exact hd) hv
  have key : ∀ (x : Value) (cs2 : List Frame) (u2 : FrameMode), R w0.heap.size γ w (mode.getD .nilIface) x → cs2 = { c₀ with mode := u2 } :: cs → u2 = (if mode.isSome then recMode u else u) →
      Exit.thenS (c2.wpS P (bodyPostS P fn c₀ cs fun e u' w' => ∃ γ' σ' r, Ext w0.heap.size γ w γ' w' ∧ Inv G w0 γ' σ' w' ∧ (∃ v, e = .returned v) ∧ Post r σ' ∧ u' = (if r then recMode u else u))) (bodyPostS P fn c₀ cs fun e u' w' => ∃ γ' σ' r, Ext w0.heap.size γ w γ' w' ∧ Inv G w0 γ' σ' w' ∧ (∃ v, e = .returned v) ∧ Post r σ' ∧ u' = (if r then recMode u else u)) .normal
        ((a0.put (some d1) x).put (some d2) ((a0.put (some d1) x).eval (.tmp d1))) cs2 w := by
    intro x cs2 u2 hx hcs hu2
    have hr1 := hput hrel hd1 hx
    have hev : R w0.heap.size γ w (mode.getD .nilIface) ((a0.put (some d1) x).eval (.tmp d1)) := hr1.slots d1 _ (by simp [Slots.upd])
    have hr2 := hput hr1 hd2 hev
    refine wpS_of_wp (wp_mono (swp_sound hm sc h4' hr2 hswp) ?_)
    rintro e a' w' ⟨γ', σ', sl', he, hr', hq⟩
    have fin : (∃ vs, sResL sl' σ' rs = some vs ∧ Ret (wrapRes vs) σ' (fun e σ' => (∃ v, e = .ret v) ∧ Post mode.isSome σ')) → bodyPostS P fn c₀ cs (fun e u' w' => ∃ γ' σ' r, Ext w0.heap.size γ w γ' w' ∧ Inv G w0 γ' σ' w' ∧ (∃ v, e = .returned v) ∧ Post r σ' ∧ u' = (if r then recMode u else u)) .ret a' cs2 w' := by
      rintro ⟨vs, hv, ⟨r, σ'', hw, hf, _, hp⟩⟩
      obtain ⟨y, q1, q2⟩ := res_sound (P := P) hr' h5 (wrapRes_sRes hv)
      exact ⟨hr'.defs, u2, hcs, y, q1, γ', σ'', mode.isSome, he, hr'.inv.forget hf, ⟨y, rfl⟩, hp, hu2⟩
    cases e with
    | normal => exact fin (resK_sound hq)
    | ret => exact fin (resK_sound hq)
    | exit id => exact hq.elim
    | panic ch =>
      obtain ⟨v, x, rfl, hv, r, σ'', hw, hf, ⟨v', hv'⟩, hp⟩ := hq
      cases hv'
    | goto l => exact hq.elim
    | outgrown => exact hq.elim
  have hw1 : ∀ a : Act, Region.wanted o1 (yielded #[o1, o2] a.tmps) = true := fun a => by simp [Region.wanted, g2]
  have hw2 : ∀ a : Act, Region.wanted o2 (yielded #[o1, o2] a.tmps) = true := fun a => by simp [Region.wanted, g5]
  have hl2 : List.range (#[o1, o2] : Array Oper).size = [0, 1] := rfl
  rw [hl2]
  have e0 : (#[o1, o2] : Array Oper)[0]? = some o1 := rfl
  have e1 : (#[o1, o2] : Array Oper)[1]? = some o2 := rfl
  simp only [wpOpsS, e0, e1, hw1, hw2, if_true, isRec_run g1, moveOf_run g4, g3, g6, Oper.upon]
  cases mode with
  | none =>
    have hmode : u = .returning := hmode
    subst hmode
    simp only [recoverD, hu]
    exact key .nilIface _ _ .nilIface (by cases c₀; simp at hu; subst hu; rfl) rfl
  | some v =>
    obtain ⟨x, rfl, hv⟩ := hmode
    simp only [recoverD, hu]
    exact key x _ _ hv rfl rfl
theorem IsCodeR.mk' {f : FuncId} {d1 d2 : Nat} {sc : SC} {fn : Func} (h1 : P.funcs[f]? = some fn) (h2 : (fn.name == "runtime.NumGoroutine") = false)
    (h3 : fn.body.bind (fun c => match c with
      | .seq (.region _ os false) c => if recOps os.toList = some (d1, d2) then tr P fn.ntmps c else none
      | _ => none) = some (strip sc)) (h4 : trRes P fn.results.toList = some rs) (h5 : fn.ntmps = n) (h6 : d1 < n) (h7 : d2 < n) : IsCodeR P f d1 d2 sc rs n := by
  rw [Option.bind_eq_some_iff] at h3
  obtain ⟨c, h3, h8⟩ := h3
  refine ⟨fn, c, h1, h2, h3, ?_, h4, h5, h6, h7⟩
  split at h8
  · split at h8
    · rename_i hr; rw [h5] at h8; exact ⟨hr, h8⟩
    · cases h8
  · cases h8
end
end Go.Shadow

/- Shadow code of the parser (printed by a program). -/
namespace Go.Shadow.Lex
open Go Go.RowKit Go.Proofs
/-- quietus/parse.Forms -/
def sc8 : SC := (.seq (.region [.q 2 (.mv (.c (.slice .nil 0 []))), .q 3 (.alloc [(.int .i64 0), (.int .i64 0)])] (some [0, 3])) (.seq (.region [.q 4 (.alloc [(.slice .nil 0 [])])] (some [0, 3, 4])) (.seq (.region [.q 6 (.mv (.t 0)), .q 7 (.mkfn 25 [] [(.t 4)]), .q 8 (.call 24 [(.t 6), (.t 7)]), .q 5 (.alloc [(.int .i64 0), (.int .i64 0)]), .w (.store 2 (.t 5) (.t 8))] (some [3, 4, 5])) (.seq (.seq (.region [.q 9 (.faddr 1 (.t 5)), .q 10 (.load false 1 (.t 9)), .q 11 (.bin .neq (.t 10) (.c (.int .i64 0)))] (some [3, 4, 5, 11])) (.cond (.t 11) (some [3, 4, 5]) (.seq (.region [.q 12 (.load true 2 (.t 5)), .q 2 (.mv (.c (.slice .nil 0 []))), .w (.store 2 (.t 3) (.t 12))] (some [2, 3])) .ret) .skip)) (.seq (.region [.q 13 (.load false 1 (.t 4)), .q 14 (.load true 2 (.t 5)), .q 2 (.mv (.t 13)), .w (.store 2 (.t 3) (.t 14))] (some [2, 3])) .ret)))))
theorem code8 : IsCode Tryz.prog 8 sc8 [(2, none), (3, (some (true, 2)))] 15 := .mk' Tryz.func8 (by kernel_rfl) (by kernel_rfl) (by kernel_rfl) (by kernel_rfl)
/-- quietus/parse.Expr -/
def sc9 : SC := (.seq (.region [.q 2 (.alloc [(.int .i64 0), (.int .i64 0), (.str []), (.slice .nil 0 []), (.int .i64 0)]), .q 3 (.alloc [(.int .i64 0), (.int .i64 0)])] (some [0, 2, 3])) (.seq (.region [.q 4 (.alloc [(.int .i64 0), (.int .i64 0), (.str []), (.slice .nil 0 []), (.int .i64 0)])] (some [0, 2, 3, 4])) (.seq (.region [.q 6 (.mv (.t 0)), .q 7 (.mkfn 27 [] [(.t 4)]), .q 8 (.call 24 [(.t 6), (.t 7)]), .q 5 (.alloc [(.int .i64 0), (.int .i64 0)]), .w (.store 2 (.t 5) (.t 8))] (some [2, 3, 4, 5])) (.seq (.seq (.region [.q 9 (.faddr 1 (.t 5)), .q 10 (.load false 1 (.t 9)), .q 11 (.bin .neq (.t 10) (.c (.int .i64 0)))] (some [2, 3, 4, 5, 11])) (.cond (.t 11) (some [2, 3, 4, 5]) (.seq (.region [.q 12 (.build [(.int .i64 0), (.int .i64 0), (.str []), (.slice .nil 0 []), (.int .i64 0)] []), .q 13 (.load true 2 (.t 5)), .w (.stored [5] 5 (.t 2) (.t 12)), .w (.stored [] 2 (.t 3) (.t 13))] (some [2, 3])) .ret) .skip)) (.seq (.region [.q 14 (.load true 5 (.t 4)), .q 15 (.load true 2 (.t 5)), .w (.stored [5] 5 (.t 2) (.t 14)), .w (.stored [] 2 (.t 3) (.t 15))] (some [2, 3])) .ret)))))
theorem code9 : IsCode Tryz.prog 9 sc9 [(2, (some (true, 5))), (3, (some (true, 2)))] 16 := .mk' Tryz.func9 (by kernel_rfl) (by kernel_rfl) (by kernel_rfl) (by kernel_rfl)
/-- quietus/parse.run -/
def sc24 : SD := (.seq (.region [.q 4 (.alloc [(.int .i64 0), (.int .i64 0)])] (some [0, 1, 4])) (.seq (.region [.q 8 (.mv (.t 0)), .q 9 (.call 43 [(.t 8)]), .q 7 (.mv (.t 9)), .q 10 (.extract 0 (.t 7)), .q 11 (.extract 1 (.t 7)), .q 5 (.mv (.t 10)), .w (.store 2 (.t 4) (.t 11))] (some [1, 4, 5])) (.seq (.seq (.region [.q 12 (.faddr 1 (.t 4)), .q 13 (.load false 1 (.t 12)), .q 14 (.bin .neq (.t 13) (.c (.int .i64 0)))] (some [1, 4, 5, 14])) (.cond (.t 14) (some [1, 4, 5]) (.seq (.region [.q 15 (.load true 2 (.t 4)), .w (.store 2 (.t 4) (.t 15))] (some [4])) .ret) .skip)) (.defer [.q 16 (.mkfn 44 [] [(.t 4)])] (.t 16) [] (some [1, 4, 5]) (.code (.seq (.region [.q 17 (.mv (.t 5)), .q 18 (.build [(.slice .nil 0 []), (.int .i64 0)] [(0, (1, (.t 17)))]), .q 19 (.box (.t 18)), .q 6 (.mv (.t 19))] (some [1, 4, 6])) (.seq (.region [.q 20 (.mv (.t 1)), .q 21 (.mv (.t 6)), .q 22 (.callv (.t 20) [(.t 21)])] (some [4, 6])) (.seq (.seq (.region [.q 23 (.mv (.t 6)), .q 24 (.nilchk (.t 23)), .q 25 (.faddr 0 (.t 24)), .q 26 (.load false 1 (.t 25)), .q 27 (.iaddr 4 (.t 26) (.c (.int .i64 0))), .q 28 (.faddr 0 (.t 27)), .q 29 (.load false 1 (.t 28)), .q 30 (.bin .neq (.t 29) (.c (.int .i64 5)))] (some [4, 6, 30])) (.cond (.t 30) (some [4, 6]) (.region [.q 31 (.mv (.t 6)), .q 32 (.call 45 [(.t 31), (.c (.int .i64 5))])] (some [4])) .skip)) (.seq (.region [.q 33 (.build [(.int .i64 0), (.int .i64 0)] []), .w (.store 2 (.t 4) (.t 33))] (some [4])) .ret)))))))))
theorem code24 : IsCodeD Tryz.prog 24 sc24 [(4, (some (true, 2)))] 34 := .mk' Tryz.func24 (by kernel_rfl) (by kernel_rfl) (by kernel_rfl) (by kernel_rfl)
/-- (*quietus/parse.parser).form -/
def sc26 : SC := (.seq (.region [.q 4 (.alloc [(.str []), (.slice .nil 0 []), (.slice .nil 0 []), (.int .i64 0)])] (some [0, 1, 4])) (.seq (.seq (.region [.q 7 (.mv (.t 0)), .q 8 (.nilchk (.t 7)), .q 9 (.faddr 0 (.t 8)), .q 10 (.load false 1 (.t 9)), .q 11 (.iaddr 4 (.t 10) (.c (.int .i64 0))), .q 12 (.faddr 0 (.t 11)), .q 13 (.load false 1 (.t 12)), .q 14 (.bin .neq (.t 13) (.c (.int .i64 1)))] (some [0, 1, 4, 14])) (.cond (.t 14) (some [0, 1, 4]) (.region [.q 15 (.mv (.t 0)), .q 16 (.call 45 [(.t 15), (.c (.int .i64 5))])] (some [0, 1, 4])) .skip)) (.seq (.region [.q 17 (.mv (.t 0)), .q 18 (.nilchk (.t 17)), .q 19 (.faddr 1 (.t 18)), .q 20 (.load false 1 (.t 19)), .q 21 (.bin .add (.t 20) (.c (.int .i64 1))), .q 22 (.nilchk (.t 17)), .q 23 (.faddr 1 (.t 22)), .w (.store 1 (.t 23) (.t 21))] (some [0, 1, 4])) (.seq (.seq (.region [.q 24 (.mv (.t 1)), .q 25 (.bin .gtr (.t 24) (.c (.int .i64 30))), .q 26 (.mv (.t 25)), ⟨(some 27), (.mv (.t 0)), (some (26, false))⟩, ⟨(some 28), (.nilchk (.t 27)), (some (26, false))⟩, ⟨(some 29), (.faddr 1 (.t 28)), (some (26, false))⟩, ⟨(some 30), (.load false 1 (.t 29)), (some (26, false))⟩, ⟨(some 31), (.bin .gtr (.t 30) (.c (.int .i64 2000))), (some (26, false))⟩, .q 32 (.pick (.t 26) (.c (.bool true)) (.t 31))] (some [0, 1, 4, 32])) (.cond (.t 32) (some [0, 1, 4]) (.region [.q 33 (.mv (.t 0)), .q 34 (.call 45 [(.t 33), (.c (.int .i64 2))])] (some [0, 1, 4])) .skip)) (.seq (.region [.q 35 (.mv (.t 0)), .q 36 (.call 46 [(.t 35)]), .q 5 (.alloc [(.int .i64 0), (.int .i64 0), (.str []), (.int .i64 0)]), .w (.store 4 (.t 5) (.t 36))] (some [0, 1, 4, 5])) (.seq (.region [.q 37 (.faddr 2 (.t 5)), .q 38 (.load false 1 (.t 37)), .q 39 (.faddr 1 (.t 5)), .q 40 (.load false 1 (.t 39)), .q 41 (.build [(.str []), (.slice .nil 0 []), (.slice .nil 0 []), (.int .i64 0)] [(0, (1, (.t 38))), (3, (1, (.t 40)))]), .q 6 (.alloc [(.str []), (.slice .nil 0 []), (.slice .nil 0 []), (.int .i64 0)]), .w (.store 4 (.t 6) (.t 41))] (some [0, 1, 4, 6])) (.seq (.block 0 (.loop (.seq (.seq (.region [.q 42 (.mv (.t 0)), .q 43 (.call 47 [(.t 42), (.c (.str [59]))]), .q 44 (.un .not (.t 43)), .q 45 (.mv (.t 44)), ⟨(some 46), (.mv (.t 0)), (some (45, true))⟩, ⟨(some 47), (.call 47 [(.t 46), (.c (.str [123]))]), (some (45, true))⟩, ⟨(some 48), (.un .not (.t 47)), (some (45, true))⟩, .q 49 (.pick (.t 45) (.t 48) (.c (.bool false)))] (some [0, 1, 4, 6, 49])) (.cond (.t 49) (some [0, 1, 4, 6]) .skip (.exit 0))) (.block 1 (.seq (.seq (.region [.q 50 (.mv (.t 0)), .q 51 (.call 48 [(.t 50)]), .q 52 (.un .not (.t 51)), .q 53 (.mv (.t 52)), ⟨(some 54), (.mv (.t 0)), (some (53, true))⟩, ⟨(some 55), (.call 47 [(.t 54), (.c (.str [45, 62]))]), (some (53, true))⟩, ⟨(some 56), (.un .not (.t 55)), (some (53, true))⟩, .q 57 (.pick (.t 53) (.t 56) (.c (.bool false)))] (some [0, 1, 4, 6, 57])) (.cond (.t 57) (some [0, 1, 4, 6]) (.region [.q 58 (.mv (.t 0)), .q 59 (.call 45 [(.t 58), (.c (.int .i64 5))])] (some [0, 1, 4, 6])) .skip)) (.seq (.seq (.region [.q 60 (.faddr 1 (.t 6)), .q 61 (.load false 1 (.t 60)), .q 62 (.len false (.t 61)), .q 63 (.bin .eql (.t 62) (.c (.int .i64 40)))] (some [0, 1, 4, 6, 63])) (.cond (.t 63) (some [0, 1, 4, 6]) (.region [.q 64 (.mv (.t 0)), .q 65 (.call 45 [(.t 64), (.c (.int .i64 2))])] (some [0, 1, 4, 6])) .skip)) (.region [.q 66 (.faddr 1 (.t 6)), .q 68 (.mv (.t 0)), .q 67 (.loadr (some 6) false 1 (.t 66)), .q 69 (.callr [6] 49 [(.t 68)]), .q 70 (.mkslice 9 [(.t 69)]), .q 71 (.append 9 104 (.t 67) (.t 70)), .q 72 (.faddr 1 (.t 6)), .w (.store 1 (.t 72) (.t 71))] (some [0, 1, 4, 6])))))))) (.seq (.seq (.region [.q 73 (.mv (.t 0)), .q 74 (.call 46 [(.t 73)]), .q 75 (.field false 1 2 (.t 74)), .q 76 (.bins .eql (.t 75) (.c (.str [59])))] (some [0, 1, 4, 6, 76])) (.cond (.t 76) (some [0, 1, 4, 6]) (.seq (.region [.q 77 (.load true 4 (.t 6)), .w (.store 4 (.t 4) (.t 77))] (some [4])) .ret) .skip)) (.seq (.block 2 (.loop (.seq (.seq (.region [.q 78 (.mv (.t 0)), .q 79 (.call 47 [(.t 78), (.c (.str [125]))]), .q 80 (.un .not (.t 79))] (some [0, 1, 4, 6, 80])) (.cond (.t 80) (some [0, 1, 4, 6]) .skip (.exit 2))) (.block 3 (.region [.q 81 (.faddr 2 (.t 6)), .q 83 (.mv (.t 0)), .q 84 (.mv (.t 1)), .q 85 (.bin .add (.t 84) (.c (.int .i64 1))), .q 82 (.loadr (some 6) false 1 (.t 81)), .q 86 (.callr [6] 26 [(.t 83), (.t 85)]), .q 87 (.mkslice 4 [(.t 86)]), .q 88 (.append 4 72 (.t 82) (.t 87)), .q 89 (.faddr 2 (.t 6)), .w (.store 1 (.t 89) (.t 88))] (some [0, 1, 4, 6])))))) (.seq (.region [.q 90 (.mv (.t 0)), .q 91 (.call 46 [(.t 90)])] (some [4, 6])) (.seq (.region [.q 92 (.load true 4 (.t 6)), .w (.store 4 (.t 4) (.t 92))] (some [4])) .ret)))))))))))
theorem code26 : IsCode Tryz.prog 26 sc26 [(4, (some (true, 4)))] 93 := .mk' Tryz.func26 (by kernel_rfl) (by kernel_rfl) (by kernel_rfl) (by kernel_rfl)
/-- quietus/parse.Expr$1 -/
def sc27 : SC := (.region [.q 3 (.mv (.t 0)), .q 4 (.call 28 [(.t 3), (.c (.int .i64 1))]), .w (.store 5 (.t 1) (.t 4))] (some []))
theorem code27 : IsCode Tryz.prog 27 sc27 [] 5 := .mk' Tryz.func27 (by kernel_rfl) (by kernel_rfl) (by kernel_rfl) (by kernel_rfl)
/-- (*quietus/parse.parser).expr -/
def sc28 : SC := (.seq (.region [.q 4 (.alloc [(.int .i64 0), (.int .i64 0), (.str []), (.slice .nil 0 []), (.int .i64 0)])] (some [0, 1, 4])) (.seq (.region [.q 7 (.mv (.t 0)), .q 8 (.mv (.t 1)), .q 9 (.call 50 [(.t 7), (.t 8), (.c (.bool true))])] (some [0, 1, 4])) (.seq (.region [.q 10 (.mv (.t 0)), .q 11 (.mv (.t 1)), .q 12 (.call 51 [(.t 10), (.c (.int .i64 1)), (.t 11)]), .q 5 (.alloc [(.int .i64 0), (.int .i64 0), (.str []), (.slice .nil 0 []), (.int .i64 0)]), .w (.store 5 (.t 5) (.t 12))] (some [0, 1, 4, 5])) (.seq (.seq (.region [.q 13 (.mv (.t 0)), .q 14 (.call 47 [(.t 13), (.c (.str [63]))]), .q 15 (.un .not (.t 14))] (some [0, 1, 4, 5, 15])) (.cond (.t 15) (some [0, 1, 4, 5]) (.seq (.region [.q 16 (.load true 5 (.t 5)), .w (.store 5 (.t 4) (.t 16))] (some [4])) .ret) .skip)) (.seq (.region [.q 17 (.mv (.t 0)), .q 18 (.call 46 [(.t 17)])] (some [0, 1, 4, 5])) (.seq (.region [.q 19 (.mv (.t 0)), .q 20 (.mv (.t 1)), .q 21 (.bin .add (.t 20) (.c (.int .i64 1))), .q 22 (.call 28 [(.t 19), (.t 21)]), .q 6 (.alloc [(.int .i64 0), (.int .i64 0), (.str []), (.slice .nil 0 []), (.int .i64 0)]), .w (.store 5 (.t 6) (.t 22))] (some [0, 1, 4, 5, 6])) (.seq (.region [.q 23 (.mv (.t 0)), .q 24 (.call 52 [(.t 23), (.c (.str [58]))])] (some [0, 1, 4, 5, 6])) (.seq (.region [.q 25 (.faddr 4 (.t 5)), .q 29 (.mv (.t 0)), .q 30 (.mv (.t 1)), .q 31 (.bin .add (.t 30) (.c (.int .i64 1))), .q 26 (.loadr (some 5) false 1 (.t 25)), .q 27 (.loadr (some 5) true 5 (.t 5)), .q 28 (.loadr (some 6) true 5 (.t 6)), .q 32 (.callr [5, 6] 28 [(.t 29), (.t 31)]), .q 33 (.mkslice 5 [(.t 27), (.t 28), (.t 32)]), .q 34 (.build [(.int .i64 0), (.int .i64 0), (.str []), (.slice .nil 0 []), (.int .i64 0)] [(0, (1, (.c (.int .i64 20)))), (4, (1, (.t 26))), (3, (1, (.t 33)))]), .w (.store 5 (.t 4) (.t 34))] (some [4])) .ret))))))))
theorem code28 : IsCode Tryz.prog 28 sc28 [(4, (some (true, 5)))] 35 := .mk' Tryz.func28 (by kernel_rfl) (by kernel_rfl) (by kernel_rfl) (by kernel_rfl)
/-- quietus/parse.run$1 -/
def sc44 : SC := (.seq (.region [.q 5 (.mv (.t 1)), .q 6 (.eqn true (.t 5) (.c .nilIface))] (some [0, 1, 6])) (.cond (.t 6) (some [0, 1]) (.seq (.region [.q 8 (.mv (.t 1)), .q 9 (.tassert 95 [(.int .i64 0), (.int .i64 0)] true true (.t 8)), .q 7 (.mv (.t 9)), .q 10 (.extract 0 (.t 7)), .q 11 (.extract 1 (.t 7)), .q 2 (.alloc [(.int .i64 0), (.int .i64 0)]), .w (.store 2 (.t 2) (.t 10)), .q 3 (.mv (.t 11))] (some [0, 1, 2, 3])) (.seq (.seq (.region [.q 12 (.mv (.t 3)), .q 13 (.un .not (.t 12))] (some [0, 1, 2, 13])) (.cond (.t 13) (some [0, 1, 2]) (.region [.q 14 (.mv (.t 1)), .w (.panic (.t 14))] (some [0, 2])) .skip)) (.region [.q 15 (.load true 2 (.t 2)), .w (.store 2 (.t 0) (.t 15))] (some [])))) .skip))
theorem code44 : IsCodeR Tryz.prog 44 4 1 sc44 [] 16 := .mk' Tryz.func44 (by kernel_rfl) (by kernel_rfl) (by kernel_rfl) (by kernel_rfl) (by omega) (by omega)
/-- (*quietus/parse.parser).fail -/
def sc45 : SC := (.region [.q 4 (.mv (.t 0)), .q 5 (.nilchk (.t 4)), .q 6 (.faddr 0 (.t 5)), .q 7 (.load false 1 (.t 6)), .q 8 (.iaddr 4 (.t 7) (.c (.int .i64 0))), .q 9 (.faddr 1 (.t 8)), .q 10 (.load false 1 (.t 9)), .q 11 (.mv (.t 1)), .q 12 (.build [(.int .i64 0), (.int .i64 0)] [(0, (1, (.t 10))), (1, (1, (.t 11)))]), .q 13 (.mkif 95 (.t 12)), .w (.panic (.t 13))] (some []))
theorem code45 : IsCode Tryz.prog 45 sc45 [] 14 := .mk' Tryz.func45 (by kernel_rfl) (by kernel_rfl) (by kernel_rfl) (by kernel_rfl)
/-- (*quietus/parse.parser).next -/
def sc46 : SC := (.seq (.region [.q 2 (.alloc [(.int .i64 0), (.int .i64 0), (.str []), (.int .i64 0)])] (some [0, 2])) (.seq (.region [.q 4 (.mv (.t 0)), .q 5 (.nilchk (.t 4)), .q 6 (.faddr 0 (.t 5)), .q 7 (.load false 1 (.t 6)), .q 8 (.iaddr 4 (.t 7) (.c (.int .i64 0))), .q 9 (.load true 4 (.t 8)), .q 3 (.alloc [(.int .i64 0), (.int .i64 0), (.str []), (.int .i64 0)]), .w (.store 4 (.t 3) (.t 9))] (some [0, 2, 3])) (.seq (.region [.q 10 (.mv (.t 0)), .q 11 (.mv (.t 0)), .q 12 (.nilchk (.t 11)), .q 13 (.faddr 0 (.t 12)), .q 14 (.load false 1 (.t 13)), .q 15 (.slice 4 (.t 14) (some (.c (.int .i64 1))) none), .q 16 (.nilchk (.t 10)), .q 17 (.faddr 0 (.t 16)), .w (.store 1 (.t 17) (.t 15))] (some [2, 3])) (.seq (.region [.q 18 (.load true 4 (.t 3)), .w (.store 4 (.t 2) (.t 18))] (some [2])) .ret))))
theorem code46 : IsCode Tryz.prog 46 sc46 [(2, (some (true, 4)))] 19 := .mk' Tryz.func46 (by kernel_rfl) (by kernel_rfl) (by kernel_rfl) (by kernel_rfl)
/-- (*quietus/parse.parser).is -/
def sc47 : SC := (.seq (.region [.q 4 (.mv (.c (.bool false)))] (some [0, 1])) (.seq (.region [.q 5 (.mv (.t 0)), .q 6 (.nilchk (.t 5)), .q 7 (.faddr 0 (.t 6)), .q 8 (.load false 1 (.t 7)), .q 9 (.iaddr 4 (.t 8) (.c (.int .i64 0))), .q 10 (.faddr 0 (.t 9)), .q 11 (.load false 1 (.t 10)), .q 12 (.bin .eql (.t 11) (.c (.int .i64 4))), .q 13 (.mv (.t 12)), ⟨(some 14), (.mv (.t 0)), (some (13, true))⟩, ⟨(some 15), (.nilchk (.t 14)), (some (13, true))⟩, ⟨(some 16), (.faddr 0 (.t 15)), (some (13, true))⟩, ⟨(some 17), (.load false 1 (.t 16)), (some (13, true))⟩, ⟨(some 18), (.iaddr 4 (.t 17) (.c (.int .i64 0))), (some (13, true))⟩, ⟨(some 19), (.faddr 2 (.t 18)), (some (13, true))⟩, ⟨(some 20), (.load false 1 (.t 19)), (some (13, true))⟩, ⟨(some 21), (.mv (.t 1)), (some (13, true))⟩, ⟨(some 22), (.bins .eql (.t 20) (.t 21)), (some (13, true))⟩, .q 23 (.pick (.t 13) (.t 22) (.c (.bool false))), .q 4 (.mv (.t 23))] (some [4])) .ret))
theorem code47 : IsCode Tryz.prog 47 sc47 [(4, none)] 24 := .mk' Tryz.func47 (by kernel_rfl) (by kernel_rfl) (by kernel_rfl) (by kernel_rfl)
/-- (*quietus/parse.parser).begins -/
def sc48 : SC := (.seq (.region [.q 2 (.mv (.c (.bool false)))] (some [0])) (.seq (.seq (.region [.q 3 (.mv (.t 0)), .q 4 (.nilchk (.t 3)), .q 5 (.faddr 0 (.t 4)), .q 6 (.load false 1 (.t 5)), .q 7 (.iaddr 4 (.t 6) (.c (.int .i64 0))), .q 8 (.faddr 0 (.t 7)), .q 9 (.load false 1 (.t 8))] (some [0, 9])) (.block 0 (.seq (.seq (.region [.q 11 (.bin .eql (.t 9) (.c (.int .i64 1))), .q 10 (.mv (.t 11))] (some [0, 9, 10])) (.cond (.t 10) (some [0, 9, 10]) .skip (.seq (.region [.q 12 (.bin .eql (.t 9) (.c (.int .i64 2))), .q 10 (.mv (.t 12))] (some [0, 9, 10])) (.cond (.t 10) (some [0, 9, 10]) .skip (.region [.q 13 (.bin .eql (.t 9) (.c (.int .i64 3))), .q 10 (.mv (.t 13))] (some [0, 10])))))) (.cond (.t 10) (some [0]) (.seq (.region [.q 2 (.mv (.c (.bool true)))] (some [2])) .ret) .skip)))) (.seq (.region [.q 14 (.mv (.t 0)), .q 15 (.call 47 [(.t 14), (.c (.str [40]))]), .q 16 (.mv (.t 15)), ⟨(some 17), (.mv (.t 0)), (some (16, false))⟩, ⟨(some 18), (.call 47 [(.t 17), (.c (.str [45]))]), (some (16, false))⟩, .q 19 (.pick (.t 16) (.c (.bool true)) (.t 18)), .q 2 (.mv (.t 19))] (some [2])) .ret)))
theorem code48 : IsCode Tryz.prog 48 sc48 [(2, none)] 20 := .mk' Tryz.func48 (by kernel_rfl) (by kernel_rfl) (by kernel_rfl) (by kernel_rfl)
/-- (*quietus/parse.parser).arg -/
def sc49 : SC := (.seq (.region [.q 2 (.alloc [(.int .i64 0), (.int .i64 0), (.str []), (.int .i64 0), (.int .i64 0), (.str []), (.slice .nil 0 []), (.int .i64 0), (.int .i64 0)])] (some [0, 2])) (.seq (.region [.q 5 (.mv (.t 0)), .q 6 (.call 46 [(.t 5)]), .q 3 (.alloc [(.int .i64 0), (.int .i64 0), (.str []), (.int .i64 0)]), .w (.store 4 (.t 3) (.t 6))] (some [0, 2, 3])) (.seq (.region [.q 7 (.faddr 1 (.t 3)), .q 8 (.load false 1 (.t 7)), .q 9 (.faddr 2 (.t 3)), .q 10 (.load false 1 (.t 9)), .q 11 (.faddr 3 (.t 3)), .q 12 (.load false 1 (.t 11)), .q 13 (.build [(.int .i64 0), (.int .i64 0), (.str []), (.int .i64 0), (.int .i64 0), (.str []), (.slice .nil 0 []), (.int .i64 0), (.int .i64 0)] [(8, (1, (.t 8))), (2, (1, (.t 10))), (1, (1, (.t 12)))]), .q 4 (.alloc [(.int .i64 0), (.int .i64 0), (.str []), (.int .i64 0), (.int .i64 0), (.str []), (.slice .nil 0 []), (.int .i64 0), (.int .i64 0)]), .w (.store 9 (.t 4) (.t 13))] (some [0, 2, 3, 4])) (.seq (.seq (.region [.q 14 (.faddr 0 (.t 3)), .q 15 (.load false 1 (.t 14))] (some [0, 2, 3, 4, 15])) (.block 0 (.seq (.region [.q 38 (.bin .eql (.t 15) (.c (.int .i64 1))), .q 37 (.mv (.t 38))] (some [0, 2, 3, 4, 15, 37])) (.cond (.t 37) (some [0, 2, 3, 4, 15]) (.region [.q 39 (.faddr 0 (.t 4)), .w (.store 1 (.t 39) (.c (.int .i64 1)))] (some [2, 4])) (.seq (.region [.q 41 (.bin .eql (.t 15) (.c (.int .i64 2))), .q 40 (.mv (.t 41))] (some [0, 2, 3, 4, 15, 40])) (.cond (.t 40) (some [0, 2, 3, 4, 15]) (.region [.q 42 (.faddr 0 (.t 4)), .w (.store 1 (.t 42) (.c (.int .i64 2)))] (some [2, 4])) (.seq (.region [.q 44 (.bin .eql (.t 15) (.c (.int .i64 3))), .q 43 (.mv (.t 44))] (some [0, 2, 3, 4, 43])) (.cond (.t 43) (some [0, 2, 3, 4]) (.region [.q 45 (.faddr 0 (.t 4)), .w (.store 1 (.t 45) (.c (.int .i64 3)))] (some [2, 4])) (.seq (.region [.q 16 (.faddr 2 (.t 4)), .w (.store 1 (.t 16) (.c (.str [])))] (some [0, 2, 3, 4])) (.seq (.region [.q 17 (.faddr 2 (.t 3)), .q 18 (.load false 1 (.t 17))] (some [0, 2, 4, 18])) (.block 1 (.seq (.region [.q 20 (.bins .eql (.t 18) (.c (.str [45]))), .q 19 (.mv (.t 20))] (some [0, 2, 4, 18, 19])) (.cond (.t 19) (some [0, 2, 4, 18]) (.region [.q 21 (.mv (.t 0)), .q 22 (.call 75 [(.t 21)]), .q 23 (.un .neg (.t 22)), .q 24 (.faddr 0 (.t 4)), .w (.store 1 (.t 24) (.c (.int .i64 2))), .q 25 (.faddr 1 (.t 4)), .w (.store 1 (.t 25) (.t 23))] (some [2, 4])) (.seq (.region [.q 27 (.bins .eql (.t 18) (.c (.str [45, 62]))), .q 26 (.mv (.t 27))] (some [0, 2, 4, 18, 26])) (.cond (.t 26) (some [0, 2, 4, 18]) (.region [.q 28 (.faddr 0 (.t 4)), .w (.store 1 (.t 28) (.c (.int .i64 4)))] (some [2, 4])) (.seq (.region [.q 30 (.bins .eql (.t 18) (.c (.str [40]))), .q 29 (.mv (.t 30))] (some [0, 2, 4, 29])) (.cond (.t 29) (some [0, 2, 4]) (.seq (.region [.q 31 (.mv (.t 0)), .q 32 (.call 28 [(.t 31), (.c (.int .i64 1))]), .q 33 (.faddr 0 (.t 4)), .w (.store 1 (.t 33) (.c (.int .i64 5))), .q 34 (.faddr 3 (.t 4)), .w (.store 5 (.t 34) (.t 32))] (some [0, 2, 4])) (.region [.q 35 (.mv (.t 0)), .q 36 (.call 52 [(.t 35), (.c (.str [41]))])] (some [2, 4]))) .skip))))))))))))))))) (.seq (.region [.q 46 (.load true 9 (.t 4)), .w (.store 9 (.t 2) (.t 46))] (some [2])) .ret)))))
theorem code49 : IsCode Tryz.prog 49 sc49 [(2, (some (true, 9)))] 47 := .mk' Tryz.func49 (by kernel_rfl) (by kernel_rfl) (by kernel_rfl) (by kernel_rfl)
/-- (*quietus/parse.parser).deep -/
def sc50 : SC := (.seq (.seq (.region [.q 6 (.mv (.t 0)), .q 7 (.call 48 [(.t 6)]), .q 8 (.un .not (.t 7)), .q 9 (.mv (.t 8)), ⟨(some 10), (.mv (.t 2)), (some (9, true))⟩, ⟨(some 11), (.mv (.t 10)), (some (9, true))⟩, ⟨(some 12), (.mv (.t 0)), (some (11, true))⟩, ⟨(some 13), (.call 47 [(.t 12), (.c (.str [33]))]), (some (11, true))⟩, ⟨(some 14), (.pick (.t 11) (.t 13) (.c (.bool false))), (some (9, true))⟩, ⟨(some 15), (.un .not (.t 14)), (some (9, true))⟩, .q 16 (.pick (.t 9) (.t 15) (.c (.bool false)))] (some [0, 1, 16])) (.cond (.t 16) (some [0, 1]) (.region [.q 17 (.mv (.t 0)), .q 18 (.call 45 [(.t 17), (.c (.int .i64 5))])] (some [0, 1])) .skip)) (.seq (.region [.q 19 (.mv (.t 1)), .q 20 (.bin .gtr (.t 19) (.c (.int .i64 30)))] (some [0, 20])) (.cond (.t 20) (some [0]) (.region [.q 21 (.mv (.t 0)), .q 22 (.call 45 [(.t 21), (.c (.int .i64 2))])] (some [])) .skip)))
theorem code50 : IsCode Tryz.prog 50 sc50 [] 23 := .mk' Tryz.func50 (by kernel_rfl) (by kernel_rfl) (by kernel_rfl) (by kernel_rfl)
/-- (*quietus/parse.parser).level -/
def sc51 : SC := (.seq (.region [.q 3 (.box (.t 0)), .q 4 (.box (.t 1)), .q 6 (.alloc [(.int .i64 0), (.int .i64 0), (.str []), (.slice .nil 0 []), (.int .i64 0)])] (some [2, 3, 4, 6])) (.seq (.seq (.region [.q 10 (.load false 1 (.t 4)), .q 11 (.bin .eql (.t 10) (.c (.int .i64 3)))] (some [2, 3, 4, 6, 11])) (.cond (.t 11) (some [2, 3, 4, 6]) (.seq (.seq (.region [.q 12 (.load false 1 (.t 3)), .q 13 (.call 47 [(.t 12), (.c (.str [33]))])] (some [2, 3, 4, 6, 13])) (.cond (.t 13) (some [2, 3, 4, 6]) (.seq (.region [.q 14 (.load false 1 (.t 3)), .q 15 (.call 46 [(.t 14)]), .q 16 (.field false 1 1 (.t 15)), .q 7 (.mv (.t 16))] (some [2, 3, 6, 7])) (.seq (.region [.q 17 (.load false 1 (.t 3)), .q 18 (.mv (.t 2)), .q 19 (.bin .add (.t 18) (.c (.int .i64 1))), .q 20 (.call 50 [(.t 17), (.t 19), (.c (.bool true))])] (some [2, 3, 6, 7])) (.seq (.region [.q 21 (.mv (.t 7)), .q 22 (.load false 1 (.t 3)), .q 23 (.mv (.t 2)), .q 24 (.bin .add (.t 23) (.c (.int .i64 1))), .q 25 (.call 51 [(.t 22), (.c (.int .i64 3)), (.t 24)]), .q 26 (.mkslice 5 [(.t 25)]), .q 27 (.build [(.int .i64 0), (.int .i64 0), (.str []), (.slice .nil 0 []), (.int .i64 0)] [(0, (1, (.c (.int .i64 5)))), (4, (1, (.t 21))), (3, (1, (.t 26)))]), .w (.store 5 (.t 6) (.t 27))] (some [6])) .ret))) .skip)) (.region [.q 28 (.load false 1 (.t 4)), .q 29 (.bin .add (.t 28) (.c (.int .i64 1))), .w (.store 1 (.t 4) (.t 29))] (some [2, 3, 4, 6]))) .skip)) (.seq (.seq (.region [.q 30 (.load false 1 (.t 4)), .q 31 (.bin .eql (.t 30) (.c (.int .i64 7)))] (some [2, 3, 4, 6, 31])) (.cond (.t 31) (some [2, 3, 4, 6]) (.seq (.region [.q 32 (.load false 1 (.t 3)), .q 33 (.mv (.t 2)), .q 34 (.call 76 [(.t 32), (.t 33)]), .w (.store 5 (.t 6) (.t 34))] (some [6])) .ret) .skip)) (.seq (.region [.q 35 (.load false 1 (.t 3)), .q 36 (.load false 1 (.t 4)), .q 37 (.bin .add (.t 36) (.c (.int .i64 1))), .q 38 (.mv (.t 2)), .q 39 (.call 51 [(.t 35), (.t 37), (.t 38)]), .q 8 (.alloc [(.int .i64 0), (.int .i64 0), (.str []), (.slice .nil 0 []), (.int .i64 0)]), .w (.store 5 (.t 8) (.t 39))] (some [2, 3, 4, 6, 8])) (.block 0 (.loop (.block 1 (.seq (.region [.q 40 (.call 70 []), .q 41 (.mkfn 77 [] [(.t 4), (.t 3)]), .q 42 (.call 69 [(.t 40), (.t 41)]), .q 9 (.mv (.t 42))] (some [2, 3, 4, 6, 8, 9])) (.seq (.seq (.region [.q 43 (.mv (.t 9)), .q 44 (.bin .lss (.t 43) (.c (.int .i64 0)))] (some [2, 3, 4, 6, 8, 9, 44])) (.cond (.t 44) (some [2, 3, 4, 6, 8, 9]) (.seq (.region [.q 45 (.load true 5 (.t 8)), .w (.store 5 (.t 6) (.t 45))] (some [6])) .ret) .skip)) (.seq (.region [.q 46 (.load false 1 (.t 3)), .q 47 (.call 46 [(.t 46)])] (some [2, 3, 4, 6, 8, 9])) (.seq (.region [.q 49 (.mv (.t 9)), .q 53 (.faddr 4 (.t 8)), .q 59 (.mv (.t 2)), .q 54 (.loadr (some 8) false 1 (.t 53)), .q 55 (.loadr (some 8) true 5 (.t 8)), .q 56 (.loadr (some 3) false 1 (.t 3)), .q 57 (.loadr (some 4) false 1 (.t 4)), .q 58 (.bin .add (.t 57) (.c (.int .i64 1))), .q 48 (.callr [8, 3, 4] 70 []), .q 50 (.iaddr 3 (.t 48) (.t 49)), .q 51 (.faddr 1 (.t 50)), .q 52 (.loadr none false 1 (.t 51)), .q 60 (.callr [8] 51 [(.t 56), (.t 58), (.t 59)]), .q 61 (.mkslice 5 [(.t 55), (.t 60)]), .q 62 (.build [(.int .i64 0), (.int .i64 0), (.str []), (.slice .nil 0 []), (.int .i64 0)] [(0, (1, (.t 52))), (4, (1, (.t 54))), (3, (1, (.t 61)))]), .w (.store 5 (.t 8) (.t 62))] (some [2, 3, 4, 6, 8])) (.seq (.region [.q 63 (.load false 1 (.t 4)), .q 64 (.bin .eql (.t 63) (.c (.int .i64 4)))] (some [2, 3, 4, 6, 8, 64])) (.cond (.t 64) (some [2, 3, 4, 6, 8]) (.seq (.region [.q 65 (.load true 5 (.t 8)), .w (.store 5 (.t 6) (.t 65))] (some [6])) .ret) .skip)))))))))))))
theorem code51 : IsCode Tryz.prog 51 sc51 [(6, (some (true, 5)))] 66 := .mk' Tryz.func51 (by kernel_rfl) (by kernel_rfl) (by kernel_rfl) (by kernel_rfl)
/-- (*quietus/parse.parser).need -/
def sc52 : SC := (.seq (.seq (.region [.q 4 (.mv (.t 0)), .q 5 (.mv (.t 1)), .q 6 (.call 47 [(.t 4), (.t 5)]), .q 7 (.un .not (.t 6))] (some [0, 7])) (.cond (.t 7) (some [0]) (.region [.q 8 (.mv (.t 0)), .q 9 (.call 45 [(.t 8), (.c (.int .i64 5))])] (some [0])) .skip)) (.region [.q 10 (.mv (.t 0)), .q 11 (.call 46 [(.t 10)])] (some [])))
theorem code52 : IsCode Tryz.prog 52 sc52 [] 12 := .mk' Tryz.func52 (by kernel_rfl) (by kernel_rfl) (by kernel_rfl) (by kernel_rfl)
/-- slices.IndexFunc[[]quietus/parse.binary,quietus/parse.binary] -/
def sc69 : SC := (.seq (.region [.q 4 (.mv (.c (.int .i64 0)))] (some [0, 1])) (.seq (.seq (.region [.q 6 (.mv (.t 0)), .q 7 (.len false (.t 6)), .q 8 (.mv (.c (.int .i64 0)))] (some [0, 1, 7, 8])) (.block 0 (.loop (.seq (.region [.q 9 (.bin .lss (.t 8) (.t 7))] (some [0, 1, 7, 8, 9])) (.seq (.cond (.t 9) (some [0, 1, 7, 8]) .skip (.exit 0)) (.seq (.block 1 (.seq (.region [.q 10 (.mv (.t 8)), .q 5 (.mv (.t 10))] (some [0, 1, 5, 7, 8])) (.seq (.region [.q 11 (.mv (.t 1)), .q 12 (.mv (.t 0)), .q 13 (.mv (.t 5)), .q 14 (.iaddr 3 (.t 12) (.t 13)), .q 15 (.load true 3 (.t 14)), .q 16 (.callv (.t 11) [(.t 15)])] (some [0, 1, 5, 7, 8, 16])) (.cond (.t 16) (some [0, 1, 5, 7, 8]) (.seq (.region [.q 17 (.mv (.t 5)), .q 4 (.mv (.t 17))] (some [4])) .ret) .skip)))) (.region [.q 18 (.bin .add (.t 8) (.c (.int .i64 1))), .q 8 (.mv (.t 18))] (some [0, 1, 7, 8])))))))) (.seq (.region [.q 4 (.mv (.c (.int .i64 (-1))))] (some [4])) .ret)))
theorem code69 : IsCode Tryz.prog 69 sc69 [(4, none)] 19 := .mk' Tryz.func69 (by kernel_rfl) (by kernel_rfl) (by kernel_rfl) (by kernel_rfl)
/-- quietus/parse.operators -/
def sc70 : SC := (.seq (.region [.q 0 (.mv (.c (.slice .nil 0 [])))] (some [])) (.seq (.region [.q 1 (.build [(.str []), (.int .i64 0), (.int .i64 0)] [(0, (1, (.c (.str [42])))), (1, (1, (.c (.int .i64 7)))), (2, (1, (.c (.int .i64 6))))]), .q 2 (.build [(.str []), (.int .i64 0), (.int .i64 0)] [(0, (1, (.c (.str [47])))), (1, (1, (.c (.int .i64 8)))), (2, (1, (.c (.int .i64 6))))]), .q 3 (.build [(.str []), (.int .i64 0), (.int .i64 0)] [(0, (1, (.c (.str [37])))), (1, (1, (.c (.int .i64 9)))), (2, (1, (.c (.int .i64 6))))]), .q 4 (.build [(.str []), (.int .i64 0), (.int .i64 0)] [(0, (1, (.c (.str [43])))), (1, (1, (.c (.int .i64 10)))), (2, (1, (.c (.int .i64 5))))]), .q 5 (.build [(.str []), (.int .i64 0), (.int .i64 0)] [(0, (1, (.c (.str [45])))), (1, (1, (.c (.int .i64 11)))), (2, (1, (.c (.int .i64 5))))]), .q 6 (.build [(.str []), (.int .i64 0), (.int .i64 0)] [(0, (1, (.c (.str [61, 61])))), (1, (1, (.c (.int .i64 12)))), (2, (1, (.c (.int .i64 4))))]), .q 7 (.build [(.str []), (.int .i64 0), (.int .i64 0)] [(0, (1, (.c (.str [33, 61])))), (1, (1, (.c (.int .i64 13)))), (2, (1, (.c (.int .i64 4))))]), .q 8 (.build [(.str []), (.int .i64 0), (.int .i64 0)] [(0, (1, (.c (.str [60])))), (1, (1, (.c (.int .i64 14)))), (2, (1, (.c (.int .i64 4))))]), .q 9 (.build [(.str []), (.int .i64 0), (.int .i64 0)] [(0, (1, (.c (.str [60, 61])))), (1, (1, (.c (.int .i64 15)))), (2, (1, (.c (.int .i64 4))))]), .q 10 (.build [(.str []), (.int .i64 0), (.int .i64 0)] [(0, (1, (.c (.str [62])))), (1, (1, (.c (.int .i64 16)))), (2, (1, (.c (.int .i64 4))))]), .q 11 (.build [(.str []), (.int .i64 0), (.int .i64 0)] [(0, (1, (.c (.str [62, 61])))), (1, (1, (.c (.int .i64 17)))), (2, (1, (.c (.int .i64 4))))]), .q 12 (.build [(.str []), (.int .i64 0), (.int .i64 0)] [(0, (1, (.c (.str [38, 38])))), (1, (1, (.c (.int .i64 18)))), (2, (1, (.c (.int .i64 2))))]), .q 13 (.build [(.str []), (.int .i64 0), (.int .i64 0)] [(0, (1, (.c (.str [124, 124])))), (1, (1, (.c (.int .i64 19)))), (2, (1, (.c (.int .i64 1))))]), .q 14 (.mkslice 3 [(.t 1), (.t 2), (.t 3), (.t 4), (.t 5), (.t 6), (.t 7), (.t 8), (.t 9), (.t 10), (.t 11), (.t 12), (.t 13)]), .q 0 (.mv (.t 14))] (some [0])) .ret))
theorem code70 : IsCode Tryz.prog 70 sc70 [(0, none)] 15 := .mk' Tryz.func70 (by kernel_rfl) (by kernel_rfl) (by kernel_rfl) (by kernel_rfl)
/-- (*quietus/parse.parser).number -/
def sc75 : SC := (.seq (.region [.q 2 (.mv (.c (.int .i64 0)))] (some [0])) (.seq (.seq (.region [.q 3 (.mv (.t 0)), .q 4 (.nilchk (.t 3)), .q 5 (.faddr 0 (.t 4)), .q 6 (.load false 1 (.t 5)), .q 7 (.iaddr 4 (.t 6) (.c (.int .i64 0))), .q 8 (.faddr 0 (.t 7)), .q 9 (.load false 1 (.t 8)), .q 10 (.bin .neq (.t 9) (.c (.int .i64 2)))] (some [0, 10])) (.cond (.t 10) (some [0]) (.region [.q 11 (.mv (.t 0)), .q 12 (.call 45 [(.t 11), (.c (.int .i64 5))])] (some [0])) .skip)) (.seq (.region [.q 13 (.mv (.t 0)), .q 14 (.call 46 [(.t 13)]), .q 15 (.field false 1 3 (.t 14)), .q 2 (.mv (.t 15))] (some [2])) .ret)))
theorem code75 : IsCode Tryz.prog 75 sc75 [(2, none)] 16 := .mk' Tryz.func75 (by kernel_rfl) (by kernel_rfl) (by kernel_rfl) (by kernel_rfl)
/-- (*quietus/parse.parser).neg -/
def sc76 : SC := (.seq (.region [.q 4 (.alloc [(.int .i64 0), (.int .i64 0), (.str []), (.slice .nil 0 []), (.int .i64 0)])] (some [0, 1, 4])) (.seq (.seq (.region [.q 6 (.mv (.t 0)), .q 7 (.call 47 [(.t 6), (.c (.str [45]))]), .q 8 (.un .not (.t 7))] (some [0, 1, 4, 8])) (.cond (.t 8) (some [0, 1, 4]) (.seq (.region [.q 9 (.mv (.t 0)), .q 10 (.mv (.t 1)), .q 11 (.call 101 [(.t 9), (.t 10)]), .w (.store 5 (.t 4) (.t 11))] (some [4])) .ret) .skip)) (.seq (.region [.q 12 (.mv (.t 0)), .q 13 (.call 46 [(.t 12)]), .q 14 (.field false 1 1 (.t 13)), .q 5 (.mv (.t 14))] (some [0, 1, 4, 5])) (.seq (.region [.q 15 (.mv (.t 0)), .q 16 (.mv (.t 1)), .q 17 (.bin .add (.t 16) (.c (.int .i64 1))), .q 18 (.call 50 [(.t 15), (.t 17), (.c (.bool false))])] (some [0, 1, 4, 5])) (.seq (.region [.q 19 (.mv (.t 5)), .q 20 (.mv (.t 0)), .q 21 (.mv (.t 1)), .q 22 (.bin .add (.t 21) (.c (.int .i64 1))), .q 23 (.call 76 [(.t 20), (.t 22)]), .q 24 (.mkslice 5 [(.t 23)]), .q 25 (.build [(.int .i64 0), (.int .i64 0), (.str []), (.slice .nil 0 []), (.int .i64 0)] [(0, (1, (.c (.int .i64 6)))), (4, (1, (.t 19))), (3, (1, (.t 24)))]), .w (.store 5 (.t 4) (.t 25))] (some [4])) .ret)))))
theorem code76 : IsCode Tryz.prog 76 sc76 [(4, (some (true, 5)))] 26 := .mk' Tryz.func76 (by kernel_rfl) (by kernel_rfl) (by kernel_rfl) (by kernel_rfl)
/-- (*quietus/parse.parser).level$1 -/
def sc77 : SC := (.seq (.region [.q 3 (.box (.t 0)), .q 4 (.mv (.c (.bool false)))] (some [1, 2, 3])) (.seq (.region [.q 5 (.faddr 2 (.t 3)), .q 6 (.load false 1 (.t 5)), .q 7 (.load false 1 (.t 1)), .q 8 (.bin .eql (.t 6) (.t 7)), .q 9 (.mv (.t 8)), ⟨(some 10), (.load false 1 (.t 2)), (some (9, true))⟩, ⟨(some 11), (.faddr 0 (.t 3)), (some (9, true))⟩, ⟨(some 12), (.load false 1 (.t 11)), (some (9, true))⟩, ⟨(some 13), (.call 47 [(.t 10), (.t 12)]), (some (9, true))⟩, .q 14 (.pick (.t 9) (.t 13) (.c (.bool false))), .q 4 (.mv (.t 14))] (some [4])) .ret))
theorem code77 : IsCode Tryz.prog 77 sc77 [(4, none)] 15 := .mk' Tryz.func77 (by kernel_rfl) (by kernel_rfl) (by kernel_rfl) (by kernel_rfl)
/-- (*quietus/parse.parser).atom -/
def sc101 : SC := (.seq (.region [.q 4 (.alloc [(.int .i64 0), (.int .i64 0), (.str []), (.slice .nil 0 []), (.int .i64 0)])] (some [0, 1, 4])) (.seq (.seq (.region [.q 7 (.mv (.t 0)), .q 8 (.call 48 [(.t 7)]), .q 9 (.un .not (.t 8))] (some [0, 1, 4, 9])) (.cond (.t 9) (some [0, 1, 4]) (.region [.q 10 (.mv (.t 0)), .q 11 (.call 45 [(.t 10), (.c (.int .i64 5))])] (some [0, 1, 4])) .skip)) (.seq (.region [.q 12 (.mv (.t 0)), .q 13 (.call 46 [(.t 12)]), .q 5 (.alloc [(.int .i64 0), (.int .i64 0), (.str []), (.int .i64 0)]), .w (.store 4 (.t 5) (.t 13))] (some [0, 1, 4, 5])) (.seq (.region [.q 14 (.faddr 1 (.t 5)), .q 15 (.load false 1 (.t 14)), .q 16 (.faddr 2 (.t 5)), .q 17 (.load false 1 (.t 16)), .q 18 (.faddr 3 (.t 5)), .q 19 (.load false 1 (.t 18)), .q 20 (.build [(.int .i64 0), (.int .i64 0), (.str []), (.slice .nil 0 []), (.int .i64 0)] [(4, (1, (.t 15))), (2, (1, (.t 17))), (1, (1, (.t 19)))]), .q 6 (.alloc [(.int .i64 0), (.int .i64 0), (.str []), (.slice .nil 0 []), (.int .i64 0)]), .w (.store 5 (.t 6) (.t 20))] (some [0, 1, 4, 5, 6])) (.seq (.seq (.region [.q 21 (.faddr 0 (.t 5)), .q 22 (.load false 1 (.t 21))] (some [0, 1, 4, 6, 22])) (.block 0 (.seq (.region [.q 30 (.bin .eql (.t 22) (.c (.int .i64 2))), .q 29 (.mv (.t 30))] (some [0, 1, 4, 6, 22, 29])) (.cond (.t 29) (some [0, 1, 4, 6, 22]) (.region [.q 31 (.faddr 0 (.t 6)), .w (.store 1 (.t 31) (.c (.int .i64 1)))] (some [4, 6])) (.seq (.region [.q 33 (.bin .eql (.t 22) (.c (.int .i64 3))), .q 32 (.mv (.t 33))] (some [0, 1, 4, 6, 22, 32])) (.cond (.t 32) (some [0, 1, 4, 6, 22]) (.region [.q 34 (.faddr 0 (.t 6)), .w (.store 1 (.t 34) (.c (.int .i64 2)))] (some [4, 6])) (.seq (.region [.q 36 (.bin .eql (.t 22) (.c (.int .i64 1))), .q 35 (.mv (.t 36))] (some [0, 1, 4, 6, 35])) (.cond (.t 35) (some [0, 1, 4, 6]) (.seq (.region [.q 37 (.faddr 0 (.t 6)), .w (.store 1 (.t 37) (.c (.int .i64 3)))] (some [0, 1, 4, 6])) (.seq (.seq (.region [.q 38 (.mv (.t 0)), .q 39 (.call 47 [(.t 38), (.c (.str [40]))]), .q 40 (.un .not (.t 39))] (some [0, 1, 4, 6, 40])) (.cond (.t 40) (some [0, 1, 4, 6]) (.exit 0) .skip)) (.seq (.region [.q 41 (.faddr 0 (.t 6)), .w (.store 1 (.t 41) (.c (.int .i64 4)))] (some [0, 1, 4, 6])) (.seq (.region [.q 42 (.mv (.t 0)), .q 43 (.call 46 [(.t 42)])] (some [0, 1, 4, 6])) (.seq (.block 1 (.loop (.seq (.seq (.region [.q 44 (.mv (.t 0)), .q 45 (.call 47 [(.t 44), (.c (.str [41]))]), .q 46 (.un .not (.t 45))] (some [0, 1, 4, 6, 46])) (.cond (.t 46) (some [0, 1, 4, 6]) .skip (.exit 1))) (.block 2 (.seq (.seq (.region [.q 47 (.faddr 3 (.t 6)), .q 48 (.load false 1 (.t 47)), .q 49 (.len false (.t 48)), .q 50 (.bin .gtr (.t 49) (.c (.int .i64 0)))] (some [0, 1, 4, 6, 50])) (.cond (.t 50) (some [0, 1, 4, 6]) (.region [.q 51 (.mv (.t 0)), .q 52 (.call 52 [(.t 51), (.c (.str [44]))])] (some [0, 1, 4, 6])) .skip)) (.seq (.seq (.region [.q 53 (.faddr 3 (.t 6)), .q 54 (.load false 1 (.t 53)), .q 55 (.len false (.t 54)), .q 56 (.bin .eql (.t 55) (.c (.int .i64 40)))] (some [0, 1, 4, 6, 56])) (.cond (.t 56) (some [0, 1, 4, 6]) (.seq (.region [.q 57 (.mv (.t 0)), .q 58 (.call 50 [(.t 57), (.c (.int .i64 0)), (.c (.bool true))])] (some [0, 1, 4, 6])) (.region [.q 59 (.mv (.t 0)), .q 60 (.call 45 [(.t 59), (.c (.int .i64 2))])] (some [0, 1, 4, 6]))) .skip)) (.region [.q 61 (.faddr 3 (.t 6)), .q 63 (.mv (.t 0)), .q 64 (.mv (.t 1)), .q 65 (.bin .add (.t 64) (.c (.int .i64 1))), .q 62 (.loadr (some 6) false 1 (.t 61)), .q 66 (.callr [6] 28 [(.t 63), (.t 65)]), .q 67 (.mkslice 5 [(.t 66)]), .q 68 (.append 5 64 (.t 62) (.t 67)), .q 69 (.faddr 3 (.t 6)), .w (.store 1 (.t 69) (.t 68))] (some [0, 1, 4, 6])))))))) (.region [.q 70 (.mv (.t 0)), .q 71 (.call 46 [(.t 70)])] (some [4, 6]))))))) (.seq (.region [.q 23 (.mv (.t 0)), .q 24 (.mv (.t 1)), .q 25 (.bin .add (.t 24) (.c (.int .i64 1))), .q 26 (.call 28 [(.t 23), (.t 25)]), .w (.store 5 (.t 6) (.t 26))] (some [0, 4, 6])) (.region [.q 27 (.mv (.t 0)), .q 28 (.call 52 [(.t 27), (.c (.str [41]))])] (some [4, 6]))))))))))) (.seq (.region [.q 72 (.load true 5 (.t 6)), .w (.store 5 (.t 4) (.t 72))] (some [4])) .ret))))))
theorem code101 : IsCode Tryz.prog 101 sc101 [(4, (some (true, 5)))] 73 := .mk' Tryz.func101 (by kernel_rfl) (by kernel_rfl) (by kernel_rfl) (by kernel_rfl)
/-- quietus/parse.Forms$1 -/
def sc25 : SC := (.block 0 (.loop (.seq (.seq (.region [.q 3 (.mv (.t 0)), .q 4 (.nilchk (.t 3)), .q 5 (.faddr 0 (.t 4)), .q 6 (.load false 1 (.t 5)), .q 7 (.iaddr 4 (.t 6) (.c (.int .i64 0))), .q 8 (.faddr 0 (.t 7)), .q 9 (.load false 1 (.t 8)), .q 10 (.bin .neq (.t 9) (.c (.int .i64 5)))] (some [0, 1, 10])) (.cond (.t 10) (some [0, 1]) .skip (.exit 0))) (.block 1 (.seq (.region [.q 12 (.mv (.t 0)), .q 15 (.mkslice 4 [(.c (.agg [(.str []), (.slice .nil 0 []), (.slice .nil 0 []), (.int .i64 0)]))]), .q 11 (.loadr (some 1) false 1 (.t 1)), .q 14 (.len false (.t 11)), .q 13 (.callr [1] 26 [(.t 12), (.c (.int .i64 1))])] (some [0, 1, 11, 13, 14, 15])) (.app1 (.mk 4 72 16 17 (.t 11) (.t 15) (.t 14) (.t 13) (.t 1)) (some [0, 1])))))))
theorem code25 : IsCode Tryz.prog 25 sc25 [] 18 := .mk' Tryz.func25 (by kernel_rfl) (by kernel_rfl) (by kernel_rfl) (by kernel_rfl)
end Go.Shadow.Lex

/- Shadow code of the functions of the lexer (printed by a program). -/
namespace Go.Shadow.Lex
open Go Go.RowKit Go.Proofs
/-- (*quietus/lexer.reader).skip -/
def sc72 : SC := (.block 0 (.loop (.seq (.seq (.region [.q 4 (.mv (.t 0)), .q 5 (.nilchk (.t 4)), .q 6 (.faddr 1 (.t 5)), .q 7 (.load false 1 (.t 6)), .q 8 (.mv (.t 0)), .q 9 (.nilchk (.t 8)), .q 10 (.faddr 0 (.t 9)), .q 11 (.load false 1 (.t 10)), .q 12 (.len true (.t 11)), .q 13 (.bin .lss (.t 7) (.t 12))] (some [0, 13])) (.cond (.t 13) (some [0]) .skip (.exit 0))) (.block 1 (.seq (.region [.q 14 (.mv (.t 0)), .q 15 (.nilchk (.t 14)), .q 16 (.faddr 0 (.t 15)), .q 17 (.load false 1 (.t 16)), .q 18 (.mv (.t 0)), .q 19 (.nilchk (.t 18)), .q 20 (.faddr 1 (.t 19)), .q 21 (.load false 1 (.t 20)), .q 22 (.idxs (.t 17) (.t 21)), .q 2 (.mv (.t 22))] (some [0, 2])) (.block 2 (.seq (.region [.q 24 (.mv (.t 2)), .q 25 (.bin .eql (.t 24) (.c (.int .u8 35))), .q 23 (.mv (.t 25))] (some [0, 2, 23])) (.cond (.t 23) (some [0, 2]) (.seq (.region [.q 26 (.mv (.t 0)), .q 27 (.nilchk (.t 26)), .q 28 (.faddr 0 (.t 27)), .q 29 (.load false 1 (.t 28)), .q 30 (.mv (.t 0)), .q 31 (.nilchk (.t 30)), .q 32 (.faddr 1 (.t 31)), .q 33 (.load false 1 (.t 32)), .q 34 (.cuts (.t 29) (some (.t 33)) none), .q 35 (.call 95 [(.t 34), (.c (.int .u8 10))]), .q 3 (.mv (.t 35))] (some [0, 3])) (.seq (.seq (.region [.q 36 (.mv (.t 3)), .q 37 (.bin .lss (.t 36) (.c (.int .i64 0)))] (some [0, 3, 37])) (.cond (.t 37) (some [0, 3]) (.region [.q 38 (.mv (.t 0)), .q 39 (.nilchk (.t 38)), .q 40 (.faddr 0 (.t 39)), .q 41 (.load false 1 (.t 40)), .q 42 (.len true (.t 41)), .q 43 (.mv (.t 0)), .q 44 (.nilchk (.t 43)), .q 45 (.faddr 1 (.t 44)), .q 46 (.load false 1 (.t 45)), .q 47 (.bin .sub (.t 42) (.t 46)), .q 3 (.mv (.t 47))] (some [0, 3])) .skip)) (.region [.q 48 (.mv (.t 0)), .q 49 (.nilchk (.t 48)), .q 50 (.faddr 1 (.t 49)), .q 51 (.load false 1 (.t 50)), .q 52 (.mv (.t 3)), .q 53 (.bin .add (.t 51) (.t 52)), .q 54 (.nilchk (.t 48)), .q 55 (.faddr 1 (.t 54)), .w (.store 1 (.t 55) (.t 53))] (some [0])))) (.seq (.region [.q 57 (.mv (.t 2)), .q 58 (.call 96 [(.t 57)]), .q 59 (.bin .eql (.t 58) (.c (.int .i64 1))), .q 56 (.mv (.t 59))] (some [0, 56])) (.cond (.t 56) (some [0]) (.region [.q 60 (.mv (.t 0)), .q 61 (.nilchk (.t 60)), .q 62 (.faddr 1 (.t 61)), .q 63 (.load false 1 (.t 62)), .q 64 (.bin .add (.t 63) (.c (.int .i64 1))), .q 65 (.nilchk (.t 60)), .q 66 (.faddr 1 (.t 65)), .w (.store 1 (.t 66) (.t 64))] (some [0])) .ret))))))))))
theorem code72 : IsCode Tryz.prog 72 sc72 [] 67 := .mk' Tryz.func72 (by kernel_rfl) (by kernel_rfl) (by kernel_rfl) (by kernel_rfl)
/-- (*quietus/lexer.reader).next -/
def sc73 : SC := (.seq (.region [.q 2 (.mv (.c (.int .i64 0)))] (some [0])) (.seq (.seq (.region [.q 7 (.build [.nilfunc, .nilfunc, .nilfunc, .nilfunc] [(0, (1, (.f 97))), (1, (1, (.f 98))), (2, (1, (.f 99))), (3, (1, (.f 100)))]), .q 8 (.mv (.c (.int .i64 0)))] (some [0, 7, 8])) (.block 0 (.loop (.seq (.region [.q 9 (.bin .lss (.t 8) (.c (.int .i64 4)))] (some [0, 7, 8, 9])) (.seq (.cond (.t 9) (some [0, 7, 8]) .skip (.exit 0)) (.seq (.block 1 (.seq (.region [.q 10 (.idxa false 1 4 (.t 7) (.t 8)), .q 4 (.mv (.t 10))] (some [0, 4, 7, 8])) (.seq (.region [.q 12 (.mv (.t 4)), .q 13 (.mv (.t 0)), .q 14 (.callv (.t 12) [(.t 13)]), .q 11 (.mv (.t 14)), .q 15 (.extract 0 (.t 11)), .q 16 (.extract 1 (.t 11)), .q 5 (.mv (.t 15)), .q 6 (.mv (.t 16))] (some [0, 5, 6, 7, 8])) (.seq (.region [.q 17 (.mv (.t 5))] (some [0, 6, 7, 8, 17])) (.cond (.t 17) (some [0, 6, 7, 8]) (.seq (.region [.q 18 (.mv (.t 6)), .q 2 (.mv (.t 18))] (some [2])) .ret) .skip))))) (.region [.q 19 (.bin .add (.t 8) (.c (.int .i64 1))), .q 8 (.mv (.t 19))] (some [0, 7, 8])))))))) (.seq (.region [.q 2 (.mv (.c (.int .i64 26)))] (some [2])) .ret)))
theorem code73 : IsCode Tryz.prog 73 sc73 [(2, none)] 20 := .mk' Tryz.func73 (by kernel_rfl) (by kernel_rfl) (by kernel_rfl) (by kernel_rfl)
/-- (*quietus/lexer.reader).put -/
def sc74 : SC := (.seq (.region [.q 10 (.mv (.c (.int .i64 0)))] (some [0, 1, 2, 3, 4])) (.seq (.region [.q 11 (.mv (.t 0)), .q 12 (.mv (.t 0)), .q 13 (.nilchk (.t 12)), .q 14 (.faddr 2 (.t 13)), .q 15 (.load false 1 (.t 14)), .q 16 (.mv (.t 1)), .q 17 (.mv (.t 0)), .q 18 (.nilchk (.t 17)), .q 19 (.faddr 1 (.t 18)), .q 20 (.load false 1 (.t 19)), .q 21 (.mv (.t 3)), .q 22 (.mv (.t 4)), .q 23 (.build [(.int .i64 0), (.int .i64 0), (.str []), (.int .i64 0)] [(0, (1, (.t 16))), (1, (1, (.t 20))), (2, (1, (.t 21))), (3, (1, (.t 22)))]), .q 24 (.mkslice 4 [(.t 23)]), .q 25 (.append 4 40 (.t 15) (.t 24)), .q 26 (.nilchk (.t 11)), .q 27 (.faddr 2 (.t 26)), .w (.store 1 (.t 27) (.t 25))] (some [0, 2])) (.seq (.region [.q 28 (.mv (.t 0)), .q 29 (.mv (.t 2)), .q 30 (.nilchk (.t 28)), .q 31 (.faddr 1 (.t 30)), .w (.store 1 (.t 31) (.t 29))] (some [])) (.seq (.region [.q 10 (.mv (.c (.int .i64 0)))] (some [10])) .ret))))
theorem code74 : IsCode Tryz.prog 74 sc74 [(10, none)] 32 := .mk' Tryz.func74 (by kernel_rfl) (by kernel_rfl) (by kernel_rfl) (by kernel_rfl)
/-- quietus/lexer.class -/
def sc96 : SC := (.seq (.region [.q 2 (.mv (.c (.int .i64 0)))] (some [0])) (.seq (.block 0 (.seq (.block 4 (.seq (.block 3 (.seq (.block 2 (.block 1 (.seq (.seq (.seq (.region [.q 4 (.mv (.t 0)), .q 5 (.bin .eql (.t 4) (.c (.int .u8 95))), .q 3 (.mv (.t 5))] (some [0, 3])) (.cond (.t 3) (some [0]) (.exit 1) .skip)) (.seq (.seq (.seq (.region [.q 7 (.mv (.t 0)), .q 8 (.bin .geq (.t 7) (.c (.int .u8 97))), .q 9 (.mv (.t 8)), ⟨(some 10), (.mv (.t 0)), (some (9, true))⟩, ⟨(some 11), (.bin .leq (.t 10) (.c (.int .u8 122))), (some (9, true))⟩, .q 12 (.pick (.t 9) (.t 11) (.c (.bool false))), .q 6 (.mv (.t 12))] (some [0, 6])) (.cond (.t 6) (some [0, 6]) .skip (.region [.q 13 (.mv (.t 0)), .q 14 (.bin .geq (.t 13) (.c (.int .u8 65))), .q 15 (.mv (.t 14)), ⟨(some 16), (.mv (.t 0)), (some (15, true))⟩, ⟨(some 17), (.bin .leq (.t 16) (.c (.int .u8 90))), (some (15, true))⟩, .q 18 (.pick (.t 15) (.t 17) (.c (.bool false))), .q 6 (.mv (.t 18))] (some [0, 6])))) (.cond (.t 6) (some [0]) (.exit 2) .skip)) (.seq (.seq (.region [.q 20 (.mv (.t 0)), .q 21 (.bin .geq (.t 20) (.c (.int .u8 48))), .q 22 (.mv (.t 21)), ⟨(some 23), (.mv (.t 0)), (some (22, true))⟩, ⟨(some 24), (.bin .leq (.t 23) (.c (.int .u8 57))), (some (22, true))⟩, .q 25 (.pick (.t 22) (.t 24) (.c (.bool false))), .q 19 (.mv (.t 25))] (some [0, 19])) (.cond (.t 19) (some [0]) (.exit 3) .skip)) (.seq (.seq (.region [.q 27 (.mv (.t 0)), .q 28 (.bin .eql (.t 27) (.c (.int .u8 32))), .q 26 (.mv (.t 28))] (some [0, 26])) (.cond (.t 26) (some [0, 26]) .skip (.seq (.region [.q 29 (.mv (.t 0)), .q 30 (.bin .eql (.t 29) (.c (.int .u8 9))), .q 26 (.mv (.t 30))] (some [0, 26])) (.cond (.t 26) (some [0, 26]) .skip (.seq (.region [.q 31 (.mv (.t 0)), .q 32 (.bin .eql (.t 31) (.c (.int .u8 10))), .q 26 (.mv (.t 32))] (some [0, 26])) (.cond (.t 26) (some [0, 26]) .skip (.region [.q 33 (.mv (.t 0)), .q 34 (.bin .eql (.t 33) (.c (.int .u8 13))), .q 26 (.mv (.t 34))] (some [26])))))))) (.cond (.t 26) (some []) (.exit 4) .skip))))) (.exit 0)))) (.seq (.seq (.region [.q 2 (.mv (.c (.int .i64 3)))] (some [2])) .ret) (.exit 0)))) (.seq (.seq (.region [.q 2 (.mv (.c (.int .i64 2)))] (some [2])) .ret) (.exit 0)))) (.seq (.seq (.region [.q 2 (.mv (.c (.int .i64 1)))] (some [2])) .ret) (.exit 0)))) (.seq (.region [.q 2 (.mv (.c (.int .i64 0)))] (some [2])) .ret)))
theorem code96 : IsCode Tryz.prog 96 sc96 [(2, none)] 35 := .mk' Tryz.func96 (by kernel_rfl) (by kernel_rfl) (by kernel_rfl) (by kernel_rfl)
/-- (*quietus/lexer.reader).name -/
def sc97 : SC := (.seq (.region [.q 2 (.mv (.c (.bool false))), .q 3 (.mv (.c (.int .i64 0)))] (some [0])) (.seq (.seq (.region [.q 5 (.mv (.t 0)), .q 6 (.nilchk (.t 5)), .q 7 (.faddr 0 (.t 6)), .q 8 (.load false 1 (.t 7)), .q 9 (.mv (.t 0)), .q 10 (.nilchk (.t 9)), .q 11 (.faddr 1 (.t 10)), .q 12 (.load false 1 (.t 11)), .q 13 (.idxs (.t 8) (.t 12)), .q 14 (.call 96 [(.t 13)]), .q 15 (.bin .neq (.t 14) (.c (.int .i64 3)))] (some [0, 15])) (.cond (.t 15) (some [0]) (.seq (.region [.q 2 (.mv (.c (.bool false))), .q 3 (.mv (.c (.int .i64 0)))] (some [2, 3])) .ret) .skip)) (.seq (.region [.q 16 (.mv (.t 0)), .q 17 (.call 112 [(.t 16), (.c (.int .i64 2))]), .q 4 (.mv (.t 17))] (some [0, 4])) (.seq (.seq (.region [.q 18 (.mv (.t 4)), .q 19 (.mv (.t 0)), .q 20 (.nilchk (.t 19)), .q 21 (.faddr 1 (.t 20)), .q 22 (.load false 1 (.t 21)), .q 23 (.bin .sub (.t 18) (.t 22)), .q 24 (.bin .gtr (.t 23) (.c (.int .i64 32)))] (some [0, 4, 24])) (.cond (.t 24) (some [0, 4]) (.seq (.region [.q 2 (.mv (.c (.bool true))), .q 3 (.mv (.c (.int .i64 2)))] (some [2, 3])) .ret) .skip)) (.seq (.region [.q 25 (.mv (.t 0)), .q 26 (.mv (.t 4)), .q 27 (.mv (.t 0)), .q 28 (.nilchk (.t 27)), .q 29 (.faddr 0 (.t 28)), .q 30 (.load false 1 (.t 29)), .q 31 (.mv (.t 0)), .q 32 (.nilchk (.t 31)), .q 33 (.faddr 1 (.t 32)), .q 34 (.load false 1 (.t 33)), .q 35 (.mv (.t 4)), .q 36 (.cuts (.t 30) (some (.t 34)) (some (.t 35))), .q 37 (.call 74 [(.t 25), (.c (.int .i64 1)), (.t 26), (.t 36), (.c (.int .i64 0))]), .q 2 (.mv (.c (.bool true))), .q 3 (.mv (.t 37))] (some [2, 3])) .ret)))))
theorem code97 : IsCode Tryz.prog 97 sc97 [(2, none), (3, none)] 38 := .mk' Tryz.func97 (by kernel_rfl) (by kernel_rfl) (by kernel_rfl) (by kernel_rfl)
/-- (*quietus/lexer.reader).number -/
def sc98 : SC := (.seq (.region [.q 2 (.mv (.c (.bool false))), .q 3 (.mv (.c (.int .i64 0)))] (some [0])) (.seq (.seq (.region [.q 8 (.mv (.t 0)), .q 9 (.nilchk (.t 8)), .q 10 (.faddr 0 (.t 9)), .q 11 (.load false 1 (.t 10)), .q 12 (.mv (.t 0)), .q 13 (.nilchk (.t 12)), .q 14 (.faddr 1 (.t 13)), .q 15 (.load false 1 (.t 14)), .q 16 (.idxs (.t 11) (.t 15)), .q 17 (.call 96 [(.t 16)]), .q 18 (.bin .neq (.t 17) (.c (.int .i64 2)))] (some [0, 18])) (.cond (.t 18) (some [0]) (.seq (.region [.q 2 (.mv (.c (.bool false))), .q 3 (.mv (.c (.int .i64 0)))] (some [2, 3])) .ret) .skip)) (.seq (.region [.q 19 (.mv (.t 0)), .q 20 (.call 112 [(.t 19), (.c (.int .i64 2))]), .q 4 (.mv (.t 20))] (some [0, 4])) (.seq (.region [.q 21 (.mv (.t 0)), .q 22 (.nilchk (.t 21)), .q 23 (.faddr 0 (.t 22)), .q 24 (.load false 1 (.t 23)), .q 25 (.mv (.t 0)), .q 26 (.nilchk (.t 25)), .q 27 (.faddr 1 (.t 26)), .q 28 (.load false 1 (.t 27)), .q 29 (.mv (.t 4)), .q 30 (.cuts (.t 24) (some (.t 28)) (some (.t 29))), .q 5 (.mv (.t 30))] (some [0, 4, 5])) (.seq (.region [.q 32 (.mv (.t 5)), .q 33 (.call 113 [(.t 32)]), .q 31 (.mv (.t 33)), .q 34 (.extract 0 (.t 31)), .q 35 (.extract 1 (.t 31)), .q 6 (.mv (.t 34)), .q 7 (.mv (.t 35))] (some [0, 4, 5, 6, 7])) (.seq (.seq (.region [.q 36 (.mv (.t 7)), .q 37 (.eqn true (.t 36) (.c .nilIface)), .q 38 (.mv (.t 37)), ⟨(some 39), (.mv (.t 5)), (some (38, false))⟩, ⟨(some 40), (.len true (.t 39)), (some (38, false))⟩, ⟨(some 41), (.bin .gtr (.t 40) (.c (.int .i64 15))), (some (38, false))⟩, .q 42 (.pick (.t 38) (.c (.bool true)) (.t 41)), .q 43 (.mv (.t 42)), ⟨(some 44), (.mv (.t 5)), (some (43, false))⟩, ⟨(some 45), (.len true (.t 44)), (some (43, false))⟩, ⟨(some 46), (.bin .gtr (.t 45) (.c (.int .i64 1))), (some (43, false))⟩, ⟨(some 47), (.mv (.t 46)), (some (43, false))⟩, ⟨(some 48), (.mv (.t 5)), (some (47, true))⟩, ⟨(some 49), (.idxs (.t 48) (.c (.int .i64 0))), (some (47, true))⟩, ⟨(some 50), (.bin .eql (.t 49) (.c (.int .u8 48))), (some (47, true))⟩, ⟨(some 51), (.pick (.t 47) (.t 50) (.c (.bool false))), (some (43, false))⟩, .q 52 (.pick (.t 43) (.c (.bool true)) (.t 51))] (some [0, 4, 6, 52])) (.cond (.t 52) (some [0, 4, 6]) (.seq (.region [.q 2 (.mv (.c (.bool true))), .q 3 (.mv (.c (.int .i64 27)))] (some [2, 3])) .ret) .skip)) (.seq (.region [.q 53 (.mv (.t 0)), .q 54 (.mv (.t 4)), .q 55 (.mv (.t 6)), .q 56 (.call 74 [(.t 53), (.c (.int .i64 2)), (.t 54), (.c (.str [])), (.t 55)]), .q 2 (.mv (.c (.bool true))), .q 3 (.mv (.t 56))] (some [2, 3])) .ret)))))))
theorem code98 : IsCode Tryz.prog 98 sc98 [(2, none), (3, none)] 57 := .mk' Tryz.func98 (by kernel_rfl) (by kernel_rfl) (by kernel_rfl) (by kernel_rfl)
/-- (*quietus/lexer.reader).text -/
def sc99 : SC := (.seq (.region [.q 2 (.mv (.c (.bool false))), .q 3 (.mv (.c (.int .i64 0)))] (some [0])) (.seq (.seq (.region [.q 8 (.mv (.t 0)), .q 9 (.nilchk (.t 8)), .q 10 (.faddr 0 (.t 9)), .q 11 (.load false 1 (.t 10)), .q 12 (.mv (.t 0)), .q 13 (.nilchk (.t 12)), .q 14 (.faddr 1 (.t 13)), .q 15 (.load false 1 (.t 14)), .q 16 (.idxs (.t 11) (.t 15)), .q 17 (.bin .neq (.t 16) (.c (.int .u8 34)))] (some [0, 17])) (.cond (.t 17) (some [0]) (.seq (.region [.q 2 (.mv (.c (.bool false))), .q 3 (.mv (.c (.int .i64 0)))] (some [2, 3])) .ret) .skip)) (.seq (.region [.q 4 (.mv (.c (.slice .nil 0 [])))] (some [0, 4])) (.seq (.seq (.region [.q 18 (.mv (.t 0)), .q 19 (.nilchk (.t 18)), .q 20 (.faddr 1 (.t 19)), .q 21 (.load false 1 (.t 20)), .q 22 (.bin .add (.t 21) (.c (.int .i64 1))), .q 5 (.mv (.t 22))] (some [0, 4, 5])) (.block 0 (.loop (.seq (.seq (.region [.q 23 (.mv (.t 4)), .q 24 (.len false (.t 23)), .q 25 (.bin .leq (.t 24) (.c (.int .i64 200)))] (some [0, 4, 5, 25])) (.cond (.t 25) (some [0, 4, 5]) .skip (.exit 0))) (.seq (.block 1 (.seq (.seq (.region [.q 28 (.mv (.t 5)), .q 29 (.mv (.t 0)), .q 30 (.nilchk (.t 29)), .q 31 (.faddr 0 (.t 30)), .q 32 (.load false 1 (.t 31)), .q 33 (.len true (.t 32)), .q 34 (.bin .geq (.t 28) (.t 33))] (some [0, 4, 5, 34])) (.cond (.t 34) (some [0, 4, 5]) (.seq (.region [.q 2 (.mv (.c (.bool true))), .q 3 (.mv (.c (.int .i64 28)))] (some [2, 3])) .ret) .skip)) (.seq (.region [.q 35 (.mv (.t 0)), .q 36 (.nilchk (.t 35)), .q 37 (.faddr 0 (.t 36)), .q 38 (.load false 1 (.t 37)), .q 39 (.mv (.t 5)), .q 40 (.idxs (.t 38) (.t 39)), .q 6 (.mv (.t 40))] (some [0, 4, 5, 6])) (.block 2 (.seq (.region [.q 46 (.mv (.t 6)), .q 47 (.bin .eql (.t 46) (.c (.int .u8 34))), .q 45 (.mv (.t 47))] (some [0, 4, 5, 6, 45])) (.cond (.t 45) (some [0, 4, 5, 6]) (.seq (.region [.q 48 (.mv (.t 0)), .q 49 (.mv (.t 5)), .q 50 (.bin .add (.t 49) (.c (.int .i64 1))), .q 51 (.mv (.t 4)), .q 52 (.b2s (.t 51)), .q 53 (.call 74 [(.t 48), (.c (.int .i64 3)), (.t 50), (.t 52), (.c (.int .i64 0))]), .q 2 (.mv (.c (.bool true))), .q 3 (.mv (.t 53))] (some [2, 3])) .ret) (.seq (.region [.q 55 (.mv (.t 6)), .q 56 (.bin .eql (.t 55) (.c (.int .u8 92))), .q 54 (.mv (.t 56))] (some [0, 4, 5, 6, 54])) (.cond (.t 54) (some [0, 4, 5, 6]) (.seq (.region [.q 57 (.mv (.t 5)), .q 58 (.bin .add (.t 57) (.c (.int .i64 1))), .q 5 (.mv (.t 58))] (some [0, 4, 5])) (.seq (.region [.q 7 (.mv (.c (.int .i64 (-1))))] (some [0, 4, 5, 7])) (.seq (.seq (.region [.q 59 (.mv (.t 5)), .q 60 (.mv (.t 0)), .q 61 (.nilchk (.t 60)), .q 62 (.faddr 0 (.t 61)), .q 63 (.load false 1 (.t 62)), .q 64 (.len true (.t 63)), .q 65 (.bin .lss (.t 59) (.t 64))] (some [0, 4, 5, 7, 65])) (.cond (.t 65) (some [0, 4, 5, 7]) (.region [.q 66 (.mv (.t 0)), .q 67 (.nilchk (.t 66)), .q 68 (.faddr 0 (.t 67)), .q 69 (.load false 1 (.t 68)), .q 70 (.mv (.t 5)), .q 71 (.idxs (.t 69) (.t 70)), .q 72 (.call 95 [(.c (.str [34, 92, 110])), (.t 71)]), .q 7 (.mv (.t 72))] (some [0, 4, 5, 7])) .skip)) (.seq (.seq (.region [.q 73 (.mv (.t 7)), .q 74 (.bin .lss (.t 73) (.c (.int .i64 0)))] (some [0, 4, 5, 7, 74])) (.cond (.t 74) (some [0, 4, 5, 7]) (.seq (.region [.q 2 (.mv (.c (.bool true))), .q 3 (.mv (.c (.int .i64 28)))] (some [2, 3])) .ret) .skip)) (.region [.q 75 (.mv (.t 4)), .q 76 (.mv (.t 7)), .q 77 (.idxs (.c (.str [34, 92, 10])) (.t 76)), .q 78 (.mkslice 1 [(.t 77)]), .q 79 (.append 1 1 (.t 75) (.t 78)), .q 4 (.mv (.t 79))] (some [0, 4, 5])))))) (.seq (.region [.q 81 (.mv (.t 6)), .q 82 (.bin .lss (.t 81) (.c (.int .u8 32))), .q 83 (.mv (.t 82)), ⟨(some 84), (.mv (.t 6)), (some (83, false))⟩, ⟨(some 85), (.bin .gtr (.t 84) (.c (.int .u8 126))), (some (83, false))⟩, .q 86 (.pick (.t 83) (.c (.bool true)) (.t 85)), .q 80 (.mv (.t 86))] (some [0, 4, 5, 6, 80])) (.cond (.t 80) (some [0, 4, 5, 6]) (.seq (.region [.q 2 (.mv (.c (.bool true))), .q 3 (.mv (.c (.int .i64 28)))] (some [2, 3])) .ret) (.region [.q 41 (.mv (.t 4)), .q 42 (.mv (.t 6)), .q 43 (.mkslice 1 [(.t 42)]), .q 44 (.append 1 1 (.t 41) (.t 43)), .q 4 (.mv (.t 44))] (some [0, 4, 5])))))))))))) (.region [.q 26 (.mv (.t 5)), .q 27 (.bin .add (.t 26) (.c (.int .i64 1))), .q 5 (.mv (.t 27))] (some [0, 4, 5]))))))) (.seq (.region [.q 2 (.mv (.c (.bool true))), .q 3 (.mv (.c (.int .i64 2)))] (some [2, 3])) .ret)))))
theorem code99 : IsCode Tryz.prog 99 sc99 [(2, none), (3, none)] 87 := .mk' Tryz.func99 (by kernel_rfl) (by kernel_rfl) (by kernel_rfl) (by kernel_rfl)
/-- (*quietus/lexer.reader).sign -/
def sc100 : SC := (.seq (.region [.q 2 (.mv (.c (.bool false))), .q 3 (.mv (.c (.int .i64 0)))] (some [0])) (.seq (.region [.q 7 (.mv (.t 0)), .q 8 (.nilchk (.t 7)), .q 9 (.faddr 0 (.t 8)), .q 10 (.load false 1 (.t 9)), .q 11 (.mv (.t 0)), .q 12 (.nilchk (.t 11)), .q 13 (.faddr 1 (.t 12)), .q 14 (.load false 1 (.t 13)), .q 15 (.cuts (.t 10) (some (.t 14)) none), .q 4 (.mv (.t 15))] (some [0, 4])) (.seq (.seq (.region [.q 16 (.call 114 [(.c (.str [45, 62, 32, 58, 61, 32, 61, 61, 32, 33, 61, 32, 60, 61, 32, 62, 61, 32, 38, 38, 32, 124, 124, 32, 46, 46]))]), .q 17 (.len false (.t 16)), .q 18 (.mv (.c (.int .i64 0)))] (some [0, 4, 16, 17, 18])) (.block 0 (.loop (.seq (.region [.q 19 (.bin .lss (.t 18) (.t 17))] (some [0, 4, 16, 17, 18, 19])) (.seq (.cond (.t 19) (some [0, 4, 16, 17, 18]) .skip (.exit 0)) (.seq (.block 1 (.seq (.region [.q 20 (.iaddr 1 (.t 16) (.t 18)), .q 21 (.load false 1 (.t 20)), .q 6 (.mv (.t 21))] (some [0, 4, 6, 16, 17, 18])) (.seq (.region [.q 22 (.mv (.t 4)), .q 23 (.mv (.t 6)), .q 24 (.call 115 [(.t 22), (.t 23)])] (some [0, 4, 6, 16, 17, 18, 24])) (.cond (.t 24) (some [0, 4, 6, 16, 17, 18]) (.seq (.region [.q 25 (.mv (.t 0)), .q 26 (.mv (.t 0)), .q 27 (.nilchk (.t 26)), .q 28 (.faddr 1 (.t 27)), .q 29 (.load false 1 (.t 28)), .q 30 (.bin .add (.t 29) (.c (.int .i64 2))), .q 31 (.mv (.t 6)), .q 32 (.call 74 [(.t 25), (.c (.int .i64 4)), (.t 30), (.t 31), (.c (.int .i64 0))]), .q 2 (.mv (.c (.bool true))), .q 3 (.mv (.t 32))] (some [2, 3])) .ret) .skip)))) (.region [.q 33 (.bin .add (.t 18) (.c (.int .i64 1))), .q 18 (.mv (.t 33))] (some [0, 4, 16, 17, 18])))))))) (.seq (.seq (.region [.q 34 (.mv (.t 4)), .q 35 (.cuts (.t 34) none (some (.c (.int .i64 1)))), .q 36 (.call 116 [(.c (.str [40, 41, 123, 125, 91, 93, 44, 59, 58, 46, 43, 45, 42, 47, 37, 60, 62, 61, 33, 38, 124, 64, 63, 94, 126])), (.t 35)]), .q 37 (.un .not (.t 36))] (some [0, 4, 37])) (.cond (.t 37) (some [0, 4]) (.seq (.region [.q 2 (.mv (.c (.bool false))), .q 3 (.mv (.c (.int .i64 0)))] (some [2, 3])) .ret) .skip)) (.seq (.region [.q 38 (.mv (.t 0)), .q 39 (.mv (.t 0)), .q 40 (.nilchk (.t 39)), .q 41 (.faddr 1 (.t 40)), .q 42 (.load false 1 (.t 41)), .q 43 (.bin .add (.t 42) (.c (.int .i64 1))), .q 44 (.mv (.t 4)), .q 45 (.cuts (.t 44) none (some (.c (.int .i64 1)))), .q 46 (.call 74 [(.t 38), (.c (.int .i64 4)), (.t 43), (.t 45), (.c (.int .i64 0))]), .q 2 (.mv (.c (.bool true))), .q 3 (.mv (.t 46))] (some [2, 3])) .ret)))))
theorem code100 : IsCode Tryz.prog 100 sc100 [(2, none), (3, none)] 47 := .mk' Tryz.func100 (by kernel_rfl) (by kernel_rfl) (by kernel_rfl) (by kernel_rfl)
/-- (*quietus/lexer.reader).span -/
def sc112 : SC := (.seq (.region [.q 4 (.mv (.c (.int .i64 0)))] (some [0, 1])) (.seq (.region [.q 6 (.mv (.t 0)), .q 7 (.nilchk (.t 6)), .q 8 (.faddr 1 (.t 7)), .q 9 (.load false 1 (.t 8)), .q 5 (.mv (.t 9))] (some [0, 1, 5])) (.seq (.block 0 (.loop (.seq (.seq (.region [.q 10 (.mv (.t 5)), .q 11 (.mv (.t 0)), .q 12 (.nilchk (.t 11)), .q 13 (.faddr 0 (.t 12)), .q 14 (.load false 1 (.t 13)), .q 15 (.len true (.t 14)), .q 16 (.bin .lss (.t 10) (.t 15)), .q 17 (.mv (.t 16)), ⟨(some 18), (.mv (.t 0)), (some (17, true))⟩, ⟨(some 19), (.nilchk (.t 18)), (some (17, true))⟩, ⟨(some 20), (.faddr 0 (.t 19)), (some (17, true))⟩, ⟨(some 21), (.load false 1 (.t 20)), (some (17, true))⟩, ⟨(some 22), (.mv (.t 5)), (some (17, true))⟩, ⟨(some 23), (.idxs (.t 21) (.t 22)), (some (17, true))⟩, ⟨(some 24), (.call 96 [(.t 23)]), (some (17, true))⟩, ⟨(some 25), (.mv (.t 1)), (some (17, true))⟩, ⟨(some 26), (.bin .geq (.t 24) (.t 25)), (some (17, true))⟩, .q 27 (.pick (.t 17) (.t 26) (.c (.bool false)))] (some [0, 1, 5, 27])) (.cond (.t 27) (some [0, 1, 5]) .skip (.exit 0))) (.block 1 (.region [.q 28 (.mv (.t 5)), .q 29 (.bin .add (.t 28) (.c (.int .i64 1))), .q 5 (.mv (.t 29))] (some [0, 1, 5])))))) (.seq (.region [.q 30 (.mv (.t 5)), .q 4 (.mv (.t 30))] (some [4])) .ret))))
theorem code112 : IsCode Tryz.prog 112 sc112 [(4, none)] 31 := .mk' Tryz.func112 (by kernel_rfl) (by kernel_rfl) (by kernel_rfl) (by kernel_rfl)
/-- quietus/lexer.Tokens -/
def sc43 : SC := (.seq (.region [.q 2 (.mv (.c (.slice .nil 0 []))), .q 3 (.alloc [(.int .i64 0), (.int .i64 0)])] (some [0, 3])) (.seq (.seq (.region [.q 6 (.mv (.t 0)), .q 7 (.len true (.t 6)), .q 8 (.bin .gtr (.t 7) (.c (.int .i64 65536)))] (some [0, 3, 8])) (.cond (.t 8) (some [0, 3]) (.seq (.region [.q 9 (.build [(.int .i64 0), (.int .i64 0)] [(1, (1, (.c (.int .i64 2))))]), .q 2 (.mv (.c (.slice .nil 0 []))), .w (.store 2 (.t 3) (.t 9))] (some [2, 3])) .ret) .skip)) (.seq (.region [.q 10 (.mv (.t 0)), .q 11 (.build [(.str []), (.int .i64 0), (.slice .nil 0 [])] [(0, (1, (.t 10)))]), .q 12 (.box (.t 11)), .q 4 (.mv (.t 12))] (some [0, 3, 4])) (.seq (.seq (.region [.q 13 (.mv (.t 4)), .q 14 (.call 72 [(.t 13)])] (some [0, 3, 4])) (.block 0 (.loop (.seq (.seq (.region [.q 15 (.mv (.t 4)), .q 16 (.nilchk (.t 15)), .q 17 (.faddr 1 (.t 16)), .q 18 (.load false 1 (.t 17)), .q 19 (.mv (.t 0)), .q 20 (.len true (.t 19)), .q 21 (.bin .lss (.t 18) (.t 20))] (some [0, 3, 4, 21])) (.cond (.t 21) (some [0, 3, 4]) .skip (.exit 0))) (.seq (.block 1 (.seq (.region [.q 24 (.mv (.t 4)), .q 25 (.call 73 [(.t 24)]), .q 5 (.mv (.t 25))] (some [0, 3, 4, 5])) (.seq (.region [.q 26 (.mv (.t 5)), .q 27 (.bin .neq (.t 26) (.c (.int .i64 0)))] (some [0, 3, 4, 5, 27])) (.cond (.t 27) (some [0, 3, 4, 5]) (.seq (.region [.q 28 (.mv (.t 4)), .q 29 (.nilchk (.t 28)), .q 30 (.faddr 1 (.t 29)), .q 31 (.load false 1 (.t 30)), .q 32 (.mv (.t 5)), .q 33 (.build [(.int .i64 0), (.int .i64 0)] [(0, (1, (.t 31))), (1, (1, (.t 32)))]), .q 2 (.mv (.c (.slice .nil 0 []))), .w (.store 2 (.t 3) (.t 33))] (some [2, 3])) .ret) .skip)))) (.region [.q 22 (.mv (.t 4)), .q 23 (.call 72 [(.t 22)])] (some [0, 3, 4]))))))) (.seq (.region [.q 34 (.mv (.t 4)), .q 35 (.mv (.t 0)), .q 36 (.len true (.t 35)), .q 37 (.call 74 [(.t 34), (.c (.int .i64 5)), (.t 36), (.c (.str [])), (.c (.int .i64 0))])] (some [3, 4])) (.seq (.region [.q 38 (.mv (.t 4)), .q 39 (.nilchk (.t 38)), .q 40 (.faddr 2 (.t 39)), .q 41 (.load false 1 (.t 40)), .q 42 (.build [(.int .i64 0), (.int .i64 0)] []), .q 2 (.mv (.t 41)), .w (.store 2 (.t 3) (.t 42))] (some [2, 3])) .ret))))))
theorem code43 : IsCode Tryz.prog 43 sc43 [(2, none), (3, (some (true, 2)))] 43 := .mk' Tryz.func43 (by kernel_rfl) (by kernel_rfl) (by kernel_rfl) (by kernel_rfl)
end Go.Shadow.Lex

/- DERIVED: THE SHELF's CONTRACTS AT THIS DUMP, IN PLAIN WORDS (tools/lay-plain.mjs out of 'TryzShelf.lean', which tools/lay-shelf.mjs wrote): THE SAME DECLARATIONS UNDER THE SAME NAMES: 'import', 'namespace', 'open', 'def', 'theorem' AND NOTHING ELSE: no command of the shelf's: FOR A HAND-IN. Each laying: the table of numbers ('.._ren') and one theorem, a field a fact of the dump's own or the kernel's comparison; each contract: ONE APPLICATION. -/
namespace Go.Proofs
open Go.Shelf

def Tryz.lays156_ren : Go.Shelf.Ren := ⟨fun | 156 => 67 | 165 => 91 | 166 => 92 | 169 => 93 | 240 => 109 | 241 => 110 | 276 => 128 | 277 => 129 | n => n, fun | 31 => 42 | 9 => 9 | 3 => 3 | 4 => 4 | 0 => 0 | 20 => 20 | 72 => 159 | 76 => 162 | 70 => 156 | 37 => 157 | 75 => 161 | 127 => 178 | 164 => 202 | 5 => 5 | 80 => 164 | n => n, fun | n => n⟩
theorem Tryz.lays156 : Go.Proofs.Lays.n156 Tryz.prog Tryz.lays156_ren := {
  mixed := by kernel_rfl
  f156 := Tryz.func67.trans (congrArg some (by kernel_rfl))
  f165 := Tryz.func91.trans (congrArg some (by kernel_rfl))
  f166 := Tryz.func92.trans (congrArg some (by kernel_rfl))
  f169 := Tryz.func93.trans (congrArg some (by kernel_rfl))
  f240 := Tryz.func109.trans (congrArg some (by kernel_rfl))
  f241 := Tryz.func110.trans (congrArg some (by kernel_rfl))
  f276 := Tryz.func128.trans (congrArg some (by kernel_rfl))
  f277 := Tryz.func129.trans (congrArg some (by kernel_rfl))
  t0 := Tryz.underlying0
  a0 := Tryz.isAgg0
  z0 := Tryz.sizeOf0
  v0 := Tryz.zeroValue0
  t3 := Tryz.underlying3
  a3 := Tryz.isAgg3
  z3 := Tryz.sizeOf3
  v3 := Tryz.zeroValue3
  t4 := Tryz.underlying4
  a4 := Tryz.isAgg4
  z4 := Tryz.sizeOf4
  v4 := Tryz.zeroValue4
  t9 := Tryz.underlying9
  a9 := Tryz.isAgg9
  z9 := Tryz.sizeOf9
  v9 := Tryz.zeroValue9
  t20 := Tryz.underlying20
  a20 := Tryz.isAgg20
  z20 := Tryz.sizeOf20
  v20 := Tryz.zeroValue20
  t31 := Tryz.underlying42
  a31 := Tryz.isAgg42
  z31 := Tryz.sizeOf42
  v31 := Tryz.zeroValue42
  t37 := Tryz.underlying157
  a37 := Tryz.isAgg157
  z37 := Tryz.sizeOf157
  v37 := Tryz.zeroValue157
  t70 := Tryz.underlying156
  a70 := Tryz.isAgg156
  z70 := Tryz.sizeOf156
  v70 := Tryz.zeroValue156
  t72 := Tryz.underlying159
  a72 := Tryz.isAgg159
  z72 := Tryz.sizeOf159
  v72 := Tryz.zeroValue159
  t75 := Tryz.underlying161
  a75 := Tryz.isAgg161
  z75 := Tryz.sizeOf161
  v75 := Tryz.zeroValue161
  t76 := Tryz.underlying162
  a76 := Tryz.isAgg162
  z76 := Tryz.sizeOf162
  v76 := Tryz.zeroValue162
  t127 := Tryz.underlying178
  a127 := Tryz.isAgg178
  z127 := Tryz.sizeOf178
  v127 := Tryz.zeroValue178
  t164 := Tryz.underlying202
  a164 := Tryz.isAgg202
  z164 := Tryz.sizeOf202
  v164 := Tryz.zeroValue202 }
theorem Tryz.Builder_Extra_156 : Builder.Extra Tryz.prog Tryz.lays156_ren := {
  sizeBuilder := by kernel_rfl
  liesBuilder := by kernel_rfl
  t5 := Tryz.underlying5
  a5 := Tryz.isAgg5
  z5 := Tryz.sizeOf5
  v5 := Tryz.zeroValue5
  infoByte := by kernel_rfl
  cellsByte := by kernel_rfl
  sizeByte := by kernel_rfl
  neB5 := by decide }
open Go.RowKit in
theorem Tryz.strings_Join_none (a : Option Addr) (c : Nat) (sep : ByteArray) (w : World) :
    Calls Tryz.prog 67 #[.slice a 0 c, .string sep] w fun e w' => e = .returned (.string ⟨#[]⟩) ∧ w' = w := Any.strings_Join_none Tryz.lays156 Tryz.Builder_Extra_156 a c sep w
open Go.RowKit in
theorem Tryz.strings_Join (bk o c : Nat) (xs : List ByteArray) (sep : ByteArray) (w : World) (hcells : ∀ (j : Nat) x, xs[j]? = some x → w.cell? ⟨bk, o + j, none⟩ = some (.string x)) (hbk : bk < w.heap.size) (hN : xs.length ≤ 140737488355328) (hcap : xs.length ≤ c) (hlen : (Lib.join (xs.map (·.data.toList)) sep.data.toList).length ≤ 140737488355328) :
    Calls Tryz.prog 67 #[.slice (some ⟨bk, o, none⟩) xs.length c, .string sep] w fun e w' => e = .returned (.string ⟨(Lib.join (xs.map (·.data.toList)) sep.data.toList).toArray⟩) ∧ Below w.heap.size w w' := Any.strings_Join Tryz.lays156 Tryz.Builder_Extra_156 bk o c xs sep w hcells hbk hN hcap hlen
def Tryz.lays137_ren : Go.Shelf.Ren := ⟨fun | 137 => 95 | 217 => 111 | 266 => 130 | n => n, fun | 9 => 9 | 5 => 5 | 3 => 3 | n => n, fun | n => n⟩
theorem Tryz.lays137 : Go.Proofs.Lays.n137 Tryz.prog Tryz.lays137_ren := {
  mixed := by kernel_rfl
  f137 := Tryz.func95.trans (congrArg some (by kernel_rfl))
  f217 := Tryz.func111.trans (congrArg some (by kernel_rfl))
  f266 := Tryz.func130.trans (congrArg some (by kernel_rfl))
  t3 := Tryz.underlying3
  a3 := Tryz.isAgg3
  z3 := Tryz.sizeOf3
  v3 := Tryz.zeroValue3
  t5 := Tryz.underlying5
  a5 := Tryz.isAgg5
  z5 := Tryz.sizeOf5
  v5 := Tryz.zeroValue5
  t9 := Tryz.underlying9
  a9 := Tryz.isAgg9
  z9 := Tryz.sizeOf9
  v9 := Tryz.zeroValue9 }
open Go.RowKit in
theorem Tryz.strings_IndexByte (s : ByteArray) (c : Int) (w : World) :
    Calls Tryz.prog 95 #[.string s, .int .u8 c] w fun e w' => e = .returned (.int .i64 (Lib.indexByte s.data.toList c.toNat.toUInt8)) ∧ w' = w := Any.strings_IndexByte Tryz.lays137 s c w
def Tryz.laysM171_ren : Go.Shelf.Ren := ⟨fun | 171 => 64 | 243 => 88 | 246 => 105 | 283 => 118 | 284 => 119 | 285 => 120 | 286 => 121 | 129 => 138 | 317 => 137 | 318 => 139 | 319 => 140 | 320 => 141 | 337 => 155 | 338 => 156 | n => n, fun | 3 => 3 | 9 => 9 | 2 => 2 | 4 => 4 | 171 => 181 | 0 => 0 | 53 => 182 | 37 => 157 | 5 => 5 | 173 => 185 | 212 => 210 | 51 => 142 | 20 => 20 | 213 => 211 | 46 => 213 | 232 => 266 | 233 => 267 | n => n, fun | 17 => 1 | 18 => 6 | 19 => 7 | n => n⟩
theorem Tryz.laysM171 : Go.Proofs.LaysM.n171 Tryz.prog Tryz.laysM171_ren := {
  mixed := by kernel_rfl
  f129 := Tryz.func138.trans (congrArg some (by kernel_rfl))
  f171 := Tryz.func64.trans (congrArg some (by kernel_rfl))
  f243 := Tryz.func88.trans (congrArg some (by kernel_rfl))
  f246 := Tryz.func105.trans (congrArg some (by kernel_rfl))
  f283 := Tryz.func118.trans (congrArg some (by kernel_rfl))
  f284 := Tryz.func119.trans (congrArg some (by kernel_rfl))
  f285 := Tryz.func120.trans (congrArg some (by kernel_rfl))
  f286 := Tryz.func121.trans (congrArg some (by kernel_rfl))
  f317 := Tryz.func137.trans (congrArg some (by kernel_rfl))
  f318 := Tryz.func139.trans (congrArg some (by kernel_rfl))
  f319 := Tryz.func140.trans (congrArg some (by kernel_rfl))
  f320 := Tryz.func141.trans (congrArg some (by kernel_rfl))
  f337 := Tryz.func155.trans (congrArg some (by kernel_rfl))
  f338 := Tryz.func156.trans (congrArg some (by kernel_rfl))
  t0 := Tryz.underlying0
  a0 := Tryz.isAgg0
  z0 := Tryz.sizeOf0
  v0 := Tryz.zeroValue0
  t2 := Tryz.underlying2
  a2 := Tryz.isAgg2
  z2 := Tryz.sizeOf2
  v2 := Tryz.zeroValue2
  t3 := Tryz.underlying3
  a3 := Tryz.isAgg3
  z3 := Tryz.sizeOf3
  v3 := Tryz.zeroValue3
  t4 := Tryz.underlying4
  a4 := Tryz.isAgg4
  z4 := Tryz.sizeOf4
  v4 := Tryz.zeroValue4
  t5 := Tryz.underlying5
  a5 := Tryz.isAgg5
  z5 := Tryz.sizeOf5
  v5 := Tryz.zeroValue5
  t9 := Tryz.underlying9
  a9 := Tryz.isAgg9
  z9 := Tryz.sizeOf9
  v9 := Tryz.zeroValue9
  t20 := Tryz.underlying20
  a20 := Tryz.isAgg20
  z20 := Tryz.sizeOf20
  v20 := Tryz.zeroValue20
  t37 := Tryz.underlying157
  a37 := Tryz.isAgg157
  z37 := Tryz.sizeOf157
  v37 := Tryz.zeroValue157
  t46 := Tryz.underlying213
  a46 := Tryz.isAgg213
  z46 := Tryz.sizeOf213
  v46 := Tryz.zeroValue213
  t51 := Tryz.underlying142
  a51 := Tryz.isAgg142
  z51 := Tryz.sizeOf142
  v51 := Tryz.zeroValue142
  t53 := Tryz.underlying182
  a53 := Tryz.isAgg182
  z53 := Tryz.sizeOf182
  v53 := Tryz.zeroValue182
  t171 := Tryz.underlying181
  a171 := Tryz.isAgg181
  z171 := Tryz.sizeOf181
  v171 := Tryz.zeroValue181
  t173 := Tryz.underlying185
  a173 := Tryz.isAgg185
  z173 := Tryz.sizeOf185
  v173 := Tryz.zeroValue185
  t212 := Tryz.underlying210
  a212 := Tryz.isAgg210
  z212 := Tryz.sizeOf210
  v212 := Tryz.zeroValue210
  t213 := Tryz.underlying211
  a213 := Tryz.isAgg211
  z213 := Tryz.sizeOf211
  t232 := Tryz.underlying266
  a232 := Tryz.isAgg266
  z232 := Tryz.sizeOf266
  v232 := Tryz.zeroValue266
  t233 := Tryz.underlying267
  a233 := Tryz.isAgg267
  z233 := Tryz.sizeOf267
  v233 := Tryz.zeroValue267
  g17 := by kernel_rfl
  g18 := by kernel_rfl
  g19 := by kernel_rfl
  i0 := by kernel_rfl
  i2 := by kernel_rfl
  i3 := by kernel_rfl
  i4 := by kernel_rfl
  i5 := by kernel_rfl
  i9 := by kernel_rfl
  i20 := by kernel_rfl
  i37 := by kernel_rfl
  i46 := by kernel_rfl
  i51 := by kernel_rfl
  i53 := by kernel_rfl
  i171 := by kernel_rfl
  i173 := by kernel_rfl
  i212 := by kernel_rfl
  i232 := by kernel_rfl
  i233 := by kernel_rfl
  m17 := by kernel_rfl
  m18 := by kernel_rfl
  m19 := by kernel_rfl }
open Go.RowKit Go.Sort Go.Lib in
theorem Tryz.strconv_Itoa (n : Int) (h0 : -9223372036854775808 ≤ n) (h1 : n ≤ 9223372036854775807) (w : World) (htab : Lib.TabIs Tryz.prog w "internal/strconv.uint64pow10" .u64 Lib.pow10Tab) :
    Calls Tryz.prog 64 #[.int .i64 n] w fun e w' => e = .returned (.string ⟨(Lib.itoa n).toArray⟩) ∧ ∃ k os, w' = grow (w.drewN k) os := Any.strconv_Itoa Tryz.laysM171 n h0 h1 w htab
def Tryz.laysC172_ren : Go.Shelf.Ren := ⟨fun | 172 => 113 | 244 => 131 | 245 => 132 | 247 => 148 | 279 => 149 | 280 => 150 | 281 => 151 | 282 => 152 | 287 => 166 | 316 => 167 | 171 => 64 | 205 => 168 | 321 => 181 | 322 => 182 | 243 => 88 | 246 => 105 | 283 => 118 | 284 => 119 | 285 => 120 | 286 => 121 | 129 => 138 | 317 => 137 | 318 => 139 | 319 => 140 | 320 => 141 | 337 => 155 | 338 => 156 | n => n, fun | 9 => 9 | 3 => 3 | 75 => 161 | 76 => 162 | 4 => 4 | 5 => 5 | 167 => 229 | 37 => 157 | 0 => 0 | 85 => 230 | 2 => 2 | 168 => 232 | 53 => 182 | 175 => 250 | 46 => 213 | 210 => 253 | 127 => 178 | 145 => 272 | 143 => 270 | 21 => 21 | 171 => 181 | 173 => 185 | 212 => 210 | 51 => 142 | 20 => 20 | 213 => 211 | 232 => 266 | 233 => 267 | 80 => 164 | n => n, fun | 15 => 4 | 16 => 5 | 17 => 1 | 18 => 6 | 19 => 7 | n => n⟩
theorem Tryz.laysC172 : Go.Proofs.LaysC.n172 Tryz.prog Tryz.laysC172_ren := {
  mixed := by kernel_rfl
  f129 := Tryz.func138.trans (congrArg some (by kernel_rfl))
  f171 := Tryz.func64.trans (congrArg some (by kernel_rfl))
  f172 := Tryz.func113.trans (congrArg some (by kernel_rfl))
  f205 := Tryz.func168.trans (congrArg some (by kernel_rfl))
  f243 := Tryz.func88.trans (congrArg some (by kernel_rfl))
  f244 := Tryz.func131.trans (congrArg some (by kernel_rfl))
  f245 := Tryz.func132.trans (congrArg some (by kernel_rfl))
  f246 := Tryz.func105.trans (congrArg some (by kernel_rfl))
  f247 := Tryz.func148.trans (congrArg some (by kernel_rfl))
  f279 := Tryz.func149.trans (congrArg some (by kernel_rfl))
  f280 := Tryz.func150.trans (congrArg some (by kernel_rfl))
  f281 := Tryz.func151.trans (congrArg some (by kernel_rfl))
  f282 := Tryz.func152.trans (congrArg some (by kernel_rfl))
  f283 := Tryz.func118.trans (congrArg some (by kernel_rfl))
  f284 := Tryz.func119.trans (congrArg some (by kernel_rfl))
  f285 := Tryz.func120.trans (congrArg some (by kernel_rfl))
  f286 := Tryz.func121.trans (congrArg some (by kernel_rfl))
  f287 := Tryz.func166.trans (congrArg some (by kernel_rfl))
  f316 := Tryz.func167.trans (congrArg some (by kernel_rfl))
  f317 := Tryz.func137.trans (congrArg some (by kernel_rfl))
  f318 := Tryz.func139.trans (congrArg some (by kernel_rfl))
  f319 := Tryz.func140.trans (congrArg some (by kernel_rfl))
  f320 := Tryz.func141.trans (congrArg some (by kernel_rfl))
  f321 := Tryz.func181.trans (congrArg some (by kernel_rfl))
  f322 := Tryz.func182.trans (congrArg some (by kernel_rfl))
  f337 := Tryz.func155.trans (congrArg some (by kernel_rfl))
  f338 := Tryz.func156.trans (congrArg some (by kernel_rfl))
  t0 := Tryz.underlying0
  a0 := Tryz.isAgg0
  z0 := Tryz.sizeOf0
  v0 := Tryz.zeroValue0
  t2 := Tryz.underlying2
  a2 := Tryz.isAgg2
  z2 := Tryz.sizeOf2
  v2 := Tryz.zeroValue2
  t3 := Tryz.underlying3
  a3 := Tryz.isAgg3
  z3 := Tryz.sizeOf3
  v3 := Tryz.zeroValue3
  t4 := Tryz.underlying4
  a4 := Tryz.isAgg4
  z4 := Tryz.sizeOf4
  v4 := Tryz.zeroValue4
  t5 := Tryz.underlying5
  a5 := Tryz.isAgg5
  z5 := Tryz.sizeOf5
  v5 := Tryz.zeroValue5
  t9 := Tryz.underlying9
  a9 := Tryz.isAgg9
  z9 := Tryz.sizeOf9
  v9 := Tryz.zeroValue9
  t20 := Tryz.underlying20
  a20 := Tryz.isAgg20
  z20 := Tryz.sizeOf20
  v20 := Tryz.zeroValue20
  t21 := Tryz.underlying21
  a21 := Tryz.isAgg21
  z21 := Tryz.sizeOf21
  v21 := Tryz.zeroValue21
  t37 := Tryz.underlying157
  a37 := Tryz.isAgg157
  z37 := Tryz.sizeOf157
  v37 := Tryz.zeroValue157
  t46 := Tryz.underlying213
  a46 := Tryz.isAgg213
  z46 := Tryz.sizeOf213
  v46 := Tryz.zeroValue213
  t51 := Tryz.underlying142
  a51 := Tryz.isAgg142
  z51 := Tryz.sizeOf142
  v51 := Tryz.zeroValue142
  t53 := Tryz.underlying182
  a53 := Tryz.isAgg182
  z53 := Tryz.sizeOf182
  v53 := Tryz.zeroValue182
  t75 := Tryz.underlying161
  a75 := Tryz.isAgg161
  z75 := Tryz.sizeOf161
  v75 := Tryz.zeroValue161
  t76 := Tryz.underlying162
  a76 := Tryz.isAgg162
  z76 := Tryz.sizeOf162
  v76 := Tryz.zeroValue162
  t85 := Tryz.underlying230
  a85 := Tryz.isAgg230
  z85 := Tryz.sizeOf230
  v85 := Tryz.zeroValue230
  t127 := Tryz.underlying178
  a127 := Tryz.isAgg178
  z127 := Tryz.sizeOf178
  v127 := Tryz.zeroValue178
  t143 := Tryz.underlying270
  a143 := Tryz.isAgg270
  z143 := Tryz.sizeOf270
  v143 := Tryz.zeroValue270
  t145 := Tryz.underlying272
  a145 := Tryz.isAgg272
  z145 := Tryz.sizeOf272
  v145 := Tryz.zeroValue272
  t167 := Tryz.underlying229
  a167 := Tryz.isAgg229
  z167 := Tryz.sizeOf229
  v167 := Tryz.zeroValue229
  t168 := Tryz.underlying232
  a168 := Tryz.isAgg232
  z168 := Tryz.sizeOf232
  v168 := Tryz.zeroValue232
  t171 := Tryz.underlying181
  a171 := Tryz.isAgg181
  z171 := Tryz.sizeOf181
  v171 := Tryz.zeroValue181
  t173 := Tryz.underlying185
  a173 := Tryz.isAgg185
  z173 := Tryz.sizeOf185
  v173 := Tryz.zeroValue185
  t175 := Tryz.underlying250
  a175 := Tryz.isAgg250
  z175 := Tryz.sizeOf250
  v175 := Tryz.zeroValue250
  t210 := Tryz.underlying253
  a210 := Tryz.isAgg253
  z210 := Tryz.sizeOf253
  v210 := Tryz.zeroValue253
  t212 := Tryz.underlying210
  a212 := Tryz.isAgg210
  z212 := Tryz.sizeOf210
  v212 := Tryz.zeroValue210
  t213 := Tryz.underlying211
  a213 := Tryz.isAgg211
  z213 := Tryz.sizeOf211
  t232 := Tryz.underlying266
  a232 := Tryz.isAgg266
  z232 := Tryz.sizeOf266
  v232 := Tryz.zeroValue266
  t233 := Tryz.underlying267
  a233 := Tryz.isAgg267
  z233 := Tryz.sizeOf267
  v233 := Tryz.zeroValue267
  g15 := by kernel_rfl
  g16 := by kernel_rfl
  g17 := by kernel_rfl
  g18 := by kernel_rfl
  g19 := by kernel_rfl
  t80 := Tryz.underlying164
  a80 := Tryz.isAgg164
  z80 := Tryz.sizeOf164
  v80 := Tryz.zeroValue164
  i0 := by kernel_rfl
  i2 := by kernel_rfl
  i3 := by kernel_rfl
  i4 := by kernel_rfl
  i5 := by kernel_rfl
  i9 := by kernel_rfl
  i20 := by kernel_rfl
  i21 := by kernel_rfl
  i37 := by kernel_rfl
  i46 := by kernel_rfl
  i51 := by kernel_rfl
  i53 := by kernel_rfl
  i75 := by kernel_rfl
  i76 := by kernel_rfl
  i80 := by kernel_rfl
  i85 := by kernel_rfl
  i127 := by kernel_rfl
  i143 := by kernel_rfl
  i145 := by kernel_rfl
  i167 := by kernel_rfl
  i168 := by kernel_rfl
  i171 := by kernel_rfl
  i173 := by kernel_rfl
  i175 := by kernel_rfl
  i210 := by kernel_rfl
  i212 := by kernel_rfl
  i232 := by kernel_rfl
  i233 := by kernel_rfl
  m15 := by kernel_rfl
  m16 := by kernel_rfl
  m17 := by kernel_rfl
  m18 := by kernel_rfl
  m19 := by kernel_rfl
  c0 := by kernel_rfl
  c2 := by kernel_rfl
  c3 := by kernel_rfl
  c4 := by kernel_rfl
  c5 := by kernel_rfl
  c9 := by kernel_rfl
  c20 := by kernel_rfl
  c21 := by kernel_rfl
  c37 := by kernel_rfl
  c46 := by kernel_rfl
  c51 := by kernel_rfl
  c53 := by kernel_rfl
  c75 := by kernel_rfl
  c76 := by kernel_rfl
  c80 := by kernel_rfl
  c85 := by kernel_rfl
  c127 := by kernel_rfl
  c143 := by kernel_rfl
  c145 := by kernel_rfl
  c167 := by kernel_rfl
  c168 := by kernel_rfl
  c171 := by kernel_rfl
  c173 := by kernel_rfl
  c175 := by kernel_rfl
  c210 := by kernel_rfl
  c212 := by kernel_rfl
  c213 := by kernel_rfl
  c232 := by kernel_rfl
  c233 := by kernel_rfl }
open Go.RowKit in
theorem Tryz.strconv_Atoi_ok (s : ByteArray) (hmax : s.size ≤ 9223372036854775806) (v : Int) (h : Lib.atoiAll s.data.toList = .ok v) (w : World) :
    Calls Tryz.prog 113 #[.string s] w fun e w' => e = .returned (.tuple #[.int .i64 v, .nilIface]) ∧ (w' = w ∨ ∃ t, w' = Lib.bytesWorld w 5 t) := Any.strconv_Atoi_ok Tryz.laysC172 s hmax v h w
open Go.RowKit in
theorem Tryz.strconv_Atoi_range (s : ByteArray) (hlim : s.size ≤ 281474976710656) (h : Lib.atoiAll s.data.toList = .range) (ev : Value) (w : World) (hv : w.cell? ⟨5, 0, none⟩ = some ev) (hev : ev = .nilIface ∨ ∃ te pe, ev = .iface te pe) :
    Calls Tryz.prog 113 #[.string s] w fun e w' => ∃ N, e = .returned (.tuple #[.int .i64 (Lib.atoiSat s.data.toList), .iface 232 (.pointer (some ⟨N, 0, none⟩))]) ∧ w.heap.size ≤ N ∧ w'.heap[N]? = some (.cells #[.string ⟨#[65, 116, 111, 105]⟩, .string s, ev] 253 (0, 0)) ∧ Below w.heap.size w w' := Any.strconv_Atoi_range Tryz.laysC172 s hlim h ev w hv hev
def Tryz.lays144_ren : Go.Shelf.Ren := ⟨fun | 144 => 116 | 143 => 136 | 219 => 154 | 217 => 111 | 225 => 171 | 224 => 172 | 267 => 173 | 266 => 130 | 314 => 183 | n => n, fun | 9 => 9 | 4 => 4 | 3 => 3 | 5 => 5 | 46 => 213 | 146 => 275 | 51 => 142 | n => n, fun | 1 => 2 | n => n⟩
theorem Tryz.lays144 : Go.Proofs.Lays.n144 Tryz.prog Tryz.lays144_ren := {
  mixed := by kernel_rfl
  f143 := Tryz.func136.trans (congrArg some (by kernel_rfl))
  f144 := Tryz.func116.trans (congrArg some (by kernel_rfl))
  f217 := Tryz.func111.trans (congrArg some (by kernel_rfl))
  f219 := Tryz.func154.trans (congrArg some (by kernel_rfl))
  f224 := Tryz.func172.trans (congrArg some (by kernel_rfl))
  f225 := Tryz.func171.trans (congrArg some (by kernel_rfl))
  f266 := Tryz.func130.trans (congrArg some (by kernel_rfl))
  f267 := Tryz.func173.trans (congrArg some (by kernel_rfl))
  f314 := Tryz.func183.trans (congrArg some (by kernel_rfl))
  t3 := Tryz.underlying3
  a3 := Tryz.isAgg3
  z3 := Tryz.sizeOf3
  v3 := Tryz.zeroValue3
  t4 := Tryz.underlying4
  a4 := Tryz.isAgg4
  z4 := Tryz.sizeOf4
  v4 := Tryz.zeroValue4
  t5 := Tryz.underlying5
  a5 := Tryz.isAgg5
  z5 := Tryz.sizeOf5
  v5 := Tryz.zeroValue5
  t9 := Tryz.underlying9
  a9 := Tryz.isAgg9
  z9 := Tryz.sizeOf9
  v9 := Tryz.zeroValue9
  t46 := Tryz.underlying213
  a46 := Tryz.isAgg213
  z46 := Tryz.sizeOf213
  v46 := Tryz.zeroValue213
  t51 := Tryz.underlying142
  a51 := Tryz.isAgg142
  z51 := Tryz.sizeOf142
  v51 := Tryz.zeroValue142
  t146 := Tryz.underlying275
  a146 := Tryz.isAgg275
  z146 := Tryz.sizeOf275
  v146 := Tryz.zeroValue275
  g1 := by kernel_rfl }
open Go.RowKit Go.Lib in
theorem Tryz.strings_Contains_one (s : ByteArray) (c : UInt8) (w : World) :
    Calls Tryz.prog 116 #[.string s, .string ⟨#[c]⟩] w fun e w' => e = .returned (.bool (decide (0 ≤ Lib.indexByte s.data.toList c))) ∧ w' = w := Any.strings_Contains_one Tryz.lays144 s c w
def Tryz.lays99_ren : Go.Shelf.Ren := ⟨fun | 99 => 115 | 206 => 135 | n => n, fun | 9 => 9 | 4 => 4 | 3 => 3 | n => n, fun | n => n⟩
theorem Tryz.lays99 : Go.Proofs.Lays.n99 Tryz.prog Tryz.lays99_ren := {
  mixed := by kernel_rfl
  f99 := Tryz.func115.trans (congrArg some (by kernel_rfl))
  f206 := Tryz.func135.trans (congrArg some (by kernel_rfl))
  t3 := Tryz.underlying3
  a3 := Tryz.isAgg3
  z3 := Tryz.sizeOf3
  v3 := Tryz.zeroValue3
  t4 := Tryz.underlying4
  a4 := Tryz.isAgg4
  z4 := Tryz.sizeOf4
  v4 := Tryz.zeroValue4
  t9 := Tryz.underlying9
  a9 := Tryz.isAgg9
  z9 := Tryz.sizeOf9
  v9 := Tryz.zeroValue9 }
open Go.RowKit Go.Lib in
theorem Tryz.strings_HasPrefix (s p : ByteArray) (w : World) :
    Calls Tryz.prog 115 #[.string s, .string p] w fun e w' => e = .returned (.bool (Lib.hasPrefix s.data.toList p.data.toList)) ∧ w' = w := Any.strings_HasPrefix Tryz.lays99 s p w
def Tryz.lays157_ren : Go.Shelf.Ren := ⟨fun | 157 => 114 | 229 => 133 | 199 => 134 | 261 => 153 | 311 => 169 | 312 => 170 | n => n, fun | 9 => 9 | 31 => 42 | 3 => 3 | 5 => 5 | 4 => 4 | 119 => 195 | 0 => 0 | 40 => 207 | 152 => 235 | 21 => 21 | 154 => 237 | 51 => 142 | 141 => 239 | 196 => 258 | 193 => 255 | 198 => 261 | 49 => 259 | 194 => 256 | 201 => 264 | 226 => 273 | 46 => 213 | 227 => 274 | n => n, fun | 0 => 0 | 6 => 3 | n => n⟩
theorem Tryz.lays157 : Go.Proofs.Lays.n157 Tryz.prog Tryz.lays157_ren := {
  mixed := by kernel_rfl
  f157 := Tryz.func114.trans (congrArg some (by kernel_rfl))
  f199 := Tryz.func134.trans (congrArg some (by kernel_rfl))
  f229 := Tryz.func133.trans (congrArg some (by kernel_rfl))
  f261 := Tryz.func153.trans (congrArg some (by kernel_rfl))
  f311 := Tryz.func169.trans (congrArg some (by kernel_rfl))
  f312 := Tryz.func170.trans (congrArg some (by kernel_rfl))
  t0 := Tryz.underlying0
  a0 := Tryz.isAgg0
  z0 := Tryz.sizeOf0
  v0 := Tryz.zeroValue0
  t3 := Tryz.underlying3
  a3 := Tryz.isAgg3
  z3 := Tryz.sizeOf3
  v3 := Tryz.zeroValue3
  t4 := Tryz.underlying4
  a4 := Tryz.isAgg4
  z4 := Tryz.sizeOf4
  v4 := Tryz.zeroValue4
  t5 := Tryz.underlying5
  a5 := Tryz.isAgg5
  z5 := Tryz.sizeOf5
  v5 := Tryz.zeroValue5
  t9 := Tryz.underlying9
  a9 := Tryz.isAgg9
  z9 := Tryz.sizeOf9
  v9 := Tryz.zeroValue9
  t21 := Tryz.underlying21
  a21 := Tryz.isAgg21
  z21 := Tryz.sizeOf21
  v21 := Tryz.zeroValue21
  t31 := Tryz.underlying42
  a31 := Tryz.isAgg42
  z31 := Tryz.sizeOf42
  v31 := Tryz.zeroValue42
  t40 := Tryz.underlying207
  a40 := Tryz.isAgg207
  z40 := Tryz.sizeOf207
  v40 := Tryz.zeroValue207
  t46 := Tryz.underlying213
  a46 := Tryz.isAgg213
  z46 := Tryz.sizeOf213
  v46 := Tryz.zeroValue213
  t49 := Tryz.underlying259
  a49 := Tryz.isAgg259
  z49 := Tryz.sizeOf259
  v49 := Tryz.zeroValue259
  t51 := Tryz.underlying142
  a51 := Tryz.isAgg142
  z51 := Tryz.sizeOf142
  v51 := Tryz.zeroValue142
  t119 := Tryz.underlying195
  a119 := Tryz.isAgg195
  z119 := Tryz.sizeOf195
  t141 := Tryz.underlying239
  a141 := Tryz.isAgg239
  z141 := Tryz.sizeOf239
  v141 := Tryz.zeroValue239
  t152 := Tryz.underlying235
  a152 := Tryz.isAgg235
  z152 := Tryz.sizeOf235
  v152 := Tryz.zeroValue235
  t154 := Tryz.underlying237
  a154 := Tryz.isAgg237
  z154 := Tryz.sizeOf237
  v154 := Tryz.zeroValue237
  t193 := Tryz.underlying255
  a193 := Tryz.isAgg255
  z193 := Tryz.sizeOf255
  v193 := Tryz.zeroValue255
  t194 := Tryz.underlying256
  a194 := Tryz.isAgg256
  z194 := Tryz.sizeOf256
  v194 := Tryz.zeroValue256
  t196 := Tryz.underlying258
  a196 := Tryz.isAgg258
  z196 := Tryz.sizeOf258
  v196 := Tryz.zeroValue258
  t198 := Tryz.underlying261
  a198 := Tryz.isAgg261
  z198 := Tryz.sizeOf261
  v198 := Tryz.zeroValue261
  t201 := Tryz.underlying264
  a201 := Tryz.isAgg264
  z201 := Tryz.sizeOf264
  v201 := Tryz.zeroValue264
  t226 := Tryz.underlying273
  a226 := Tryz.isAgg273
  z226 := Tryz.sizeOf273
  v226 := Tryz.zeroValue273
  t227 := Tryz.underlying274
  a227 := Tryz.isAgg274
  z227 := Tryz.sizeOf274
  v227 := Tryz.zeroValue274
  g0 := by kernel_rfl
  g6 := by kernel_rfl }
open Go.RowKit Go.Lib in
theorem Tryz.strings_Fields (s : ByteArray) (w : World) (hs : s.size < 4294967281) (hascii : ∀ (j : Nat) b, s.data.toList[j]? = some b → b.toNat < 128) (htab : Lib.TabIs Tryz.prog w "strings.asciiSpace" .u8 Lib.asciiSpaceTab) :
    Calls Tryz.prog 114 #[.string s] w fun e w' =>
      e = .returned (.slice (some ⟨w.heap.size, 0, none⟩) (Lib.fields s.data.toList).length (Lib.fields s.data.toList).length) ∧ w' = w.alloc (.cells ((Lib.fields s.data.toList).map fun l => Value.string ⟨l.toArray⟩).toArray 9) := Any.strings_Fields Tryz.lays157 (by kernel_rfl) (by kernel_rfl) s w hs hascii htab
end Go.Proofs

/- THE SHADOW LOGIC, part 17: contracts proved otherwise ('Calls') taken over. -/
namespace Go.Shadow
open Go Go.RowKit

section
variable {P : Program} {G : Globs} {w0 w w' : World} {γ : Gh} {σ : St}

theorem Inv.below (hI : Inv G w0 γ σ w) (hb : Below w.heap.size w w') : Inv G w0 γ σ w' ∧ Ext w0.heap.size γ w γ w' := by
  have hk := fun b (h : b < w.heap.size) => hb.block b h
  have he : Ext w0.heap.size γ w γ w' := .of_heap hb.size hk
  exact ⟨hI.ext he (hI.bel.trans (hb.mono hI.size)) (fun b cs h => let ⟨h1, h2, h3, vs, ty, h4, h5⟩ := hI.box b cs h; ⟨h1, h2, h3, vs, ty, (hk b (lt_of_heap h4)).trans h4, h5.ext he⟩) hI.live
    (fun t g h => let ⟨h1, h2, u, vs, ty, h3, h4, h5⟩ := hI.tip t g h; ⟨h1, h2, u, vs, ty, h3, (hk g (lt_of_heap h4)).trans h4, h5⟩) hI.inj
    (fun b u h => let ⟨h1, h2⟩ := hI.rowlt b u h; ⟨h1, Nat.lt_of_lt_of_le h2 hb.size⟩) (fun r es c h => (hk r (lt_of_heap h)).trans h), he⟩

/-- A new block's first 'n' cells: they never change from here on. -/
theorem Inv.below_row (hI : Inv G w0 γ σ w) (hb : Below w.heap.size w w') {g n : Nat} (hg : w.heap.size ≤ g) (hlt : g < w'.heap.size) :
    ∃ γ', Inv G w0 γ' σ w' ∧ Ext w0.heap.size γ w γ' w' ∧ γ'.row g = some n := by
  obtain ⟨hI', he⟩ := hI.below hb
  have hfr := hI.row_fresh hg
  have he2 : Ext w0.heap.size γ w { γ with row := fun b => if b = g then some n else γ.row b } w' := by
    refine ⟨he.hsz, he.cell, fun b u hu => ⟨u, ?_, Nat.le_refl _⟩, Nat.le_refl _, fun t g' _ hg' => ⟨hg', ?_⟩, he.shape⟩
    · have : b ≠ g := by rintro rfl; rw [hfr] at hu; cases hu
      simp [this, hu]
    · obtain ⟨_, _, u, _, _, hu, _⟩ := hI.tip t g' hg'
      have : g' ≠ g := by rintro rfl; rw [hfr] at hu; cases hu
      simp [this]
  refine ⟨_, hI.ext he2 hI'.bel (fun b cs h => ?_) hI.live (fun t g' h => ?_) hI.inj (fun b u h => ?_) (fun r es c h => (hb.block r (lt_of_heap h)).trans h), he2, by simp⟩
  · obtain ⟨h1, h2, h3, us, ty', h4, h5⟩ := hI.box b cs h
    have hlt := lt_of_heap h4
    exact ⟨h1, by simp [show b ≠ g by omega, h2], h3, us, ty', (hb.block b hlt).trans h4, h5.ext he2⟩
  · obtain ⟨h1, h2, u, us, ty', h3, h4, h5⟩ := hI.tip t g' h
    have hlt := lt_of_heap h4
    exact ⟨h1, h2, u, us, ty', by simp [show g' ≠ g by omega, h3], (hb.block g' hlt).trans h4, h5⟩
  · by_cases hbg : b = g
    · subst hbg; exact ⟨Nat.le_trans hI.size hg, hlt⟩
    · simp only [if_neg hbg] at h
      have := hI.rowlt b u h
      exact ⟨this.1, Nat.lt_of_lt_of_le this.2 hb.size⟩

theorem RL.inv1 {B : Nat} {a : V} {xs : Array Value} (h : RL B γ w [a] xs.toList) : ∃ x, xs = #[x] ∧ R B γ w a x := by
  obtain ⟨x, xs', e, h1, h2⟩ := h.inv_cons
  obtain rfl := h2.inv_nil
  exact ⟨x, by rw [← Array.toArray_toList (xs := xs), e], h1⟩
theorem RL.inv2 {B : Nat} {a b : V} {xs : Array Value} (h : RL B γ w [a, b] xs.toList) : ∃ x y, xs = #[x, y] ∧ R B γ w a x ∧ R B γ w b y := by
  obtain ⟨x, xs', e, h1, h2⟩ := h.inv_cons
  obtain ⟨y, xs'', rfl, h3, h4⟩ := h2.inv_cons
  obtain rfl := h4.inv_nil
  exact ⟨x, y, by rw [← Array.toArray_toList (xs := xs), e], h1, h3⟩
theorem RL.inv3 {B : Nat} {a b c : V} {xs : Array Value} (h : RL B γ w [a, b, c] xs.toList) : ∃ x y z, xs = #[x, y, z] ∧ R B γ w a x ∧ R B γ w b y ∧ R B γ w c z := by
  obtain ⟨x, xs', e, h1, h2⟩ := h.inv_cons
  obtain ⟨y, xs'', rfl, h3, h4⟩ := h2.inv_cons
  obtain ⟨z, xs3, rfl, h5, h6⟩ := h4.inv_cons
  obtain rfl := h6.inv_nil
  exact ⟨x, y, z, by rw [← Array.toArray_toList (xs := xs), e], h1, h3, h5⟩
theorem R.inv_str {B : Nat} {l : List UInt8} {x : Value} (h : R B γ w (.str l) x) : x = .string ⟨l.toArray⟩ := by
  cases h with
  | str l s h => subst h; rfl
theorem R.inv_int {B : Nat} {k : IntKind} {n : Int} {x : Value} (h : R B γ w (.int k n) x) : x = .int k n := by cases h; rfl
theorem R.mk_str {B : Nat} (l : List UInt8) : R B γ w (.str l) (.string ⟨l.toArray⟩) := .str _ _ (by simp)

/-- A function that is known by 'Calls', whose result is no address. -/
theorem SRet.of_calls {f : FuncId} {args : List V} {r : V} (he : ∀ args w, (callFunc f args).run P w = .ok (.enter f args) w)
    (h : ∀ (w0 : World) (γ : Gh) (w : World) (xs : Array Value), G.pre w0 → Below w0.heap.size w0 w → RL w0.heap.size γ w args xs.toList → Calls P f xs w fun e w' => Below w.heap.size w w' ∧ ∃ x, e = .returned x ∧ ∀ B γ w, R B γ w r x) : SRet P G f args r := by
  intro σ w0 γ w xs hI hr
  refine .inl ⟨he _ _, (h w0 γ w xs hI.pre hI.bel hr).mono ?_⟩
  rintro e w' ⟨hb, x, rfl, hx⟩
  obtain ⟨h1, h2⟩ := hI.below hb
  exact ⟨γ, σ, h2, h1, r, x, hx _ _ _, .inl ⟨rfl, rfl, rfl⟩⟩

theorem RL.tup {B : Nat} {vs : List V} {xs : List Value} (h : RL B γ w vs xs) : R B γ w (.tup vs) (.tuple xs.toArray) :=
  .tup _ _ (by simpa using h.1) (fun i x y hx hy => h.2 i x y hx (by simpa using hy))
end
end Go.Shadow

/- The library's functions that the lexer calls, as shadow contracts. -/
namespace Go.Shadow.Lex
open Go Go.RowKit Go.Proofs

/-- What the start-up code has laid. -/
def lexPre (w : World) : Prop :=
  Lib.TabIs Tryz.prog w "strings.asciiSpace" .u8 Lib.asciiSpaceTab ∧ Lib.TabIs Tryz.prog w "internal/strconv.uint64pow10" .u64 Lib.pow10Tab ∧
  (∃ t p, w.cell? ⟨4, 0, none⟩ = some (.iface t p)) ∧ ∃ t p, w.cell? ⟨5, 0, none⟩ = some (.iface t p)
def LG : Globs := { at_ := fun _ => none, pre := lexPre }

theorem var?_below {P : Program} {g : Nat} {W W' : World} {n : String} {cs : Array Value} (h : Below W.heap.size W W') (hg : P.globalNamed n = some g) (hv : W.var? P n = some cs) : W'.var? P n = some cs := by
  unfold World.var? at hv ⊢
  simp only [hg, Option.bind_some] at hv ⊢
  have : g < W.heap.size := by
    cases hh : W.heap[g]? with
    | none => rw [hh] at hv; cases hv
    | some o => exact (Array.getElem?_eq_some_iff.1 hh).1
  rw [h.block g this]
  exact hv
theorem lexPre_below {w w' : World} (h : lexPre w) (hb : Below w.heap.size w w') : lexPre w' := by
  obtain ⟨h1, h2, ⟨t, p, h3⟩, u, q, h4⟩ := h
  refine ⟨?_, ?_, ⟨t, p, ?_⟩, u, q, ?_⟩
  · exact var?_below hb (g := 0) (by kernel_rfl) h1
  · exact var?_below hb (g := 1) (by kernel_rfl) h2
  · rw [hb.cell (World.block_lt_of_cell? w _ h3)]; exact h3
  · rw [hb.cell (World.block_lt_of_cell? w _ h4)]; exact h4

theorem indexByte_ret (s : List UInt8) (c : UInt8) : SRet Tryz.prog LG 95 [.str s, .int .u8 c.toNat] (.int .i64 (Lib.indexByte s c)) := by
  refine SRet.of_calls (enters_of Tryz.func95 (by kernel_rfl) rfl) ?_
  intro w0 γ w xs _ _ hr
  obtain ⟨x, y, rfl, hx, hy⟩ := hr.inv2
  obtain rfl := hx.inv_str
  obtain rfl := hy.inv_int
  refine (Tryz.strings_IndexByte _ _ _).mono ?_
  rintro e w' ⟨rfl, rfl⟩
  refine ⟨.refl _ _, _, rfl, fun B γ w => ?_⟩
  have : ((c.toNat : Int).toNat).toUInt8 = c := by simp
  rw [this]
  exact .int _ _

theorem hasPrefix_ret (s p : List UInt8) : SRet Tryz.prog LG 115 [.str s, .str p] (.bool (Lib.hasPrefix s p)) := by
  refine SRet.of_calls (enters_of Tryz.func115 (by kernel_rfl) rfl) ?_
  intro w0 γ w xs _ _ hr
  obtain ⟨x, y, rfl, hx, hy⟩ := hr.inv2
  obtain rfl := hx.inv_str
  obtain rfl := hy.inv_str
  refine (Tryz.strings_HasPrefix _ _ _).mono ?_
  rintro e w' ⟨rfl, rfl⟩
  exact ⟨.refl _ _, _, rfl, fun B γ w => .bool _⟩

theorem containsOne_ret (s : List UInt8) (c : UInt8) : SRet Tryz.prog LG 116 [.str s, .str [c]] (.bool (decide (0 ≤ Lib.indexByte s c))) := by
  refine SRet.of_calls (enters_of Tryz.func116 (by kernel_rfl) rfl) ?_
  intro w0 γ w xs _ _ hr
  obtain ⟨x, y, rfl, hx, hy⟩ := hr.inv2
  obtain rfl := hx.inv_str
  obtain rfl := hy.inv_str
  refine (Tryz.strings_Contains_one _ _ _).mono ?_
  rintro e w' ⟨rfl, rfl⟩
  exact ⟨.refl _ _, _, rfl, fun B γ w => .bool _⟩

theorem itoa_ret (n : Int) (h : -9223372036854775808 ≤ n ∧ n ≤ 9223372036854775807) : SRet Tryz.prog LG 64 [.int .i64 n] (.str (Lib.itoa n)) := by
  refine SRet.of_calls (enters_of Tryz.func64 (by kernel_rfl) rfl) ?_
  intro w0 γ w xs hp hb hr
  obtain ⟨x, rfl, hx⟩ := hr.inv1
  obtain rfl := hx.inv_int
  refine (Tryz.strconv_Itoa n h.1 h.2 w (lexPre_below hp hb).2.1).mono ?_
  rintro e w' ⟨rfl, k, os, rfl⟩
  exact ⟨Lib.below_grow _ _ (Nat.le_refl _) _ _, _, rfl, fun B γ w => .mk_str _⟩

theorem below_bytesWorld (w : World) (e : TypeId) (s : ByteArray) : Below w.heap.size w (Lib.bytesWorld w e s) := Lib.bytesWorld_below w e s

theorem atoi_call (s : List UInt8) (hs : s.length ≤ 70000) (σ : St) : SCall Tryz.prog LG 113 [.str s] σ fun e σ' => σ' = σ ∧ ∃ v er, e = .ret (.tup [.int .i64 v, er]) ∧
    ((Lib.atoiAll s = .ok v ∧ er = .nilIface) ∨ ((∃ t b, er = .iface t (.loc b 0)) ∧ ∀ v, Lib.atoiAll s ≠ .ok v)) := by
  intro w0 γ w xs hI hr
  refine .inl ⟨enters_of Tryz.func113 (by kernel_rfl) rfl _ _, ?_⟩
  obtain ⟨x, rfl, hx⟩ := hr.inv1
  obtain rfl := hx.inv_str
  have hsz : (ByteArray.mk s.toArray).size = s.length := by simp [ByteArray.size]
  have hd : (ByteArray.mk s.toArray).data.toList = s := by simp
  have hp := lexPre_below hI.pre hI.bel
  rcases ha : Lib.atoiAll s with v | _ | _
  · refine (Tryz.strconv_Atoi_ok _ (by rw [hsz]; omega) v (by rw [hd]; exact ha) w).mono ?_
    rintro e w' ⟨rfl, hw⟩
    have hb : Below w.heap.size w w' := by
      rcases hw with rfl | ⟨t, rfl⟩
      · exact .refl _ _
      · exact below_bytesWorld _ _ _
    obtain ⟨h1, h2⟩ := hI.below hb
    exact ⟨γ, σ, h2, h1, _, _, RL.tup (.cons (.int .i64 v) (.cons .nilIface .nil)), .inl ⟨rfl, rfl, v, .nilIface, rfl, .inl ⟨rfl, rfl⟩⟩⟩
  · obtain ⟨t, p, hv⟩ := hp.2.2.1
    refine (Any.strconv_Atoi_syntax Tryz.laysC172 _ (by rw [hsz]; omega) (by rw [hd]; exact ha) _ w hv (.inr ⟨_, _, rfl⟩)).mono ?_
    rintro e w' ⟨A, rfl, _, _, hb⟩
    obtain ⟨h1, h2⟩ := hI.below hb
    exact ⟨γ, σ, h2, h1, _, _, RL.tup (.cons (.int .i64 0) (.cons (.iface 232 (.loc A 0) _ (.loc A 0)) .nil)), .inl ⟨rfl, rfl, _, _, rfl, .inr ⟨⟨232, A, rfl⟩, fun v e => by cases e⟩⟩⟩
  · obtain ⟨t, p, hv⟩ := hp.2.2.2
    refine (Tryz.strconv_Atoi_range _ (by rw [hsz]; omega) (by rw [hd]; exact ha) _ w hv (.inr ⟨_, _, rfl⟩)).mono ?_
    rintro e w' ⟨A, rfl, _, _, hb⟩
    obtain ⟨h1, h2⟩ := hI.below hb
    exact ⟨γ, σ, h2, h1, _, _, RL.tup (.cons (.int .i64 _) (.cons (.iface 232 (.loc A 0) _ (.loc A 0)) .nil)), .inl ⟨rfl, rfl, _, _, rfl, .inr ⟨⟨232, A, rfl⟩, fun v e => by cases e⟩⟩⟩

/-- A list of strings' elements. -/
def strEls (ls : List (List UInt8)) : List (List V) := ls.map fun l => [.str l]
theorem strEls_flatten (ls : List (List UInt8)) : (strEls ls).flatten = ls.map .str := by
  induction ls with
  | nil => rfl
  | cons l ls ih => simp only [strEls, List.map_cons, List.flatten_cons] at ih ⊢; rw [ih]; rfl

theorem fields_call (s : List UInt8) (hs : s.length < 4294967281) (ha : ∀ (j : Nat) b, s[j]? = some b → b.toNat < 128) (σ : St) :
    SCall Tryz.prog LG 114 [.str s] σ fun e σ' => σ' = σ ∧ e = .ret (.slice .foreign 1 (strEls (Lib.fields s))) := by
  intro w0 γ w xs hI hr
  refine .inl ⟨enters_of Tryz.func114 (by kernel_rfl) rfl _ _, ?_⟩
  obtain ⟨x, rfl, hx⟩ := hr.inv1
  obtain rfl := hx.inv_str
  have hsz : (ByteArray.mk s.toArray).size = s.length := by simp [ByteArray.size]
  have hd : (ByteArray.mk s.toArray).data.toList = s := by simp
  have hp := lexPre_below hI.pre hI.bel
  refine (Tryz.strings_Fields _ w (by rw [hsz]; exact hs) (by rw [hd]; exact ha) hp.1).mono ?_
  rw [hd]
  rintro e w' ⟨rfl, rfl⟩
  have hb : Below w.heap.size w (w.alloc (.cells ((Lib.fields s).map fun l => Value.string ⟨l.toArray⟩).toArray 9)) := (Below.refl _ _).alloc (Nat.le_refl _) _
  obtain ⟨γ', h1, h2, h3⟩ := hI.below_row hb (g := w.heap.size) (n := (Lib.fields s).length) (Nat.le_refl _) (by simp)
  have hlen : (Lib.fields s).length = (strEls (Lib.fields s)).length := by simp [strEls]
  refine ⟨γ', σ, h2, h1, .slice .foreign 1 (strEls (Lib.fields s)), _, ?_, .inl ⟨rfl, rfl, rfl⟩⟩
  rw [hlen]
  refine .slice .foreign 1 _ _ _ w.heap.size 0 (fun k => .string ⟨((Lib.fields s).getD k []).toArray⟩) ?_ (by simp [strEls]) (.inl rfl) trivial ?_ ?_ ?_
  · intro i e he
    simp only [strEls, List.getElem?_map, Option.map_eq_some_iff] at he
    obtain ⟨l, _, rfl⟩ := he; rfl
  · intro k x hx
    rw [strEls_flatten, List.getElem?_map, Option.map_eq_some_iff] at hx
    obtain ⟨l, _, rfl⟩ := hx; rfl
  · intro k x hx
    rw [strEls_flatten, List.getElem?_map, Option.map_eq_some_iff] at hx
    obtain ⟨l, hl, rfl⟩ := hx
    have hk : k < (Lib.fields s).length := (List.getElem?_eq_some_iff.1 hl).1
    refine ⟨.inr ⟨_, h3, by omega⟩, ?_⟩
    have hh : (w.alloc (.cells ((Lib.fields s).map fun l => Value.string ⟨l.toArray⟩).toArray 9)).heap[w.heap.size]? = some (.cells ((Lib.fields s).map fun l => Value.string ⟨l.toArray⟩).toArray 9 (0, 0)) := by
      show (w.heap.push _)[w.heap.size]? = _
      simp
    simp only [World.cell?, hh]
    simp [hl, List.getElem?_eq_getElem hk, List.getD_eq_getElem?_getD]
  · intro k x hx
    rw [strEls_flatten, List.getElem?_map, Option.map_eq_some_iff] at hx
    obtain ⟨l, hl, rfl⟩ := hx
    simp only [List.getD_eq_getElem?_getD, hl, Option.getD_some]
    exact .mk_str l

theorem join_call (tag : Tag) (ls : List (List UInt8)) (sep : List UInt8) (hn : ls.length ≤ 140737488355328) (hl : (Lib.join ls sep).length ≤ 140737488355328) (s' : Nat) (σ : St) :
    SCall Tryz.prog LG 67 [.slice tag s' (strEls ls), .str sep] σ fun e σ' => σ' = σ ∧ e = .ret (.str (Lib.join ls sep)) := by
  intro w0 γ w xs hI hr
  refine .inl ⟨enters_of Tryz.func67 (by kernel_rfl) rfl _ _, ?_⟩
  obtain ⟨x, y, rfl, hx, hy⟩ := hr.inv2
  obtain rfl := hy.inv_str
  have hd : (ByteArray.mk sep.toArray).data.toList = sep := by simp
  cases hx with
  | slice _ _ _ a cap b o vs hs hcap ha ht h1 hc hR =>
  have hlen : (strEls ls).length = ls.length := by simp [strEls]
  rw [hlen] at hcap ⊢
  match ls, ha with
  | [], _ =>
    refine (Tryz.strings_Join_none _ _ _ w).mono ?_
    rintro e w' ⟨rfl, rfl⟩
    exact ⟨γ, σ, .refl _ _ _, hI, _, _, .mk_str [], .inl ⟨rfl, rfl, rfl⟩⟩
  | l :: ls, .inr ⟨_, h⟩ => cases h
  | l :: ls, .inl h =>
    subst h
    rw [strEls_flatten] at hc hR
    have hcell : ∀ (j : Nat) (x : ByteArray), ((l :: ls).map fun l => (⟨l.toArray⟩ : ByteArray))[j]? = some x → w.cell? ⟨b, o + j, none⟩ = some (.string x) := by
      intro j x hx
      rw [List.getElem?_map, Option.map_eq_some_iff] at hx
      obtain ⟨u, hu, rfl⟩ := hx
      have hv : ((l :: ls).map V.str)[j]? = some (.str u) := by rw [List.getElem?_map, hu]; rfl
      rw [(hc j _ hv).2, (hR j _ hv).inv_str]
    have hmap : ((l :: ls).map fun l => (⟨l.toArray⟩ : ByteArray)).map (fun x => x.data.toList) = l :: ls := by
      rw [List.map_map]; simp [Function.comp_def]
    have hl2 : ((l :: ls).map fun l => (⟨l.toArray⟩ : ByteArray)).length = (l :: ls).length := by simp
    have := Tryz.strings_Join b o cap ((l :: ls).map fun l => (⟨l.toArray⟩ : ByteArray)) ⟨sep.toArray⟩ w hcell (World.block_lt_of_cell? w _ (hcell 0 _ rfl)) (by rw [hl2]; exact hn) (by rw [hl2]; exact hcap) (by rw [hmap, hd]; exact hl)
    rw [hmap, hd, hl2] at this
    refine this.mono ?_
    rintro e w' ⟨rfl, hb⟩
    obtain ⟨h1, h2⟩ := hI.below hb
    exact ⟨γ, σ, h2, h1, _, _, .mk_str _, .inl ⟨rfl, rfl, rfl⟩⟩

end Go.Shadow.Lex

/- Proved: what the lexer's class, span, put, skip and name do, as shadow contracts. Conditions: sources of at most 70000 bytes. -/
namespace Go.Shadow.Lex
open Go Go.RowKit Go.Proofs
theorem hm : Tryz.prog.follows .mixedOrders = true := by kernel_rfl


theorem class_ret (c : UInt8) : SRet Tryz.prog LG 96 [.int .u8 c.toNat] (.int .i64 (cls c)) := by
  intro σ
  refine code96.call hm (by simp) ?_
  have hc := c.toNat_lt
  repeat' (first
    | refine Test.split (fun h => ?_) (fun h => ?_)
    | refine Ret.mk' ⟨rfl, ?_⟩)
  all_goals (refine congrArg (fun x => SEnd.ret (V.int .i64 x)) ?_; simp only [cls, isLetter, isDigit, isBlank]; grind)

def tokV (t : Tok) : List V := [.int .i64 t.kind, .int .i64 t.at_, .str t.s, .int .i64 t.n]
/-- The reader in its box. -/
structure Rd (σ0 σ : St) (b : Nat) (src : List UInt8) (k : Nat) (toks : List Tok) : Prop where
  over : Over σ0 σ
  fresh : σ0.box b = none
  box : ∃ tag s', σ.box b = some [.str src, .int .i64 k, .slice tag s' (toks.map tokV)] ∧ Mine σ0 σ tag ∧ (tag = .nil ∨ s' = 4)

theorem span_call {σ0 σ : St} {b : Nat} {src : List UInt8} {k : Nat} {toks : List Tok} (hr : Rd σ0 σ b src k toks) (hs : src.length ≤ 70000) (hk : k ≤ src.length) :
    SCall Tryz.prog LG 112 [.loc b 0, .int .i64 2] σ fun e σ' => σ' = σ ∧ e = .ret (.int .i64 (spanTo isWord src k)) := by
  obtain ⟨ho, hf, tag, s', hb, hm', hs'⟩ := hr
  refine code112.call hm (by simp) ?_
  refine Load.mk' hb (by simp) ?_
  refine ⟨fun m sl σ' => σ' = σ ∧ ∃ j : Nat, sl = ofL [(0, some (.loc b 0)), (1, some (.int .i64 2)), (5, some (.int .i64 j))] ∧ j ≤ src.length ∧ spanTo isWord src j = spanTo isWord src k ∧ m = src.length - j, _, ⟨rfl, k, rfl, hk, rfl, rfl⟩, ?_⟩
  rintro m sl σ' ⟨rfl, j, rfl, hj, hsp, rfl⟩
  refine Load.mk' hb (by simp) ?_
  refine Test.split (fun h => ?_) (fun h => ?_)
  · refine Load.mk' hb (by simp) ?_
    obtain ⟨c, hc⟩ : ∃ c, src[j]? = some c := ⟨src[j]'(by omega), by simp [show j < src.length by omega]⟩
    refine Idx.mk' j c rfl hc ?_
    refine CallK.pure (class_ret c) ?_
    refine Test.split (fun h => ?_) (fun h => ?_)
    · refine Arith.i64 (((j + 1 : Nat) : Int)) (by simp) (by omega) ?_
      refine ⟨_, _, ?_, Forget.refl _, rfl, j + 1, rfl, by omega, ?_, rfl⟩
      · omega
      · rw [spanTo_step hc, hsp]
        simp only [cls] at h
        grind [isWord]
    · refine Ret.mk' ⟨rfl, ?_⟩
      rw [← hsp, spanTo_stop hc]
      simp only [cls] at h
      grind [isWord]
  · refine Ret.mk' ⟨rfl, ?_⟩
    rw [← hsp, spanTo_end (by omega)]

theorem put_box {σ : St} {b : Nat} {cs : List V} : (σ.put b cs).box b = some cs := by simp [St.put]
theorem put_put {σ : St} {b : Nat} {cs cs' : List V} : (σ.put b cs).put b cs' = σ.put b cs' := by
  simp only [St.put, St.mk.injEq, and_true]
  funext x
  split <;> rfl
theorem over_put {σ0 σ : St} {b : Nat} {cs : List V} (h : Over σ0 σ) (hf : σ0.box b = none) : Over σ0 (σ.put b cs) := by
  refine ⟨fun b' cs' hb => ?_, h.live, h.map⟩
  have : b' ≠ b := by rintro rfl; rw [hf] at hb; cases hb
  simp [St.put, this, h.box b' cs' hb]
theorem Rd.put {σ0 σ : St} {b : Nat} {src : List UInt8} {k k' : Nat} {toks : List Tok} (hr : Rd σ0 σ b src k toks) {tag : Tag} {s' : Nat} (hb : σ.box b = some [.str src, .int .i64 k, .slice tag s' (toks.map tokV)]) (hm : Mine σ0 σ tag) (hs : tag = .nil ∨ s' = 4) :
    Rd σ0 (σ.put b [.str src, .int .i64 k', .slice tag s' (toks.map tokV)]) b src k' toks := ⟨over_put hr.over hr.fresh, hr.fresh, tag, s', put_box, hm, hs⟩

theorem put_call {σ0 σ : St} {b : Nat} {src : List UInt8} {k : Nat} {toks : List Tok} (hr : Rd σ0 σ b src k toks) (hn : toks.length ≤ 70000) (kind n : Int) (e2 : Nat) (s : List UInt8) :
    SCall Tryz.prog LG 74 [.loc b 0, .int .i64 kind, .int .i64 e2, .str s, .int .i64 n] σ fun e σ' => e = .ret (.int .i64 0) ∧ Rd σ0 σ' b src e2 (toks ++ [(⟨kind, k, s, n⟩ : Tok)]) := by
  obtain ⟨ho, hf, tag, s', hb, hm', hs'⟩ := hr
  refine code74.call hm (by simp) ?_
  refine Load.mk' hb (by simp) ?_
  refine Load.mk' hb (by simp) ?_
  refine App.mk' ho hm' hs' rfl (by simp; omega) (by simp; omega) (by simp) (fun t' σ1 ho1 hm1 hbox _ => ?_)
  rw [← hbox] at hb
  refine Sure.mk' rfl ?_
  refine Store.mk' [.str src, .int .i64 k, .slice (.tip t') 4 ((toks ++ [(⟨kind, k, s, n⟩ : Tok)]).map tokV)] hb (by simp [V.cells]) (by simp [setL, tokV]; rfl) (fun σ2 h2 => ?_)
  refine Sure.mk' rfl ?_
  have hb2 : σ2.box b = some [.str src, .int .i64 k, .slice (.tip t') 4 ((toks ++ [(⟨kind, k, s, n⟩ : Tok)]).map tokV)] := by rw [h2]; exact put_box
  refine Store.mk' [.str src, .int .i64 e2, .slice (.tip t') 4 ((toks ++ [(⟨kind, k, s, n⟩ : Tok)]).map tokV)] hb2 (by simp [V.cells]) rfl (fun σ3 h3 => ?_)
  refine Ret.mk' ⟨rfl, ?_⟩
  subst h3; subst h2
  rw [put_put]
  exact ⟨over_put ho1 hf, hf, .tip t', 4, put_box, hm1, .inr rfl⟩

theorem indexByte_line (l : List UInt8) : Lib.indexByte l 10 = if (l.takeWhile (·.toNat != 10)).length < l.length then ((l.takeWhile (·.toNat != 10)).length : Int) else -1 := by
  induction l with
  | nil => rfl
  | cons c l ih =>
    simp only [Lib.indexByte]
    by_cases hc : c = 10
    · subst hc; simp
    · have hc' : c.toNat ≠ 10 := fun e => hc (UInt8.toNat_inj.1 e)
      simp only [beq_iff_eq, hc, if_false, ih, List.takeWhile_cons, bne_iff_ne, ne_eq, hc', not_false_eq_true, if_true, List.length_cons]
      split <;> split <;> first | omega | (split <;> omega) | skip

theorem skip_call {σ0 σ : St} {b : Nat} {src : List UInt8} {k : Nat} {toks : List Tok} (hr : Rd σ0 σ b src k toks) (hs : src.length ≤ 70000) (hk : k ≤ src.length) :
    SCall Tryz.prog LG 72 [.loc b 0] σ fun e σ' => e = .ret (.tup []) ∧ Rd σ0 σ' b src (skipTo src k) toks := by
  refine code72.call hm (by simp) ?_
  refine ⟨fun m sl σ' => ∃ j : Nat, sl = ofL [(0, some (.loc b 0))] ∧ Rd σ0 σ' b src j toks ∧ j ≤ src.length ∧ skipTo src j = skipTo src k ∧ m = src.length - j, _, ⟨k, rfl, hr, hk, rfl, rfl⟩, ?_⟩
  rintro m sl σ' ⟨j, rfl, hr', hj, hsp, rfl⟩
  obtain ⟨ho, hf, tag, s', hb, hm', hs'⟩ := id hr'
  refine Load.mk' hb (by simp) ?_
  refine Load.mk' hb (by simp) ?_
  refine Test.split (fun h => ?_) (fun h => ?_)
  · refine Load.mk' hb (by simp) ?_
    refine Load.mk' hb (by simp) ?_
    obtain ⟨c, hc⟩ : ∃ c, src[j]? = some c := ⟨src[j]'(by omega), by simp [show j < src.length by omega]⟩
    refine Idx.mk' j c rfl hc ?_
    refine Test.split (fun h => ?_) (fun h => ?_)
    · refine Load.mk' hb (by simp) ?_
      refine Load.mk' hb (by simp) ?_
      refine CutR.mk' j rfl hj ?_
      refine CallK.pure (indexByte_ret _ 10) ?_
      have hlt := skipTo_comment hc (by omega)
      have htw := takeWhile_length_le (·.toNat != 10) (src.drop j)
      rw [indexByte_line]
      generalize hn : ((src.drop j).takeWhile (·.toNat != 10)).length = n at *
      simp only [List.length_drop] at htw
      simp only [List.length_drop]
      by_cases hn2 : n < src.length - j
      · rw [if_pos hn2]
        refine Test.no (by omega) ?_
        refine Load.mk' hb (by simp) ?_
        refine Arith.i64 (((j + n : Nat) : Int)) (by simp) (by omega) ?_
        refine Sure.mk' rfl ?_
        refine Store.mk' [.str src, .int .i64 (j + n : Nat), .slice tag s' (toks.map tokV)] hb (by simp [V.cells]) rfl (fun σ3 h3 => ?_)
        refine ⟨_, _, ?_, Forget.refl _, j + n, rfl, ?_, by omega, ?_, rfl⟩
        · omega
        · subst h3; exact hr'.put hb hm' hs'
        · rw [← hsp]; exact hlt.1
      · rw [if_neg hn2]
        refine Test.yes (by omega) ?_
        refine Load.mk' hb (by simp) ?_
        refine Load.mk' hb (by simp) ?_
        refine Arith.i64 (n : Int) (by omega) (by omega) ?_
        refine Load.mk' hb (by simp) ?_
        refine Arith.i64 (((j + n : Nat) : Int)) (by simp) (by omega) ?_
        refine Sure.mk' rfl ?_
        refine Store.mk' [.str src, .int .i64 (j + n : Nat), .slice tag s' (toks.map tokV)] hb (by simp [V.cells]) rfl (fun σ3 h3 => ?_)
        refine ⟨_, _, ?_, Forget.refl _, j + n, rfl, ?_, by omega, ?_, rfl⟩
        · omega
        · subst h3; exact hr'.put hb hm' hs'
        · rw [← hsp]; exact hlt.1
    · refine CallK.pure (class_ret c) ?_
      refine Test.split (fun h => ?_) (fun h => ?_)
      · refine Load.mk' hb (by simp) ?_
        refine Arith.i64 (((j + 1 : Nat) : Int)) (by simp) (by omega) ?_
        refine Sure.mk' rfl ?_
        refine Store.mk' [.str src, .int .i64 (j + 1 : Nat), .slice tag s' (toks.map tokV)] hb (by simp [V.cells]) rfl (fun σ3 h3 => ?_)
        refine ⟨_, _, ?_, Forget.refl _, j + 1, rfl, ?_, by omega, ?_, rfl⟩
        · omega
        · subst h3; exact hr'.put hb hm' hs'
        · rw [← hsp]; refine skipTo_blank hc ?_
          simp only [cls] at h
          grind
      · refine Ret.mk' ⟨rfl, ?_⟩
        rw [← hsp, skipTo_stop hc]
        · exact hr'
        · simp only [cls] at h
          grind [isBlank, isLetter, isDigit]
        · omega
  · refine Ret.mk' ⟨rfl, ?_⟩
    rw [← hsp, skipTo_end (by omega)]
    exact hr'

theorem name_call {σ0 σ : St} {b : Nat} {src : List UInt8} {k : Nat} {toks : List Tok} {c : UInt8} (hr : Rd σ0 σ b src k toks) (hn : toks.length ≤ 70000) (hs : src.length ≤ 70000) (hc : src[k]? = some c) :
    SCall Tryz.prog LG 97 [.loc b 0] σ fun e σ' => if isLetter c then
      (if 32 < spanTo isWord src k - k then σ' = σ ∧ e = .ret (.tup [.bool true, .int .i64 2]) else e = .ret (.tup [.bool true, .int .i64 0]) ∧ Rd σ0 σ' b src (spanTo isWord src k) (toks ++ [⟨1, k, (src.take (spanTo isWord src k)).drop k, 0⟩]))
      else σ' = σ ∧ e = .ret (.tup [.bool false, .int .i64 0]) := by
  obtain ⟨ho, hf, tag, s', hb, hm', hs'⟩ := id hr
  have hk : k < src.length := (List.getElem?_eq_some_iff.1 hc).1
  have h1 := spanTo_ge isWord src k
  have h2 := spanTo_le isWord src k (by omega)
  refine code97.call hm (by simp) ?_
  refine Load.mk' hb (by simp) ?_
  refine Load.mk' hb (by simp) ?_
  refine Idx.mk' k c rfl hc ?_
  refine CallK.pure (class_ret c) ?_
  refine Test.split (fun h => ?_) (fun h => ?_)
  · refine Ret.mk' ?_
    have : isLetter c = false := by simp only [cls] at h; grind
    rw [this]
    exact ⟨rfl, rfl⟩
  · have hL : isLetter c = true := by simp only [cls] at h; grind
    simp only [hL, if_true]
    refine CallK.mk' (span_call hr hs (by omega)) ?_
    rintro e σ' ⟨rfl, rfl⟩
    refine Load.mk' hb (by simp) ?_
    refine Arith.i64 (((spanTo isWord src k - k : Nat) : Int)) (by omega) (by omega) ?_
    refine Test.split (fun h => ?_) (fun h => ?_)
    · refine Ret.mk' ?_
      rw [if_pos (by omega)]
      exact ⟨rfl, rfl⟩
    · refine Load.mk' hb (by simp) ?_
      refine Load.mk' hb (by simp) ?_
      refine Cut.mk' k (spanTo isWord src k) rfl rfl (by omega) (by omega) ?_
      refine CallK.mk' (put_call hr hn 1 0 (spanTo isWord src k) _) ?_
      rintro e σ'' ⟨rfl, hr2⟩
      refine Ret.mk' ?_
      rw [if_neg (by omega)]
      exact ⟨rfl, hr2⟩
end Go.Shadow.Lex

/- Proved: what the lexer's number and text do, as shadow contracts. Conditions: sources of at most 70000 bytes. -/
namespace Go.Shadow.Lex
open Go Go.RowKit Go.Proofs

theorem number_call {σ0 σ : St} {b : Nat} {src : List UInt8} {k : Nat} {toks : List Tok} {c : UInt8} (hr : Rd σ0 σ b src k toks) (hn : toks.length ≤ 70000) (hs : src.length ≤ 70000) (hc : src[k]? = some c) :
    SCall Tryz.prog LG 98 [.loc b 0] σ fun e σ' => if isLetter c = false ∧ isDigit c = true then
      (match numVal ((src.take (spanTo isWord src k)).drop k) with
        | none => σ' = σ ∧ e = .ret (.tup [.bool true, .int .i64 27])
        | some n => e = .ret (.tup [.bool true, .int .i64 0]) ∧ Rd σ0 σ' b src (spanTo isWord src k) (toks ++ [⟨2, k, [], n⟩]))
      else σ' = σ ∧ e = .ret (.tup [.bool false, .int .i64 0]) := by
  obtain ⟨ho, hf, tag, s', hb, hm', hs'⟩ := id hr
  have hk : k < src.length := (List.getElem?_eq_some_iff.1 hc).1
  have h1 := spanTo_ge isWord src k
  have h2 := spanTo_le isWord src k (by omega)
  refine code98.call hm (by simp) ?_
  refine Load.mk' hb (by simp) ?_
  refine Load.mk' hb (by simp) ?_
  refine Idx.mk' k c rfl hc ?_
  refine CallK.pure (class_ret c) ?_
  refine Test.split (fun h => ?_) (fun h => ?_)
  · refine Ret.mk' ?_
    rw [if_neg (by simp only [cls] at h; grind)]
    exact ⟨rfl, rfl⟩
  · have hL : isLetter c = false ∧ isDigit c = true := by simp only [cls] at h; grind
    have h3 : k < spanTo isWord src k := by
      have := spanTo_step hc (p := isWord) (by simp [isWord, hL])
      have := spanTo_ge isWord src (k + 1)
      omega
    refine CallK.mk' (span_call hr hs (by omega)) ?_
    rintro e σ' ⟨rfl, rfl⟩
    refine Load.mk' hb (by simp) ?_
    refine Load.mk' hb (by simp) ?_
    refine Cut.mk' k (spanTo isWord src k) rfl rfl (by omega) (by omega) ?_
    obtain ⟨r, hs⟩ : ∃ r, (src.take (spanTo isWord src k)).drop k = c :: r := by
      refine ⟨_, drop_cons ?_⟩
      rw [List.getElem?_take, if_pos h3, hc]
    have hlen : (c :: r).length ≤ 70000 := by rw [← hs]; simp; omega
    rw [hs]
    generalize hto : spanTo isWord src k = e2 at *
    refine CallK.mk' (atoi_call _ hlen _) ?_
    rintro e σ' ⟨rfl, v, er, rfl, ⟨ha, rfl⟩ | ⟨⟨t, q, rfl⟩, ha⟩⟩
    · obtain ⟨g1, g2⟩ := atoi_ok hL.2 ha
      refine Test.split (fun h5 => ?_) (fun h5 => ?_)
      · refine Ret.mk' ?_
        rw [if_pos hL, show numVal (c :: r) = none from by unfold numVal; rw [if_neg]; rintro ⟨_, h6, _⟩; omega]
        exact ⟨rfl, rfl⟩
      · have h5' : (c :: r).length ≤ 15 := by omega
        obtain rfl := g2 h5'
        have hput : numVal (c :: r) = some (digitsVal (c :: r)) → (∀ e σ'', (e = SEnd.ret (.int .i64 0) ∧ Rd σ0 σ'' b src e2 (toks ++ [(⟨2, k, [], (digitsVal (c :: r) : Nat)⟩ : Tok)])) → match numVal (c :: r) with
            | none => σ'' = σ' ∧ SEnd.ret (.tup [.bool true, .int .i64 0]) = SEnd.ret (.tup [.bool true, .int .i64 27])
            | some n => SEnd.ret (.tup [.bool true, .int .i64 0]) = SEnd.ret (.tup [.bool true, .int .i64 0]) ∧ Rd σ0 σ'' b src e2 (toks ++ [⟨2, k, [], n⟩])) := by
          intro hv e σ'' h
          rw [hv]; exact ⟨rfl, h.2⟩
        refine Test.split (fun h6 => ?_) (fun h6 => ?_)
        · refine Idx.mk' 0 c rfl rfl ?_
          refine Test.split (fun h7 => ?_) (fun h7 => ?_)
          · refine Ret.mk' ?_
            rw [if_pos hL, show numVal (c :: r) = none from by
              unfold numVal; rw [if_neg]; rintro ⟨_, _, h8⟩
              refine h8 ⟨by omega, ?_⟩
              simp only [List.head?_cons, Option.some.injEq]
              exact UInt8.toNat_inj.1 (show c.toNat = 48 by omega)]
            exact ⟨rfl, rfl⟩
          · have hv : numVal (c :: r) = some (digitsVal (c :: r)) := by
              unfold numVal; rw [if_pos]; refine ⟨g1, h5', ?_⟩
              rintro ⟨_, h8⟩
              simp only [List.head?_cons, Option.some.injEq] at h8
              subst h8; exact h7 rfl
            refine CallK.mk' (put_call hr hn 2 _ e2 []) ?_
            rintro e σ'' h8
            obtain ⟨rfl, _⟩ := id h8
            exact Ret.mk' (by rw [if_pos hL]; exact hput hv _ _ h8)
        · have hv : numVal (c :: r) = some (digitsVal (c :: r)) := by
            unfold numVal; rw [if_pos]; refine ⟨g1, h5', ?_⟩
            rintro ⟨h8, _⟩; omega
          refine CallK.mk' (put_call hr hn 2 _ e2 []) ?_
          rintro e σ'' h8
          obtain ⟨rfl, _⟩ := id h8
          exact Ret.mk' (by rw [if_pos hL]; exact hput hv _ _ h8)
    · refine Ret.mk' ?_
      rw [if_pos hL, atoi_bad hL.2 ha]
      exact ⟨rfl, rfl⟩

/-- What a reader of one kind of token does: 'none': it is none of its kind; an error; a token. -/
def ReadPost (σ0 σ : St) (b : Nat) (src : List UInt8) (toks : List Tok) (res : Option (Sum Nat (Tok × Nat))) (e : SEnd) (σ' : St) : Prop := match res with
  | none => σ' = σ ∧ e = .ret (.tup [.bool false, .int .i64 0])
  | some (.inl n) => σ' = σ ∧ e = .ret (.tup [.bool true, .int .i64 n]) ∧ n ≠ 0
  | some (.inr (t, e2)) => e = .ret (.tup [.bool true, .int .i64 0]) ∧ Rd σ0 σ' b src e2 (toks ++ [t])

theorem esc_cases (d : UInt8) : (esc d = none ∧ Lib.indexByte [34, 92, 110] d = -1) ∨ ∃ (i : Nat) (e : UInt8), esc d = some e ∧ Lib.indexByte [34, 92, 110] d = i ∧ ([34, 92, 10] : List UInt8)[i]? = some e := by
  have h1 : d = 34 ↔ d.toNat = 34 := by rw [← UInt8.toNat_inj]; rfl
  have h2 : d = 92 ↔ d.toNat = 92 := by rw [← UInt8.toNat_inj]; rfl
  have h3 : d = 110 ↔ d.toNat = 110 := by rw [← UInt8.toNat_inj]; rfl
  simp only [Lib.indexByte, esc, beq_iff_eq, eq_comm (b := d), h1, h2, h3]
  split
  · exact .inr ⟨0, 34, rfl, rfl, rfl⟩
  · split
    · exact .inr ⟨1, 92, rfl, rfl, rfl⟩
    · split
      · exact .inr ⟨2, 10, rfl, rfl, rfl⟩
      · exact .inl ⟨rfl, rfl⟩
theorem byteEls_snoc (bs : List UInt8) (e : UInt8) : byteEls (bs ++ [e]) = byteEls bs ++ [[V.int .u8 e.toNat]] := by simp [byteEls]

set_option maxHeartbeats 4000000 in
theorem text_call {σ0 σ : St} {b : Nat} {src : List UInt8} {k : Nat} {toks : List Tok} {c : UInt8} (hr : Rd σ0 σ b src k toks) (hn : toks.length ≤ 70000) (hs : src.length ≤ 70000) (hc : src[k]? = some c) :
    SCall Tryz.prog LG 99 [.loc b 0] σ (ReadPost σ0 σ b src toks (if c.toNat = 34 then some (match textScan (src.drop (k + 1)) [] with
      | .inl e => .inl e
      | .inr (s, left) => .inr (⟨3, k, s, 0⟩, src.length - left)) else none)) := by
  obtain ⟨ho, hf, tag, s', hb, hm', hs'⟩ := id hr
  have hk : k < src.length := (List.getElem?_eq_some_iff.1 hc).1
  refine code99.call hm (by simp) ?_
  refine Load.mk' hb (by simp) ?_
  refine Load.mk' hb (by simp) ?_
  refine Idx.mk' k c rfl hc ?_
  refine Test.split (fun h => ?_) (fun h => ?_)
  · refine Ret.mk' ?_
    rw [if_neg (by omega)]
    exact ⟨rfl, rfl⟩
  · have h34 : c.toNat = 34 := by omega
    rw [if_pos h34]
    refine Load.mk' hb (by simp) ?_
    refine Arith.i64 ((k + 1 : Nat) : Int) (by simp) (by omega) ?_
    refine ⟨fun m sl σ' => ∃ (j : Nat) (bs : List UInt8) (tag' : Tag) (z : Nat), sl = ofL [(0, some (.loc b 0)), (4, some (.slice tag' z (byteEls bs))), (5, some (.int .i64 j))] ∧
      Over σ σ' ∧ Mine σ σ' tag' ∧ (tag' = .nil ∨ z = 1) ∧ (tag' = .nil → bs = []) ∧ j ≤ src.length ∧ bs.length ≤ 70000 ∧ bs.length ≤ j ∧ textScan (src.drop j) bs = textScan (src.drop (k + 1)) [] ∧ m = src.length - j, _,
      ⟨k + 1, [], .nil, 0, rfl, .refl _, trivial, .inl rfl, fun _ => rfl, by omega, by simp, by simp, rfl, rfl⟩, ?_⟩
    rintro m sl σ' ⟨j, bs, tag', z, rfl, ho', hm2, hz, hz2, hj, hbs, hbs2, hsc, rfl⟩
    have hb' := ho'.box b _ hb
    have hr' : Rd σ0 σ' b src k toks := ⟨⟨fun b cs h => ho'.box b cs (ho.box b cs h), fun t h => ho'.live t (ho.live t h), fun r m h => ho'.map r m (ho.map r m h)⟩, hf, tag, s', hb', hm'.over ho', hs'⟩
    have hlen : (byteEls bs).length = bs.length := by simp [byteEls]
    rw [← hsc]
    refine Test.split (fun h1 => ?_) (fun h1 => ?_)
    · rw [hlen] at h1
      refine Load.mk' hb' (by simp) ?_
      refine Test.split (fun h2 => ?_) (fun h2 => ?_)
      · refine Ret.weak (r := .tup [.bool true, .int .i64 28]) (σ' := σ) (.refl _) ho' ?_
        rw [List.drop_eq_nil_of_le (by omega), textScan_nil, if_neg (by omega)]
        exact ⟨rfl, rfl, by omega⟩
      · obtain ⟨d, hd⟩ : ∃ c, src[j]? = some c := ⟨src[j]'(by omega), by simp [show j < src.length by omega]⟩
        have hjl : j < src.length := (List.getElem?_eq_some_iff.1 hd).1
        refine Load.mk' hb' (by simp) ?_
        refine Idx.mk' j d rfl hd ?_
        rw [drop_cons hd, textScan_cons, if_neg (by omega)]
        refine Test.split (fun h3 => ?_) (fun h3 => ?_)
        · refine Arith.i64 ((j + 1 : Nat) : Int) (by simp) (by omega) ?_
          refine Sure.mk' (hz.elim (fun h => .inr (by rw [hz2 h]; rfl)) .inl) ?_
          refine B2S.mk' ?_
          refine CallK.mk' (put_call hr' hn 3 0 (j + 1) bs) ?_
          rintro e σ'' ⟨rfl, hr2⟩
          refine Ret.mk' ?_
          rw [if_pos (by omega)]
          refine ⟨rfl, ?_⟩
          rw [show src.length - (src.drop (j + 1)).length = j + 1 from by simp; omega]
          exact hr2
        · rw [if_neg (by omega)]
          refine Test.split (fun h4 => ?_) (fun h4 => ?_)
          · rw [if_pos (by omega)]
            refine Arith.i64 ((j + 1 : Nat) : Int) (by simp) (by omega) ?_
            refine Load.mk' hb' (by simp) ?_
            refine Test.split (fun h5 => ?_) (fun h5 => ?_)
            · obtain ⟨d2, hd2⟩ : ∃ c, src[j + 1]? = some c := ⟨src[j + 1]'(by omega), by simp [show j + 1 < src.length by omega]⟩
              refine Load.mk' hb' (by simp) ?_
              refine Idx.mk' (j + 1) d2 rfl hd2 ?_
              refine CallK.pure (indexByte_ret _ d2) ?_
              rw [drop_cons hd2]
              rcases esc_cases d2 with ⟨he, hi⟩ | ⟨i, e, he, hi, hie⟩
              · rw [hi]
                refine Test.yes (by omega) ?_
                refine Ret.weak (r := .tup [.bool true, .int .i64 28]) (σ' := σ) (.refl _) ho' ?_
                simp only [he]
                exact ⟨rfl, rfl, by omega⟩
              · rw [hi]
                refine Test.no (by omega) ?_
                refine Idx.mk' i e rfl hie ?_
                refine App.mk' ho' hm2 hz rfl (by simp [hlen]; omega) (by simp [hlen]; omega) (by simp) (fun t' σ1 ho1 hm1 hbox _ => ?_)
                refine Arith.i64 ((j + 2 : Nat) : Int) (by omega) (by omega) ?_
                refine ⟨_, _, ?_, Forget.refl _, j + 2, bs ++ [e], .tip t', 1, by rw [byteEls_snoc]; rfl, ho1, hm1, .inr rfl, fun h => (by cases h), by omega, by simp; omega, by simp; omega, ?_, rfl⟩
                · omega
                · simp only [he]
            · refine Test.yes (by omega) ?_
              refine Ret.weak (r := .tup [.bool true, .int .i64 28]) (σ' := σ) (.refl _) ho' ?_
              rw [List.drop_eq_nil_of_le (show src.length ≤ j + 1 by omega)]
              exact ⟨rfl, rfl, by omega⟩
          · rw [if_neg (by omega)]
            refine Test.split (fun h5 => ?_) (fun h5 => ?_)
            · rw [if_pos (by omega)]
              refine Ret.weak (r := .tup [.bool true, .int .i64 28]) (σ' := σ) (.refl _) ho' ?_
              exact ⟨rfl, rfl, by omega⟩
            · refine Test.split (fun h6 => ?_) (fun h6 => ?_)
              · rw [if_pos (by omega)]
                refine Ret.weak (r := .tup [.bool true, .int .i64 28]) (σ' := σ) (.refl _) ho' ?_
                exact ⟨rfl, rfl, by omega⟩
              · rw [if_neg (by omega)]
                refine App.mk' ho' hm2 hz rfl (by simp [hlen]; omega) (by simp [hlen]; omega) (by simp) (fun t' σ1 ho1 hm1 hbox _ => ?_)
                refine Arith.i64 ((j + 1 : Nat) : Int) (by omega) (by omega) ?_
                refine ⟨_, _, ?_, Forget.refl _, j + 1, bs ++ [d], .tip t', 1, by rw [byteEls_snoc]; rfl, ho1, hm1, .inr rfl, fun h => (by cases h), by omega, by simp; omega, by simp; omega, ?_, rfl⟩
                · omega
                · rfl
    · rw [hlen] at h1
      refine Ret.weak (r := .tup [.bool true, .int .i64 2]) (σ' := σ) (.refl _) ho' ?_
      have : textScan (src.drop j) bs = .inl 2 := by
        cases src.drop j with
        | nil => rw [textScan_nil, if_pos (by omega)]
        | cons c r => rw [textScan_cons, if_pos (by omega)]
      rw [this]
      exact ⟨rfl, rfl, by omega⟩
end Go.Shadow.Lex

/- Proved: what the lexer's sign does, as a shadow contract. Conditions: sources of at most 70000 bytes. -/
namespace Go.Shadow.Lex
open Go Go.RowKit Go.Proofs

theorem fields_signs : Lib.fields [45, 62, 32, 58, 61, 32, 61, 61, 32, 33, 61, 32, 60, 61, 32, 62, 61, 32, 38, 38, 32, 124, 124, 32, 46, 46] = signs2 := by decide

theorem find_drop {l : List (List UInt8)} {p : List UInt8 → Bool} {j : Nat} {s : List UInt8} (h : l[j]? = some s) (hp : p s = false) (hb : ∀ i x, i < j → l[i]? = some x → p x = false) : ∀ i x, i < j + 1 → l[i]? = some x → p x = false := by
  intro i x hi hx
  by_cases e : i = j
  · subst e; rw [h] at hx; cases hx; exact hp
  · exact hb i x (by omega) hx
theorem find_at {l : List (List UInt8)} {p : List UInt8 → Bool} : ∀ {j : Nat} {s : List UInt8}, l[j]? = some s → p s = true → (∀ i x, i < j → l[i]? = some x → p x = false) → l.find? p = some s := by
  induction l with
  | nil => intro j s h; simp at h
  | cons a l ih =>
    intro j s h hp hb
    cases j with
    | zero => simp at h; subst h; simp [hp]
    | succ j =>
      have ha := hb 0 a (by omega) rfl
      rw [List.find?_cons, ha]
      exact ih (by simpa using h) hp (fun i x hi hx => hb (i + 1) x (by omega) (by simpa using hx))
theorem find_none {l : List (List UInt8)} {p : List UInt8 → Bool} (h : ∀ i x, i < l.length → l[i]? = some x → p x = false) : l.find? p = none := by
  rw [List.find?_eq_none]
  intro x hx
  obtain ⟨i, hi, rfl⟩ := List.mem_iff_getElem.1 hx
  rw [h i _ hi (List.getElem?_eq_getElem hi)]; simp

theorem index_mem (l : List UInt8) (c : UInt8) : 0 ≤ Lib.indexByte l c ↔ c ∈ l := by
  induction l with
  | nil => simp [Lib.indexByte]
  | cons a l ih =>
    simp only [Lib.indexByte, List.mem_cons]
    by_cases h : a = c
    · subst h; simp
    · simp only [beq_iff_eq, h, if_false, ← ih, show ¬ c = a from fun e => h e.symm, false_or]
      split <;> omega

theorem sign_call {σ0 σ : St} {b : Nat} {src : List UInt8} {k : Nat} {toks : List Tok} {c : UInt8} (hr : Rd σ0 σ b src k toks) (hn : toks.length ≤ 70000) (hs : src.length ≤ 70000) (hc : src[k]? = some c) :
    SCall Tryz.prog LG 100 [.loc b 0] σ (ReadPost σ0 σ b src toks (match signAt (src.drop k) with
      | some s => some (.inr (⟨4, k, s, 0⟩, k + s.length))
      | none => none)) := by
  obtain ⟨ho, hf, tag, s', hb, hm', hs'⟩ := id hr
  have hk : k < src.length := (List.getElem?_eq_some_iff.1 hc).1
  refine code100.call hm (by simp) ?_
  refine Load.mk' hb (by simp) ?_
  refine Load.mk' hb (by simp) ?_
  refine CutR.mk' k rfl (by omega) ?_
  refine CallK.mk' (fields_call _ (by simp) (by intro j b h; rcases j with _ | _ | _ | _ | _ | _ | _ | _ | _ | _ | _ | _ | _ | _ | _ | _ | _ | _ | _ | _ | _ | _ | _ | _ | _ | _ | j <;> simp at h <;> subst h <;> decide) _) ?_
  rintro e σ' ⟨rfl, rfl⟩
  rw [fields_signs]
  refine ⟨fun m sl σ1 => σ1 = σ' ∧ ∃ j : Nat, sl = ofL [(0, some (.loc b 0)), (4, some (.str (src.drop k))), (16, some (.slice .foreign 1 (strEls signs2))), (17, some (.int .i64 9)), (18, some (.int .i64 j))] ∧ j ≤ 9 ∧
      (∀ i x, i < j → signs2[i]? = some x → List.isPrefixOf x (src.drop k) = false) ∧ m = 9 - j, _, ⟨rfl, 0, rfl, by omega, fun i x h => by omega, rfl⟩, ?_⟩
  rintro m sl σ1 ⟨rfl, j, rfl, hj, hbef, rfl⟩
  refine Test.split (fun h => ?_) (fun h => ?_)
  · refine Sure.mk' (.inl rfl) ?_
    obtain ⟨s, hsj⟩ : ∃ s, signs2[j]? = some s := ⟨signs2[j]'(by simp [signs2]; omega), by simp⟩
    refine IdxE.mk' j [.str s] rfl (by simp [strEls, hsj]) ?_
    refine ⟨⟨by simp, ?_⟩⟩
    refine CallK.pure (hasPrefix_ret _ _) ?_
    have h2 : s.length = 2 := by
      have : ∀ x ∈ signs2, x.length = 2 := by decide
      exact this s (List.mem_of_getElem? hsj)
    cases hp : List.isPrefixOf s (src.drop k) with
    | true =>
      rw [show Lib.hasPrefix (src.drop k) s = true from hp]
      refine Load.mk' hb (by simp) ?_
      refine Arith.i64 ((k + 2 : Nat) : Int) (by simp) (by omega) ?_
      refine CallK.mk' (put_call hr hn 4 0 (k + 2) s) ?_
      rintro e σ'' ⟨rfl, hr2⟩
      refine Ret.mk' ?_
      rw [show signAt (src.drop k) = some s from by unfold signAt; rw [find_at (p := (·.isPrefixOf (src.drop k))) hsj hp hbef]]
      refine ⟨rfl, ?_⟩
      rw [h2]; exact hr2
    | false =>
      rw [show Lib.hasPrefix (src.drop k) s = false from hp]
      refine Arith.i64 ((j + 1 : Nat) : Int) (by simp) (by omega) ?_
      exact ⟨_, _, by omega, Forget.refl _, rfl, j + 1, rfl, by omega, find_drop (p := (·.isPrefixOf (src.drop k))) hsj hp hbef, rfl⟩
  · have hnone : signs2.find? (·.isPrefixOf (src.drop k)) = none := find_none (fun i x hi hx => hbef i x (by simp [signs2] at hi; omega) hx)
    refine CutL.mk' 1 rfl (by simp; omega) ?_
    rw [show (src.drop k).take 1 = [c] from by rw [drop_cons hc]; rfl]
    refine CallK.pure (containsOne_ret _ c) ?_
    by_cases hcs : c ∈ signs1
    · rw [show decide (0 ≤ Lib.indexByte [40, 41, 123, 125, 91, 93, 44, 59, 58, 46, 43, 45, 42, 47, 37, 60, 62, 61, 33, 38, 124, 64, 63, 94, 126] c) = true from by rw [decide_eq_true_eq, index_mem]; exact hcs]
      refine Load.mk' hb (by simp) ?_
      refine Arith.i64 ((k + 1 : Nat) : Int) (by simp) (by omega) ?_
      refine CutL.mk' 1 rfl (by simp; omega) ?_
      rw [show (src.drop k).take 1 = [c] from by rw [drop_cons hc]; rfl]
      refine CallK.mk' (put_call hr hn 4 0 (k + 1) [c]) ?_
      rintro e σ'' ⟨rfl, hr2⟩
      refine Ret.mk' ?_
      rw [show signAt (src.drop k) = some [c] from by unfold signAt; rw [hnone, drop_cons hc]; simp [hcs]]
      exact ⟨rfl, hr2⟩
    · rw [show decide (0 ≤ Lib.indexByte [40, 41, 123, 125, 91, 93, 44, 59, 58, 46, 43, 45, 42, 47, 37, 60, 62, 61, 33, 38, 124, 64, 63, 94, 126] c) = false from by rw [decide_eq_false_iff_not, index_mem]; exact hcs]
      refine Ret.mk' ?_
      rw [show signAt (src.drop k) = none from by unfold signAt; rw [hnone, drop_cons hc]; simp [hcs]]
      exact ⟨rfl, rfl⟩
end Go.Shadow.Lex

/- Proved: what the lexer's next and Tokens do, as shadow contracts. Conditions: sources of at most 70000 bytes. -/
namespace Go.Shadow.Lex
open Go Go.RowKit Go.Proofs

def NextPost (σ0 σ : St) (b : Nat) (src : List UInt8) (toks : List Tok) (res : Sum Nat (Tok × Nat)) (e : SEnd) (σ' : St) : Prop := match res with
  | .inl n => σ' = σ ∧ e = .ret (.int .i64 n) ∧ n ≠ 0
  | .inr (t, e2) => e = .ret (.int .i64 0) ∧ Rd σ0 σ' b src e2 (toks ++ [t])

theorem next_call {σ0 σ : St} {b : Nat} {src : List UInt8} {k : Nat} {toks : List Tok} {c : UInt8} (hr : Rd σ0 σ b src k toks) (hn : toks.length ≤ 70000) (hs : src.length ≤ 70000) (hc : src[k]? = some c) :
    SCall Tryz.prog LG 73 [.loc b 0] σ (NextPost σ0 σ b src toks (lexOne src k)) := by
  refine code73.call hm (by simp) ?_
  refine ⟨fun m sl σ1 => σ1 = σ ∧ ∃ j : Nat, sl = ofL [(0, some (.loc b 0)), (7, some (.agg [.func 97 [] [], .func 98 [] [], .func 99 [] [], .func 100 [] []])), (8, some (.int .i64 j))] ∧ j ≤ 4 ∧
      (1 ≤ j → isLetter c = false) ∧ (2 ≤ j → isDigit c = false) ∧ (3 ≤ j → c.toNat ≠ 34) ∧ (4 ≤ j → signAt (src.drop k) = none) ∧ m = 4 - j, _, ⟨rfl, 0, rfl, by omega, fun h => by omega, fun h => by omega, fun h => by omega, fun h => by omega, rfl⟩, ?_⟩
  rintro m sl σ1 ⟨rfl, j, rfl, hj, h1, h2, h3, h4, rfl⟩
  simp only [lexOne, hc]
  obtain rfl | rfl | rfl | rfl | rfl : j = 0 ∨ j = 1 ∨ j = 2 ∨ j = 3 ∨ j = 4 := by omega
  · refine Test.yes (by omega) ?_
    refine ⟨by omega, by omega, by simp, ?_⟩
    refine CallK.mk' (name_call hr hn hs hc) ?_
    intro e σ' h
    by_cases hL : isLetter c = true
    · rw [if_pos hL] at h
      by_cases h5 : 32 < spanTo isWord src k - k
      · rw [if_pos h5] at h
        obtain ⟨rfl, rfl⟩ := h
        refine Ret.mk' ?_
        rw [if_pos hL, if_pos h5]
        exact ⟨rfl, rfl, by omega⟩
      · rw [if_neg h5] at h
        obtain ⟨rfl, h⟩ := h
        refine Ret.mk' ?_
        rw [if_pos hL, if_neg h5]
        exact ⟨rfl, h⟩
    · rw [if_neg hL] at h
      obtain ⟨rfl, rfl⟩ := h
      refine Arith.i64 ((1 : Nat) : Int) (by simp) (by omega) ?_
      exact ⟨_, _, by omega, Forget.refl _, rfl, 1, rfl, by omega, fun _ => by simpa using hL, fun h => by omega, fun h => by omega, fun h => by omega, rfl⟩
  · have hL := h1 (by omega)
    refine Test.yes (by omega) ?_
    refine ⟨by omega, by omega, by simp, ?_⟩
    refine CallK.mk' (number_call hr hn hs hc) ?_
    intro e σ' h
    by_cases hD : isDigit c = true
    · rw [if_pos ⟨hL, hD⟩] at h
      rw [if_neg (by simp [hL]), if_pos hD]
      cases hv : numVal ((src.take (spanTo isWord src k)).drop k) with
      | none =>
        rw [hv] at h
        obtain ⟨rfl, rfl⟩ := h
        refine Ret.mk' ?_
        exact ⟨rfl, rfl, by omega⟩
      | some n =>
        rw [hv] at h
        obtain ⟨rfl, h⟩ := h
        refine Ret.mk' ?_
        exact ⟨rfl, h⟩
    · rw [if_neg (by simp [hD])] at h
      obtain ⟨rfl, rfl⟩ := h
      refine Arith.i64 ((2 : Nat) : Int) (by simp) (by omega) ?_
      exact ⟨_, _, by omega, Forget.refl _, rfl, 2, rfl, by omega, fun _ => hL, fun _ => by simpa using hD, fun h => by omega, fun h => by omega, rfl⟩
  · have hL := h1 (by omega)
    have hD := h2 (by omega)
    refine Test.yes (by omega) ?_
    refine ⟨by omega, by omega, by simp, ?_⟩
    refine CallK.mk' (text_call hr hn hs hc) ?_
    intro e σ' h
    rw [if_neg (by simp [hL]), if_neg (by simp [hD])]
    by_cases hT : c.toNat = 34
    · rw [if_pos hT] at h
      rw [if_pos hT]
      cases hv : textScan (src.drop (k + 1)) [] with
      | inl n =>
        rw [hv] at h
        obtain ⟨rfl, rfl, h0⟩ := h
        refine Ret.mk' ?_
        exact ⟨rfl, rfl, h0⟩
      | inr x =>
        rw [hv] at h
        obtain ⟨rfl, h⟩ := h
        refine Ret.mk' ?_
        exact ⟨rfl, h⟩
    · rw [if_neg hT] at h
      obtain ⟨rfl, rfl⟩ := h
      refine Arith.i64 ((3 : Nat) : Int) (by simp) (by omega) ?_
      exact ⟨_, _, by omega, Forget.refl _, rfl, 3, rfl, by omega, fun _ => hL, fun _ => hD, fun _ => hT, fun h => by omega, rfl⟩
  · have hL := h1 (by omega)
    have hD := h2 (by omega)
    have hT := h3 (by omega)
    refine Test.yes (by omega) ?_
    refine ⟨by omega, by omega, by simp, ?_⟩
    refine CallK.mk' (sign_call hr hn hs hc) ?_
    intro e σ' h
    rw [if_neg (by simp [hL]), if_neg (by simp [hD]), if_neg hT]
    cases hv : signAt (src.drop k) with
    | some s =>
      rw [hv] at h
      obtain ⟨rfl, h⟩ := h
      refine Ret.mk' ?_
      exact ⟨rfl, h⟩
    | none =>
      rw [hv] at h
      obtain ⟨rfl, rfl⟩ := h
      refine Arith.i64 ((4 : Nat) : Int) (by simp) (by omega) ?_
      exact ⟨_, _, by omega, Forget.refl _, rfl, 4, rfl, by omega, fun _ => hL, fun _ => hD, fun _ => hT, fun _ => rfl, rfl⟩
  · have hL := h1 (by omega)
    have hD := h2 (by omega)
    have hT := h3 (by omega)
    have hS := h4 (by omega)
    refine Test.no (by omega) ?_
    refine Ret.mk' ?_
    rw [if_neg (by simp [hL]), if_neg (by simp [hD]), if_neg hT, hS]
    exact ⟨rfl, rfl, by omega⟩

theorem textScan_left : ∀ (r b : List UInt8) (s : List UInt8) (left : Nat), textScan r b = .inr (s, left) → left < r.length := by
  intro r
  induction hn : r.length using Nat.strongRecOn generalizing r with
  | _ n ih =>
    intro b s left h
    cases r with
    | nil => rw [textScan_nil] at h; split at h <;> cases h
    | cons c r =>
      subst hn
      rw [textScan_cons] at h
      split at h
      · cases h
      · split at h
        · injection h with h; injection h with _ h; subst h; simp
        · split at h
          · split at h
            · cases h
            · split at h
              · cases h
              · have := ih _ (by simp; omega) _ rfl _ _ _ h
                simp; omega
          · split at h
            · cases h
            · have := ih _ (by simp) _ rfl _ _ _ h
              simp; omega
theorem isPrefixOf_length {a l : List UInt8} (h : a.isPrefixOf l = true) : a.length ≤ l.length := by
  rw [List.isPrefixOf_iff_prefix] at h; exact h.length_le
theorem signAt_length {r s : List UInt8} (h : signAt r = some s) : 0 < s.length ∧ s.length ≤ r.length := by
  unfold signAt at h
  split at h
  · rename_i p hp
    injection h with h; subst h
    have h1 := List.find?_some hp
    have h2 := List.mem_of_find?_eq_some hp
    have : ∀ x ∈ signs2, 0 < x.length := by decide
    exact ⟨this _ h2, isPrefixOf_length h1⟩
  · split at h
    · cases h
    · split at h
      · injection h with h; subst h; simp
      · cases h
theorem lexOne_pos {l : List UInt8} {k e2 : Nat} {t : Tok} (h : lexOne l k = .inr (t, e2)) : k < e2 ∧ e2 ≤ l.length := by
  unfold lexOne at h
  split at h
  · cases h
  · rename_i c hc
    have hk : k < l.length := (List.getElem?_eq_some_iff.1 hc).1
    have hsp : isWord c = true → k < spanTo isWord l k := fun hw => by
      have := spanTo_step hc hw
      have := spanTo_ge isWord l (k + 1)
      omega
    have hle := spanTo_le isWord l k (by omega)
    split at h
    · rename_i hL
      simp only at h
      split at h
      · cases h
      · injection h with h; injection h with _ h; subst h; exact ⟨hsp (by simp [isWord, hL]), hle⟩
    · split at h
      · rename_i hD
        simp only at h
        split at h
        · injection h with h; injection h with _ h; subst h; exact ⟨hsp (by simp [isWord, hD]), hle⟩
        · cases h
      · split at h
        · split at h
          · cases h
          · rename_i b left hsc
            injection h with h; injection h with _ h; subst h
            have := textScan_left _ _ _ _ hsc
            simp only [List.length_drop] at this
            omega
        · split at h
          · rename_i s hs
            injection h with h; injection h with _ h; subst h
            have := signAt_length hs
            simp only [List.length_drop] at this
            omega
          · cases h

def addAll (acc : List Tok) : Sum (Nat × Nat) (List Tok) → Sum (Nat × Nat) (List Tok)
  | .inl p => .inl p
  | .inr ts => .inr (acc ++ ts)
theorem lexJ_end {l : List UInt8} {k : Nat} (h : l.length ≤ k) : lexJ l k = .inr [⟨5, l.length, [], 0⟩] := by
  rw [lexJ, dif_neg (by omega)]
theorem lexJ_bad {l : List UInt8} {k n : Nat} (h : k < l.length) (h1 : lexOne l k = .inl n) : lexJ l k = .inl (k, n) := by
  rw [lexJ, dif_pos h, h1]
theorem lexJ_one {l : List UInt8} {k e2 : Nat} {t : Tok} (h1 : lexOne l k = .inr (t, e2)) : lexJ l k = addAll [t] (lexJ l (skipTo l e2)) := by
  have h2 := lexOne_pos h1
  have h3 := skipTo_ge l e2
  rw [lexJ, dif_pos (by omega), h1]
  simp only
  rw [dif_pos ⟨h2.1, by omega⟩]
  cases lexJ l (skipTo l e2) <;> rfl
theorem addAll_addAll (a b : List Tok) (x : Sum (Nat × Nat) (List Tok)) : addAll (a ++ b) x = addAll a (addAll b x) := by
  cases x <;> simp [addAll]

def lexRes : Sum (Nat × Nat) (List Tok) → V
  | .inl (a, e) => .tup [.slice .nil 0 [], .agg [.int .i64 a, .int .i64 e]]
  | .inr ts => .tup [.slice .foreign 4 (ts.map tokV), .agg [.int .i64 0, .int .i64 0]]

theorem Weak.foreign (tag : Tag) (s : Nat) (es : List (List V)) : Weak (.slice tag s es) (.slice .foreign s es) := by
  intro B γ w x h
  cases h with
  | slice _ _ _ a cap b o vs hs hl ha ht h1 hc hr => exact .slice _ _ _ _ _ b o vs hs hl ha trivial h1 hc hr
theorem Weak.own {tag : Tag} {z s : Nat} (h : tag = .nil ∨ z = s) (es : List (List V)) : Weak (.slice tag z es) (.slice .foreign s es) := by
  rcases h with rfl | rfl
  · intro B γ w x h
    cases h with
    | slice _ _ _ a cap b o vs hs hl ha ht h1 hc hr =>
      obtain rfl := List.eq_nil_of_length_eq_zero ht.2.1
      exact .slice _ _ _ _ _ b o vs (fun i e h => by simp at h) hl ha trivial h1 hc hr
  · exact Weak.foreign _ _ _
theorem Weak.tup2 {a b c d : V} (h : Weak a c) (k : Weak b d) : Weak (.tup [a, b]) (.tup [c, d]) := by
  intro B γ w x hx
  cases hx with
  | tup _ vs hl hr =>
    refine .tup _ _ hl (fun i x y hx hy => ?_)
    match i, hx with
    | 0, hx => injection hx with hx; subst hx; exact h _ _ _ _ (hr 0 _ _ rfl hy)
    | 1, hx => injection hx with hx; subst hx; exact k _ _ _ _ (hr 1 _ _ rfl hy)
    | i + 2, hx => simp at hx

theorem tokens_ret (src : List UInt8) (hs : src.length ≤ 70000) : SRet Tryz.prog LG 43 [.str src] (lexRes (lex src)) := by
  intro σ
  refine code43.call hm (by simp) ?_
  intro b3 h3
  refine Test.split (fun h => ?_) (fun h => ?_)
  · refine Sure.mk' rfl ?_
    refine Store.mk' [.int .i64 0, .int .i64 2] put_box (Nat.le_of_ble_eq_true rfl) rfl (fun σ2 h2 => ?_)
    subst h2
    refine Load.mk' put_box (Nat.le_of_ble_eq_true rfl) ?_
    rw [put_put]
    refine Ret.weak (r := lexRes (lex src)) (σ' := σ) ?_ (over_put (.refl _) h3) ⟨rfl, rfl⟩
    rw [show lex src = .inl (0, 2) from by unfold lex; rw [if_pos (by omega)]]
    exact .refl _
  · have hlex : lex src = lexJ src (skipTo src 0) := by unfold lex; rw [if_neg (by omega)]
    rw [hlex]
    have ho3 : Over σ (σ.put b3 [.int .i64 0, .int .i64 0]) := over_put (.refl _) h3
    have hb3 : (σ.put b3 [.int .i64 0, .int .i64 0]).box b3 = some [.int .i64 0, .int .i64 0] := put_box
    generalize σ.put b3 [.int .i64 0, .int .i64 0] = σ1 at *
    refine ⟨rfl, ?_⟩
    intro b4 h4
    have hr0 : Rd σ1 (σ1.put b4 [.str src, .int .i64 0, .slice .nil 0 []]) b4 src 0 [] := ⟨over_put (.refl _) h4, h4, .nil, 0, put_box, trivial, .inl rfl⟩
    refine CallK.mk' (skip_call hr0 hs (by omega)) ?_
    rintro e σ2 ⟨rfl, hr2⟩
    refine ⟨fun m sl σ3 => ∃ (k : Nat) (toks : List Tok), sl = ofL [(0, some (.str src)), (3, some (.loc b3 0)), (4, some (.loc b4 0))] ∧ Rd σ1 σ3 b4 src k toks ∧ toks.length ≤ k ∧ k ≤ src.length ∧ addAll toks (lexJ src k) = lexJ src (skipTo src 0) ∧ m = src.length - k, _,
      ⟨skipTo src 0, [], rfl, hr2, by simp, skipTo_le _ _ (by omega), by cases lexJ src (skipTo src 0) <;> rfl, rfl⟩, ?_⟩
    rintro m sl σ3 ⟨k, toks, rfl, hr3, htk, hk, hadd, rfl⟩
    obtain ⟨ho, hf, tag, s', hb, hm', hs'⟩ := id hr3
    rw [← hadd]
    refine Load.mk' hb (by simp) ?_
    refine Test.split (fun h5 => ?_) (fun h5 => ?_)
    · obtain ⟨c, hc⟩ : ∃ c, src[k]? = some c := ⟨src[k]'(by omega), by simp [show k < src.length by omega]⟩
      refine CallK.mk' (next_call hr3 (by omega) hs hc) ?_
      intro e σ4 h6
      cases hone : lexOne src k with
      | inl n =>
        rw [hone] at h6
        obtain ⟨rfl, rfl, h0⟩ := h6
        refine Test.yes (by omega) ?_
        refine Load.mk' hb (by simp) ?_
        refine Sure.mk' rfl ?_
        refine Store.mk' [.int .i64 k, .int .i64 n] (ho.box b3 _ hb3) (Nat.le_of_ble_eq_true rfl) rfl (fun σ5 h7 => ?_)
        subst h7
        refine Load.mk' put_box (Nat.le_of_ble_eq_true rfl) ?_
        refine Ret.weak (r := lexRes (addAll toks (lexJ src k))) (σ' := σ) ?_ ?_ ⟨rfl, rfl⟩
        · rw [lexJ_bad (by omega) hone]; exact .refl _
        · exact over_put ⟨fun b cs h => ho.box b cs (ho3.box b cs h), fun t h => ho.live t (ho3.live t h), fun r m h => ho.map r m (ho3.map r m h)⟩ h3
      | inr x =>
        obtain ⟨t, e2⟩ := x
        rw [hone] at h6
        obtain ⟨rfl, hr4⟩ := h6
        have hp := lexOne_pos hone
        have hge := skipTo_ge src e2
        refine Test.no (by omega) ?_
        refine CallK.mk' (skip_call hr4 hs hp.2) ?_
        rintro e σ5 ⟨rfl, hr5⟩
        refine ⟨_, _, ?_, Forget.refl _, skipTo src e2, toks ++ [t], rfl, hr5, by simp; omega, skipTo_le _ _ hp.2, ?_, rfl⟩
        · have := skipTo_le src e2 hp.2; omega
        · rw [lexJ_one hone, addAll_addAll]
    · have hkl : k = src.length := by omega
      refine CallK.mk' (put_call hr3 (by omega) 5 0 src.length []) ?_
      rintro e σ4 ⟨rfl, hr4⟩
      obtain ⟨ho4, _, tag4, z4, hb4, _, hz4⟩ := hr4
      refine Load.mk' hb4 (by simp) ?_
      refine Sure.mk' rfl ?_
      refine Store.mk' [.int .i64 0, .int .i64 0] (ho4.box b3 _ hb3) (Nat.le_of_ble_eq_true rfl) rfl (fun σ5 h7 => ?_)
      subst h7
      refine Load.mk' put_box (Nat.le_of_ble_eq_true rfl) ?_
      refine Ret.weak (r := lexRes (addAll toks (lexJ src k))) (σ' := σ) ?_ ?_ ⟨rfl, rfl⟩
      · rw [lexJ_end (by omega)]
        subst hkl
        simp only [addAll]
        exact Weak.tup2 (Weak.own hz4 _) (.refl _)
      · exact over_put ⟨fun b cs h => ho4.box b cs (ho3.box b cs h), fun t h => ho4.live t (ho3.live t h), fun r m h => ho4.map r m (ho3.map r m h)⟩ h3
end Go.Shadow.Lex

/- Shadow code of the lexer's specification and printer (printed by a program). -/
namespace Go.Shadow.Lex
open Go Go.RowKit Go.Proofs
/-- quietus/lexer.Text -/
def sc37 : SC := (.seq (.region [.q 2 (.mv (.c (.str [])))] (some [0])) (.seq (.region [.q 3 (.mv (.c (.slice .nil 0 [])))] (some [0, 3])) (.seq (.seq (.region [.q 6 (.mv (.t 0)), .q 7 (.len false (.t 6)), .q 8 (.mv (.c (.int .i64 0)))] (some [3, 6, 7, 8])) (.block 0 (.loop (.seq (.region [.q 9 (.bin .lss (.t 8) (.t 7))] (some [3, 6, 7, 8, 9])) (.seq (.cond (.t 9) (some [3, 6, 7, 8]) .skip (.exit 0)) (.seq (.block 1 (.seq (.region [.q 10 (.iaddr 4 (.t 6) (.t 8)), .q 11 (.load true 4 (.t 10)), .q 5 (.alloc [(.int .i64 0), (.int .i64 0), (.str []), (.int .i64 0)]), .w (.store 4 (.t 5) (.t 11))] (some [3, 5, 6, 7, 8])) (.seq (.region [.q 12 (.faddr 0 (.t 5)), .q 13 (.load false 1 (.t 12))] (some [3, 5, 6, 7, 8, 13])) (.block 2 (.seq (.seq (.region [.q 15 (.bin .eql (.t 13) (.c (.int .i64 1))), .q 14 (.mv (.t 15))] (some [3, 5, 6, 7, 8, 13, 14])) (.cond (.t 14) (some [3, 5, 6, 7, 8, 13, 14]) .skip (.region [.q 16 (.bin .eql (.t 13) (.c (.int .i64 4))), .q 14 (.mv (.t 16))] (some [3, 5, 6, 7, 8, 13, 14])))) (.cond (.t 14) (some [3, 5, 6, 7, 8, 13]) (.region [.q 17 (.mv (.t 3)), .q 18 (.faddr 2 (.t 5)), .q 19 (.load false 1 (.t 18)), .q 20 (.mkslice 1 [(.t 19)]), .q 21 (.append 1 16 (.t 17) (.t 20)), .q 3 (.mv (.t 21))] (some [3, 6, 7, 8])) (.seq (.region [.q 23 (.bin .eql (.t 13) (.c (.int .i64 2))), .q 22 (.mv (.t 23))] (some [3, 5, 6, 7, 8, 13, 22])) (.cond (.t 22) (some [3, 5, 6, 7, 8, 13]) (.region [.q 24 (.mv (.t 3)), .q 25 (.faddr 3 (.t 5)), .q 26 (.load false 1 (.t 25)), .q 27 (.call 64 [(.t 26)]), .q 28 (.mkslice 1 [(.t 27)]), .q 29 (.append 1 16 (.t 24) (.t 28)), .q 3 (.mv (.t 29))] (some [3, 6, 7, 8])) (.seq (.region [.q 31 (.bin .eql (.t 13) (.c (.int .i64 3))), .q 30 (.mv (.t 31))] (some [3, 5, 6, 7, 8, 30])) (.cond (.t 30) (some [3, 5, 6, 7, 8]) (.region [.q 32 (.mv (.t 3)), .q 33 (.mkslice 1 [(.c (.str [34])), (.c (.str [92, 34])), (.c (.str [92])), (.c (.str [92, 92])), (.c (.str [10])), (.c (.str [92, 110]))]), .q 35 (.faddr 2 (.t 5)), .q 36 (.loadr (some 5) false 1 (.t 35)), .q 34 (.callr [5] 65 [(.t 33)]), .q 37 (.call 66 [(.t 34), (.t 36)]), .q 38 (.bins .add (.c (.str [34])) (.t 37)), .q 39 (.bins .add (.t 38) (.c (.str [34]))), .q 40 (.mkslice 1 [(.t 39)]), .q 41 (.append 1 16 (.t 32) (.t 40)), .q 3 (.mv (.t 41))] (some [3, 6, 7, 8])) .skip)))))))))) (.region [.q 42 (.bin .add (.t 8) (.c (.int .i64 1))), .q 8 (.mv (.t 42))] (some [3, 6, 7, 8])))))))) (.seq (.region [.q 43 (.mv (.t 3)), .q 44 (.call 67 [(.t 43), (.c (.str [32]))]), .q 2 (.mv (.t 44))] (some [2])) .ret))))
theorem code37 : IsCode Tryz.prog 37 sc37 [(2, none)] 45 := .mk' Tryz.func37 (by kernel_rfl) (by kernel_rfl) (by kernel_rfl) (by kernel_rfl)
end Go.Shadow.Lex

/- Proved: what the lexer's Text does at lists without texts. Conditions: the lists' and sources' sizes, as each theorem says. -/
namespace Go.Shadow.Lex
open Go Go.RowKit Go.Proofs

theorem put_ne {σ : St} {b b' : Nat} {cs : List V} (h : b' ≠ b) : (σ.put b cs).box b' = σ.box b' := by simp [St.put, h]
theorem over_none {σ σ' : St} (h : Over σ σ') {b : Nat} (hb : σ'.box b = none) : σ.box b = none := by
  cases hbb : σ.box b with
  | none => rfl
  | some cs => rw [h.box b cs hbb] at hb; cases hb

theorem over_trans {a b c : St} (h : Over a b) (k : Over b c) : Over a c := ⟨fun x cs hx => k.box x cs (h.box x cs hx), fun t ht => k.live t (h.live t ht), fun r m hr => k.map r m (h.map r m hr)⟩
theorem new_box {σ : St} {b : Nat} (h : σ.box b = none) (cs : List V) : Over σ (σ.put b cs) ∧ (σ.put b cs).box b = some cs := ⟨over_put (.refl _) h, put_box⟩
end Go.Shadow.Lex
