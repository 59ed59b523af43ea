/- THE SHADOW LOGIC, part 16: the same, cut for stepping: each place where a proof has to say something is a structure of its own. -/
import Derived.Test.YtgebphnfnmeaaaaGreatDoorSh15
import Derived.IntWalk
namespace Go.Shadow
open Go Go.RowKit

/-! ### stops -/
structure Test (p : Prop) [Decidable p] (K : V → Prop) : Prop where
  h : K (.bool (decide p))
theorem Test.split {p : Prop} [Decidable p] {K : V → Prop} (h1 : p → K (.bool true)) (h2 : ¬ p → K (.bool false)) : Test p K := by
  constructor
  by_cases hp : p
  · rw [decide_eq_true hp]; exact h1 hp
  · rw [decide_eq_false hp]; exact h2 hp
theorem Test.yes {p : Prop} [Decidable p] {K : V → Prop} (hp : p) (h : K (.bool true)) : Test p K := .split (fun _ => h) (fun n => absurd hp n)
theorem Test.no {p : Prop} [Decidable p] {K : V → Prop} (hp : ¬ p) (h : K (.bool false)) : Test p K := .split (fun n => absurd n hp) (fun _ => h)

structure BTest (b : Bool) (K : V → Prop) : Prop where
  h : K (.bool b)
theorem BTest.split {b : Bool} {K : V → Prop} (h1 : b = true → K (.bool true)) (h2 : b = false → K (.bool false)) : BTest b K := by
  constructor
  cases b
  · exact h2 rfl
  · exact h1 rfl

theorem BTest.yes {b : Bool} {K : V → Prop} (hb : b = true) (h : K (.bool true)) : BTest b K := .split (fun _ => h) (fun n => by rw [hb] at n; cases n)
theorem BTest.no {b : Bool} {K : V → Prop} (hb : b = false) (h : K (.bool false)) : BTest b K := .split (fun n => by rw [hb] at n; cases n) (fun _ => h)

structure Arith (k : IntKind) (z : Int) (K : V → Prop) : Prop where
  h : K (.int k (k.wrap z))
theorem Arith.i64 {z : Int} {K : V → Prop} (y : Int) (e : z = y) (h : -9223372036854775808 ≤ y ∧ y ≤ 9223372036854775807) (k : K (.int .i64 y)) : Arith .i64 z K := by
  subst e; exact ⟨by rw [IntWalk.i64_in _ h]; exact k⟩
theorem Arith.u8 {z : Int} {K : V → Prop} (y : Int) (e : z = y) (h : 0 ≤ y ∧ y ≤ 255) (k : K (.int .u8 y)) : Arith .u8 z K := by
  subst e; exact ⟨by rw [IntWalk.u8_in _ h]; exact k⟩

structure Load (σ : St) (b off n : Nat) (K : List V → Prop) : Prop where
  h : ∃ cs, σ.box b = some cs ∧ off + n ≤ cs.length ∧ K ((cs.drop off).take n)
theorem Load.mk' {σ : St} {b off n : Nat} {K : List V → Prop} {cs : List V} (hb : σ.box b = some cs) (hl : off + n ≤ cs.length) (k : K ((cs.drop off).take n)) : Load σ b off n K := ⟨cs, hb, hl, k⟩
structure Store (σ : St) (b off : Nat) (vs : List V) (K : St → Prop) : Prop where
  h : ∃ cs, σ.box b = some cs ∧ off + vs.length ≤ cs.length ∧ K (σ.put b (setL cs off vs))
theorem Store.mk' {σ : St} {b off : Nat} {vs : List V} {K : St → Prop} {cs : List V} (cs' : List V) (hb : σ.box b = some cs) (hl : off + vs.length ≤ cs.length) (e : setL cs off vs = cs') (k : ∀ σ', σ' = σ.put b cs' → K σ') : Store σ b off vs K :=
  ⟨cs, hb, hl, k _ (by rw [e])⟩
structure RefLoad (cs : List V) (n : Nat) (K : List V → Prop) : Prop where
  h : n ≤ cs.length ∧ K (cs.take n)

structure Idx (l : List UInt8) (i : Int) (K : UInt8 → Prop) : Prop where
  h : 0 ≤ i ∧ ∃ c, l[i.toNat]? = some c ∧ K c
theorem Idx.mk' {l : List UInt8} {i : Int} {K : UInt8 → Prop} (n : Nat) (c : UInt8) (e : i = n) (hc : l[n]? = some c) (k : K c) : Idx l i K := by subst e; exact ⟨by omega, c, by simpa using hc, k⟩
structure IdxE (es : List (List V)) (i : Int) (K : List V → Prop) : Prop where
  h : 0 ≤ i ∧ ∃ e, es[i.toNat]? = some e ∧ K e
theorem IdxE.mk' {es : List (List V)} {i : Int} {K : List V → Prop} (n : Nat) (c : List V) (e : i = n) (hc : es[n]? = some c) (k : K c) : IdxE es i K := by subst e; exact ⟨by omega, c, by simpa using hc, k⟩
structure Cut {α : Type} (l : List α) (i j : Int) (K : List α → Prop) : Prop where
  h : 0 ≤ i ∧ i ≤ j ∧ j ≤ l.length ∧ K ((l.take j.toNat).drop i.toNat)
theorem Cut.mk' {α : Type} {l : List α} {i j : Int} {K : List α → Prop} (a b : Nat) (e1 : i = a) (e2 : j = b) (h1 : a ≤ b) (h2 : b ≤ l.length) (k : K ((l.take b).drop a)) : Cut l i j K := by
  subst e1; subst e2; exact ⟨by omega, by omega, by omega, by simpa using k⟩
structure CutR {α : Type} (l : List α) (i : Int) (K : List α → Prop) : Prop where
  h : 0 ≤ i ∧ i ≤ l.length ∧ K (l.drop i.toNat)
theorem CutR.mk' {α : Type} {l : List α} {i : Int} {K : List α → Prop} (a : Nat) (e1 : i = a) (h2 : a ≤ l.length) (k : K (l.drop a)) : CutR l i K := by
  subst e1; exact ⟨by omega, by omega, by simpa using k⟩
structure CutL {α : Type} (l : List α) (j : Int) (K : List α → Prop) : Prop where
  h : 0 ≤ j ∧ j ≤ l.length ∧ K (l.take j.toNat)
theorem CutL.mk' {α : Type} {l : List α} {j : Int} {K : List α → Prop} (b : Nat) (e1 : j = b) (h2 : b ≤ l.length) (k : K (l.take b)) : CutL l j K := by
  subst e1; exact ⟨by omega, by omega, by simpa using k⟩

structure CallK (P : Program) (G : Globs) (f : FuncId) (args : List V) (σ : St) (K Kp : V → St → Prop) : Prop where
  h : SCall P G f args σ fun e σ' => match e with
      | .ret v => K v σ'
      | .pan v => Kp v σ'
theorem CallK.mk' {P : Program} {G : Globs} {f : FuncId} {args : List V} {σ : St} {K Kp : V → St → Prop} {Post : SEnd → St → Prop} (h : SCall P G f args σ Post) (k : ∀ e σ', Post e σ' → match e with
      | .ret v => K v σ'
      | .pan v => Kp v σ') : CallK P G f args σ K Kp := ⟨h.mono k⟩
/-- A call that returns a value and leaves all as it was. -/
def SRet (P : Program) (G : Globs) (f : FuncId) (args : List V) (r : V) : Prop := ∀ σ, SCall P G f args σ fun e σ' => σ' = σ ∧ e = .ret r
theorem CallK.pure {P : Program} {G : Globs} {f : FuncId} {args : List V} {σ : St} {K Kp : V → St → Prop} {r : V} (h : SRet P G f args r) (k : K r σ) : CallK P G f args σ K Kp :=
  .mk' (h σ) (by rintro e σ' ⟨rfl, rfl⟩; exact k)

structure App (s : Nat) (bytes : Nat) (tag : Tag) (s' : Nat) (es : List (List V)) (s2 : Nat) (ns : List (List V)) (σ : St) (K : V → St → Prop) : Prop where
  h : (tag = .nil ∨ s' = s) ∧ (s2 = s ∨ ns = []) ∧ (es.length + ns.length) * bytes ≤ 140737488355328 ∧ es.length + ns.length ≤ 9223372036854775807 ∧
      match ns, tag with
      | [], _ => K (.slice tag s' es) σ
      | _ :: _, .tip k => σ.live k = true ∧ ∀ t', σ.live t' = false → K (.slice (.tip t') s (es ++ ns)) ((σ.off k).on t')
      | _ :: _, .foreign => False
      | _ :: _, _ => ∀ t', σ.live t' = false → K (.slice (.tip t') s (es ++ ns)) (σ.on t')
structure AppS (bytes : Nat) (tag : Tag) (s' : Nat) (es : List (List V)) (l : List UInt8) (σ : St) (K : V → St → Prop) : Prop where
  h : (tag = .nil ∨ s' = 1) ∧ (es.length + l.length) * bytes ≤ 140737488355328 ∧ es.length + l.length ≤ 9223372036854775807 ∧
      match l, tag with
      | [], _ => K (.slice tag s' es) σ
      | _ :: _, .tip k => σ.live k = true ∧ ∀ t', σ.live t' = false → K (.slice (.tip t') 1 (es ++ byteEls l)) ((σ.off k).on t')
      | _ :: _, .foreign => False
      | _ :: _, _ => ∀ t', σ.live t' = false → K (.slice (.tip t') 1 (es ++ byteEls l)) (σ.on t')

/-- The state behind has all of the state ahead. -/
abbrev Over (σ1 σ : St) : Prop := Forget σ σ1
/-- A slice whose spare room is this call's own, out of the state 'σ1'. -/
def Mine (σ1 σ : St) : Tag → Prop
  | .foreign => False
  | .tip t => σ.live t = true ∧ σ1.live t = false
  | _ => True
theorem Mine.over {σ1 σ σ' : St} {tag : Tag} (h : Mine σ1 σ tag) (o : Over σ σ') : Mine σ1 σ' tag := by
  cases tag with
  | tip t => exact ⟨o.live t h.1, h.2⟩
  | _ => exact h
theorem App.mk' {s bytes : Nat} {tag : Tag} {s' : Nat} {es : List (List V)} {s2 : Nat} {ns : List (List V)} {σ σ1 : St} {K : V → St → Prop} (o : Over σ1 σ) (m : Mine σ1 σ tag) (hs : tag = .nil ∨ s' = s) (hs2 : s2 = s) (hb : (es.length + ns.length) * bytes ≤ 140737488355328) (hb0 : es.length + ns.length ≤ 9223372036854775807)
    (hn : ns ≠ []) (k : ∀ t' σ', Over σ1 σ' → Mine σ1 σ' (.tip t') → σ'.box = σ.box → (∀ t, σ.live t = true → tag ≠ .tip t → σ'.live t = true ∧ t ≠ t') → K (.slice (.tip t') s (es ++ ns)) σ') : App s bytes tag s' es s2 ns σ K := by
  refine ⟨hs, .inl hs2, hb, hb0, ?_⟩
  have on : ∀ t', σ.live t' = false → Over σ1 (σ.on t') ∧ Mine σ1 (σ.on t') (.tip t') ∧ (∀ t, σ.live t = true → (σ.on t').live t = true ∧ t ≠ t') := by
    intro t' ht'
    refine ⟨⟨o.box, fun t h => by simp [St.on, o.live t h]⟩, ⟨by simp [St.on], ?_⟩, fun t h => ⟨by simp [St.on, h], fun e => by subst e; rw [h] at ht'; cases ht'⟩⟩
    cases h : σ1.live t' with
    | false => rfl
    | true => rw [o.live t' h] at ht'; cases ht'
  match ns, hn with
  | n :: ns, _ =>
    cases tag with
    | nil => exact fun t' h => k t' _ (on t' h).1 (on t' h).2.1 rfl (fun t ht _ => (on t' h).2.2 t ht)
    | full => exact fun t' h => k t' _ (on t' h).1 (on t' h).2.1 rfl (fun t ht _ => (on t' h).2.2 t ht)
    | foreign => exact m.elim
    | tip u =>
      refine ⟨m.1, fun t' h => k t' _ ⟨o.box, fun t ht => ?_⟩ ⟨by simp [St.on], (on t' h).2.1.2⟩ rfl (fun t ht hne => ⟨?_, ?_⟩)⟩
      · have hne : t ≠ u := fun e => by subst e; rw [m.2] at ht; cases ht
        simp [St.on, St.off, o.live t ht, hne]
      · have hne' : t ≠ u := fun e => hne (by rw [e])
        simp [St.on, St.off, ht, hne']
      · intro e; subst e; rw [ht] at h; cases h

def BrE (b : Bool) (x y : Prop) : Prop := match b with
  | true => x
  | false => y
theorem BrE.br {b : Bool} {x y : Prop} (h : BrE b x y) : Br b x y := by
  cases b
  · simpa [BrE, Br_true, Br_false] using h
  · simpa [BrE, Br_true, Br_false] using h

def partsB : List (Nat × Nat × Opd) → List V → Bool
  | [], [] => true
  | p :: ps, v :: vs => v.notTup && v.cells.length == p.2.1 && partsB ps vs
  | _, _ => false
theorem partsB_ok : ∀ {ps : List (Nat × Nat × Opd)} {vs : List V}, partsB ps vs = true → partsOK ps vs
  | [], [], _ => trivial
  | p :: ps, v :: vs, h => by
    simp only [partsB, Bool.and_eq_true, beq_iff_eq] at h
    exact ⟨h.1.1, h.1.2, partsB_ok h.2⟩
  | [], _ :: _, h => by cases h
  | _ :: _, [], h => by cases h
def elsB (s : Nat) : List V → Bool
  | [] => true
  | v :: vs => v.notTup && v.cells.length == s && elsB s vs
theorem elsB_ok {s : Nat} : ∀ {vs : List V}, elsB s vs = true → elsOK s vs
  | [], _ => trivial
  | v :: vs, h => by
    simp only [elsB, Bool.and_eq_true, beq_iff_eq] at h
    exact ⟨h.1.1, h.1.2, elsB_ok h.2⟩
structure B2S (es : List (List V)) (K : List UInt8 → Prop) : Prop where
  h : ∃ l, V.bytes es = some l ∧ K l
theorem bytes_byteEls : ∀ l : List UInt8, V.bytes (byteEls l) = some l
  | [] => rfl
  | b :: l => by
    have hb := b.toNat_lt
    have : V.bytes (byteEls (b :: l)) = (V.bytes (byteEls l)).map (UInt8.ofNat ((b.toNat : Int)).toNat :: ·) := by
      show (if 0 ≤ (b.toNat : Int) ∧ (b.toNat : Int) < 256 then _ else none) = _
      rw [if_pos ⟨by omega, by omega⟩]
      rfl
    rw [this, bytes_byteEls l]
    simp
theorem B2S.mk' {l : List UInt8} {K : List UInt8 → Prop} (k : K l) : B2S (byteEls l) K := ⟨l, bytes_byteEls l, k⟩
structure Sure (p : Prop) (q : Prop) : Prop where
  h : p ∧ q
theorem Sure.mk' {p q : Prop} (h : p) (k : q) : Sure p q := ⟨h, k⟩

def sBinE (op : BinOp) (k : IntKind) (x y : Int) (K : V → Prop) : Prop :=
  match op with
  | .add => Arith k (x + y) K
  | .sub => Arith k (x - y) K
  | .mul => Arith k (x * y) K
  | .quo => Sure (y ≠ 0) (Arith k (x.tdiv y) K)
  | .rem => Sure (y ≠ 0) (K (.int k (x.tmod y)))
  | .eql => Test (x = y) K
  | .neq => Test (x ≠ y) K
  | .lss => Test (x < y) K
  | .leq => Test (x ≤ y) K
  | .gtr => Test (y < x) K
  | .geq => Test (y ≤ x) K
  | op => sBin op k x y K
theorem sBinE.bin {op : BinOp} {k : IntKind} {x y : Int} {K : V → Prop} (h : sBinE op k x y K) : sBin op k x y K := by
  cases op <;> simp only [sBinE, sBin] at h ⊢
  case quo => exact ⟨h.h.1, h.h.2.h⟩
  case eql =>
    have := h.h
    rwa [show decide (x = y) = (x == y) from by rw [Bool.eq_iff_iff]; simp] at this
  case neq =>
    have := h.h
    rwa [show decide (x ≠ y) = (x != y) from by rw [Bool.eq_iff_iff]; simp] at this
  all_goals first | exact h | exact h.h
def sBinSE (op : BinOp) (x y : List UInt8) (K : V → Prop) : Prop :=
  match op with
  | .add => Sure (x.length + y.length ≤ 9223372036854775807) (K (.str (x ++ y)))
  | .eql => Test (x = y) K
  | .neq => Test (x ≠ y) K
  | .lss => BTest (Op.bytesLess x y) K
  | op => sBinS op x y K
theorem sBinSE.bin {op : BinOp} {x y : List UInt8} {K : V → Prop} (h : sBinSE op x y K) : sBinS op x y K := by
  cases op <;> simp only [sBinSE, sBinS] at h ⊢
  case eql =>
    have := h.h
    rwa [show decide (x = y) = (x == y) from by rw [Bool.eq_iff_iff]; simp] at this
  case neq =>
    have := h.h
    rwa [show decide (x ≠ y) = (!(x == y)) from by rw [Bool.eq_iff_iff]; simp] at this
  all_goals first | exact h | exact h.h

def sOpE (P : Program) (G : Globs) (o : SOp) (sl : Slots) (σ : St) (K : V → St → Prop) (Kp : V → St → Prop) : Prop :=
  match o with
  | .pick c a b => match c.ev sl G, a.ev sl G, b.ev sl G with
    | some (.bool c), some a, some b => BrE c (K a σ) (K b σ)
    | _, _, _ => False
  | .build zero parts => match evs sl G (parts.map (·.2.2)) with
    | some vs => match partsB parts vs with
      | true => K (.agg (fillL zero (offs parts vs))) σ
      | false => False
    | none => False
  | .mkslice s parts => match evs sl G parts with
    | some vs => match elsB s vs with
      | true => K (.slice .full s (vs.map V.cells)) σ
      | false => False
    | none => False
  | .load agg n a => match a.ev sl G with
    | some (.loc b off) => Load σ b off n fun cs => match mkv agg cs with
      | some v => K v σ
      | none => False
    | some (.ref cs) => RefLoad cs n fun cs => match mkv agg cs with
      | some v => K v σ
      | none => False
    | _ => False
  | .store n a x => match a.ev sl G, x.ev sl G with
    | some (.loc b off), some v => match v.notTup with
      | true => Sure (v.cells.length = n) (Store σ b off v.cells fun σ' => K (.tup []) σ')
      | false => False
    | _, _ => False
  | .bin op x y => match x.ev sl G, y.ev sl G with
    | some (.int k a), some (.int k' b) => match (decide (k = k') || decide (op = .shl) || decide (op = .shr)) with
      | true => sBinE op k a b (K · σ)
      | false => False
    | _, _ => False
  | .bins op x y => match x.ev sl G, y.ev sl G with
    | some (.str a), some (.str b) => sBinSE op a b (K · σ)
    | _, _ => False
  | .binb neg x y => match x.ev sl G, y.ev sl G with
    | some (.bool a), some (.bool b) => BTest (if neg then a != b else a == b) (K · σ)
    | _, _ => False
  | .eqs neg sh x y => match x.ev sl G, y.ev sl G with
    | some (.agg a), some (.agg b) => match shapeL sh a with
      | true => match eqL a b with
        | some r => BTest (if neg then !r else r) (K · σ)
        | none => False
      | false => False
    | _, _ => False
  | .un op x => match op, x.ev sl G with
    | .neg, some (.int k a) => Arith k (0 - a) (K · σ)
    | .not, some (.bool b) => K (.bool !b) σ
    | .xor, some (.int k a) => K (.int k (bitsOp .xor k (if k.signed then -1 else k.max) a)) σ
    | _, _ => False
  | .i2i k x => match x.ev sl G with
    | some (.int _ a) => Arith k a (K · σ)
    | _ => False
  | .b2s x => match x.ev sl G with
    | some (.slice _ s es) => Sure (s = 1 ∨ es = []) (B2S es fun l => K (.str l) σ)
    | _ => False
  | .cuts x lo hi => match x.ev sl G, lo.map (fun y : Opd => y.ev sl G), hi.map (fun y : Opd => y.ev sl G) with
    | some (.str l), some (some (.int _ i)), some (some (.int _ j)) => Cut l i j fun l => K (.str l) σ
    | some (.str l), some (some (.int _ i)), none => CutR l i fun l => K (.str l) σ
    | some (.str l), none, some (some (.int _ j)) => CutL l j fun l => K (.str l) σ
    | some (.str l), none, none => K (.str l) σ
    | _, _, _ => False
  | .slice z x lo hi => match x.ev sl G, lo.map (fun y : Opd => y.ev sl G), hi.map (fun y : Opd => y.ev sl G) with
    | some (.slice _ s es), some (some (.int _ i)), some (some (.int _ j)) => Sure (s = z) (Cut es i j fun es => K (.slice .foreign s es) σ)
    | some (.slice _ s es), some (some (.int _ i)), none => Sure (s = z) (CutR es i fun es => K (.slice .foreign s es) σ)
    | some (.slice _ s es), none, some (some (.int _ j)) => Sure (s = z) (CutL es j fun es => K (.slice .foreign s es) σ)
    | some (.slice t s es), none, none => Sure (s = z) (K (.slice t s es) σ)
    | _, _, _ => False
  | .iaddr s x i => match x.ev sl G, i.ev sl G with
    | some (.slice _ s' es), some (.int _ i) => Sure (s' = s ∨ es = []) (IdxE es i fun e => K (.ref e) σ)
    | _, _ => False
  | .iaddrA s len x i => match x.ev sl G, i.ev sl G with
    | some (.loc b o), some (.int _ i) => Sure (0 ≤ i ∧ i < len) (K (.loc b (o + i.toNat * s)) σ)
    | some (.ref cs), some (.int _ i) => Sure (0 ≤ i ∧ i < len) (K (.ref (cs.drop (i.toNat * s))) σ)
    | _, _ => False
  | .idxs x i => match x.ev sl G, i.ev sl G with
    | some (.str l), some (.int _ i) => Idx l i fun b => K (.int .u8 b.toNat) σ
    | _, _ => False
  | .call f args => match evs sl G args with
    | some vs => CallK P G f vs σ K Kp
    | none => False
  | .callv x args => match x.ev sl G, evs sl G args with
    | some (.func f a b), some vs => CallK P G f (a ++ vs ++ b) σ K Kp
    | _, _ => False
  | .append s bytes a b => match a.ev sl G, b.ev sl G with
    | some (.slice tag s' es), some (.slice _ s2 ns) => App s bytes tag s' es s2 ns σ K
    | _, _ => False
  | .appends bytes a b => match a.ev sl G, b.ev sl G with
    | some (.slice tag s' es), some (.str l) => AppS bytes tag s' es l σ K
    | _, _ => False
  | o => sOp P G o sl σ K Kp

theorem sOpE.op {P : Program} {G : Globs} {o : SOp} {sl : Slots} {σ : St} {K Kp : V → St → Prop} (h : sOpE P G o sl σ K Kp) : sOp P G o sl σ K Kp := by
  cases o <;> simp only [sOpE] at h
  case mv => exact h
  all_goals first | exact h | skip
  all_goals simp only [sOp]
  case pick => 
    split at h
    · rename_i e1 e2 e3; simp only [e1, e2, e3]; exact h.br
    · exact h.elim
  case build => 
    split at h
    · rename_i e1
      split at h
      · rename_i hp; simp only [e1]; exact ⟨partsB_ok hp, h⟩
      · exact h.elim
    · exact h.elim
  case mkslice => 
    split at h
    · rename_i e1
      split at h
      · rename_i hp; simp only [e1]; exact ⟨elsB_ok hp, h⟩
      · exact h.elim
    · exact h.elim
  case load =>
    split at h
    · rename_i e
      obtain ⟨cs, h1, h2, h3⟩ := h.h
      simp only [e, Option.bind_some, St.at, h1, Option.map_some, List.length_drop]
      exact ⟨by omega, h3⟩
    · rename_i e
      obtain ⟨h2, h3⟩ := h.h
      simp only [e, Option.bind_some, St.at]
      exact ⟨h2, h3⟩
    · exact h.elim
  case store =>
    split at h
    · rename_i e1 e2
      split at h
      · rename_i hn
        obtain ⟨hl, hs⟩ := h.h
        obtain ⟨cs, h1, h2, h3⟩ := hs.h
        simp only [e1, e2, h1]
        exact ⟨hn, hl, by omega, h3⟩
      · exact h.elim
    · exact h.elim
  case bin =>
    split at h
    · rename_i e1 e2
      split at h
      · rename_i hd
        simp only [Bool.or_eq_true, decide_eq_true_eq] at hd
        simp only [e1, e2]
        exact ⟨by rcases hd with (hd | hd) | hd <;> simp [hd], h.bin⟩
      · exact h.elim
    · exact h.elim
  case bins =>
    split at h
    · rename_i e1 e2; simp only [e1, e2]; exact h.bin
    · exact h.elim
  case binb =>
    split at h
    · rename_i e1 e2; simp only [e1, e2]; exact h.h
    · exact h.elim
  case eqs =>
    split at h
    · rename_i e1 e2
      split at h
      · rename_i hs
        split at h
        · rename_i e3; simp only [e1, e2, e3]; exact ⟨hs, h.h⟩
        · exact h.elim
      · exact h.elim
    · exact h.elim
  case un =>
    split at h
    · rename_i e1; simp only [e1]; exact h.h
    · rename_i e1; simp only [e1]; exact h
    · rename_i e1; simp only [e1]; exact h
    · exact h.elim
  case i2i =>
    split at h
    · rename_i e1; simp only [e1]; exact h.h
    · exact h.elim
  case b2s =>
    split at h
    · rename_i e1
      obtain ⟨h1, h2⟩ := h.h
      obtain ⟨l, h3, h4⟩ := h2.h
      simp only [e1, h3]
      exact ⟨h1, h4⟩
    · exact h.elim
  case cuts =>
    split at h
    · rename_i e1 e2 e3; simp only [e1, e2, e3]; exact h.h
    · rename_i e1 e2 e3; simp only [e1, e2, e3]; exact h.h
    · rename_i e1 e2 e3; simp only [e1, e2, e3]; exact h.h
    · rename_i e1 e2 e3; simp only [e1, e2, e3]; exact h
    · exact h.elim
  case slice =>
    split at h
    · rename_i e1 e2 e3; simp only [e1, e2, e3]; exact ⟨h.h.1, h.h.2.h⟩
    · rename_i e1 e2 e3; simp only [e1, e2, e3]; exact ⟨h.h.1, h.h.2.h⟩
    · rename_i e1 e2 e3; simp only [e1, e2, e3]; exact ⟨h.h.1, h.h.2.h⟩
    · rename_i e1 e2 e3; simp only [e1, e2, e3]; exact h.h
    · exact h.elim
  case iaddr =>
    split at h
    · rename_i e1 e2
      obtain ⟨h1, h2⟩ := h.h
      obtain ⟨h3, e, h4, h5⟩ := h2.h
      simp only [e1, e2, h4]
      exact ⟨h1, h3, h5⟩
    · exact h.elim
  case iaddrA =>
    split at h
    · rename_i e1 e2; simp only [e1, e2]; exact ⟨h.h.1.1, h.h.1.2, h.h.2⟩
    · rename_i e1 e2; simp only [e1, e2]; exact ⟨h.h.1.1, h.h.1.2, h.h.2⟩
    · exact h.elim
  case idxs =>
    split at h
    · rename_i e1 e2
      obtain ⟨h3, e, h4, h5⟩ := h.h
      simp only [e1, e2, h4]
      exact ⟨h3, h5⟩
    · exact h.elim
  case call =>
    split at h
    · rename_i e1; simp only [e1]; exact h.h
    · exact h.elim
  case callv =>
    split at h
    · rename_i e1 e2; simp only [e1, e2]; exact h.h
    · exact h.elim
  case append =>
    split at h
    · rename_i e1 e2; simp only [e1, e2]; exact h.h
    · exact h.elim
  case appends =>
    split at h
    · rename_i e1 e2; simp only [e1, e2]; exact h.h
    · exact h.elim

def sOperE (P : Program) (G : Globs) (o : SOper) (sl : Slots) (σ : St) (K : Slots → St → Prop) (Kp : V → St → Prop) : Prop :=
  match o.guard with
  | none => sOpE P G o.op sl σ (fun v σ' => K (putD sl o.dst v) σ') Kp
  | some (g, want) => match sl g with
    | some (.bool b) => BrE (b == want) (sOpE P G o.op sl σ (fun v σ' => K (putD sl o.dst v) σ') Kp) (K (putD sl o.dst (.tup [])) σ)
    | some (.tup []) => K (putD sl o.dst (.tup [])) σ
    | _ => False
def sOpsE (P : Program) (G : Globs) (Kp : V → St → Prop) (K : Slots → St → Prop) : List SOper → Slots → St → Prop
  | [], sl, σ => K sl σ
  | o :: r, sl, σ => sOperE P G o sl σ (sOpsE P G Kp K r) Kp
theorem sOpsE.ops {P : Program} {G : Globs} {Kp : V → St → Prop} {K K' : Slots → St → Prop} (hK : ∀ sl σ, K sl σ → K' sl σ) : ∀ {l : List SOper} {sl : Slots} {σ : St}, sOpsE P G Kp K l sl σ → sOps P G Kp K' l sl σ
  | [], _, _, h => hK _ _ h
  | o :: r, sl, σ, h => by
    simp only [sOpsE, sOperE] at h
    simp only [sOps, sOper]
    cases hg : o.guard with
    | none =>
      rw [hg] at h
      exact sOp_mono (fun v σ' h => sOpsE.ops hK h) h.op
    | some gw =>
      obtain ⟨g, want⟩ := gw
      rw [hg] at h
      simp only at h ⊢
      split at h
      · rename_i e1
        have := h.br
        simp only [e1]
        exact ⟨fun e => sOp_mono (fun v σ' h => sOpsE.ops hK h) (this.1 e).op, fun e => sOpsE.ops hK (this.2 e)⟩
      · rename_i e1
        simp only [e1]
        exact sOpsE.ops hK h
      · exact h.elim

/-- A loop: what holds ahead of each round, counted down. -/
structure LoopK (body : (SExit → Slots → St → Prop) → Slots → St → Prop) (Q : SExit → Slots → St → Prop) (sl : Slots) (σ : St) : Prop where
  h : ∃ (I : Nat → Slots → St → Prop) (n : Nat), I n sl σ ∧ ∀ n sl σ, I n sl σ → body (fun e sl' σ' => match e with
    | .normal => ∃ m σ'', m < n ∧ Forget σ' σ'' ∧ I m sl' σ''
    | .exit id => Q (.exit id) sl' σ'
    | .ret => Q .ret sl' σ'
    | .pan v => Q (.pan v) sl' σ') sl σ

def swpE (P : Program) (G : Globs) : SC → (SExit → Slots → St → Prop) → Slots → St → Prop
  | .skip, Q, sl, σ => Q .normal sl σ
  | .ret, Q, sl, σ => Q .ret sl σ
  | .exit id, Q, sl, σ => Q (.exit id) sl σ
  | .seq a b, Q, sl, σ => swpE P G a (fun e sl σ => match e with
    | .normal => swpE P G b Q sl σ
    | .exit id => Q (.exit id) sl σ
    | .ret => Q .ret sl σ
    | .pan v => Q (.pan v) sl σ) sl σ
  | .cond c ks a b, Q, sl, σ => match c.ev sl G with
    | some (.bool t) => BrE t (swpE P G a Q (keepO ks sl) σ) (swpE P G b Q (keepO ks sl) σ)
    | _ => False
  | .block id c, Q, sl, σ => swpE P G c (fun e sl σ => match e with
    | .normal => Q .normal sl σ
    | .exit id' => if id' = id then Q .normal sl σ else Q (.exit id') sl σ
    | .ret => Q .ret sl σ
    | .pan v => Q (.pan v) sl σ) sl σ
  | .loop c, Q, sl, σ => LoopK (swpE P G c) Q sl σ
  | .region ops ks, Q, sl, σ => sOpsE P G (fun v σ' => Q (.pan v) (fun _ => none) σ') (fun sl σ => Q .normal (keepO ks sl) σ) ops sl σ
  | .stop, _, _, _ => False

theorem swpE.swp {P : Program} {G : Globs} : ∀ {sc : SC} {Q Q' : SExit → Slots → St → Prop} {sl : Slots} {σ : St}, (∀ e sl σ, Q e sl σ → Q' e sl σ) → (∀ v, Q (.pan v) = Q' (.pan v)) → swpE P G sc Q sl σ → swp P G sc Q' sl σ
  | .skip, Q, Q', sl, σ, hQ, hP, h => hQ _ _ _ h
  | .ret, Q, Q', sl, σ, hQ, hP, h => hQ _ _ _ h
  | .exit id, Q, Q', sl, σ, hQ, hP, h => hQ _ _ _ h
  | .seq a b, Q, Q', sl, σ, hQ, hP, h => by
    simp only [swpE] at h
    simp only [Shadow.swp]
    refine swpE.swp (sc := a) ?_ ?_ h
    rotate_left
    · intro v; exact hP v
    intro e sl σ h
    cases e with
    | normal => exact swpE.swp (sc := b) hQ hP h
    | exit id => exact hQ _ _ _ h
    | ret => exact hQ _ _ _ h
    | pan v => exact hQ _ _ _ h
  | .cond c ks a b, Q, Q', sl, σ, hQ, hP, h => by
    simp only [swpE] at h
    simp only [Shadow.swp]
    split at h
    · rename_i e1
      have := h.br
      simp only [e1]
      exact ⟨fun e => swpE.swp (sc := a) hQ hP (this.1 e), fun e => swpE.swp (sc := b) hQ hP (this.2 e)⟩
    · exact h.elim
  | .block id c, Q, Q', sl, σ, hQ, hP, h => by
    simp only [swpE] at h
    simp only [Shadow.swp]
    refine swpE.swp (sc := c) ?_ ?_ h
    rotate_left
    · intro v; exact hP v
    intro e sl σ h
    cases e with
    | normal => exact hQ _ _ _ h
    | exit id' =>
      simp only at h ⊢
      split at h
      · rename_i e1; rw [if_pos e1]; exact hQ _ _ _ h
      · rename_i e1; rw [if_neg e1]; exact hQ _ _ _ h
    | ret => exact hQ _ _ _ h
    | pan v => exact hQ _ _ _ h
  | .loop c, Q, Q', sl, σ, hQ, hP, h => by
    obtain ⟨I, n, h0, hs⟩ := (show LoopK _ _ _ _ from h).h
    refine ⟨I, n, h0, fun n sl σ hI => ?_⟩
    refine swpE.swp (sc := c) ?_ ?_ (hs n sl σ hI)
    rotate_left
    · intro v; exact hP v
    intro e sl σ h
    cases e with
    | normal => exact h
    | exit id => exact hQ _ _ _ h
    | ret => exact hQ _ _ _ h
    | pan v => exact hQ _ _ _ h
  | .region ops ks, Q, Q', sl, σ, hQ, hP, h => by
    simp only [swpE] at h
    simp only [Shadow.swp]
    simp only [hP] at h
    exact sOpsE.ops (fun _ _ h => hQ _ _ _ h) h
  | .stop, Q, Q', sl, σ, hQ, hP, h => by
    simp only [swpE] at h

structure Ret (v : V) (σ : St) (Post : SEnd → St → Prop) : Prop where
  h : ∃ r σ', Weak v r ∧ Forget σ σ' ∧ Post (.ret r) σ'
theorem Ret.mk' {v : V} {σ : St} {Post : SEnd → St → Prop} (h : Post (.ret v) σ) : Ret v σ Post := ⟨v, σ, .refl _, .refl _, h⟩
theorem Ret.weak {v r : V} {σ σ' : St} {Post : SEnd → St → Prop} (hw : Weak v r) (hf : Forget σ σ') (h : Post (.ret r) σ') : Ret v σ Post := ⟨r, σ', hw, hf, h⟩
structure Pan (v : V) (σ : St) (Post : SEnd → St → Prop) : Prop where
  h : ∃ r σ', Weak v r ∧ Forget σ σ' ∧ Post (.pan r) σ'
def resK (sl : Slots) (σ : St) : List (Nat × Option (Bool × Nat)) → (List V → Prop) → Prop
  | [], K => K []
  | (t, none) :: r, K => match sl t with
    | some v => resK sl σ r (fun vs => K (v :: vs))
    | none => False
  | (t, some (g, m)) :: r, K => match sl t with
    | some (.loc b off) => Load σ b off m (fun cs => match mkv g cs with
      | some v => resK sl σ r (fun vs => K (v :: vs))
      | none => False)
    | _ => False
abbrev wrapRes : List V → V
  | [v] => v
  | vs => .tup vs
theorem resK_sound {sl : Slots} {σ : St} : ∀ {rs : List (Nat × Option (Bool × Nat))} {K : List V → Prop}, resK sl σ rs K → ∃ vs, sResL sl σ rs = some vs ∧ K vs
  | [], K, h => ⟨[], rfl, h⟩
  | (t, none) :: r, K, h => by
    simp only [resK] at h
    split at h
    · rename_i v e
      obtain ⟨vs, h1, h2⟩ := resK_sound h
      exact ⟨v :: vs, by simp only [sResL, sRes1, e, h1], h2⟩
    · exact h.elim
  | (t, some (g, m)) :: r, K, h => by
    simp only [resK] at h
    split at h
    · rename_i b off e
      obtain ⟨cs, h1, h2, h3⟩ := h.h
      split at h3
      · rename_i v hv
        obtain ⟨vs, h4, h5⟩ := resK_sound h3
        refine ⟨v :: vs, ?_, h5⟩
        simp only [sResL, sRes1, e, Option.bind_some, St.at, h1, Option.map_some, List.length_drop]
        rw [if_pos (by omega), hv]
        simp only [h4]
      · exact h3.elim
    · exact h.elim
theorem wrapRes_sRes {sl : Slots} {σ : St} {rs : List (Nat × Option (Bool × Nat))} {vs : List V} (h : sResL sl σ rs = some vs) : sRes sl σ rs = some (wrapRes vs) := by
  unfold sRes
  rw [h]
  match vs with
  | [] => rfl
  | [v] => rfl
  | v :: u :: vs => rfl
def retE (rs : List (Nat × Option (Bool × Nat))) (Post : SEnd → St → Prop) : SExit → Slots → St → Prop
  | .normal, sl, σ => resK sl σ rs fun vs => Ret (wrapRes vs) σ Post
  | .ret, sl, σ => resK sl σ rs fun vs => Ret (wrapRes vs) σ Post
  | .pan v, _, σ => ∃ r σ', Weak v r ∧ Forget σ σ' ∧ Post (.pan r) σ'
  | .exit _, _, _ => False

/-- The loaded function 'f' has this shadow code. -/
structure IsCode (P : Program) (f : FuncId) (sc : SC) (rs : List (Nat × Option (Bool × Nat))) (n : Nat) : Prop where
  h : ∃ fn c, P.funcs[f]? = some fn ∧ (fn.name == "runtime.NumGoroutine") = false ∧ fn.body = some c ∧ tr P fn.ntmps c = some (strip sc) ∧ trRes P fn.results.toList = some rs ∧ fn.ntmps = n
theorem IsCode.mk' {P : Program} {f : FuncId} {sc : SC} {rs : List (Nat × Option (Bool × Nat))} {n : Nat} {fn : Func} (h1 : P.funcs[f]? = some fn) (h2 : (fn.name == "runtime.NumGoroutine") = false)
    (h3 : fn.body.bind (tr P fn.ntmps) = some (strip sc)) (h4 : trRes P fn.results.toList = some rs) (h5 : fn.ntmps = n) : IsCode P f sc rs n := by
  rw [Option.bind_eq_some_iff] at h3
  obtain ⟨c, h3, h6⟩ := h3
  exact ⟨fn, c, h1, h2, h3, h6, h4, h5⟩
theorem IsCode.call {P : Program} {G : Globs} (hm : P.follows .mixedOrders = true) {f : FuncId} {sc : SC} {rs : List (Nat × Option (Bool × Nat))} {n : Nat} {args : List V} {σ : St} {Post : SEnd → St → Prop} (hc : IsCode P f sc rs n) (hl : args.length ≤ n)
    (h : swpE P G sc (retE rs Post) (argS 0 args) σ) : SCall P G f args σ Post := by
  obtain ⟨fn, c, h1, h2, h3, h4, h5, h6⟩ := hc
  subst h6
  refine SCall.of_code hm h1 h2 h3 h4 h5 hl (swpE.swp (Q := retE rs Post) (Q' := retQ rs Post) ?_ (fun v => rfl) h)
  intro e sl σ h
  cases e with
  | normal =>
    obtain ⟨vs, h1, h2⟩ := resK_sound (show resK sl σ rs fun vs => Ret (wrapRes vs) σ Post from h)
    simp only [retQ, wrapRes_sRes h1]
    exact h2.h
  | ret =>
    obtain ⟨vs, h1, h2⟩ := resK_sound (show resK sl σ rs fun vs => Ret (wrapRes vs) σ Post from h)
    simp only [retQ, wrapRes_sRes h1]
    exact h2.h
  | pan v => exact h
  | exit id => exact h

end Go.Shadow
