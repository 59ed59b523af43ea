/- THE SHADOW LOGIC, part 3: shadow operations, and what they mean. -/
import Derived.Test.YtgebphnfnmeaaaaGreatDoorSh2
namespace Go.Shadow
open Go Go.RowKit

inductive SEnd where
  | ret (v : V)
  | pan (v : V)

/-- What a call of function f does, in shadow terms. -/
def SCall (P : Program) (G : Globs) (f : FuncId) (args : List V) (σ : St) (Post : SEnd → St → Prop) : Prop :=
  ∀ (w0 : World) (γ : Gh) (w : World) (xs : Array Value), Inv G w0 γ σ w → RL w0.heap.size γ w args xs.toList →
    let R' : Ending → World → Prop := fun e w' => ∃ γ' σ', Ext w0.heap.size γ w γ' w' ∧ Inv G w0 γ' σ' w' ∧ ∃ r x, R w0.heap.size γ' w' r x ∧
      ((e = .returned x ∧ Post (.ret r) σ') ∨ (e = .panicked [{ v := x, recovered := false }] ∧ Post (.pan r) σ'))
    ((callFunc f xs).run P w = .ok (.enter f xs) w ∧ Calls P f xs w R') ∨ ∃ x w', (callFunc f xs).run P w = .ok (.value x) w' ∧ R' (.returned x) w'

theorem SCall.mono {P : Program} {G : Globs} {f : FuncId} {args : List V} {σ : St} {Post Post' : SEnd → St → Prop} (h : SCall P G f args σ Post) (hp : ∀ e σ', Post e σ' → Post' e σ') : SCall P G f args σ Post' := by
  intro w0 γ w xs hI hr
  rcases h w0 γ w xs hI hr with ⟨h1, h2⟩ | ⟨x, w', h1, γ', σ', h2, h3, r, y, h4, h5⟩
  · refine .inl ⟨h1, h2.mono ?_⟩
    rintro e w' ⟨γ', σ', h2, h3, r, y, h4, h5⟩
    exact ⟨γ', σ', h2, h3, r, y, h4, h5.imp (fun h => ⟨h.1, hp _ _ h.2⟩) (fun h => ⟨h.1, hp _ _ h.2⟩)⟩
  · exact .inr ⟨x, w', h1, γ', σ', h2, h3, r, y, h4, h5.imp (fun h => ⟨h.1, hp _ _ h.2⟩) (fun h => ⟨h.1, hp _ _ h.2⟩)⟩

/-- Both ways of a test. -/
def Br (b : Bool) (x y : Prop) : Prop := (b = true → x) ∧ (b = false → y)
theorem Br.mk {b : Bool} {x y : Prop} (h : b = true → x) (k : b = false → y) : Br b x y := ⟨h, k⟩
theorem Br_true {x y : Prop} : Br true x y = x := by simp [Br]
theorem Br_false {x y : Prop} : Br false x y = y := by simp [Br]

inductive Opd where
  | t (n : Nat)
  | c (v : V)
  | g (n : Nat)
  | f (n : FuncId)

abbrev Slots := Nat → Option V
def Slots.upd (sl : Slots) (d : Nat) (v : V) : Slots := fun t => if t = d then some v else sl t

def Opd.ev (sl : Slots) (G : Globs) : Opd → Option V
  | .t n => sl n
  | .c v => some v
  | .g n => (G n).map .ref
  | .f n => some (.func n [] [])

def evs (sl : Slots) (G : Globs) : List Opd → Option (List V)
  | [] => some []
  | x :: r => match x.ev sl G, evs sl G r with
    | some v, some vs => some (v :: vs)
    | _, _ => none

def V.notTup : V → Bool
  | .tup _ => false
  | _ => true
/-- The cells of a value. -/
def V.cells : V → List V
  | .agg cs => cs
  | v => [v]
/-- A value out of cells. -/
def mkv (agg : Bool) (cs : List V) : Option V := if agg then some (.agg cs) else cs.head?
/-- The cells at an address. -/
def St.at (σ : St) : V → Option (List V)
  | .ref cs => some cs
  | .loc b off => (σ.box b).map (·.drop off)
  | _ => none
def setL (cs : List V) (off : Nat) : List V → List V
  | [] => cs
  | v :: r => setL (cs.set off v) (off + 1) r
def fillL (cs : List V) : List (Nat × List V) → List V
  | [] => cs
  | (off, vs) :: r => fillL (setL cs off vs) r

inductive SOp where
  | mv (x : Opd)
  | pick (c a b : Opd)
  | alloc (zero : List V)
  | box (x : Opd)
  | build (zero : List V) (parts : List (Nat × Nat × Opd))
  | mkslice (s : Nat) (parts : List Opd)
  | load (agg : Bool) (n : Nat) (a : Opd)
  | store (n : Nat) (a x : Opd)
  | nilchk (x : Opd)
  | bin (op : BinOp) (x y : Opd)
  | bins (op : BinOp) (x y : Opd)
  | binb (neg : Bool) (x y : Opd)
  | eqs (neg : Bool) (sh : List Nat) (x y : Opd)
  | eqn (neg : Bool) (x y : Opd)
  | un (op : UnOp) (x : Opd)
  | i2i (k : IntKind) (x : Opd)
  | b2s (x : Opd)
  | mkif (t : TypeId) (x : Opd)
  | mkfn (f : FuncId) (first cap : List Opd)
  | slice (s : Nat) (x : Opd) (lo hi : Option Opd)
  | cuts (x : Opd) (lo hi : Option Opd)
  | faddr (off : Nat) (x : Opd)
  | field (agg : Bool) (n off : Nat) (x : Opd)
  | iaddr (s : Nat) (x i : Opd)
  | iaddrA (s len : Nat) (x i : Opd)
  | idxs (x i : Opd)
  | idxa (agg : Bool) (s len : Nat) (x i : Opd)
  | extract (i : Nat) (x : Opd)
  | call (f : FuncId) (args : List Opd)
  | callv (x : Opd) (args : List Opd)
  | len (str : Bool) (x : Opd)
  | mm (max : Bool) (xs : List Opd)
  | append (s bytes : Nat) (a b : Opd)
  | appends (bytes : Nat) (a b : Opd)
  | panic (x : Opd)
  | s2b (x : Opd)
  | s2s (x : Opd)
  | tassert (t : TypeId) (zero : List V) (agg : Bool) (ok : Bool) (x : Opd)

def bitsOp (op : BinOp) (k : IntKind) (x y : Int) : Int :=
  let a := BitVec.ofInt k.bits x
  let b := BitVec.ofInt k.bits y
  k.wrap (match op with
  | .and => (a &&& b).toNat
  | .or => (a ||| b).toNat
  | .xor => (a ^^^ b).toNat
  | _ => (a &&& ~~~b).toNat)

def sBin (op : BinOp) (k : IntKind) (x y : Int) (K : V → Prop) : Prop :=
  match op with
  | .add => K (.int k (k.wrap (x + y)))
  | .sub => K (.int k (k.wrap (x - y)))
  | .mul => K (.int k (k.wrap (x * y)))
  | .quo => y ≠ 0 ∧ K (.int k (k.wrap (x.tdiv y)))
  | .rem => y ≠ 0 ∧ K (.int k (x.tmod y))
  | .eql => K (.bool (x == y))
  | .neq => K (.bool (x != y))
  | .lss => K (.bool (decide (x < y)))
  | .leq => K (.bool (decide (x ≤ y)))
  | .gtr => K (.bool (decide (x > y)))
  | .geq => K (.bool (decide (x ≥ y)))
  | .and => K (.int k (bitsOp .and k x y))
  | .or => K (.int k (bitsOp .or k x y))
  | .xor => K (.int k (bitsOp .xor k x y))
  | .andNot => K (.int k (bitsOp .andNot k x y))
  | .shl => 0 ≤ y ∧ K (.int k (k.wrap (x * 2 ^ min y.toNat k.bits)))
  | .shr => 0 ≤ y ∧ K (.int k (x.fdiv (2 ^ min y.toNat k.bits)))

def sBinS (op : BinOp) (x y : List UInt8) (K : V → Prop) : Prop :=
  match op with
  | .add => x.length + y.length ≤ 9223372036854775807 ∧ K (.str (x ++ y))
  | .eql => K (.bool (x == y))
  | .neq => K (.bool (!(x == y)))
  | .lss => K (.bool (Op.bytesLess x y))
  | .leq => K (.bool (Op.bytesLess x y || x == y))
  | .gtr => K (.bool !(Op.bytesLess x y || x == y))
  | .geq => K (.bool !(Op.bytesLess x y))
  | _ => False

/-- '==' of two cells that are whole numbers, bools or strings. -/
def eqV : V → V → Option Bool
  | .int k x, .int k' y => if k = k' then some (x == y) else none
  | .bool x, .bool y => some (x == y)
  | .str x, .str y => some (x == y)
  | _, _ => none
def eqL : List V → List V → Option Bool
  | [], [] => some true
  | x :: xs, y :: ys => match eqV x y, eqL xs ys with
    | some a, some b => some (a && b)
    | _, _ => none
  | _, _ => none
def leafS : Nat → V → Bool
  | 0, .int _ _ => true
  | 1, .bool _ => true
  | 2, .str _ => true
  | _, _ => false
def shapeL : List Nat → List V → Bool
  | [], [] => true
  | s :: r, x :: xs => leafS s x && shapeL r xs
  | _, _ => false
/-- A value against nil (the second one). -/
def isNil : V → V → Option Bool
  | .nilptr, .nilptr | .nilfunc, .nilfunc | .nilIface, .nilIface | .nilmap, .nilmap => some true
  | .loc _ _, .nilptr | .ref _, .nilptr | .func _ _ _, .nilfunc | .iface _ _, .nilIface | .map _, .nilmap => some false
  | .slice .nil _ _, .slice .nil _ _ => some true
  | .slice .foreign _ (_ :: _), .slice .nil _ _ | .slice .full _ (_ :: _), .slice .nil _ _ | .slice (.tip _) _ (_ :: _), .slice .nil _ _ => some false
  | _, _ => none

def V.bytes : List (List V) → Option (List UInt8)
  | [] => some []
  | [.int .u8 n] :: r => if 0 ≤ n ∧ n < 256 then (V.bytes r).map (UInt8.ofNat n.toNat :: ·) else none
  | _ => none
def byteEls (l : List UInt8) : List (List V) := l.map fun b => [.int .u8 b.toNat]

def maxOf : Int → List V → Option Int
  | m, [] => some m
  | m, .int .i64 y :: r => maxOf (if y > m then y else m) r
  | _, _ => none
def minOf : Int → List V → Option Int
  | m, [] => some m
  | m, .int .i64 y :: r => minOf (if y < m then y else m) r
  | _, _ => none

def partsOK : List (Nat × Nat × Opd) → List V → Prop
  | [], [] => True
  | p :: ps, v :: vs => v.notTup = true ∧ v.cells.length = p.2.1 ∧ partsOK ps vs
  | _, _ => False
def offs : List (Nat × Nat × Opd) → List V → List (Nat × List V)
  | p :: ps, v :: vs => (p.1, v.cells) :: offs ps vs
  | _, _ => []
def elsOK (s : Nat) : List V → Prop
  | [] => True
  | v :: vs => v.notTup = true ∧ v.cells.length = s ∧ elsOK s vs

def sOp (P : Program) (G : Globs) (o : SOp) (sl : Slots) (σ : St) (K : V → St → Prop) (Kp : V → St → Prop) : Prop :=
  match o with
  | .mv x => match x.ev sl G with
    | some v => K v σ
    | none => False
  | .pick c a b => match c.ev sl G, a.ev sl G, b.ev sl G with
    | some (.bool c), some a, some b => Br c (K a σ) (K b σ)
    | _, _, _ => False
  | .alloc zero => ∀ b, σ.box b = none → K (.loc b 0) (σ.put b zero)
  | .box x => match x.ev sl G with
    | some v => v.notTup = true ∧ ∀ b, σ.box b = none → K (.loc b 0) (σ.put b v.cells)
    | none => False
  | .build zero parts => match evs sl G (parts.map (·.2.2)) with
    | some vs => (partsOK parts vs) ∧ K (.agg (fillL zero (offs parts vs))) σ
    | none => False
  | .mkslice s parts => match evs sl G parts with
    | some vs => elsOK s vs ∧ K (.slice .full s (vs.map V.cells)) σ
    | none => False
  | .load agg n a => match (a.ev sl G).bind σ.at with
    | some cs => n ≤ cs.length ∧ match mkv agg (cs.take n) with
      | some v => K v σ
      | none => False
    | none => False
  | .store n a x => match a.ev sl G, x.ev sl G with
    | some (.loc b off), some v => match σ.box b with
      | some cs => v.notTup = true ∧ v.cells.length = n ∧ off + n ≤ cs.length ∧ K (.tup []) (σ.put b (setL cs off v.cells))
      | none => False
    | _, _ => False
  | .nilchk x => match x.ev sl G with
    | some (.loc b o) => K (.loc b o) σ
    | some (.ref cs) => K (.ref cs) σ
    | some (.func f a b) => K (.func f a b) σ
    | _ => False
  | .bin op x y => match x.ev sl G, y.ev sl G with
    | some (.int k a), some (.int k' b) => (k = k' ∨ op = .shl ∨ op = .shr) ∧ sBin op k a b (K · σ)
    | _, _ => False
  | .bins op x y => match x.ev sl G, y.ev sl G with
    | some (.str a), some (.str b) => sBinS op a b (K · σ)
    | _, _ => False
  | .binb neg x y => match x.ev sl G, y.ev sl G with
    | some (.bool a), some (.bool b) => K (.bool (if neg then a != b else a == b)) σ
    | _, _ => False
  | .eqs neg sh x y => match x.ev sl G, y.ev sl G with
    | some (.agg a), some (.agg b) => shapeL sh a = true ∧ match eqL a b with
      | some r => K (.bool (if neg then !r else r)) σ
      | none => False
    | _, _ => False
  | .eqn neg x y => match x.ev sl G, y.ev sl G with
    | some a, some b => match isNil a b with
      | some r => K (.bool (if neg then !r else r)) σ
      | none => False
    | _, _ => False
  | .un op x => match op, x.ev sl G with
    | .neg, some (.int k a) => K (.int k (k.wrap (0 - a))) σ
    | .not, some (.bool b) => K (.bool !b) σ
    | .xor, some (.int k a) => K (.int k (bitsOp .xor k (if k.signed then -1 else k.max) a)) σ
    | _, _ => False
  | .i2i k x => match x.ev sl G with
    | some (.int _ a) => K (.int k (k.wrap a)) σ
    | _ => False
  | .b2s x => match x.ev sl G with
    | some (.slice _ s es) => (s = 1 ∨ es = []) ∧ match V.bytes es with
      | some l => K (.str l) σ
      | none => False
    | _ => False
  | .s2b x => match x.ev sl G with
    | some (.str l) => K (.slice .foreign 1 (byteEls l)) σ
    | _ => False
  | .s2s x => match x.ev sl G with
    | some (.str l) => K (.str l) σ
    | _ => False
  | .mkif t x => match x.ev sl G with
    | some v => K (.iface t v) σ
    | none => False
  | .mkfn f first cap => match evs sl G first, evs sl G cap with
    | some a, some b => K (.func f a b) σ
    | _, _ => False
  | .cuts x lo hi => match x.ev sl G, lo.map (fun y : Opd => y.ev sl G), hi.map (fun y : Opd => y.ev sl G) with
    | some (.str l), some (some (.int _ i)), some (some (.int _ j)) => 0 ≤ i ∧ i ≤ j ∧ j ≤ l.length ∧ K (.str ((l.take j.toNat).drop i.toNat)) σ
    | some (.str l), some (some (.int _ i)), none => 0 ≤ i ∧ i ≤ l.length ∧ K (.str (l.drop i.toNat)) σ
    | some (.str l), none, some (some (.int _ j)) => 0 ≤ j ∧ j ≤ l.length ∧ K (.str (l.take j.toNat)) σ
    | some (.str l), none, none => K (.str l) σ
    | _, _, _ => False
  | .slice z x lo hi => match x.ev sl G, lo.map (fun y : Opd => y.ev sl G), hi.map (fun y : Opd => y.ev sl G) with
    | some (.slice _ s es), some (some (.int _ i)), some (some (.int _ j)) => s = z ∧ 0 ≤ i ∧ i ≤ j ∧ j ≤ es.length ∧ K (.slice .foreign s ((es.take j.toNat).drop i.toNat)) σ
    | some (.slice _ s es), some (some (.int _ i)), none => s = z ∧ 0 ≤ i ∧ i ≤ es.length ∧ K (.slice .foreign s (es.drop i.toNat)) σ
    | some (.slice _ s es), none, some (some (.int _ j)) => s = z ∧ 0 ≤ j ∧ j ≤ es.length ∧ K (.slice .foreign s (es.take j.toNat)) σ
    | some (.slice t s es), none, none => s = z ∧ K (.slice t s es) σ
    | _, _, _ => False
  | .faddr off x => match x.ev sl G with
    | some (.loc b o) => K (.loc b (o + off)) σ
    | some (.ref cs) => K (.ref (cs.drop off)) σ
    | _ => False
  | .field agg n off x => match x.ev sl G with
    | some (.agg cs) => off + n ≤ cs.length ∧ match mkv agg ((cs.drop off).take n) with
      | some v => K v σ
      | none => False
    | _ => False
  | .iaddr s x i => match x.ev sl G, i.ev sl G with
    | some (.slice _ s' es), some (.int _ i) => (s' = s ∨ es = []) ∧ 0 ≤ i ∧ match es[i.toNat]? with
      | some e => K (.ref e) σ
      | none => False
    | _, _ => False
  | .iaddrA s len x i => match x.ev sl G, i.ev sl G with
    | some (.loc b o), some (.int _ i) => 0 ≤ i ∧ i < len ∧ K (.loc b (o + i.toNat * s)) σ
    | some (.ref cs), some (.int _ i) => 0 ≤ i ∧ i < len ∧ K (.ref (cs.drop (i.toNat * s))) σ
    | _, _ => False
  | .idxs x i => match x.ev sl G, i.ev sl G with
    | some (.str l), some (.int _ i) => 0 ≤ i ∧ match l[i.toNat]? with
      | some b => K (.int .u8 b.toNat) σ
      | none => False
    | _, _ => False
  | .idxa agg s len x i => match x.ev sl G, i.ev sl G with
    | some (.agg cs), some (.int _ i) => 0 ≤ i ∧ i < len ∧ i.toNat * s + s ≤ cs.length ∧ match mkv agg ((cs.drop (i.toNat * s)).take s) with
      | some v => K v σ
      | none => False
    | _, _ => False
  | .extract i x => match x.ev sl G with
    | some (.tup vs) => match vs[i]? with
      | some v => K v σ
      | none => False
    | _ => False
  | .call f args => match evs sl G args with
    | some vs => SCall P G f vs σ fun e σ' => match e with
      | .ret v => K v σ'
      | .pan v => Kp v σ'
    | none => False
  | .callv x args => match x.ev sl G, evs sl G args with
    | some (.func f a b), some vs => SCall P G f (a ++ vs ++ b) σ fun e σ' => match e with
      | .ret v => K v σ'
      | .pan v => Kp v σ'
    | _, _ => False
  | .len str x => match str, x.ev sl G with
    | false, some (.slice _ _ es) => K (.int .i64 es.length) σ
    | true, some (.str l) => K (.int .i64 l.length) σ
    | _, _ => False
  | .mm mx xs => match evs sl G xs with
    | some (.int .i64 x :: r) => match if mx then maxOf x r else minOf x r with
      | some m => K (.int .i64 m) σ
      | none => False
    | _ => False
  | .append s bytes a b => match a.ev sl G, b.ev sl G with
    | some (.slice tag s' es), some (.slice _ s2 ns) => (tag = .nil ∨ s' = s) ∧ (s2 = s ∨ ns = []) ∧ (es.length + ns.length) * bytes ≤ 140737488355328 ∧ es.length + ns.length ≤ 9223372036854775807 ∧
      match ns, tag with
      | [], _ => K (.slice tag s' es) σ
      | _ :: _, .tip k => σ.live k = true ∧ ∀ t', σ.live t' = false → K (.slice (.tip t') s (es ++ ns)) ((σ.off k).on t')
      | _ :: _, .foreign => False
      | _ :: _, _ => ∀ t', σ.live t' = false → K (.slice (.tip t') s (es ++ ns)) (σ.on t')
    | _, _ => False
  | .appends bytes a b => match a.ev sl G, b.ev sl G with
    | some (.slice tag s' es), some (.str l) => (tag = .nil ∨ s' = 1) ∧ (es.length + l.length) * bytes ≤ 140737488355328 ∧ es.length + l.length ≤ 9223372036854775807 ∧
      match l, tag with
      | [], _ => K (.slice tag s' es) σ
      | _ :: _, .tip k => σ.live k = true ∧ ∀ t', σ.live t' = false → K (.slice (.tip t') 1 (es ++ byteEls l)) ((σ.off k).on t')
      | _ :: _, .foreign => False
      | _ :: _, _ => ∀ t', σ.live t' = false → K (.slice (.tip t') 1 (es ++ byteEls l)) (σ.on t')
    | _, _ => False
  | .panic x => match x.ev sl G with
    | some (.iface t v) => Kp (.iface t v) σ
    | _ => False
  | .tassert t zero agg ok x => match x.ev sl G with
    | some (.iface t' v) => if t' = t then K (if ok then .tup [v, .bool true] else v) σ else ok = true ∧ match mkv agg zero with
      | some z => K (.tup [z, .bool false]) σ
      | none => False
    | some .nilIface => ok = true ∧ match mkv agg zero with
      | some z => K (.tup [z, .bool false]) σ
      | none => False
    | _ => False

/-- An operation: where its value goes, and on which test it hangs. -/
structure SOper where
  dst : Option Nat
  op : SOp
  guard : Option (Nat × Bool)

def putD (sl : Slots) (d : Option Nat) (v : V) : Slots := match d with
  | some d => sl.upd d v
  | none => sl

def sOper (P : Program) (G : Globs) (o : SOper) (sl : Slots) (σ : St) (K : Slots → St → Prop) (Kp : V → St → Prop) : Prop :=
  match o.guard with
  | none => sOp P G o.op sl σ (fun v σ' => K (putD sl o.dst v) σ') Kp
  | some (g, want) => match sl g with
    | some (.bool b) => Br (b == want) (sOp P G o.op sl σ (fun v σ' => K (putD sl o.dst v) σ') Kp) (K (putD sl o.dst (.tup [])) σ)
    | some (.tup []) => K (putD sl o.dst (.tup [])) σ
    | _ => False

def sOps (P : Program) (G : Globs) (Kp : V → St → Prop) (K : Slots → St → Prop) : List SOper → Slots → St → Prop
  | [], sl, σ => K sl σ
  | o :: r, sl, σ => sOper P G o sl σ (sOps P G Kp K r) Kp

end Go.Shadow
