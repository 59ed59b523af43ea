/- THE SHADOW LOGIC, part 0: annotated values, how they stand for the model's values in a world, what never changes, the invariant. -/
import Derived.Calls
import Derived.Orders
import Derived.Below
import Derived.Laws.AppendOwn
import Derived.Laws.MakeOwn
import Derived.KernelRfl
namespace Go.Shadow
open Go Go.RowKit

/-- What is known of a slice's capacity. -/
inductive Tag where
  | nil
  | foreign
  | full
  | tip (t : Nat)
  deriving DecidableEq

/-- Annotated values: a slice carries its elements (each the list of its cells), an address of what never changes its cells. -/
inductive V where
  | bool (b : Bool)
  | int (k : IntKind) (n : Int)
  | str (l : List UInt8)
  | slice (tag : Tag) (s : Nat) (es : List (List V))
  | ref (cs : List V)
  | loc (b off : Nat)
  | nilptr
  | func (f : FuncId) (first cap : List V)
  | nilfunc
  | iface (t : TypeId) (v : V)
  | nilIface
  | agg (cs : List V)
  | tup (vs : List V)
  | map (r : Nat)
  | nilmap

def V.one : V → Bool
  | .agg _ | .tup _ => false
  | _ => true

/-- What is known of memory: of rows how many cells never change; of live tags the block. -/
structure Gh where
  row : Nat → Option Nat
  tip : Nat → Option Nat
  nt : Nat

def Imm (B : Nat) (γ : Gh) (b off : Nat) : Prop := b < B ∨ ∃ u, γ.row b = some u ∧ off < u

def TagOK (γ : Gh) (w : World) (a : Option Addr) (len cap s : Nat) : Tag → Prop
  | .nil => a = none ∧ len = 0 ∧ cap = 0
  | .foreign => True
  | .full => cap = len
  | .tip t => t < γ.nt ∧ ∀ g, γ.tip t = some g → a = some ⟨g, 0, none⟩ ∧ γ.row g = some (len * s) ∧ ∃ e n, w.shape? g = some (e, n) ∧ cap * s ≤ n

inductive R (B : Nat) (γ : Gh) (w : World) : V → Value → Prop
  | bool (b : Bool) : R B γ w (.bool b) (.bool b)
  | int (k : IntKind) (n : Int) : R B γ w (.int k n) (.int k n)
  | str (l : List UInt8) (s : ByteArray) (h : s.data.toList = l) : R B γ w (.str l) (.string s)
  | slice (tag : Tag) (s : Nat) (es : List (List V)) (a : Option Addr) (cap b o : Nat) (vs : Nat → Value)
      (hs : ∀ (i : Nat) (e : List V), es[i]? = some e → e.length = s) (hl : es.length ≤ cap) (ha : a = some ⟨b, o, none⟩ ∨ (a = none ∧ es = []))
      (ht : TagOK γ w a es.length cap s tag)
      (h1 : ∀ (k : Nat) (x : V), es.flatten[k]? = some x → x.one = true)
      (hc : ∀ (k : Nat) (x : V), es.flatten[k]? = some x → Imm B γ b (o + k) ∧ w.cell? ⟨b, o + k, none⟩ = some (vs k))
      (hr : ∀ (k : Nat) (x : V), es.flatten[k]? = some x → R B γ w x (vs k)) : R B γ w (.slice tag s es) (.slice a es.length cap)
  | ref (cs : List V) (b o : Nat) (vs : Nat → Value) (h1 : ∀ (j : Nat) (x : V), cs[j]? = some x → x.one = true)
      (hc : ∀ (j : Nat) (x : V), cs[j]? = some x → Imm B γ b (o + j) ∧ w.cell? ⟨b, o + j, none⟩ = some (vs j))
      (hr : ∀ (j : Nat) (x : V), cs[j]? = some x → R B γ w x (vs j)) : R B γ w (.ref cs) (.pointer (some ⟨b, o, none⟩))
  | loc (b o : Nat) : R B γ w (.loc b o) (.pointer (some ⟨b, o, none⟩))
  | nilptr : R B γ w .nilptr (.pointer none)
  | func (f : FuncId) (first cap : List V) (fs cs : Array Value) (h1 : first.length = fs.size) (h2 : cap.length = cs.size)
      (hr1 : ∀ (i : Nat) (x : V) (y : Value), first[i]? = some x → fs[i]? = some y → R B γ w x y)
      (hr2 : ∀ (i : Nat) (x : V) (y : Value), cap[i]? = some x → cs[i]? = some y → R B γ w x y) : R B γ w (.func f first cap) (.func (.func f) fs cs)
  | nilfunc : R B γ w .nilfunc .nilFunc
  | iface (t : TypeId) (v : V) (x : Value) (h : R B γ w v x) : R B γ w (.iface t v) (.iface t x)
  | nilIface : R B γ w .nilIface .nilIface
  | agg (cs : List V) (vs : Array Value) (hl : cs.length = vs.size) (h1 : ∀ (j : Nat) (x : V), cs[j]? = some x → x.one = true)
      (hr : ∀ (i : Nat) (x : V) (y : Value), cs[i]? = some x → vs[i]? = some y → R B γ w x y) : R B γ w (.agg cs) (.agg vs)
  | tup (cs : List V) (vs : Array Value) (hl : cs.length = vs.size)
      (hr : ∀ (i : Nat) (x : V) (y : Value), cs[i]? = some x → vs[i]? = some y → R B γ w x y) : R B γ w (.tup cs) (.tuple vs)
  | map (r : Nat) : R B γ w (.map r) (.map (some r))
  | nilmap : R B γ w .nilmap (.map none)

def RL (B : Nat) (γ : Gh) (w : World) (cs : List V) (vs : List Value) : Prop :=
  cs.length = vs.length ∧ ∀ (i : Nat) (x : V) (y : Value), cs[i]? = some x → vs[i]? = some y → R B γ w x y

/-- How memory may go on. -/
structure Ext (B : Nat) (γ : Gh) (w : World) (γ' : Gh) (w' : World) : Prop where
  hsz : w.heap.size ≤ w'.heap.size
  cell : ∀ b o v, Imm B γ b o → w.cell? ⟨b, o, none⟩ = some v → w'.cell? ⟨b, o, none⟩ = some v
  row : ∀ b u, γ.row b = some u → ∃ u', γ'.row b = some u' ∧ u ≤ u'
  nt : γ.nt ≤ γ'.nt
  tip : ∀ t g, t < γ.nt → γ'.tip t = some g → γ.tip t = some g ∧ γ'.row g = γ.row g
  shape : ∀ b x, w.shape? b = some x → w'.shape? b = some x

theorem Ext.refl (B : Nat) (γ : Gh) (w : World) : Ext B γ w γ w :=
  ⟨Nat.le_refl _, fun _ _ _ _ h => h, fun _ u h => ⟨u, h, Nat.le_refl _⟩, Nat.le_refl _, fun _ _ _ h => ⟨h, rfl⟩, fun _ _ h => h⟩

theorem Imm.ext {B : Nat} {γ γ' : Gh} {w w' : World} (h : Ext B γ w γ' w') {b o : Nat} (hi : Imm B γ b o) : Imm B γ' b o := by
  rcases hi with hi | ⟨u, hu, ho⟩
  · exact .inl hi
  · obtain ⟨u', hu', hle⟩ := h.row b u hu
    exact .inr ⟨u', hu', Nat.lt_of_lt_of_le ho hle⟩

theorem Ext.trans {B : Nat} {γ γ1 γ2 : Gh} {w w1 w2 : World} (h : Ext B γ w γ1 w1) (k : Ext B γ1 w1 γ2 w2) : Ext B γ w γ2 w2 := by
  refine ⟨Nat.le_trans h.hsz k.hsz, fun b o v hi hc => k.cell b o v (hi.ext h) (h.cell b o v hi hc), fun b u hu => ?_, Nat.le_trans h.nt k.nt, fun t g ht hg => ?_, fun b x hx => k.shape b x (h.shape b x hx)⟩
  · obtain ⟨u1, h1, l1⟩ := h.row b u hu
    obtain ⟨u2, h2, l2⟩ := k.row b u1 h1
    exact ⟨u2, h2, Nat.le_trans l1 l2⟩
  · obtain ⟨h1, r1⟩ := k.tip t g (Nat.lt_of_lt_of_le ht h.nt) hg
    obtain ⟨h2, r2⟩ := h.tip t g ht h1
    exact ⟨h2, r1.trans r2⟩

theorem TagOK.ext {B : Nat} {γ γ' : Gh} {w w' : World} (h : Ext B γ w γ' w') {a : Option Addr} {len cap s : Nat} {tag : Tag} (ht : TagOK γ w a len cap s tag) : TagOK γ' w' a len cap s tag := by
  cases tag with
  | nil => exact ht
  | foreign => trivial
  | full => exact ht
  | tip t =>
    obtain ⟨hn, hg⟩ := ht
    refine ⟨Nat.lt_of_lt_of_le hn h.nt, fun g hg' => ?_⟩
    obtain ⟨hg0, hr⟩ := h.tip t g hn hg'
    obtain ⟨h1, h2, e, n, h3, h4⟩ := hg g hg0
    exact ⟨h1, hr.trans h2, e, n, h.shape _ _ h3, h4⟩

theorem R.ext {B : Nat} {γ γ' : Gh} {w w' : World} (h : Ext B γ w γ' w') {v : V} {x : Value} (hr : R B γ w v x) : R B γ' w' v x := by
  induction hr with
  | bool b => exact .bool b
  | int k n => exact .int k n
  | str l s hs => exact .str l s hs
  | slice tag s es a cap b o vs hs hl ha ht h1 hc _ ih =>
    exact .slice tag s es a cap b o vs hs hl ha (ht.ext h) h1 (fun k x hx => ⟨(hc k x hx).1.ext h, h.cell _ _ _ (hc k x hx).1 (hc k x hx).2⟩) ih
  | ref cs b o vs h1 hc _ ih => exact .ref cs b o vs h1 (fun j x hx => ⟨(hc j x hx).1.ext h, h.cell _ _ _ (hc j x hx).1 (hc j x hx).2⟩) ih
  | loc b o => exact .loc b o
  | nilptr => exact .nilptr
  | func f first cap fs cs h1 h2 _ _ ih1 ih2 => exact .func f first cap fs cs h1 h2 ih1 ih2
  | nilfunc => exact .nilfunc
  | iface t v x _ ih => exact .iface t v x ih
  | nilIface => exact .nilIface
  | agg cs vs hl h1 _ ih => exact .agg cs vs hl h1 ih
  | tup cs vs hl _ ih => exact .tup cs vs hl ih
  | map r => exact .map r
  | nilmap => exact .nilmap

theorem RL.ext {B : Nat} {γ γ' : Gh} {w w' : World} (h : Ext B γ w γ' w') {cs : List V} {vs : List Value} (hr : RL B γ w cs vs) : RL B γ' w' cs vs :=
  ⟨hr.1, fun i x y hx hy => (hr.2 i x y hx hy).ext h⟩

theorem R.one {B : Nat} {γ : Gh} {w : World} {v : V} {x : Value} (h : R B γ w v x) (h1 : v.one = true) : x.oneCell' = true := by
  cases h <;> first | rfl | (simp [V.one] at h1)

theorem RL.nil {B : Nat} {γ : Gh} {w : World} : RL B γ w [] [] := ⟨rfl, fun i x y hx _ => by simp at hx⟩
theorem RL.cons {B : Nat} {γ : Gh} {w : World} {c : V} {cs : List V} {v : Value} {vs : List Value} (h : R B γ w c v) (hs : RL B γ w cs vs) : RL B γ w (c :: cs) (v :: vs) := by
  refine ⟨by simp [hs.1], fun i x y hx hy => ?_⟩
  cases i with
  | zero => simp at hx hy; subst hx; subst hy; exact h
  | succ i => exact hs.2 i x y (by simpa using hx) (by simpa using hy)
theorem RL.inv_cons {B : Nat} {γ : Gh} {w : World} {c : V} {cs : List V} {vs : List Value} (h : RL B γ w (c :: cs) vs) : ∃ v vs', vs = v :: vs' ∧ R B γ w c v ∧ RL B γ w cs vs' := by
  cases vs with
  | nil => have := h.1; simp at this
  | cons v vs => exact ⟨v, vs, rfl, h.2 0 c v rfl rfl, by have := h.1; simpa using this, fun i x y hx hy => h.2 (i + 1) x y (by simpa using hx) (by simpa using hy)⟩
theorem RL.inv_nil {B : Nat} {γ : Gh} {w : World} {vs : List Value} (h : RL B γ w [] vs) : vs = [] := List.eq_nil_of_length_eq_zero h.1.symm
theorem RL.append {B : Nat} {γ : Gh} {w : World} {cs ds : List V} {vs us : List Value} (h : RL B γ w cs vs) (k : RL B γ w ds us) : RL B γ w (cs ++ ds) (vs ++ us) := by
  induction cs generalizing vs with
  | nil => obtain rfl := h.inv_nil; exact k
  | cons c cs ih => obtain ⟨v, vs', rfl, h1, h2⟩ := h.inv_cons; exact .cons h1 (ih h2)
theorem RL.take {B : Nat} {γ : Gh} {w : World} {cs : List V} {vs : List Value} (h : RL B γ w cs vs) (n : Nat) : RL B γ w (cs.take n) (vs.take n) := by
  refine ⟨by simp [h.1], fun i x y hx hy => ?_⟩
  rw [List.getElem?_take] at hx hy
  split at hx <;> simp_all
  exact h.2 i x y hx hy
theorem RL.drop {B : Nat} {γ : Gh} {w : World} {cs : List V} {vs : List Value} (h : RL B γ w cs vs) (n : Nat) : RL B γ w (cs.drop n) (vs.drop n) := by
  refine ⟨by simp [h.1], fun i x y hx hy => ?_⟩
  rw [List.getElem?_drop] at hx hy
  exact h.2 _ x y hx hy

theorem flatten_length {α : Type} {s : Nat} : ∀ {es : List (List α)}, (∀ (i : Nat) (e : List α), es[i]? = some e → e.length = s) → es.flatten.length = es.length * s
  | [], _ => by simp
  | e :: es, h => by
    have h0 := h 0 e rfl
    have ih := flatten_length (es := es) fun i e he => h (i + 1) e (by simpa using he)
    simp only [List.flatten_cons, List.length_append, h0, ih, List.length_cons, Nat.succ_mul]
    omega
theorem flatten_get {α : Type} {s : Nat} : ∀ {es : List (List α)}, (∀ (i : Nat) (e : List α), es[i]? = some e → e.length = s) → ∀ {i j : Nat} {e : List α} {x : α}, es[i]? = some e → e[j]? = some x → es.flatten[i * s + j]? = some x
  | [], _, _, _, _, _, he, _ => by simp at he
  | e0 :: es, h, i, j, e, x, he, hx => by
    have h0 := h 0 e0 rfl
    cases i with
    | zero =>
      simp at he; subst he
      have hj : j < e0.length := (List.getElem?_eq_some_iff.1 hx).1
      simp only [List.flatten_cons, Nat.zero_mul, Nat.zero_add]
      rw [List.getElem?_append_left hj]; exact hx
    | succ i =>
      have ih := flatten_get (es := es) (fun i e he => h (i + 1) e (by simpa using he)) (i := i) (j := j) (e := e) (x := x) (by simpa using he) hx
      simp only [List.flatten_cons]
      rw [List.getElem?_append_right (by rw [h0, Nat.succ_mul]; omega), h0, show (i + 1) * s + j - s = i * s + j by rw [Nat.succ_mul]; omega]
      exact ih

/-- The cells of a row, as a list of values. -/
theorem cells_of {B : Nat} {γ : Gh} {w : World} {L : List V} {b o : Nat} {vs : Nat → Value}
    (hc : ∀ (k : Nat) (x : V), L[k]? = some x → Imm B γ b (o + k) ∧ w.cell? ⟨b, o + k, none⟩ = some (vs k))
    (hr : ∀ (k : Nat) (x : V), L[k]? = some x → R B γ w x (vs k)) :
    ∃ xs : List Value, RL B γ w L xs ∧ (∀ (k : Nat) (u : Value), xs[k]? = some u → Imm B γ b (o + k) ∧ w.cell? ⟨b, o + k, none⟩ = some u) := by
  refine ⟨(List.range L.length).map vs, ⟨by simp, fun i x y hx hy => ?_⟩, fun k u hu => ?_⟩
  · have hi : i < L.length := (List.getElem?_eq_some_iff.1 hx).1
    simp [hi] at hy
    subst hy
    exact hr i x hx
  · simp only [List.getElem?_map, Option.map_eq_some_iff] at hu
    obtain ⟨k', hk', rfl⟩ := hu
    have hk : k < L.length := by have := (List.getElem?_eq_some_iff.1 hk').1; simpa using this
    simp [hk] at hk'
    subst hk'
    exact hc k _ (List.getElem?_eq_getElem hk)

theorem add_lit (b o k : Nat) : (⟨b, o, none⟩ : Addr).add k = ⟨b, o + k, none⟩ := by unfold Addr.add; split <;> simp_all

theorem RL.ones {B : Nat} {γ : Gh} {w : World} {cs : List V} {vs : List Value} (h : RL B γ w cs vs) (h1 : ∀ (j : Nat) (x : V), cs[j]? = some x → x.one = true) : ∀ v ∈ vs, v.oneCell' = true := by
  intro v hv
  obtain ⟨i, hi⟩ := List.getElem?_of_mem hv
  have hlt : i < cs.length := by have := (List.getElem?_eq_some_iff.1 hi).1; rw [h.1]; exact this
  exact (h.2 i _ v (List.getElem?_eq_getElem hlt) hi).one (h1 i _ (List.getElem?_eq_getElem hlt))

/-- The shadow state: what is known of mutable memory. -/
structure St where
  box : Nat → Option (List V)
  live : Nat → Bool

/-- What is known of package-level variables that nobody writes. -/
structure Globs where
  at_ : Nat → Option (List V)
  pre : World → Prop
instance : CoeFun Globs fun _ => Nat → Option (List V) := ⟨Globs.at_⟩

structure Inv (G : Globs) (w0 : World) (γ : Gh) (σ : St) (w : World) : Prop where
  bel : Below w0.heap.size w0 w
  box : ∀ b cs, σ.box b = some cs → w0.heap.size ≤ b ∧ γ.row b = none ∧ (∀ (j : Nat) (x : V), cs[j]? = some x → x.one = true) ∧
    ∃ vs ty, w.heap[b]? = some (.cells vs ty (0, 0)) ∧ RL w0.heap.size γ w cs vs.toList
  live : ∀ t, σ.live t = true → ∃ g, γ.tip t = some g
  tip : ∀ t g, γ.tip t = some g → t < γ.nt ∧ w0.heap.size ≤ g ∧ ∃ u vs ty, γ.row g = some u ∧ w.heap[g]? = some (.cells vs ty (0, 0)) ∧ u ≤ vs.size
  inj : ∀ t t' g, γ.tip t = some g → γ.tip t' = some g → t = t'
  rowlt : ∀ b u, γ.row b = some u → w0.heap.size ≤ b ∧ b < w.heap.size
  glob : ∀ g cs, G g = some cs → R w0.heap.size γ w (.ref cs) (.pointer (some ⟨g, 0, none⟩))
  pre : G.pre w0

end Go.Shadow
