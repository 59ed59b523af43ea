/- THE SHADOW LOGIC, part 5: numbers, strings, equality, slices, fields: sound. -/
import Derived.Test.YtgebphnfnmeaaaaGreatDoorSh4
import Derived.Laws.StructEq
import Derived.Laws.Slices
namespace Go.Shadow
open Go Go.RowKit

section
variable {P : Program} {G : Globs} {w0 w : World} {γ : Gh} {σ : St} {n : Nat} {ds : List Deferred} {sl : Slots} {a : Act} {o : Oper} {K Kp : V → St → Prop}

theorem run_eqGuard_plain (op : BinOp) (t : TypeId) (x y : Operand) (u v : Value) (h : ∀ cs, u ≠ .agg cs) (h2 : u ≠ .nilIface) : (eqGuard op t x y u v).run P w = .ok () w := by
  cases op <;> simp [eqGuard] <;> cases u <;> simp_all

theorem sBin_sound {op : BinOp} {t : TypeId} {k k' : IntKind} {x y : Int} {K : V → Prop} (hk : k = k' ∨ op = .shl ∨ op = .shr) (h : sBin op k x y K) :
    ∃ v u, K v ∧ (binOp op t (.int k x) (.int k' y)).run P w = .ok u w ∧ ∀ B γ, R B γ w v u := by
  have hb : ∀ b : Bool, (∀ B γ, R B γ w (.bool b) (.bool b)) := fun b B γ => .bool b
  have hi : ∀ q : Int, (∀ B γ, R B γ w (.int k q) (.int k q)) := fun q B γ => .int k q
  have bits : ∀ op, (op = .and ∨ op = .or ∨ op = .xor ∨ op = .andNot) → (Op.intBits op k x y).run P w = .ok (.int k (bitsOp op k x y)) w := by
    intro op hop; rcases hop with rfl | rfl | rfl | rfl <;> simp [Op.intBits, bitsOp]
  have hk2 : op ≠ .shl → op ≠ .shr → k = k' := fun h1 h2 => by rcases hk with h | h | h; exact h; exact absurd h h1; exact absurd h h2
  cases op <;> simp only [sBin] at h
  case add => obtain rfl := hk2 (by simp) (by simp); exact ⟨_, _, h, by simp [binOp, Op.intArith], hi _⟩
  case sub => obtain rfl := hk2 (by simp) (by simp); exact ⟨_, _, h, by simp [binOp, Op.intArith], hi _⟩
  case mul => obtain rfl := hk2 (by simp) (by simp); exact ⟨_, _, h, by simp [binOp, Op.intArith], hi _⟩
  case quo => obtain rfl := hk2 (by simp) (by simp); exact ⟨_, _, h.2, by simp [binOp, Op.intDiv, h.1], hi _⟩
  case rem => obtain rfl := hk2 (by simp) (by simp); exact ⟨_, _, h.2, by simp [binOp, Op.intDiv, h.1], hi _⟩
  case and => obtain rfl := hk2 (by simp) (by simp); exact ⟨_, _, h, by simp [binOp, bits], hi _⟩
  case or => obtain rfl := hk2 (by simp) (by simp); exact ⟨_, _, h, by simp [binOp, bits], hi _⟩
  case xor => obtain rfl := hk2 (by simp) (by simp); exact ⟨_, _, h, by simp [binOp, bits], hi _⟩
  case andNot => obtain rfl := hk2 (by simp) (by simp); exact ⟨_, _, h, by simp [binOp, bits], hi _⟩
  case shl => have hn : ¬ y < 0 := by omega
              exact ⟨_, _, h.2, by simp [binOp, Op.shift, hn], hi _⟩
  case shr => have hn : ¬ y < 0 := by omega
              exact ⟨_, _, h.2, by simp [binOp, Op.shift, hn], hi _⟩
  all_goals (obtain rfl := hk2 (by simp) (by simp); exact ⟨_, _, h, by simp [binOp, Op.intCmp], hb _⟩)

theorem do_bin (hr : Rel G w0 γ σ w n ds sl a) {op : BinOp} {t t2 : TypeId} {x y : Operand} {ox oy : Opd} (ho : o.op = .binOp op t x y t2) (hx : trOpd x = some ox) (hy : trOpd y = some oy) (h : sOp P G (.bin op ox oy) sl σ K Kp) : Does P G o a w w0 γ K Kp := by
  simp only [sOp] at h
  split at h
  · rename_i k u k' v h1 h2
    obtain ⟨hk, h⟩ := h
    have e1 := ev_sound hr hx h1
    have e2 := ev_sound hr hy h2
    generalize hxe : a.eval x = xe at e1
    generalize hye : a.eval y = ye at e2
    cases e1; cases e2
    obtain ⟨r, z, hK, hrun, hR⟩ := sBin_sound (P := P) (w := w) (t := t) hk h
    refine .same hr.inv (x := z) ?_ (hR _ _) hK
    simp [execOp, ho, hxe, hye, run_eqGuard_plain, hrun]
  · exact h.elim

theorem sBinS_sound {op : BinOp} {t : TypeId} {x y : List UInt8} {s1 s2 : ByteArray} (e1 : s1.data.toList = x) (e2 : s2.data.toList = y) {K : V → Prop} (h : sBinS op x y K) :
    ∃ v u, K v ∧ (binOp op t (.string s1) (.string s2)).run P w = .ok u w ∧ ∀ B γ, R B γ w v u := by
  have hb : ∀ b : Bool, (∀ B γ, R B γ w (.bool b) (.bool b)) := fun b B γ => .bool b
  have t1 : s1.toList = x := by rw [ByteArray.toList_eq, e1]
  have t2 : s2.toList = y := by rw [ByteArray.toList_eq, e2]
  have l1 : s1.size = x.length := by rw [← e1]; rfl
  have l2 : s2.size = y.length := by rw [← e2]; rfl
  cases op <;> simp only [sBinS] at h
  case add =>
    refine ⟨_, .string (s1 ++ s2), h.2, ?_, fun B γ => .str _ _ (by simp [ByteArray.data_append, e1, e2])⟩
    have hn : ¬ ((s1.size : Int) + (s2.size : Int) > 9223372036854775807) := by omega
    have hm : IntKind.i64.max = 9223372036854775807 := by decide
    simp [binOp, Op.stringOp, hm, hn]
  all_goals first | exact h.elim | exact ⟨_, _, h, by simp only [binOp, Op.stringOp, t1, t2]; rfl, hb _⟩

theorem do_bins (hr : Rel G w0 γ σ w n ds sl a) {op : BinOp} {t t2 : TypeId} {x y : Operand} {ox oy : Opd} (ho : o.op = .binOp op t x y t2) (hx : trOpd x = some ox) (hy : trOpd y = some oy) (h : sOp P G (.bins op ox oy) sl σ K Kp) : Does P G o a w w0 γ K Kp := by
  simp only [sOp] at h
  split at h
  · rename_i u v h1 h2
    have e1 := ev_sound hr hx h1
    have e2 := ev_sound hr hy h2
    generalize hxe : a.eval x = xe at e1
    generalize hye : a.eval y = ye at e2
    cases e1 with | str _ s1 q1 => cases e2 with | str _ s2 q2 =>
    obtain ⟨r, z, hK, hrun, hR⟩ := sBinS_sound (P := P) (w := w) (t := t) q1 q2 h
    refine .same hr.inv (x := z) ?_ (hR _ _) hK
    simp [execOp, ho, hxe, hye, run_eqGuard_plain, hrun]
  · exact h.elim

theorem do_binb (hr : Rel G w0 γ σ w n ds sl a) {op : BinOp} {neg : Bool} {t t2 : TypeId} {x y : Operand} {ox oy : Opd} (hop : op = if neg then .neq else .eql) (ho : o.op = .binOp op t x y t2) (ht : P.underlying t = some .bool) (hx : trOpd x = some ox) (hy : trOpd y = some oy) (h : sOp P G (.binb neg ox oy) sl σ K Kp) : Does P G o a w w0 γ K Kp := by
  simp only [sOp] at h
  split at h
  · rename_i u v h1 h2
    have e1 := ev_sound hr hx h1
    have e2 := ev_sound hr hy h2
    generalize hxe : a.eval x = xe at e1
    generalize hye : a.eval y = ye at e2
    cases e1; cases e2
    have hq : ∀ w : World, (Op.equal t (.bool u) (.bool v)).run P w = .ok (u == v) w := fun w => run_equalIn_bool' w 9999 t u v ht
    cases neg <;> simp at hop <;> subst hop
    · exact .same hr.inv (x := .bool (u == v)) (by simp [execOp, ho, hxe, hye, run_eqGuard_plain, binOp, hq]) (.bool _) h
    · exact .same hr.inv (x := .bool (u != v)) (by simp [execOp, ho, hxe, hye, run_eqGuard_plain, binOp, hq]; cases u <;> cases v <;> rfl) (.bool _) h
  · exact h.elim

/-- A struct all of whose fields are whole numbers, bools and strings, one cell each. -/
def flatF (P : Program) : List Field → Nat → Bool
  | [], _ => true
  | f :: r, i => f.name != "_" && f.offset == i && (match P.underlying f.type with | some (.int _) | some .bool | some .string => true | _ => false) && flatF P r (i + 1)

theorem eqV_sound {t : TypeId} (d : Nat) {x y : V} {u v : Value} {B : Nat} {γ : Gh} (ht : (match P.underlying t with | some (.int _) | some .bool | some .string => true | _ => false) = true) (hu : R B γ w x u) (hv : R B γ w y v) {b : Bool} (h : eqV x y = some b) (hok : (∃ k k', x = .int k k' ∧ ∃ q, P.underlying t = some (.int q)) ∨ (∃ k, x = .bool k ∧ P.underlying t = some .bool) ∨ (∃ k, x = .str k ∧ P.underlying t = some .string)) :
    (Op.equalIn (d + 1) t u v).run P w = .ok b w := by
  unfold eqV at h
  split at h
  · rename_i k p k' q
    split at h
    · rename_i hk; subst hk; injection h with h; subst h
      cases hu; cases hv
      rcases hok with ⟨_, _, _, q', hq'⟩ | ⟨_, h1, _⟩ | ⟨_, h1, _⟩
      · exact run_equalIn_int w d t k q' p q hq'
      · cases h1
      · cases h1
    · cases h
  · injection h with h; subst h
    cases hu; cases hv
    rcases hok with ⟨_, _, h1, _⟩ | ⟨_, _, hq⟩ | ⟨_, h1, _⟩
    · cases h1
    · exact run_equalIn_bool' w d t _ _ hq
    · cases h1
  · injection h with h; subst h
    cases hu with | str _ s1 q1 => cases hv with | str _ s2 q2 =>
    rcases hok with ⟨_, _, h1, _⟩ | ⟨_, h1, _⟩ | ⟨_, _, hq⟩
    · cases h1
    · cases h1
    · rw [run_equalIn_string w d t s1 s2 hq, ByteArray.toList_eq, ByteArray.toList_eq, q1, q2]
  · cases h

theorem run_part_leaf {t : TypeId} (ht : (match P.underlying t with | some (.int _) | some .bool | some .string => true | _ => false) = true) (xs : Array Value) (i : Nat) {u : Value} (h : xs[i]? = some u) : (part t xs i).run P w = .ok u w := by
  have hg : aggB P t = some false := by
    unfold aggB
    cases hd : P.underlying t with
    | none => simp [hd] at ht
    | some d => cases d <;> simp_all
  simp [part, aggB_sound hg, h]

/-- Which cells a field's type takes. -/
def leafFits (P : Program) (t : TypeId) (x : V) : Bool := match P.underlying t, x with
  | some (.int _), .int _ _ => true
  | some .bool, .bool _ => true
  | some .string, .str _ => true
  | _, _ => false
def fitsF (P : Program) : List Field → List V → Bool
  | [], [] => true
  | f :: r, x :: xs => leafFits P f.type x && fitsF P r xs
  | _, _ => false

theorem eqL_sound {B : Nat} {γ : Gh} (d : Nat) (us vs : Array Value) : ∀ (fs : List Field) (i : Nat) (xs ys : List V), flatF P fs i = true → fitsF P fs xs = true →
    (∀ (j : Nat) (x : V), xs[j]? = some x → ∃ u, us[i + j]? = some u ∧ R B γ w x u) → (∀ (j : Nat) (y : V), ys[j]? = some y → ∃ u, vs[i + j]? = some u ∧ R B γ w y u) → ∀ b, eqL xs ys = some b →
    (Op.eqFields (d + 1) us vs fs).run P w = .ok b w
  | [], i, xs, ys, _, hf, _, _, b, h => by
    cases xs with
    | nil =>
      cases ys with
      | nil => simp [eqL] at h; subst h; simp [Op.eqFields]
      | cons y ys => simp [eqL] at h
    | cons x xs => simp [fitsF] at hf
  | f :: fs, i, xs, ys, hfl, hf, hx, hy, b, h => by
    cases xs with
    | nil => simp [fitsF] at hf
    | cons x xs =>
      cases ys with
      | nil => simp [eqL] at h
      | cons y ys =>
        simp only [eqL] at h
        split at h
        · rename_i b1 b2 hb1 hb2
          injection h with h; subst h
          simp only [flatF, Bool.and_eq_true, bne_iff_ne, ne_eq, beq_iff_eq] at hfl
          obtain ⟨⟨⟨hn, hoff⟩, hleaf⟩, hfl⟩ := hfl
          simp only [fitsF, Bool.and_eq_true] at hf
          obtain ⟨hf1, hf⟩ := hf
          obtain ⟨u, hu, hRu⟩ := hx 0 x rfl
          obtain ⟨v, hv, hRv⟩ := hy 0 y rfl
          simp only [Nat.add_zero] at hu hv
          have hok : (∃ k k', x = .int k k' ∧ ∃ q, P.underlying f.type = some (.int q)) ∨ (∃ k, x = .bool k ∧ P.underlying f.type = some .bool) ∨ (∃ k, x = .str k ∧ P.underlying f.type = some .string) := by
            unfold leafFits at hf1
            split at hf1
            · rename_i k q _ hk; exact .inl ⟨_, _, rfl, _, hk⟩
            · rename_i hk; exact .inr (.inl ⟨_, rfl, hk⟩)
            · rename_i hk; exact .inr (.inr ⟨_, rfl, hk⟩)
            · cases hf1
          have he := eqV_sound (P := P) d hleaf hRu hRv hb1 hok
          have ih := eqL_sound d us vs fs (i + 1) xs ys hfl hf (fun j x' hj => by have := hx (j + 1) x' (by simpa using hj); rwa [show i + (j + 1) = i + 1 + j by omega] at this) (fun j x' hj => by have := hy (j + 1) x' (by simpa using hj); rwa [show i + (j + 1) = i + 1 + j by omega] at this) b2 hb2
          have hn' : f.name ≠ "_" := hn
          rw [Op.eqFields]
          simp only [if_pos hn', Sem.run_bind, hoff, run_part_leaf hleaf us i hu, run_part_leaf hleaf vs i hv, Result.andThen_ok, he]
          cases b1
          · simp
          · simpa using ih
        · cases h

end
end Go.Shadow
