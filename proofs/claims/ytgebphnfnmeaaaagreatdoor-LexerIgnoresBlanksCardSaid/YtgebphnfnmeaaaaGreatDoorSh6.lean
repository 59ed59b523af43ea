/- THE SHADOW LOGIC, part 6: the other operations are sound. -/
import Derived.Test.YtgebphnfnmeaaaaGreatDoorSh5
namespace Go.Shadow
open Go Go.RowKit

section
variable {P : Program} {G : Globs} {w0 w : World} {γ : Gh} {σ : St} {n : Nat} {ds : List Deferred} {sl : Slots} {a : Act} {o : Oper} {K Kp : V → St → Prop}

def leafK (P : Program) (t : TypeId) : Option Nat := match P.underlying t with
  | some (.int _) => some 0
  | some .bool => some 1
  | some .string => some 2
  | _ => none
def shF (P : Program) : List Field → Option (List Nat)
  | [] => some []
  | f :: r => match leafK P f.type, shF P r with
    | some k, some ks => some (k :: ks)
    | _, _ => none

theorem fits_of_shape : ∀ {fs : List Field} {sh : List Nat} {xs : List V}, shF P fs = some sh → shapeL sh xs = true → fitsF P fs xs = true
  | [], sh, xs, h, hs => by simp [shF] at h; subst h; cases xs <;> simp_all [shapeL, fitsF]
  | f :: fs, sh, xs, h, hs => by
    simp only [shF] at h
    split at h
    · rename_i k ks h1 h2
      injection h with h; subst h
      cases xs with
      | nil => simp [shapeL] at hs
      | cons x xs =>
        simp only [shapeL, Bool.and_eq_true] at hs
        simp only [fitsF, Bool.and_eq_true]
        refine ⟨?_, fits_of_shape h2 hs.2⟩
        have h3 := hs.1
        unfold leafK at h1
        unfold leafFits
        split at h1
        · rename_i hq; injection h1 with h1; subst h1; rw [hq]; cases x <;> simp_all [leafS]
        · rename_i hq; injection h1 with h1; subst h1; rw [hq]; cases x <;> simp_all [leafS]
        · rename_i hq; injection h1 with h1; subst h1; rw [hq]; cases x <;> simp_all [leafS]
        · cases h1
    · cases h

theorem do_eqs (hr : Rel G w0 γ σ w n ds sl a) {op : BinOp} {neg : Bool} {t t2 : TypeId} {fs : Array Field} {sh : List Nat} {x y : Operand} {ox oy : Opd} (hop : op = if neg then .neq else .eql) (ho : o.op = .binOp op t x y t2)
    (ht : P.underlying t = some (.struct fs)) (hp : P.stoodInHeld t = false) (hm : P.eqGuardType P.depth t = false) (hfl : flatF P fs.toList 0 = true) (hsh : shF P fs.toList = some sh) (hx : trOpd x = some ox) (hy : trOpd y = some oy) (h : sOp P G (.eqs neg sh ox oy) sl σ K Kp) : Does P G o a w w0 γ K Kp := by
  simp only [sOp] at h
  split at h
  · rename_i u v h1 h2
    obtain ⟨hs, h⟩ := h
    split at h
    · rename_i r hq
      have e1 := ev_sound hr hx h1
      have e2 := ev_sound hr hy h2
      generalize hxe : a.eval x = xe at e1
      generalize hye : a.eval y = ye at e2
      cases e1 with | agg _ us hl1 h11 hr1 => cases e2 with | agg _ vs hl2 h12 hr2 =>
      have hq' := eqL_sound (P := P) (w := w) (B := w0.heap.size) (γ := γ) 9998 us vs fs.toList 0 u v hfl (fits_of_shape hsh hs)
        (fun j z hj => by
          have hlt : j < us.size := by rw [← hl1]; exact (List.getElem?_eq_some_iff.1 hj).1
          exact ⟨us[j], by simp [hlt], hr1 j z _ hj (by simp [hlt])⟩)
        (fun j z hj => by
          have hlt : j < vs.size := by rw [← hl2]; exact (List.getElem?_eq_some_iff.1 hj).1
          exact ⟨vs[j], by simp [hlt], hr2 j z _ hj (by simp [hlt])⟩) r hq
      have hf : P.fieldsOf t = fs := by simp [Program.fieldsOf, ht]
      have he : (Op.equalIn 10000 t (.agg us) (.agg vs)).run P w = .ok r w := by
        rw [show (10000 : Nat) = 9999 + 1 from rfl, run_equalIn_struct (P := P) w 9999 t us vs (by rw [hf]; exact ht) hp, hf]
        exact hq'
      cases neg <;> simp at hop <;> subst hop
      · exact .same hr.inv (x := .bool r) (by simp only [execOp, ho, hxe, hye, Sem.run_bind, run_eqGuard_agg w _ t x y us vs hm, Result.andThen_ok, run_eql_struct, he]; rfl) (.bool _) h
      · exact .same hr.inv (x := .bool !r) (by simp only [execOp, ho, hxe, hye, Sem.run_bind, run_eqGuard_agg w _ t x y us vs hm, Result.andThen_ok, run_neq_struct, he]; rfl) (.bool _) h
    · exact h.elim
  · exact h.elim

/-- The nil that fits a type. -/
def nilFits (P : Program) (t : TypeId) (v : Value) : Bool := match P.underlying t, v with
  | some (.pointer _), .pointer none => true
  | some (.func _ _ _), .nilFunc => true
  | some (.interface _), .nilIface => true
  | some (.map _ _), .map none => true
  | some (.slice _), .slice none 0 0 => true
  | _, _ => false

theorem isNil_sound {t : TypeId} {c : Value} {u v : V} {x : Value} {B : Nat} {γ : Gh} {r : Bool} (hn : nilFits P t c = true) (hv : trV c = some v) (hR : R B γ w u x) (h : isNil u v = some r) : (Op.equal t x c).run P w = .ok r w := by
  suffices hd' : ∀ d, (Op.equalIn (d + 1) t x c).run P w = .ok r w from hd' 9999
  intro d'
  unfold nilFits at hn
  split at hn
  · rename_i hd
    simp only [trV, Option.some.injEq] at hv; subst hv
    cases hR <;> simp only [isNil, reduceCtorEq, Option.some.injEq] at h <;> subst h <;> simp [Op.equalIn, run_underlying hd]
  · rename_i hd
    simp only [trV, Option.some.injEq] at hv; subst hv
    cases hR <;> simp only [isNil, reduceCtorEq, Option.some.injEq] at h <;> subst h <;> simp [Op.equalIn, run_underlying hd]
  · rename_i hd
    simp only [trV, Option.some.injEq] at hv; subst hv
    cases hR <;> simp only [isNil, reduceCtorEq, Option.some.injEq] at h <;> subst h <;> simp [Op.equalIn, run_underlying hd]
  · rename_i hd
    simp only [trV, Option.some.injEq] at hv; subst hv
    cases hR <;> simp only [isNil, reduceCtorEq, Option.some.injEq] at h <;> subst h <;> simp [Op.equalIn, run_underlying hd]
  · rename_i hd
    simp only [trV, Option.some.injEq] at hv; subst hv
    cases hR <;> simp only [isNil, reduceCtorEq, Option.some.injEq] at h
    rename_i tag s es ad cap b o vs hs hl ha ht h1 hc hr
    cases tag with
    | nil =>
      obtain ⟨rfl, _, _⟩ := ht
      simp only [isNil, Option.some.injEq] at h; subst h
      simp [Op.equalIn, run_underlying hd]
    | _ =>
      cases es with
      | nil => simp [isNil] at h
      | cons e es =>
        simp only [isNil, Option.some.injEq] at h; subst h
        rcases ha with rfl | ⟨_, h0⟩
        · simp [Op.equalIn, run_underlying hd]
        · cases h0
  · cases hn

theorem do_eqn (hr : Rel G w0 γ σ w n ds sl a) {op : BinOp} {neg : Bool} {t t2 : TypeId} {x : Operand} {c : Value} {ox : Opd} {cv : V} (hop : op = if neg then .neq else .eql) (ho : o.op = .binOp op t x (.const c) t2)
    (hn : nilFits P t c = true) (hx : trOpd x = some ox) (hy : trV c = some cv) (h : sOp P G (.eqn neg ox (.c cv)) sl σ K Kp) : Does P G o a w w0 γ K Kp := by
  simp only [sOp, Opd.ev] at h
  split at h
  · rename_i u v h1 h2
    injection h2 with h2; subst h2
    split at h
    · rename_i r hq
      have e1 := ev_sound hr hx h1
      have hg : ∀ w : World, (eqGuard op t x (.const c) (a.eval x) c).run P w = .ok () w := by
        intro w
        unfold nilFits at hn
        split at hn <;> first | cases hn | skip
        all_goals (generalize a.eval x = xe; cases op <;> simp [eqGuard] <;> cases xe <;> simp)
      have he := isNil_sound (P := P) hn hy e1 hq
      have hb : (binOp op t (a.eval x) c).run P w = .ok (.bool (if neg then !r else r)) w := by
        unfold nilFits at hn
        split at hn <;> first | cases hn | skip
        all_goals
          cases neg <;> simp at hop <;> subst hop
          all_goals
            generalize a.eval x = xe at he
            cases xe <;> simp [binOp, he]
      refine .same hr.inv (x := .bool (if neg then !r else r)) ?_ (.bool _) h
      have hc : a.eval (.const c) = c := rfl
      simp only [execOp, ho, hc, Sem.run_bind, hg, Result.andThen_ok, hb]
      rfl
    · exact h.elim
  · exact h.elim

end
end Go.Shadow
