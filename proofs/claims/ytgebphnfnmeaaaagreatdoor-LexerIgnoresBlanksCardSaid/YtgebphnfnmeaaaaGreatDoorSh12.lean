/- THE SHADOW LOGIC, part 12: regions, in the text's order and in whatever order is drawn. -/
import Derived.Test.YtgebphnfnmeaaaaGreatDoorSh11
namespace Go.Shadow
open Go Go.RowKit

def dstOK (n : Nat) : Option Nat → Bool
  | some d => decide (d < n)
  | none => true
def trOper (P : Program) (n : Nat) (ops : Array Oper) (o : Oper) : Option SOper :=
  match trOp P o.op with
  | some so => if dstOK n o.dst = true then match o.guard with
    | none => some ⟨o.dst, so, none⟩
    | some (j, want) => match (ops[j]?).bind (·.dst) with
      | some g => some ⟨o.dst, so, some (g, want)⟩
      | none => none
    else none
  | none => none
def trOpers (P : Program) (n : Nat) (ops : Array Oper) : List Oper → Option (List SOper)
  | [] => some []
  | o :: r => match trOper P n ops o, trOpers P n ops r with
    | some s, some ss => some (s :: ss)
    | _, _ => none

section
variable {P : Program} {G : Globs} {w0 w : World} {γ : Gh} {σ : St} {n : Nat} {ds : List Deferred} {sl : Slots} {a : Act} {Kp : V → St → Prop}

theorem Rel.ext (hr : Rel G w0 γ σ w n ds sl a) {γ' : Gh} {σ' : St} {w' : World} (he : Ext w0.heap.size γ w γ' w') (hi : Inv G w0 γ' σ' w') : Rel G w0 γ' σ' w' n ds sl a :=
  ⟨hi, fun t v h => (hr.slots t v h).ext he, hr.size, hr.defs⟩

theorem Rel.put (hr : Rel G w0 γ σ w n ds sl a) {d : Option Nat} (hd : ∀ k, d = some k → k < n) {v : V} {x : Value} (hv : R w0.heap.size γ w v x) : Rel G w0 γ σ w n ds (putD sl d v) (a.put d x) := by
  cases d with
  | none => exact hr
  | some k =>
    refine ⟨hr.inv, fun t u h => ?_, by simp [Act.put, hr.size], by simp [Act.put, hr.defs]⟩
    simp only [putD, Slots.upd] at h
    have hk := hd k rfl
    split at h
    · rename_i htk; subst htk
      injection h with h; subst h
      have hlt : t < a.tmps.size := by rw [hr.size]; exact hk
      simp only [Act.put, Array.getD_eq_getD_getElem?, Array.getElem?_setIfInBounds, if_true, if_pos hlt, Option.getD_some]
      exact hv
    · rename_i htk
      have := hr.slots t u h
      simp only [Act.put, Array.getD_eq_getD_getElem?, Array.getElem?_setIfInBounds, if_neg (Ne.symm htk)] at this ⊢
      exact this

theorem sOper_sound (hr : Rel G w0 γ σ w n ds sl a) {ops : Array Oper} {i : Nat} {o : Oper} {so : SOper} (ho : ops[i]? = some o) (ht : trOper P n ops o = some so) {K : Slots → St → Prop} (h : sOper P G so sl σ K Kp)
    {K' : Act → World → Prop} {Q : Exit → Act → World → Prop} (hK : ∀ γ' σ' w' sl' a', Ext w0.heap.size γ w γ' w' → Rel G w0 γ' σ' w' n ds sl' a' → K sl' σ' → K' a' w')
    (hKp : ∀ γ' σ' w' v x, Ext w0.heap.size γ w γ' w' → Inv G w0 γ' σ' w' → R w0.heap.size γ' w' v x → Kp v σ' → Q (.panic [{ v := x, recovered := false }]) a w') : wpOp P ops Q i K' a w := by
  unfold wpOp
  simp only [ho]
  unfold trOper at ht
  split at ht
  · rename_i s hs
    split at ht
    · rename_i hd
      have hd' : ∀ k, o.dst = some k → k < n := by intro k hk; simpa [hk, dstOK] using hd
      have exec : sOp P G s sl σ (fun v σ' => K (putD sl o.dst v) σ') Kp → o.wp P a w K' Q := fun hx =>
        sOp_sound hr hs hx K' Q (fun γ' σ' w' v x he hi hv hk => hK γ' σ' w' _ _ he ((hr.ext he hi).put hd' hv) hk) hKp
      have skip : K (putD sl o.dst (.tup [])) σ → K' (a.put o.dst undef) w := fun hx => hK γ σ w _ _ (.refl _ _ _) (hr.put hd' .undef) hx
      split at ht
      · rename_i hg
        injection ht with ht; subst ht
        simp only [sOper] at h
        simp only [Region.wanted, hg, if_true]
        exact .inl (exec h)
      · rename_i j want hg
        split at ht
        · rename_i g hgd
          injection ht with ht; subst ht
          simp only [sOper] at h
          have hy : ∀ u, sl g = some u → ∃ x, a.tmps.getD g undef = x ∧ R w0.heap.size γ w u x := fun u hu => ⟨_, rfl, hr.slots g u hu⟩
          split at h
          · rename_i b hb
            obtain ⟨x, hx, hRx⟩ := hy _ hb
            cases hRx
            have hget : a.tmps[g]? = some (.bool b) := by
              rw [Array.getD_eq_getD_getElem?] at hx
              cases hq : a.tmps[g]? with
              | none => rw [hq] at hx; simp [undef] at hx
              | some z => rw [hq] at hx; simp at hx; rw [hx]
            have hw : Region.wanted o (yielded ops a.tmps) = (b == want) := by
              simp only [Region.wanted, hg, yielded, hgd, Option.bind_some, hget]
              cases b <;> cases want <;> rfl
            rw [hw]
            cases hbw : b == want with
            | true => simp only [if_true]; exact .inl (exec (h.1 hbw))
            | false => simp only [Bool.false_eq_true, if_false]; exact skip (h.2 hbw)
          · rename_i hb
            obtain ⟨x, hx, hRx⟩ := hy _ hb
            cases hRx with | tup _ vs hl _ =>
            have hw : Region.wanted o (yielded ops a.tmps) = false := by
              simp only [Region.wanted, hg, yielded, hgd, Option.bind_some]
              rw [Array.getD_eq_getD_getElem?] at hx
              cases hq : a.tmps[g]? with
              | none => rfl
              | some z => rw [hq] at hx; simp at hx; subst hx; rfl
            rw [hw]
            simp only [Bool.false_eq_true, if_false]
            exact skip h
          · exact h.elim
        · cases ht
    · cases ht
  · cases ht

theorem sOps_sound {ops : Array Oper} {Q : Exit → Act → World → Prop} {K : Slots → St → Prop} : ∀ (l : List Nat) (sos : List SOper) {γ : Gh} {σ : St} {w : World} {sl : Slots} {a : Act}, Rel G w0 γ σ w n ds sl a → l.length = sos.length →
    (∀ (k i : Nat) (so : SOper), l[k]? = some i → sos[k]? = some so → ∃ o, ops[i]? = some o ∧ trOper P n ops o = some so) → sOps P G Kp K sos sl σ →
    (∀ γ' σ' w' sl' a', Ext w0.heap.size γ w γ' w' → Rel G w0 γ' σ' w' n ds sl' a' → K sl' σ' → Q .normal a' w') →
    (∀ γ' σ' w' v x a', Ext w0.heap.size γ w γ' w' → Rel G w0 γ' σ' w' n ds (fun _ => none) a' → R w0.heap.size γ' w' v x → Kp v σ' → Q (.panic [{ v := x, recovered := false }]) a' w') → wpOps P ops Q l a w
  | [], [], γ, σ, w, sl, a, hr, _, _, h, hK, _ => hK γ σ w sl a (.refl _ _ _) hr h
  | i :: l, so :: sos, γ, σ, w, sl, a, hr, hl, hm, h, hK, hKp => by
    obtain ⟨o, ho, ht⟩ := hm 0 i so rfl rfl
    rw [wpOps_cons]
    refine sOper_sound hr ho ht (K := sOps P G Kp K sos) h (fun γ' σ' w' sl' a' he hr' hk => ?_) (fun γ' σ' w' v x he hi hv hk => hKp γ' σ' w' v x a he ⟨hi, fun _ _ h => (by cases h), hr.size, hr.defs⟩ hv hk)
    exact sOps_sound l sos hr' (by simpa using hl) (fun k i so hk hs => hm (k + 1) i so (by simpa using hk) (by simpa using hs)) hk
      (fun γ2 σ2 w2 sl2 a2 he2 hr2 hk2 => hK γ2 σ2 w2 sl2 a2 (he.trans he2) hr2 hk2) (fun γ2 σ2 w2 v x a2 he2 hr2 hv hk2 => hKp γ2 σ2 w2 v x a2 (he.trans he2) hr2 hv hk2)
  | [], _ :: _, _, _, _, _, _, _, hl, _, _, _, _ => by simp at hl
  | _ :: _, [], _, _, _, _, _, _, hl, _, _, _, _ => by simp at hl

/-! ### what an operation looks at, and its class -/
def Opd.slot : Opd → List Nat
  | .t k => [k]
  | _ => []
def optSlot : Option Opd → List Nat
  | some x => x.slot
  | none => []
def SOp.reads : SOp → List Nat
  | .mv x | .box x | .nilchk x | .un _ x | .i2i _ x | .b2s x | .s2b x | .s2s x | .mkif _ x | .faddr _ x | .field _ _ _ x | .extract _ x | .len _ x | .panic x | .tassert _ _ _ _ x | .load _ _ x => x.slot
  | .pick c x y => c.slot ++ x.slot ++ y.slot
  | .alloc _ => []
  | .build _ ps => (ps.map (·.2.2.slot)).flatten
  | .mkslice _ xs | .mm _ xs | .call _ xs => (xs.map Opd.slot).flatten
  | .store _ x y | .bin _ x y | .bins _ x y | .binb _ x y | .eqs _ _ x y | .eqn _ x y | .iaddr _ x y | .iaddrA _ _ x y | .idxs x y | .idxa _ _ _ x y | .append _ _ x y | .appends _ x y => x.slot ++ y.slot
  | .mkfn _ a b => (a.map Opd.slot).flatten ++ (b.map Opd.slot).flatten
  | .slice _ x lo hi => x.slot ++ optSlot lo ++ optSlot hi
  | .cuts x lo hi => x.slot ++ optSlot lo ++ optSlot hi
  | .callv x xs => x.slot ++ (xs.map Opd.slot).flatten
def SOp.cls : SOp → Nat
  | .load _ _ _ => 1
  | .alloc _ | .box _ | .append _ _ _ _ | .appends _ _ _ => 2
  | .store _ _ _ | .call _ _ | .callv _ _ | .panic _ => 3
  | _ => 0
def SOper.reads (o : SOper) : List Nat := o.op.reads ++ (match o.guard with | some (g, _) => [g] | none => [])

def Alike (rs : List Nat) (sl sl' : Slots) : Prop := ∀ k ∈ rs, sl' k = sl k

theorem Opd.ev_alike {x : Opd} {sl sl' : Slots} (h : Alike x.slot sl sl') : x.ev sl' G = x.ev sl G := by
  cases x <;> simp only [Opd.ev]
  exact h _ (by simp [Opd.slot])
theorem Alike.left {r s : List Nat} {sl sl' : Slots} (h : Alike (r ++ s) sl sl') : Alike r sl sl' := fun k hk => h k (by simp [hk])
theorem Alike.right {r s : List Nat} {sl sl' : Slots} (h : Alike (r ++ s) sl sl') : Alike s sl sl' := fun k hk => h k (by simp [hk])
theorem evs_alike {sl sl' : Slots} : ∀ {xs : List Opd}, Alike (xs.map Opd.slot).flatten sl sl' → evs sl' G xs = evs sl G xs
  | [], _ => rfl
  | x :: xs, h => by
    simp only [List.map_cons, List.flatten_cons] at h
    simp only [evs, Opd.ev_alike h.left, evs_alike h.right]
theorem optSlot_alike {sl sl' : Slots} {x : Option Opd} (h : Alike (optSlot x) sl sl') : x.map (fun y : Opd => y.ev sl' G) = x.map (fun y : Opd => y.ev sl G) := by
  cases x with
  | none => rfl
  | some x => simp only [Option.map_some, Opd.ev_alike (x := x) h]

theorem sOp_alike {o : SOp} {sl sl' : Slots} (h : Alike o.reads sl sl') (σ : St) (K Kp : V → St → Prop) : sOp P G o sl' σ K Kp = sOp P G o sl σ K Kp := by
  cases o <;> simp only [SOp.reads] at h <;> simp only [sOp] <;>
    first
      | rw [Opd.ev_alike h]
      | rw [Opd.ev_alike h.left, Opd.ev_alike h.right]
      | rw [Opd.ev_alike h.left.left, Opd.ev_alike h.left.right, Opd.ev_alike h.right]
      | rw [evs_alike h]
      | rw [evs_alike h.left, evs_alike h.right]
      | rw [Opd.ev_alike h.left, evs_alike h.right]
      | rw [Opd.ev_alike h.left.left, optSlot_alike h.left.right, optSlot_alike h.right]
      | (rw [evs_alike (by simpa [List.map_map, Function.comp_def] using h)])
      | rfl

end
end Go.Shadow
