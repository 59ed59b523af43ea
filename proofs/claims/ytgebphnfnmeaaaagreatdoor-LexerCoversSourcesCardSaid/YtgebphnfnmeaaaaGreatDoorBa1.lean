/- Proved: parts of the proof: THE SHADOW LOGIC, part 12: regions, in the text's order and in whatever order is drawn; THE SHADOW LOGIC, part 13: operations that may change places; regions that draw their order; THE SHADOW LOGIC, part 14: a region whose order is drawn: one order serves all; THE SHADOW LOGIC, part 15: code, and calls of functions; THE SHADOW LOGIC, part 16: the same, cut for stepping: each place where a proof has to say something is a structure of its own; THE SHADOW LOGIC, part 19: functions that defer calls; Shadow code of the functions of the lexer (printed by a program); The lexer in plain Lean: no progr. Conditions: as each theorem says. -/
import Derived.Test.YtgebphnfnmeaaaaGreatDoorBa0
import Derived.IntWalk
import Derived.Defers
import Derived.Test.YtgebphnfnmeaaaaGreatDoorProg
import Init
import Derived.Lib.AtoiAll
import Derived.Lib.Bytealg
import Derived.Shelf.Strings.Builder1
import Derived.Shelf.Strings.Builder2
import Derived.Shelf.Strings.OnBuilder
import Derived.Shelf.Small.Strs
import Derived.Shelf.Strings.BuilderF
import Derived.Shelf.Utf8.RuneCount
import Derived.Shelf.Strings.Builder2Cap
import Derived.Shelf.Strconv.Atoi
import Derived.Shelf.Strconv.Itoa0
import Derived.Shelf.Strconv.Itoa1
import Derived.Shelf.LaysM
import Derived.Shelf.Strconv.Itoa2
import Derived.Shelf.Strconv.Itoa3
import Derived.Shelf.Strconv.AtoiErrFast
import Derived.Shelf.Strconv.ParseIntEmpty
import Derived.Shelf.Strconv.AtoiFail
import Derived.Shelf.Strconv.Clone
import Derived.Shelf.Strconv.SyntaxError
import Derived.Shelf.LaysC
import Derived.Shelf.Strconv.ToError
import Derived.Shelf.Strconv.Lower
import Derived.Shelf.Strconv.ParseUint10
import Derived.Shelf.Strconv.ParseUint10Empty
import Derived.Shelf.Strconv.ParseUint10Any
import Derived.Shelf.Strconv.ParseInt10
import Derived.Shelf.Strconv.AtoiLong
import Derived.Shelf.Strconv.AtoiInnerAll
import Derived.Shelf.Strconv.RangeError
import Derived.Shelf.Strconv.ToErrorRange
import Derived.Shelf.Strconv.AtoiAll
import Derived.Shelf.Strconv.ParseUintEmpty
import Derived.Shelf.Strings.Search1
import Derived.Shelf.Strings.Search2
import Derived.Shelf.Strings.Search3
import Derived.Shelf.Strings.Count
import Derived.Shelf.Strings.Shaped
import Derived.Shelf.Strings.Prefix
import Derived.Shelf.Strings.Split
import Derived.Shelf.Strings.Fields
import Derived.Shelf.Strings.SplitShaped
import Derived.Shelf.Unicode.Latin
import Derived.Shelf.Strings.RuneCount
import Derived.Shelf.Unicode.Is16White
import Derived.Shelf.Unicode.IsSpaceAny
import Derived.Shelf.Unicode.Is16WhiteD
import Derived.Shelf.Unicode.IsSpaceAnyD
import Derived.Shelf.Strings.FieldsAny
import Derived.Shelf.Strings.FieldsFuncAny
import Derived.Shelf.Unicode.Is16Any
import Derived.Shelf.Unicode.Is32Any
import Derived.Shelf.Unicode.ExclAny
import Derived.Shelf.Abstract
import Derived.Lib.AppendIntMem
import Derived.Lib.AtoiErrMem

/- THE SHADOW LOGIC, part 12: regions, in the text's order and in whatever order is drawn. -/
namespace Go.Shadow
open Go Go.RowKit

def dstOK (n : Nat) : Option Nat → Bool
  | some d => decide (d < n)
  | none => true
def trOper (P : Program) (n : Nat) (ops : Array Oper) (o : Oper) : Option SOper :=
  match trOp P o.op with
  | some so => if dstOK n o.dst = true then match o.guard with
    | none => some ⟨o.dst, so, none⟩
    | some (j, want) => match (ops[j]?).bind (·.dst) with
      | some g => some ⟨o.dst, so, some (g, want)⟩
      | none => none
    else none
  | none => none
def trOpers (P : Program) (n : Nat) (ops : Array Oper) : List Oper → Option (List SOper)
  | [] => some []
  | o :: r => match trOper P n ops o, trOpers P n ops r with
    | some s, some ss => some (s :: ss)
    | _, _ => none

section
variable {P : Program} {G : Globs} {w0 w : World} {γ : Gh} {σ : St} {n : Nat} {ds : List Deferred} {sl : Slots} {a : Act} {Kp : V → St → Prop}

theorem Rel.ext (hr : Rel G w0 γ σ w n ds sl a) {γ' : Gh} {σ' : St} {w' : World} (he : Ext w0.heap.size γ w γ' w') (hi : Inv G w0 γ' σ' w') : Rel G w0 γ' σ' w' n ds sl a :=
  ⟨hi, fun t v h => (hr.slots t v h).ext he, hr.size, hr.defs⟩

theorem Rel.put (hr : Rel G w0 γ σ w n ds sl a) {d : Option Nat} (hd : ∀ k, d = some k → k < n) {v : V} {x : Value} (hv : R w0.heap.size γ w v x) : Rel G w0 γ σ w n ds (putD sl d v) (a.put d x) := by
  cases d with
  | none => exact hr
  | some k =>
    refine ⟨hr.inv, fun t u h => ?_, by simp [Act.put, hr.size], by simp [Act.put, hr.defs]⟩
    simp only [putD, Slots.upd] at h
    have hk := hd k rfl
    split at h
    · rename_i htk; subst htk
      injection h with h; subst h
      have hlt : t < a.tmps.size := by rw [hr.size]; exact hk
      simp only [Act.put, Array.getD_eq_getD_getElem?, Array.getElem?_setIfInBounds, if_true, if_pos hlt, Option.getD_some]
      exact hv
    · rename_i htk
      have := hr.slots t u h
      simp only [Act.put, Array.getD_eq_getD_getElem?, Array.getElem?_setIfInBounds, if_neg (Ne.symm htk)] at this ⊢
      exact this

theorem sOper_sound (hr : Rel G w0 γ σ w n ds sl a) {ops : Array Oper} {i : Nat} {o : Oper} {so : SOper} (ho : ops[i]? = some o) (ht : trOper P n ops o = some so) {K : Slots → St → Prop} (h : sOper P G so sl σ K Kp)
    {K' : Act → World → Prop} {Q : Exit → Act → World → Prop} (hK : ∀ γ' σ' w' sl' a', Ext w0.heap.size γ w γ' w' → Rel G w0 γ' σ' w' n ds sl' a' → K sl' σ' → K' a' w')
    (hKp : ∀ γ' σ' w' v x, Ext w0.heap.size γ w γ' w' → Inv G w0 γ' σ' w' → R w0.heap.size γ' w' v x → Kp v σ' → Q (.panic [{ v := x, recovered := false }]) a w') : wpOp P ops Q i K' a w := by
  unfold wpOp
  simp only [ho]
  unfold trOper at ht
  split at ht
  · rename_i s hs
    split at ht
    · rename_i hd
      have hd' : ∀ k, o.dst = some k → k < n := by intro k hk; simpa [hk, dstOK] using hd
      have exec : sOp P G s sl σ (fun v σ' => K (putD sl o.dst v) σ') Kp → o.wp P a w K' Q := fun hx =>
        sOp_sound hr hs hx K' Q (fun γ' σ' w' v x he hi hv hk => hK γ' σ' w' _ _ he ((hr.ext he hi).put hd' hv) hk) hKp
      have skip : K (putD sl o.dst (.tup [])) σ → K' (a.put o.dst undef) w := fun hx => hK γ σ w _ _ (.refl _ _ _) (hr.put hd' .undef) hx
      split at ht
      · rename_i hg
        injection ht with ht; subst ht
        simp only [sOper] at h
        simp only [Region.wanted, hg, if_true]
        exact .inl (exec h)
      · rename_i j want hg
        split at ht
        · rename_i g hgd
          injection ht with ht; subst ht
          simp only [sOper] at h
          have hy : ∀ u, sl g = some u → ∃ x, a.tmps.getD g undef = x ∧ R w0.heap.size γ w u x := fun u hu => ⟨_, rfl, hr.slots g u hu⟩
          split at h
          · rename_i b hb
            obtain ⟨x, hx, hRx⟩ := hy _ hb
            cases hRx
            have hget : a.tmps[g]? = some (.bool b) := by
              rw [Array.getD_eq_getD_getElem?] at hx
              cases hq : a.tmps[g]? with
              | none => rw [hq] at hx; simp [undef] at hx
              | some z => rw [hq] at hx; simp at hx; rw [hx]
            have hw : Region.wanted o (yielded ops a.tmps) = (b == want) := by
              simp only [Region.wanted, hg, yielded, hgd, Option.bind_some, hget]
              cases b <;> cases want <;> rfl
            rw [hw]
            cases hbw : b == want with
            | true => simp only [if_true]; exact .inl (exec (h.1 hbw))
            | false => simp only [Bool.false_eq_true, if_false]; exact skip (h.2 hbw)
          · rename_i hb
            obtain ⟨x, hx, hRx⟩ := hy _ hb
            cases hRx with | tup _ vs hl _ =>
            have hw : Region.wanted o (yielded ops a.tmps) = false := by
              simp only [Region.wanted, hg, yielded, hgd, Option.bind_some]
              rw [Array.getD_eq_getD_getElem?] at hx
              cases hq : a.tmps[g]? with
              | none => rfl
              | some z => rw [hq] at hx; simp at hx; subst hx; rfl
            rw [hw]
            simp only [Bool.false_eq_true, if_false]
            exact skip h
          · exact h.elim
        · cases ht
    · cases ht
  · cases ht

theorem sOps_sound {ops : Array Oper} {Q : Exit → Act → World → Prop} {K : Slots → St → Prop} : ∀ (l : List Nat) (sos : List SOper) {γ : Gh} {σ : St} {w : World} {sl : Slots} {a : Act}, Rel G w0 γ σ w n ds sl a → l.length = sos.length →
    (∀ (k i : Nat) (so : SOper), l[k]? = some i → sos[k]? = some so → ∃ o, ops[i]? = some o ∧ trOper P n ops o = some so) → sOps P G Kp K sos sl σ →
    (∀ γ' σ' w' sl' a', Ext w0.heap.size γ w γ' w' → Rel G w0 γ' σ' w' n ds sl' a' → K sl' σ' → Q .normal a' w') →
    (∀ γ' σ' w' v x a', Ext w0.heap.size γ w γ' w' → Rel G w0 γ' σ' w' n ds (fun _ => none) a' → R w0.heap.size γ' w' v x → Kp v σ' → Q (.panic [{ v := x, recovered := false }]) a' w') → wpOps P ops Q l a w
  | [], [], γ, σ, w, sl, a, hr, _, _, h, hK, _ => hK γ σ w sl a (.refl _ _ _) hr h
  | i :: l, so :: sos, γ, σ, w, sl, a, hr, hl, hm, h, hK, hKp => by
    obtain ⟨o, ho, ht⟩ := hm 0 i so rfl rfl
    rw [wpOps_cons]
    refine sOper_sound hr ho ht (K := sOps P G Kp K sos) h (fun γ' σ' w' sl' a' he hr' hk => ?_) (fun γ' σ' w' v x he hi hv hk => hKp γ' σ' w' v x a he ⟨hi, fun _ _ h => (by cases h), hr.size, hr.defs⟩ hv hk)
    exact sOps_sound l sos hr' (by simpa using hl) (fun k i so hk hs => hm (k + 1) i so (by simpa using hk) (by simpa using hs)) hk
      (fun γ2 σ2 w2 sl2 a2 he2 hr2 hk2 => hK γ2 σ2 w2 sl2 a2 (he.trans he2) hr2 hk2) (fun γ2 σ2 w2 v x a2 he2 hr2 hv hk2 => hKp γ2 σ2 w2 v x a2 (he.trans he2) hr2 hv hk2)
  | [], _ :: _, _, _, _, _, _, _, hl, _, _, _, _ => by simp at hl
  | _ :: _, [], _, _, _, _, _, _, hl, _, _, _, _ => by simp at hl

/-! ### what an operation looks at, and its class -/
def Opd.slot : Opd → List Nat
  | .t k => [k]
  | _ => []
def optSlot : Option Opd → List Nat
  | some x => x.slot
  | none => []
def SOp.reads : SOp → List Nat
  | .mv x | .box x | .nilchk x | .un _ x | .i2i _ x | .b2s x | .s2b x | .s2s x | .mkif _ x | .faddr _ x | .field _ _ _ x | .extract _ x | .len _ x | .panic x | .tassert _ _ _ _ x | .load _ _ x | .conv2u x => x.slot
  | .pick c x y => c.slot ++ x.slot ++ y.slot
  | .alloc _ => []
  | .build _ ps => (ps.map (·.2.2.slot)).flatten
  | .mkslice _ xs | .mm _ xs | .call _ xs | .callk _ xs => (xs.map Opd.slot).flatten
  | .store _ x y | .bin _ x y | .bins _ x y | .binb _ x y | .eqs _ _ x y | .eqn _ x y | .iaddr _ x y | .iaddrA _ _ x y | .idxs x y | .idxa _ _ _ x y | .append _ _ x y | .appends _ x y | .mkmsl _ _ _ x y | .copy x y => x.slot ++ y.slot
  | .mkfn _ a b => (a.map Opd.slot).flatten ++ (b.map Opd.slot).flatten
  | .slice _ x lo hi => x.slot ++ optSlot lo ++ optSlot hi
  | .cuts x lo hi => x.slot ++ optSlot lo ++ optSlot hi
  | .callv x xs | .calli _ x xs => x.slot ++ (xs.map Opd.slot).flatten
def SOp.cls : SOp → Nat
  | .load _ _ _ | .b2s _ => 1
  | .alloc _ | .box _ | .append _ _ _ _ | .appends _ _ _ | .callk _ _ => 2
  | .store _ _ _ | .call _ _ | .callv _ _ | .panic _ | .calli _ _ _ | .mkmsl _ _ _ _ _ | .copy _ _ | .conv2u _ => 3
  | _ => 0
def SOper.reads (o : SOper) : List Nat := o.op.reads ++ (match o.guard with | some (g, _) => [g] | none => [])

def Alike (rs : List Nat) (sl sl' : Slots) : Prop := ∀ k ∈ rs, sl' k = sl k

theorem Opd.ev_alike {x : Opd} {sl sl' : Slots} (h : Alike x.slot sl sl') : x.ev sl' G = x.ev sl G := by
  cases x <;> simp only [Opd.ev]
  exact h _ (by simp [Opd.slot])
theorem Alike.left {r s : List Nat} {sl sl' : Slots} (h : Alike (r ++ s) sl sl') : Alike r sl sl' := fun k hk => h k (by simp [hk])
theorem Alike.right {r s : List Nat} {sl sl' : Slots} (h : Alike (r ++ s) sl sl') : Alike s sl sl' := fun k hk => h k (by simp [hk])
theorem evs_alike {sl sl' : Slots} : ∀ {xs : List Opd}, Alike (xs.map Opd.slot).flatten sl sl' → evs sl' G xs = evs sl G xs
  | [], _ => rfl
  | x :: xs, h => by
    simp only [List.map_cons, List.flatten_cons] at h
    simp only [evs, Opd.ev_alike h.left, evs_alike h.right]
theorem optSlot_alike {sl sl' : Slots} {x : Option Opd} (h : Alike (optSlot x) sl sl') : x.map (fun y : Opd => y.ev sl' G) = x.map (fun y : Opd => y.ev sl G) := by
  cases x with
  | none => rfl
  | some x => simp only [Option.map_some, Opd.ev_alike (x := x) h]

theorem sOp_alike {o : SOp} {sl sl' : Slots} (h : Alike o.reads sl sl') (σ : St) (K Kp : V → St → Prop) : sOp P G o sl' σ K Kp = sOp P G o sl σ K Kp := by
  cases o <;> simp only [SOp.reads] at h <;> simp only [sOp] <;>
    first
      | rw [Opd.ev_alike h]
      | rw [Opd.ev_alike h.left, Opd.ev_alike h.right]
      | rw [Opd.ev_alike h.left.left, Opd.ev_alike h.left.right, Opd.ev_alike h.right]
      | rw [evs_alike h]
      | rw [evs_alike h.left, evs_alike h.right]
      | rw [Opd.ev_alike h.left, evs_alike h.right]
      | rw [Opd.ev_alike h.left.left, optSlot_alike h.left.right, optSlot_alike h.right]
      | (rw [evs_alike (by simpa [List.map_map, Function.comp_def] using h)])
      | rfl

end
end Go.Shadow

/- THE SHADOW LOGIC, part 13: operations that may change places; regions that draw their order. -/
namespace Go.Shadow
open Go Go.RowKit

section
variable {P : Program} {G : Globs} {w0 w : World} {γ : Gh} {σ : St} {n : Nat} {ds : List Deferred} {sl : Slots} {a : Act}

theorem sBin_char {op : BinOp} {k : IntKind} {x y : Int} {K : V → Prop} (h : sBin op k x y K) : ∃ v, K v ∧ ∀ K' : V → Prop, K' v → sBin op k x y K' := by
  cases op <;> simp only [sBin] at h ⊢ <;> first | exact ⟨_, h, fun _ h => h⟩ | exact ⟨_, h.2, fun _ h' => ⟨h.1, h'⟩⟩
theorem sBinS_char {op : BinOp} {x y : List UInt8} {K : V → Prop} (h : sBinS op x y K) : ∃ v, K v ∧ ∀ K' : V → Prop, K' v → sBinS op x y K' := by
  cases op <;> simp only [sBinS] at h ⊢ <;> first | exact h.elim | exact ⟨_, h, fun _ h => h⟩ | exact ⟨_, h.2, fun _ h' => ⟨h.1, h'⟩⟩

def Char (P : Program) (G : Globs) (o : SOp) (sl : Slots) (σ : St) (K : V → St → Prop) (fits : St → Prop) : Prop :=
  ∃ v, K v σ ∧ ∀ (sl' : Slots) (σ' : St) (K' Kp' : V → St → Prop), Alike o.reads sl sl' → fits σ' → K' v σ' → sOp P G o sl' σ' K' Kp'

theorem pure_char {o : SOp} {K Kp : V → St → Prop} (hc : o.cls = 0) (h : sOp P G o sl σ K Kp) : Char P G o sl σ K fun _ => True := by
  cases o <;> first | (simp [SOp.cls] at hc; done) | skip
  case bin op x y =>
    simp only [sOp] at h
    split at h
    · rename_i k u k' v h1 h2
      obtain ⟨r, hr, hk⟩ := sBin_char h.2
      exact ⟨r, hr, fun sl' σ' K' Kp' ha _ hk' => by rw [sOp_alike ha]; simp only [sOp, h1, h2]; exact ⟨h.1, hk _ hk'⟩⟩
    · exact h.elim
  case bins op x y =>
    simp only [sOp] at h
    split at h
    · rename_i u v h1 h2
      obtain ⟨r, hr, hk⟩ := sBinS_char h
      exact ⟨r, hr, fun sl' σ' K' Kp' ha _ hk' => by rw [sOp_alike ha]; simp only [sOp, h1, h2]; exact hk _ hk'⟩
    · exact h.elim
  case pick c x y =>
    simp only [sOp] at h
    split at h
    · rename_i b u v h1 h2 h3
      cases b
      · exact ⟨v, h.2 rfl, fun sl' σ' K' Kp' ha _ hk' => by rw [sOp_alike ha]; simp only [sOp, h1, h2, h3]; exact ⟨fun h => (by cases h), fun _ => hk'⟩⟩
      · exact ⟨u, h.1 rfl, fun sl' σ' K' Kp' ha _ hk' => by rw [sOp_alike ha]; simp only [sOp, h1, h2, h3]; exact ⟨fun _ => hk', fun h => (by cases h)⟩⟩
    · exact h.elim
  case slice z x lo hi =>
    simp only [sOp] at h
    split at h
    · rename_i h1 h2 h3
      exact ⟨_, h.2.2.2.2, fun sl' σ' K' Kp' ha _ hk' => by rw [sOp_alike ha]; simp only [sOp, h1, h2, h3]; exact ⟨h.1, h.2.1, h.2.2.1, h.2.2.2.1, hk'⟩⟩
    · rename_i h1 h2 h3
      exact ⟨_, h.2.2.2, fun sl' σ' K' Kp' ha _ hk' => by rw [sOp_alike ha]; simp only [sOp, h1, h2, h3]; exact ⟨h.1, h.2.1, h.2.2.1, hk'⟩⟩
    · rename_i h1 h2 h3
      exact ⟨_, h.2.2.2, fun sl' σ' K' Kp' ha _ hk' => by rw [sOp_alike ha]; simp only [sOp, h1, h2, h3]; exact ⟨h.1, h.2.1, h.2.2.1, hk'⟩⟩
    · rename_i h1 h2 h3
      exact ⟨_, h.2.2.2, fun sl' σ' K' Kp' ha _ hk' => by rw [sOp_alike ha]; simp only [sOp, h1, h2, h3]; exact ⟨h.1, h.2.1, h.2.2.1, hk'⟩⟩
    · rename_i h1 h2 h3
      exact ⟨_, h.2, fun sl' σ' K' Kp' ha _ hk' => by rw [sOp_alike ha]; simp only [sOp, h1, h2, h3]; exact ⟨h.1, hk'⟩⟩
    · exact h.elim
  case cuts x lo hi =>
    simp only [sOp] at h
    split at h
    · rename_i h1 h2 h3
      exact ⟨_, h.2.2.2, fun sl' σ' K' Kp' ha _ hk' => by rw [sOp_alike ha]; simp only [sOp, h1, h2, h3]; exact ⟨h.1, h.2.1, h.2.2.1, hk'⟩⟩
    · rename_i h1 h2 h3
      exact ⟨_, h.2.2, fun sl' σ' K' Kp' ha _ hk' => by rw [sOp_alike ha]; simp only [sOp, h1, h2, h3]; exact ⟨h.1, h.2.1, hk'⟩⟩
    · rename_i h1 h2 h3
      exact ⟨_, h.2.2, fun sl' σ' K' Kp' ha _ hk' => by rw [sOp_alike ha]; simp only [sOp, h1, h2, h3]; exact ⟨h.1, h.2.1, hk'⟩⟩
    · rename_i h1 h2 h3
      exact ⟨_, h, fun sl' σ' K' Kp' ha _ hk' => by rw [sOp_alike ha]; simp only [sOp, h1, h2, h3]; exact hk'⟩
    · exact h.elim
  all_goals
    simp only [sOp] at h
    (repeat' split at h)
    all_goals first
      | exact h.elim
      | exact False.elim h.2
      | exact False.elim h.2.2
      | exact False.elim h.2.2.2
      | (exact ⟨_, by first | exact h | exact h.2 | exact h.2.2 | exact h.2.2.2 | exact h.2.2.2.2, fun sl' σ' K' Kp' ha _ hk' => by
          rw [sOp_alike ha]; simp only [sOp]; first | (simp [*]; done) | (simp_all; done)⟩)

theorem load_char {g : Bool} {m : Nat} {x : Opd} {K Kp : V → St → Prop} (h : sOp P G (.load g m x) sl σ K Kp) : Char P G (.load g m x) sl σ K fun σ' => ∀ b cs, σ.box b = some cs → σ'.box b = some cs := by
  simp only [sOp] at h
  split at h
  · rename_i cs hcs
    rw [Option.bind_eq_some_iff] at hcs
    obtain ⟨u, hu, hat⟩ := hcs
    split at h
    · rename_i v hv
      refine ⟨v, h.2, fun sl' σ' K' Kp' ha hf hk' => ?_⟩
      rw [sOp_alike ha]
      have hat' : σ'.at u = some cs := by
        cases u <;> simp only [St.at] at hat ⊢ <;> first | exact hat | cases hat | skip
        rename_i b off
        rw [Option.map_eq_some_iff] at hat ⊢
        obtain ⟨c, hc, he⟩ := hat
        exact ⟨c, hf b c hc, he⟩
      simp only [sOp, hu, Option.bind_some, hat', hv]
      exact ⟨h.1, hk'⟩
    · exact h.2.elim
  · exact h.elim

theorem b2s_char {x : Opd} {K Kp : V → St → Prop} (h : sOp P G (.b2s x) sl σ K Kp) : Char P G (.b2s x) sl σ K fun σ' => ∀ b cs, σ.box b = some cs → σ'.box b = some cs := by
  simp only [sOp] at h
  split at h
  · rename_i h1
    split at h
    · rename_i l hl
      exact ⟨_, h.2, fun sl' σ' K' Kp' ha hf hk' => by rw [sOp_alike ha]; simp only [sOp, h1, hl]; exact ⟨h.1, hk'⟩⟩
    · exact h.2.elim
  · rename_i h1
    split at h
    · rename_i cs hcs
      split at h
      · rename_i l hl
        exact ⟨_, h.2, fun sl' σ' K' Kp' ha hf hk' => by rw [sOp_alike ha]; simp only [sOp, h1, hf _ _ hcs, hl]; exact ⟨h.1, hk'⟩⟩
      · exact h.2.elim
    · exact h.elim
  · exact h.elim

/-- An operation that makes memory leaves what is known of variables. -/
theorem alloc_keeps {o : SOp} {K Kp : V → St → Prop} (hc : o.cls ≤ 2) (h : sOp P G o sl σ K Kp) : sOp P G o sl σ (fun v σ' => K v σ' ∧ ∀ b cs, σ.box b = some cs → σ'.box b = some cs) Kp := by
  by_cases h0 : o.cls = 0
  · obtain ⟨v, hv, hk⟩ := pure_char h0 h
    exact hk sl σ _ _ (fun _ _ => rfl) trivial ⟨hv, fun _ _ h => h⟩
  · cases o <;> first | (simp [SOp.cls] at h0; done) | (simp [SOp.cls] at hc; done) | skip
    case load =>
      obtain ⟨v, hv, hk⟩ := load_char h
      exact hk sl σ _ _ (fun _ _ => rfl) (fun _ _ h => h) ⟨hv, fun _ _ h => h⟩
    case b2s =>
      obtain ⟨v, hv, hk⟩ := b2s_char h
      exact hk sl σ _ _ (fun _ _ => rfl) (fun _ _ h => h) ⟨hv, fun _ _ h => h⟩
    case callk f xs =>
      simp only [sOp] at h ⊢
      split
      · rename_i vs hv; simp only [hv] at h
        exact h.mono fun e σ' he => by
          cases e
          · exact .mk' he.h.1 ⟨he.h.2, he.h.1⟩
          · exact he
      · rename_i hv; simp only [hv] at h
    case alloc z =>
      simp only [sOp] at h ⊢
      intro b hb
      refine ⟨h b hb, fun b' cs hbx => ?_⟩
      have : b' ≠ b := by rintro rfl; rw [hb] at hbx; cases hbx
      simp [St.put, this, hbx]
    case box x =>
      simp only [sOp] at h ⊢
      split
      · rename_i v hv
        simp only [hv] at h
        refine ⟨h.1, fun b hb => ⟨h.2 b hb, fun b' cs hbx => ?_⟩⟩
        have : b' ≠ b := by rintro rfl; rw [hb] at hbx; cases hbx
        simp [St.put, this, hbx]
      · rename_i hv; simp only [hv] at h
    case append s bytes x y =>
      simp only [sOp] at h ⊢
      split
      · rename_i tag s' es tg s2 ns h1 h2
        simp only [h1, h2] at h
        obtain ⟨g1, g2, g3, g4, h⟩ := h
        refine ⟨g1, g2, g3, g4, ?_⟩
        cases ns <;> cases tag <;> simp only at h ⊢ <;> first
          | exact ⟨h, fun _ _ h => h⟩
          | exact fun t' ht => ⟨h t' ht, fun _ _ h => h⟩
          | exact ⟨h.1, fun t' ht => ⟨h.2 t' ht, fun _ _ h => h⟩⟩
      · rename_i hne
        split at h
        · rename_i h1 h2; exact (hne _ _ _ _ _ _ h1 h2).elim
        · exact h.elim
    case appends bytes x y =>
      simp only [sOp] at h ⊢
      split
      · rename_i tag s' es l h1 h2
        simp only [h1, h2] at h
        obtain ⟨g1, g3, g4, h⟩ := h
        refine ⟨g1, g3, g4, ?_⟩
        cases l <;> cases tag <;> simp only at h ⊢ <;> first
          | exact ⟨h, fun _ _ h => h⟩
          | exact fun t' ht => ⟨h t' ht, fun _ _ h => h⟩
          | exact ⟨h.1, fun t' ht => ⟨h.2 t' ht, fun _ _ h => h⟩⟩
      · rename_i hne
        split at h
        · rename_i h1 h2; exact (hne _ _ _ _ h1 h2).elim
        · exact h.elim

theorem sOp_mono {o : SOp} {K K' Kp : V → St → Prop} (hk : ∀ v σ', K v σ' → K' v σ') (h : sOp P G o sl σ K Kp) : sOp P G o sl σ K' Kp := by
  by_cases h0 : o.cls = 0
  · obtain ⟨v, hv, hc⟩ := pure_char h0 h
    exact hc sl σ _ _ (fun _ _ => rfl) trivial (hk _ _ hv)
  · cases o <;> first | (simp [SOp.cls] at h0; done) | skip
    case load => 
      obtain ⟨v, hv, hc⟩ := load_char h
      exact hc sl σ _ _ (fun _ _ => rfl) (fun _ _ h => h) (hk _ _ hv)
    case b2s =>
      obtain ⟨v, hv, hc⟩ := b2s_char h
      exact hc sl σ _ _ (fun _ _ => rfl) (fun _ _ h => h) (hk _ _ hv)
    case callk f xs =>
      simp only [sOp] at h ⊢
      split
      · rename_i vs hv; simp only [hv] at h
        exact h.mono fun e σ' he => by
          cases e
          · exact .mk' he.h.1 (hk _ _ he.h.2)
          · exact he
      · rename_i hv; simp only [hv] at h
    case calli tbl x xs =>
      simp only [sOp] at h ⊢
      split
      · rename_i t v vs h1 hv
        simp only [h1, hv] at h
        split
        · rename_i f hf; simp only [hf] at h; exact h.mono fun e σ' he => by cases e; exact hk _ _ he; exact he
        · rename_i hf; simp only [hf] at h
      · rename_i hne
        split at h
        · rename_i h1 h2; exact (hne _ _ _ h1 h2).elim
        · exact h.elim
    case mkmsl s bytes z x y =>
      simp only [sOp] at h ⊢
      split
      · rename_i kl l kc c h1 h2
        simp only [h1, h2] at h
        obtain ⟨g1, g2, g3, g4, g5, h⟩ := h
        refine ⟨g1, g2, g3, g4, g5, ?_⟩
        split
        · exact fun t' ht => hk _ _ (h t' ht)
        · exact ⟨h.1, h.2.1, fun b hb => hk _ _ (h.2.2 b hb)⟩
        · exact h
      · rename_i hne
        split at h
        · rename_i h1 h2; exact (hne _ _ _ _ h1 h2).elim
        · exact h.elim
    case copy x y =>
      simp only [sOp] at h ⊢
      split
      · rename_i b off len cap tag s es h1 h2
        simp only [h1, h2] at h
        split
        · rename_i cs hcs; simp only [hcs] at h; exact ⟨h.1, h.2.1, h.2.2.1, h.2.2.2.1, hk _ _ h.2.2.2.2⟩
        · rename_i hcs; simp only [hcs] at h
      · rename_i hne
        split at h
        · rename_i h1 h2; exact (hne _ _ _ _ _ _ _ h1 h2).elim
        · exact h.elim
    case conv2u x =>
      simp only [sOp] at h ⊢
      split
      · rename_i b off h1
        simp only [h1] at h
        split
        · rename_i cs hcs; simp only [hcs] at h; exact ⟨h.1, hk _ _ h.2⟩
        · rename_i hcs; simp only [hcs] at h
      · rename_i hne
        split at h
        · rename_i h1; exact (hne _ _ h1).elim
        · exact h.elim
    case alloc z => exact fun b hb => hk _ _ (h b hb)
    case box x =>
      simp only [sOp] at h ⊢
      split
      · rename_i v hv; simp only [hv] at h; exact ⟨h.1, fun b hb => hk _ _ (h.2 b hb)⟩
      · rename_i hv; simp only [hv] at h
    case store m x y =>
      simp only [sOp] at h ⊢
      split
      · rename_i b off v h1 h2
        simp only [h1, h2] at h
        split
        · rename_i cs hcs; simp only [hcs] at h; exact ⟨h.1, h.2.1, h.2.2.1, hk _ _ h.2.2.2⟩
        · rename_i hcs; simp only [hcs] at h
      · rename_i hne
        split at h
        · rename_i h1 h2; exact (hne _ _ _ h1 h2).elim
        · exact h.elim
    case call f xs =>
      simp only [sOp] at h ⊢
      split
      · rename_i vs hv; simp only [hv] at h; exact h.mono fun e σ' he => by cases e; exact hk _ _ he; exact he
      · rename_i hv; simp only [hv] at h
    case callv x xs =>
      simp only [sOp] at h ⊢
      split
      · rename_i f u1 u2 vs h1 hv; simp only [h1, hv] at h; exact h.mono fun e σ' he => by cases e; exact hk _ _ he; exact he
      · rename_i hne
        split at h
        · rename_i h1 h2; exact (hne _ _ _ _ h1 h2).elim
        · exact h.elim
    case panic x =>
      simp only [sOp] at h ⊢
      exact h
    case append s bytes x y =>
      simp only [sOp] at h ⊢
      split
      · rename_i tag s' es tg s2 ns h1 h2
        simp only [h1, h2] at h
        obtain ⟨g1, g2, g3, g4, h⟩ := h
        refine ⟨g1, g2, g3, g4, ?_⟩
        cases ns <;> cases tag <;> simp only at h ⊢ <;> first
          | exact hk _ _ h
          | exact fun t' ht => hk _ _ (h t' ht)
          | exact ⟨h.1, fun t' ht => hk _ _ (h.2 t' ht)⟩
      · rename_i hne
        split at h
        · rename_i h1 h2; exact (hne _ _ _ _ _ _ h1 h2).elim
        · exact h.elim
    case appends bytes x y =>
      simp only [sOp] at h ⊢
      split
      · rename_i tag s' es l h1 h2
        simp only [h1, h2] at h
        obtain ⟨g1, g3, g4, h⟩ := h
        refine ⟨g1, g3, g4, ?_⟩
        cases l <;> cases tag <;> simp only at h ⊢ <;> first
          | exact hk _ _ h
          | exact fun t' ht => hk _ _ (h t' ht)
          | exact ⟨h.1, fun t' ht => hk _ _ (h.2 t' ht)⟩
      · rename_i hne
        split at h
        · rename_i h1 h2; exact (hne _ _ _ _ h1 h2).elim
        · exact h.elim

end
end Go.Shadow

/- THE SHADOW LOGIC, part 14: a region whose order is drawn: one order serves all. -/
namespace Go.Shadow
open Go Go.RowKit

section
variable {P : Program} {G : Globs} {w0 w : World} {γ : Gh} {σ : St} {n : Nat} {ds : List Deferred} {sl : Slots} {a : Act} {Kp : V → St → Prop}

theorem sOper_mono {o : SOper} {K K' : Slots → St → Prop} (hk : ∀ s σ', K s σ' → K' s σ') (h : sOper P G o sl σ K Kp) : sOper P G o sl σ K' Kp := by
  unfold sOper at h ⊢
  split
  · rename_i hg; simp only [hg] at h; exact sOp_mono (fun _ _ h => hk _ _ h) h
  · rename_i g want hg
    simp only [hg] at h
    split
    · rename_i b hb; simp only [hb] at h
      exact ⟨fun e => sOp_mono (fun _ _ h => hk _ _ h) (h.1 e), fun e => hk _ _ (h.2 e)⟩
    · rename_i hb; simp only [hb] at h; exact hk _ _ h
    · rename_i h1 h2
      split at h
      · rename_i hb; exact (h1 _ hb).elim
      · rename_i hb; exact (h2 hb).elim
      · exact h

theorem putD_comm {d e : Option Nat} {v u : V} (h : ∀ k, d = some k → e ≠ some k) : putD (putD sl d v) e u = putD (putD sl e u) d v := by
  cases d with
  | none => rfl
  | some d => cases e with
    | none => rfl
    | some e =>
      have hne : e ≠ d := fun he => h d rfl (by rw [he])
      funext t
      simp only [putD, Slots.upd]
      by_cases h1 : t = e
      · subst h1; simp [hne]
      · simp [h1]
theorem putD_other {d : Option Nat} {v : V} {k : Nat} (h : d ≠ some k) : putD sl d v k = sl k := by
  cases d with
  | none => rfl
  | some d => simp only [putD, Slots.upd]; rw [if_neg (fun e => h (by rw [e]))]

/-- x may come behind y, too. -/
def swapOK (x y : SOper) : Bool :=
  (match x.dst with | some d => !y.reads.contains d && y.dst != some d | none => true) &&
  (match y.dst with | some d => !x.reads.contains d | none => true) &&
  (x.op.cls == 0 || (x.op.cls == 1 && decide (y.op.cls ≤ 2)))

theorem swapOK_spec {x y : SOper} (h : swapOK x y = true) : (∀ d, x.dst = some d → d ∉ y.reads ∧ y.dst ≠ some d) ∧ (∀ d, y.dst = some d → d ∉ x.reads) ∧ (x.op.cls = 0 ∨ (x.op.cls = 1 ∧ y.op.cls ≤ 2)) := by
  simp only [swapOK, Bool.and_eq_true, Bool.or_eq_true, beq_iff_eq, decide_eq_true_eq] at h
  obtain ⟨⟨h1, h2⟩, h3⟩ := h
  refine ⟨fun d hd => ?_, fun d hd => ?_, h3⟩
  · simp [hd] at h1; exact h1
  · simp [hd] at h2; exact h2

/-- A pure operation, or one that reads a variable, as it stands. -/
theorem sOper_char {x : SOper} {K : Slots → St → Prop} (hc : x.op.cls ≤ 1) (h : sOper P G x sl σ K Kp) :
    ∃ v, K (putD sl x.dst v) σ ∧ ∀ (sl' : Slots) (σ' : St) (K' : Slots → St → Prop) (Kp' : V → St → Prop), Alike x.reads sl sl' → (x.op.cls = 0 ∨ ∀ b cs, σ.box b = some cs → σ'.box b = some cs) → K' (putD sl' x.dst v) σ' → sOper P G x sl' σ' K' Kp' := by
  have hop : ∀ {K : V → St → Prop}, sOp P G x.op sl σ K Kp → ∃ v, K v σ ∧ ∀ (sl' : Slots) (σ' : St) (K' Kp' : V → St → Prop), Alike x.op.reads sl sl' → (x.op.cls = 0 ∨ ∀ b cs, σ.box b = some cs → σ'.box b = some cs) → K' v σ' → sOp P G x.op sl' σ' K' Kp' := by
    intro K h
    by_cases h0 : x.op.cls = 0
    · obtain ⟨v, hv, hk⟩ := pure_char h0 h
      exact ⟨v, hv, fun sl' σ' K' Kp' ha _ hk' => hk sl' σ' K' Kp' ha trivial hk'⟩
    · generalize x.op = op at h h0 hc ⊢
      cases op <;> first | (simp [SOp.cls] at h0; done) | (simp [SOp.cls] at hc; done) | skip
      all_goals first
        | (obtain ⟨v, hv, hk⟩ := load_char h
           exact ⟨v, hv, fun sl' σ' K' Kp' ha hf hk' => hk sl' σ' K' Kp' ha (hf.resolve_left h0) hk'⟩)
        | (obtain ⟨v, hv, hk⟩ := b2s_char h
           exact ⟨v, hv, fun sl' σ' K' Kp' ha hf hk' => hk sl' σ' K' Kp' ha (hf.resolve_left h0) hk'⟩)
  unfold sOper at h
  split at h
  · rename_i hg
    obtain ⟨v, hv, hk⟩ := hop h
    refine ⟨v, hv, fun sl' σ' K' Kp' ha hf hk' => ?_⟩
    unfold sOper
    simp only [hg]
    exact hk sl' σ' _ _ (by simp only [SOper.reads] at ha; exact ha.left) hf hk'
  · rename_i g want hg
    have hgs : ∀ {sl' : Slots}, Alike x.reads sl sl' → sl' g = sl g := fun ha => ha g (by simp [SOper.reads, hg])
    split at h
    · rename_i b hb
      cases hbw : b == want with
      | true =>
        obtain ⟨v, hv, hk⟩ := hop (h.1 hbw)
        refine ⟨v, hv, fun sl' σ' K' Kp' ha hf hk' => ?_⟩
        unfold sOper
        simp only [hg, hgs ha, hb, hbw, Br_true]
        exact hk sl' σ' _ _ (by simp only [SOper.reads] at ha; exact ha.left) hf hk'
      | false =>
        refine ⟨_, h.2 hbw, fun sl' σ' K' Kp' ha hf hk' => ?_⟩
        unfold sOper
        simp only [hg, hgs ha, hb, hbw, Br_false]
        exact hk'
    · rename_i hb
      refine ⟨_, h, fun sl' σ' K' Kp' ha hf hk' => ?_⟩
      unfold sOper
      simp only [hg, hgs ha, hb]
      exact hk'
    · exact h.elim

theorem sOper_keeps {y : SOper} {K : Slots → St → Prop} (hc : y.op.cls ≤ 2) (h : sOper P G y sl σ K Kp) : sOper P G y sl σ (fun s σ' => K s σ' ∧ ∀ b cs, σ.box b = some cs → σ'.box b = some cs) Kp := by
  unfold sOper at h ⊢
  split
  · rename_i hg; simp only [hg] at h; exact alloc_keeps hc h
  · rename_i g want hg
    simp only [hg] at h
    split
    · rename_i b hb; simp only [hb] at h
      exact ⟨fun e => alloc_keeps hc (h.1 e), fun e => ⟨h.2 e, fun _ _ h => h⟩⟩
    · rename_i hb; simp only [hb] at h; exact ⟨h, fun _ _ h => h⟩
    · rename_i h1 h2
      split at h
      · rename_i hb; exact (h1 _ hb).elim
      · rename_i hb; exact (h2 hb).elim
      · exact h

theorem sOper_frame {x y : SOper} {v : V} {K : Slots → St → Prop} (hd : ∀ d, x.dst = some d → d ∉ y.reads ∧ y.dst ≠ some d) (h : sOper P G y (putD sl x.dst v) σ K Kp) :
    sOper P G y sl σ (fun s σ' => (∃ u, s = putD sl y.dst u) ∧ K (putD s x.dst v) σ') Kp := by
  have ha : Alike y.reads sl (putD sl x.dst v) := by
    intro k hk
    cases hx : x.dst with
    | none => rfl
    | some d =>
      have := (hd d hx).1
      simp only [putD, Slots.upd]
      rw [if_neg (fun e : k = d => this (e ▸ hk))]
  have hcomm : ∀ u, putD (putD sl x.dst v) y.dst u = putD (putD sl y.dst u) x.dst v := fun u => putD_comm (fun k hk => (hd k hk).2)
  unfold sOper at h ⊢
  split
  · rename_i hg
    simp only [hg] at h
    have ha' : Alike y.op.reads sl (putD sl x.dst v) := by simp only [SOper.reads] at ha; exact ha.left
    rw [sOp_alike ha'] at h
    exact sOp_mono (fun u σ' hk => ⟨⟨u, rfl⟩, by rw [← hcomm]; exact hk⟩) h
  · rename_i g want hg
    have hgs : putD sl x.dst v g = sl g := ha g (by simp [SOper.reads, hg])
    have ha' : Alike y.op.reads sl (putD sl x.dst v) := by simp only [SOper.reads] at ha; exact ha.left
    simp only [hg, hgs] at h
    split
    · rename_i b hb
      simp only [hb] at h
      rw [sOp_alike ha'] at h
      exact ⟨fun e => sOp_mono (fun u σ' hk => ⟨⟨u, rfl⟩, by rw [← hcomm]; exact hk⟩) (h.1 e), fun e => ⟨⟨_, rfl⟩, by rw [← hcomm]; exact h.2 e⟩⟩
    · rename_i hb
      simp only [hb] at h
      exact ⟨⟨_, rfl⟩, by rw [← hcomm]; exact h⟩
    · rename_i h1 h2
      split at h
      · rename_i hb; exact (h1 _ hb).elim
      · rename_i hb; exact (h2 hb).elim
      · exact h

theorem swap {x y : SOper} (hs : swapOK x y = true) {K : Slots → St → Prop} (h : sOper P G x sl σ (fun s σ' => sOper P G y s σ' K Kp) Kp) : sOper P G y sl σ (fun s σ' => sOper P G x s σ' K Kp) Kp := by
  obtain ⟨h1, h2, h3⟩ := swapOK_spec hs
  obtain ⟨v, hv, hk⟩ := sOper_char (by rcases h3 with h | h <;> omega) h
  have hf := sOper_frame h1 hv
  have hal : ∀ u, Alike x.reads sl (putD sl y.dst u) := by
    intro u k hk
    exact putD_other (fun e => h2 k e hk)
  rcases h3 with h3 | ⟨h3, h4⟩
  · exact sOper_mono (fun s σ' ⟨⟨u, hu⟩, hK⟩ => by subst hu; exact hk _ σ' K Kp (hal u) (.inl h3) hK) hf
  · exact sOper_mono (fun s σ' ⟨⟨⟨u, hu⟩, hK⟩, hb⟩ => by subst hu; exact hk _ σ' K Kp (hal u) (.inr hb) hK) (sOper_keeps h4 hf)

theorem move_front {so : SOper} {K : Slots → St → Prop} {post : List SOper} : ∀ (pre : List SOper), (∀ x ∈ pre, swapOK x so = true) → ∀ {sl : Slots} {σ : St}, sOps P G Kp K (pre ++ so :: post) sl σ → sOper P G so sl σ (sOps P G Kp K (pre ++ post)) Kp
  | [], _, sl, σ, h => h
  | x :: pre, hp, sl, σ, h => by
    simp only [List.cons_append, sOps] at h
    have h' : sOper P G x sl σ (fun s σ' => sOper P G so s σ' (sOps P G Kp K (pre ++ post)) Kp) Kp := sOper_mono (fun s σ' hh => move_front pre (fun y hy => hp y (by simp [hy])) hh) h
    exact swap (hp x (by simp)) h'

/-- A call that must keep what is known of variables. -/
def SOper.toK (o : SOper) : SOper := match o.op with
  | .call f xs => { o with op := .callk f xs }
  | _ => o
theorem toK_sound {so : SOper} {K : Slots → St → Prop} (h : sOper P G so.toK sl σ K Kp) : sOper P G so sl σ K Kp := by
  obtain ⟨dst, op, guard⟩ := so
  cases op <;> first | exact h | skip
  rename_i f xs
  have key : ∀ {K' : V → St → Prop}, sOp P G (.callk f xs) sl σ K' Kp → sOp P G (.call f xs) sl σ K' Kp := by
    intro K' h
    simp only [sOp] at h ⊢
    split
    · rename_i vs hv; simp only [hv] at h
      exact h.mono fun e σ' he => by
        cases e
        · exact he.h.2
        · exact he
    · rename_i hv; simp only [hv] at h
  simp only [SOper.toK, sOper] at h ⊢
  cases guard with
  | none => exact key h
  | some gw =>
    obtain ⟨g, want⟩ := gw
    simp only at h ⊢
    split
    · rename_i b hb; simp only [hb] at h; exact ⟨fun e => key (h.1 e), h.2⟩
    · rename_i hb; simp only [hb] at h; exact h
    · rename_i h1 h2
      split at h
      · rename_i hb; exact (h1 _ hb).elim
      · rename_i hb; exact (h2 hb).elim
      · exact h.elim

/-! ### which operations come before which, whatever is drawn -/
def binding (o : Oper) : List Nat := (o.after.toList.filter (Region.binds .any)).map (·.on)
def befTab : List (List Nat) → List (List Nat) → List (List Nat)
  | [], acc => acc
  | d :: r, acc => befTab r (acc ++ [(d.flatMap fun j => j :: acc.getD j []).eraseDups])

def Closed (deps : List (List Nat)) (L : Nat → Prop) : Prop := ∀ i, L i → ∀ j ∈ deps.getD i [], L j

theorem befTab_spec {deps : List (List Nat)} {L : Nat → Prop} (hc : Closed deps L) : ∀ (r acc : List (List Nat)), deps = deps.take acc.length ++ r → acc.length ≤ deps.length →
    (∀ i, i < acc.length → (∀ j ∈ deps.getD i [], L j) → ∀ k ∈ acc.getD i [], L k) → ∀ i, (∀ j ∈ deps.getD i [], L j) → ∀ k ∈ (befTab r acc).getD i [], L k
  | [], acc, hd, hl, h, i, hi, k, hk => by
    simp only [befTab] at hk
    by_cases hil : i < acc.length
    · exact h i hil hi k hk
    · rw [List.getD_eq_getElem?_getD, List.getElem?_eq_none (by omega)] at hk; simp at hk
  | d :: r, acc, hd, hl, h, i, hi, k, hk => by
    simp only [befTab] at hk
    have hlen : acc.length < deps.length := by
      have := congrArg List.length hd
      simp at this; omega
    have hdd : deps.getD acc.length [] = d := by
      rw [hd, List.getD_eq_getElem?_getD, List.getElem?_append_right (by simp; omega)]
      simp [Nat.min_eq_left hl]
    refine befTab_spec hc r (acc ++ [(d.flatMap fun j => j :: acc.getD j []).eraseDups]) ?_ (by simp; omega) (fun i' hi' hj' k' hk' => ?_) i hi k hk
    · conv => lhs; rw [hd]
      rw [List.length_append, List.length_singleton]
      have : deps.take (acc.length + 1) = deps.take acc.length ++ [d] := by
        rw [List.take_succ_eq_append_getElem hlen]
        congr 2
        rw [List.getD_eq_getElem?_getD, List.getElem?_eq_getElem hlen] at hdd
        simpa using hdd
      rw [this]; simp
    · by_cases hia : i' < acc.length
      · rw [List.getD_eq_getElem?_getD, List.getElem?_append_left hia] at hk'
        exact h i' hia hj' k' (by rw [List.getD_eq_getElem?_getD]; exact hk')
      · have : i' = acc.length := by simp at hi'; omega
        subst this
        rw [List.getD_eq_getElem?_getD, List.getElem?_append_right (Nat.le_refl _)] at hk'
        simp only [Nat.sub_self, List.getElem?_cons_zero, Option.getD_some, List.mem_eraseDups, List.mem_flatMap, List.mem_cons] at hk'
        obtain ⟨j, hj, hjk⟩ := hk'
        rw [hdd] at hj'
        rcases hjk with rfl | hjk
        · exact hj' _ hj
        · by_cases hja : j < acc.length
          · exact h j hja (hc j (hj' j hj)) k' hjk
          · rw [List.getD_eq_getElem?_getD, List.getElem?_eq_none (by omega)] at hjk; simp at hjk

/-- The pairs of a list of operations (each with its number) that may come up in either order may change places. -/
def pairsOK (tab : List (List Nat)) : List (Nat × SOper) → Bool
  | [] => true
  | x :: r => (r.all fun y => (tab.getD y.1 []).contains x.1 || swapOK x.2 y.2) && pairsOK tab r

theorem pairsOK_sub {tab : List (List Nat)} : ∀ {l : List (Nat × SOper)}, pairsOK tab l = true → ∀ {pre post : List (Nat × SOper)} {y : Nat × SOper}, l = pre ++ y :: post → pairsOK tab (pre ++ post) = true ∧ ∀ x ∈ pre, (tab.getD y.1 []).contains x.1 = true ∨ swapOK x.2 y.2 = true
  | [], _, pre, post, y, h => by cases pre <;> simp at h
  | z :: l, hp, [], post, y, h => by
    simp at h; obtain ⟨rfl, rfl⟩ := h
    simp only [pairsOK, Bool.and_eq_true] at hp
    exact ⟨hp.2, by simp⟩
  | z :: l, hp, x :: pre, post, y, h => by
    simp at h; obtain ⟨rfl, rfl⟩ := h
    simp only [pairsOK, Bool.and_eq_true, List.all_eq_true] at hp
    obtain ⟨g1, g2⟩ := pairsOK_sub hp.2 (pre := pre) (post := post) (y := y) rfl
    refine ⟨?_, fun x hx => ?_⟩
    · simp only [List.cons_append, pairsOK, Bool.and_eq_true, List.all_eq_true]
      exact ⟨fun q hq => hp.1 q (by simp at hq ⊢; rcases hq with h | h; exact .inl h; exact .inr (.inr h)), g1⟩
    · simp at hx
      rcases hx with rfl | hx
      · have := hp.1 y (by simp)
        simpa using this
      · exact g2 x hx

/-- One order of a region's operations serves all. -/
theorem any_order {ops : Array Oper} {Q : Exit → Act → World → Prop} {K : Slots → St → Prop} (deps : List (List Nat)) (hdeps : ∀ i o, ops[i]? = some o → deps.getD i [] = binding o) (hback : ∀ i, ∀ j ∈ deps.getD i [], j < i) (tab : List (List Nat))
    (htab : ∀ L, Closed deps L → ∀ i, (∀ j ∈ deps.getD i [], L j) → ∀ k ∈ tab.getD i [], L k) :
    ∀ (fuel : Nat) (l : List (Nat × SOper)) (listed : Array Bool) {γ : Gh} {σ : St} {w : World} {sl : Slots} {a : Act}, l.length = fuel → listed.size = ops.size →
      (∀ i, i < ops.size → (listed.getD i true = false ↔ i ∈ l.map (·.1))) → (l.map (·.1)).Nodup → (∀ p ∈ l, ∃ o so, ops[p.1]? = some o ∧ trOper P n ops o = some so ∧ (p.2 = so ∨ p.2 = so.toK)) → Closed deps (fun i => listed.getD i false = true ∨ ops.size ≤ i) → pairsOK tab l = true →
      Rel G w0 γ σ w n ds sl a → sOps P G Kp K (l.map (·.2)) sl σ →
      (∀ γ' σ' w' sl' a', Ext w0.heap.size γ w γ' w' → Rel G w0 γ' σ' w' n ds sl' a' → K sl' σ' → Q .normal a' w') →
      (∀ γ' σ' w' v x a', Ext w0.heap.size γ w γ' w' → Rel G w0 γ' σ' w' n ds (fun _ => none) a' → R w0.heap.size γ' w' v x → Kp v σ' → Q (.panic [{ v := x, recovered := false }]) a' w') →
      wpAny P .any ops Q fuel listed a w := by
  intro fuel
  induction fuel with
  | zero =>
    intro l listed γ σ w sl a hlen hsz hli hnd htr hcl hpo hr h hK hKp
    have : l = [] := List.eq_nil_of_length_eq_zero hlen
    subst this
    refine ⟨?_, hK γ σ w sl a (.refl _ _ _) hr h⟩
    apply List.eq_nil_iff_forall_not_mem.2
    intro j hj
    obtain ⟨hj2, o, hj1, _⟩ := mem_ready.1 hj
    have := (hli j (Array.getElem?_eq_some_iff.1 hj1).1).1 hj2
    simp at this
  | succ fuel ih =>
    intro l listed γ σ w sl a hlen hsz hli hnd htr hcl hpo hr h hK hKp
    refine ⟨fun hre => ?_, fun i hi => ?_⟩
    · -- the least that is left is ready
      exfalso
      have hex : ∃ i, i < ops.size ∧ listed.getD i true = false := by
        cases l with
        | nil => simp at hlen
        | cons p l =>
          obtain ⟨o, _, ho, _⟩ := htr p (by simp)
          have hlt : p.1 < ops.size := (Array.getElem?_eq_some_iff.1 ho).1
          exact ⟨p.1, hlt, (hli p.1 hlt).2 (by simp)⟩
      have hmin : ∀ m, ∀ i, i ≤ m → i < ops.size → listed.getD i true = false → False := by
        intro m
        induction m using Nat.strongRecOn with
        | _ m ihm =>
          intro i him hi hli'
          have hnr : i ∉ Region.ready .any ops listed := by rw [hre]; simp
          obtain ⟨o, ho⟩ : ∃ o, ops[i]? = some o := ⟨ops[i], Array.getElem?_eq_getElem hi⟩
          have : ∃ e ∈ o.after.toList, Region.binds .any e = true ∧ listed.getD e.on false = false := by
            apply Classical.byContradiction
            intro hno
            refine hnr (mem_ready.2 ⟨hli', o, ho, fun e he hb => ?_⟩)
            cases hld : listed.getD e.on false with
            | true => rfl
            | false => exact (hno ⟨e, by simpa using he, hb, hld⟩).elim
          obtain ⟨e, he, hb, hld⟩ := this
          have hmem : e.on ∈ deps.getD i [] := by
            rw [hdeps i o ho]
            exact List.mem_map.2 ⟨e, List.mem_filter.2 ⟨he, hb⟩, rfl⟩
          have hlt := hback i e.on hmem
          refine ihm e.on (by omega) e.on (Nat.le_refl _) (by omega) ?_
          have hes : e.on < listed.size := by omega
          rw [Array.getD_eq_getD_getElem?, Array.getElem?_eq_getElem hes] at hld ⊢
          simpa using hld
      obtain ⟨i, hi, hl⟩ := hex
      exact hmin i i (Nat.le_refl _) hi hl
    · obtain ⟨hi2, o, ho, hall⟩ := mem_ready.1 hi
      have hi1 : i < ops.size := (Array.getElem?_eq_some_iff.1 ho).1
      have hil : i ∈ l.map (·.1) := (hli i hi1).1 hi2
      obtain ⟨p, hp, hpi⟩ := List.mem_map.1 hil
      obtain ⟨pre, post, hsplit⟩ := List.append_of_mem hp
      obtain ⟨o', so, ho', htro, hso⟩ := htr p hp
      rw [hpi, ho] at ho'; injection ho' with ho'; subst ho'
      obtain ⟨hpo', hpre⟩ := pairsOK_sub hpo hsplit
      have hready : ∀ j ∈ deps.getD i [], listed.getD j false = true ∨ ops.size ≤ j := by
        intro j hj
        rw [hdeps i o ho] at hj
        obtain ⟨e, he, hej⟩ := List.mem_map.1 hj
        obtain ⟨he1, he2⟩ := List.mem_filter.1 he
        exact .inl (by rw [← hej]; exact hall e (by simpa using he1) he2)
      have hsw : ∀ x ∈ pre, swapOK x.2 p.2 = true := by
        intro x hx
        refine (hpre x hx).resolve_left fun hcont => ?_
        have hk := htab _ hcl i hready x.1 (by rw [← hpi]; simpa using hcont)
        have hxl : x ∈ l := by rw [hsplit]; simp [hx]
        obtain ⟨ox, _, hox, _⟩ := htr x hxl
        have hxlt : x.1 < ops.size := (Array.getElem?_eq_some_iff.1 hox).1
        have hxf := (hli x.1 hxlt).2 (List.mem_map.2 ⟨x, hxl, rfl⟩)
        rcases hk with hk | hk
        · have hes : x.1 < listed.size := by omega
          rw [Array.getD_eq_getD_getElem?, Array.getElem?_eq_getElem hes] at hk hxf
          simp at hk hxf; rw [hk] at hxf; cases hxf
        · omega
      have hmv : sOper P G p.2 sl σ (sOps P G Kp K (pre.map (·.2) ++ post.map (·.2))) Kp := by
        refine move_front (pre.map (·.2)) (fun x hx => ?_) (by rw [hsplit] at h; simpa using h)
        obtain ⟨q, hq, rfl⟩ := List.mem_map.1 hx
        exact hsw q hq
      have hmv2 : sOper P G so sl σ (sOps P G Kp K (pre.map (·.2) ++ post.map (·.2))) Kp := by
        rcases hso with hso | hso
        · rw [← hso]; exact hmv
        · exact toK_sound (by rw [← hso]; exact hmv)
      rw [hsplit] at hnd
      have hnd' : ((pre ++ post).map (·.1)).Nodup ∧ i ∉ (pre ++ post).map (·.1) := by
        simp only [List.map_append, List.map_cons] at hnd ⊢
        have hperm : (pre.map (·.1) ++ p.1 :: post.map (·.1)).Perm (p.1 :: (pre.map (·.1) ++ post.map (·.1))) := List.perm_middle
        have := (hperm.nodup_iff).1 hnd
        rw [List.nodup_cons, hpi] at this
        exact ⟨this.2, this.1⟩
      refine sOper_sound hr ho htro (K := sOps P G Kp K (pre.map (·.2) ++ post.map (·.2))) hmv2 (fun γ' σ' w' sl' a' he hr' hk => ?_) (fun γ' σ' w' v x he hi hv hk => hKp γ' σ' w' v x a he ⟨hi, fun _ _ h => (by cases h), hr.size, hr.defs⟩ hv hk)
      refine ih (pre ++ post) (listed.setIfInBounds i true) (by rw [hsplit] at hlen; simp at hlen ⊢; omega) (by simpa using hsz) (fun j hj => ?_) hnd'.1 (fun q hq => htr q (by rw [hsplit]; simp at hq ⊢; rcases hq with h | h; exact .inl h; exact .inr (.inr h))) ?_ hpo' hr' (by simpa using hk)
        (fun γ2 σ2 w2 sl2 a2 he2 hr2 hk2 => hK γ2 σ2 w2 sl2 a2 (he.trans he2) hr2 hk2) (fun γ2 σ2 w2 v x a2 he2 hr2 hv hk2 => hKp γ2 σ2 w2 v x a2 (he.trans he2) hr2 hv hk2)
      · by_cases hji : j = i
        · subst hji
          constructor
          · intro hc
            rw [Array.getD_eq_getD_getElem?, Array.getElem?_setIfInBounds] at hc
            simp [show j < listed.size by omega] at hc
          · intro hc; exact absurd hc hnd'.2
        · rw [getD_set_ne true (Ne.symm hji), hli j hj, hsplit]
          simp only [List.map_append, List.map_cons, List.mem_append, List.mem_cons, hpi]
          constructor
          · rintro (h | h | h)
            · exact .inl h
            · exact absurd h hji
            · exact .inr h
          · rintro (h | h)
            · exact .inl h
            · exact .inr (.inr h)
      · intro j hj k hk
        by_cases hji : j = i
        · subst hji
          rcases hready k hk with h1 | h1
          · exact .inl (getD_set_true h1)
          · exact .inr h1
        · rcases hj with hj | hj
          · rw [getD_set_ne false (Ne.symm hji)] at hj
            rcases hcl j (.inl hj) k hk with h1 | h1
            · exact .inl (getD_set_true h1)
            · exact .inr h1
          · rcases hcl j (.inr hj) k hk with h1 | h1
            · exact .inl (getD_set_true h1)
            · exact .inr h1

end
end Go.Shadow

/- THE SHADOW LOGIC, part 15: code, and calls of functions. -/
namespace Go.Shadow
open Go Go.RowKit

inductive SC where
  | skip
  | ret
  | exit (id : Nat)
  | seq (a b : SC)
  | cond (c : Opd) (ks : Option (List Nat)) (a b : SC)
  | block (id : Nat) (c : SC)
  | loop (c : SC)
  | region (ops : List SOper) (ks : Option (List Nat))
  | stop

inductive SExit where
  | normal
  | exit (id : Nat)
  | ret
  | pan (v : V)

/-- Slots by a list. -/
def ofL : List (Nat × Option V) → Slots
  | [], _ => none
  | (k, v) :: r, t => if t = k then v else ofL r t
def keepS (ks : List Nat) (sl : Slots) : Slots := ofL (ks.map fun k => (k, sl k))
def keepO : Option (List Nat) → Slots → Slots
  | none, sl => sl
  | some ks, sl => keepS ks sl

structure Forget (σ σ' : St) : Prop where
  box : ∀ b cs, σ'.box b = some cs → σ.box b = some cs
  live : ∀ t, σ'.live t = true → σ.live t = true
theorem Forget.refl (σ : St) : Forget σ σ := ⟨fun _ _ h => h, fun _ h => h⟩
def Weak (v r : V) : Prop := ∀ B γ w x, R B γ w v x → R B γ w r x
theorem Weak.refl (v : V) : Weak v v := fun _ _ _ _ h => h

def swp (P : Program) (G : Globs) : SC → (SExit → Slots → St → Prop) → Slots → St → Prop
  | .skip, Q, sl, σ => Q .normal sl σ
  | .ret, Q, sl, σ => Q .ret sl σ
  | .exit id, Q, sl, σ => Q (.exit id) sl σ
  | .seq a b, Q, sl, σ => swp P G a (fun e sl σ => match e with
    | .normal => swp P G b Q sl σ
    | .exit id => Q (.exit id) sl σ
    | .ret => Q .ret sl σ
    | .pan v => Q (.pan v) sl σ) sl σ
  | .cond c ks a b, Q, sl, σ => match c.ev sl G with
    | some (.bool t) => Br t (swp P G a Q (keepO ks sl) σ) (swp P G b Q (keepO ks sl) σ)
    | _ => False
  | .block id c, Q, sl, σ => swp P G c (fun e sl σ => match e with
    | .normal => Q .normal sl σ
    | .exit id' => if id' = id then Q .normal sl σ else Q (.exit id') sl σ
    | .ret => Q .ret sl σ
    | .pan v => Q (.pan v) sl σ) sl σ
  | .loop c, Q, sl, σ => ∃ (I : Nat → Slots → St → Prop) (n : Nat), I n sl σ ∧ ∀ n sl σ, I n sl σ → swp P G c (fun e sl' σ' => match e with
    | .normal => ∃ m σ'', m < n ∧ Forget σ' σ'' ∧ I m sl' σ''
    | .exit id => Q (.exit id) sl' σ'
    | .ret => Q .ret sl' σ'
    | .pan v => Q (.pan v) sl' σ') sl σ
  | .region ops ks, Q, sl, σ => sOps P G (fun v σ' => Q (.pan v) (fun _ => none) σ') (fun sl σ => Q .normal (keepO ks sl) σ) ops sl σ
  | .stop, _, _, _ => False

/-! ### translation of code -/
def firstReady (tab : List (List Nat)) (done : List Nat) (c : Nat) : List (Nat × SOper) → Option (Nat × SOper)
  | [] => none
  | x :: r => if (tab.getD x.1 []).all (done.contains ·) && decide (x.2.op.cls ≤ c) then some x else firstReady tab done c r
def canon (tab : List (List Nat)) : Nat → List (Nat × SOper) → List Nat → List Nat
  | 0, _, acc => acc.reverse
  | fuel + 1, l, acc => match firstReady tab acc 0 l with
    | some x => canon tab fuel (l.filter (·.1 != x.1)) (x.1 :: acc)
    | none => match firstReady tab acc 1 l with
      | some x => canon tab fuel (l.filter (·.1 != x.1)) (x.1 :: acc)
      | none => match firstReady tab acc 3 l with
        | some x => canon tab fuel (l.filter (·.1 != x.1)) (x.1 :: acc)
        | none => acc.reverse
def backOK : Nat → List (List Nat) → Bool
  | _, [] => true
  | i, d :: r => d.all (fun j => decide (j < i)) && backOK (i + 1) r
def numbered : Nat → List SOper → List (Nat × SOper)
  | _, [] => []
  | i, o :: r => (i, o) :: numbered (i + 1) r
def pickL (sos : List SOper) : List Nat → List (Nat × SOper)
  | [] => []
  | i :: r => match sos[i]? with
    | some o => (i, o) :: pickL sos r
    | none => pickL sos r
def orderOK (m : Nat) (l : List Nat) : Bool := (List.range m).all (fun i => l.contains i) && l.all (fun i => decide (i < m)) && decide l.Nodup && l.length == m

def toKAt : Nat → List SOper → List SOper
  | _, [] => []
  | 0, o :: r => o.toK :: r
  | k + 1, o :: r => o :: toKAt k r
theorem toKAt_length : ∀ (k : Nat) (l : List SOper), (toKAt k l).length = l.length
  | _, [] => by cases ‹Nat› <;> rfl
  | 0, o :: r => rfl
  | k + 1, o :: r => by simp [toKAt, toKAt_length k r]
theorem toKAt_get : ∀ (k : Nat) (l : List SOper) (i : Nat) (sx : SOper), (toKAt k l)[i]? = some sx → ∃ so, l[i]? = some so ∧ (sx = so ∨ sx = so.toK)
  | k, [], i, sx, h => by cases k <;> simp [toKAt] at h
  | 0, o :: r, i, sx, h => by
    cases i with
    | zero => simp [toKAt] at h; exact ⟨o, rfl, .inr h.symm⟩
    | succ i => exact ⟨sx, by simpa [toKAt] using h, .inl rfl⟩
  | k + 1, o :: r, i, sx, h => by
    cases i with
    | zero => simp [toKAt] at h; exact ⟨o, rfl, .inl h.symm⟩
    | succ i => obtain ⟨so, h1, h2⟩ := toKAt_get k r i sx (by simpa [toKAt] using h); exact ⟨so, by simpa using h1, h2⟩
/-- One call keeps what is known: does one order serve all then? -/
def tryK (tab : List (List Nat)) (m : Nat) (sos : List SOper) : List Nat → Option (List SOper)
  | [] => none
  | k :: r =>
    let sok := toKAt k sos
    let ik := canon tab m (numbered 0 sok) []
    if pairsOK tab (pickL sok ik) = true ∧ orderOK m ik = true then some ((pickL sok ik).map (·.2)) else tryK tab m sos r

def trRegion (P : Program) (n : Nat) (ops : Array Oper) (draw : Bool) : Option (List SOper) :=
  match trOpers P n ops ops.toList with
  | none => none
  | some sos => if draw = false then some sos else
    let deps := ops.toList.map binding
    let tab := befTab deps []
    if backOK 0 deps = true then
      if pairsOK tab (pickL sos (List.range ops.size)) = true ∧ orderOK ops.size (List.range ops.size) = true then some ((pickL sos (List.range ops.size)).map (·.2))
      else
        let ix := canon tab ops.size (numbered 0 sos) []
        if pairsOK tab (pickL sos ix) = true ∧ orderOK ops.size ix = true then some ((pickL sos ix).map (·.2)) else
        match tryK tab ops.size sos (List.range ops.size) with
        | some l => some l
        | none =>
        let sok := sos.map SOper.toK
        let ik := canon tab ops.size (numbered 0 sok) []
        if pairsOK tab (pickL sok ik) = true ∧ orderOK ops.size ik = true then some ((pickL sok ik).map (·.2)) else none
    else none

def tr (P : Program) (n : Nat) : Code → Option SC
  | .skip => some .skip
  | .ret => some .ret
  | .exit id => some (.exit id)
  | .seq a b => match tr P n a, tr P n b with
    | some x, some y => some (.seq x y)
    | _, _ => none
  | .cond c a b => match trOpd c, tr P n a, tr P n b with
    | some oc, some x, some y => some (.cond oc none x y)
    | _, _, _ => none
  | .block id c => match tr P n c with
    | some x => some (.block id x)
    | none => none
  | .loop c => match tr P n c with
    | some x => some (.loop x)
    | none => none
  | .region _ ops draw => match trRegion P n ops draw with
    | some l => some (.region l none)
    | none => some .stop
  | _ => some .stop
def strip : SC → SC
  | .seq a b => .seq (strip a) (strip b)
  | .cond c _ a b => .cond c none (strip a) (strip b)
  | .block id c => .block id (strip c)
  | .loop c => .loop (strip c)
  | .region ops _ => .region ops none
  | c => c

section
variable {P : Program} {G : Globs} {w0 w : World} {γ : Gh} {σ : St} {n : Nat} {ds : List Deferred} {sl : Slots} {a : Act} {Kp : V → St → Prop}

theorem Inv.forget (hI : Inv G w0 γ σ w) {σ' : St} (hf : Forget σ σ') : Inv G w0 γ σ' w :=
  ⟨hI.bel, fun b cs h => hI.box b cs (hf.box b cs h), fun t h => hI.live t (hf.live t h), hI.tip, hI.inj, hI.rowlt, hI.glob, hI.pre⟩
theorem Rel.forget (hr : Rel G w0 γ σ w n ds sl a) {σ' : St} (hf : Forget σ σ') : Rel G w0 γ σ' w n ds sl a := ⟨hr.inv.forget hf, hr.slots, hr.size, hr.defs⟩
theorem Rel.none (hr : Rel G w0 γ σ w n ds sl a) : Rel G w0 γ σ w n ds (fun _ => none) a := ⟨hr.inv, fun _ _ h => (by cases h), hr.size, hr.defs⟩

theorem ofL_keep (ks : List Nat) (sl : Slots) (t : Nat) (v : V) (h : keepS ks sl t = some v) : sl t = some v := by
  induction ks with
  | nil => cases h
  | cons k ks ih =>
    simp only [keepS, List.map_cons, ofL] at h
    split at h
    · rename_i e; subst e; exact h
    · exact ih h
theorem Rel.keep (hr : Rel G w0 γ σ w n ds sl a) (ks : Option (List Nat)) : Rel G w0 γ σ w n ds (keepO ks sl) a := by
  cases ks with
  | none => exact hr
  | some ks => exact ⟨hr.inv, fun t v h => hr.slots t v (ofL_keep ks sl t v h), hr.size, hr.defs⟩

/-- What holds behind code, in the model's terms. -/
def CQ (G : Globs) (w0 : World) (γ : Gh) (w : World) (n : Nat) (ds : List Deferred) (SQ : SExit → Slots → St → Prop) (e : Exit) (a' : Act) (w' : World) : Prop :=
  ∃ γ' σ' sl', Ext w0.heap.size γ w γ' w' ∧ Rel G w0 γ' σ' w' n ds sl' a' ∧ match e with
    | .normal => SQ .normal sl' σ'
    | .exit id => SQ (.exit id) sl' σ'
    | .ret => SQ .ret sl' σ'
    | .panic chain => ∃ v x, chain = [{ v := x, recovered := false }] ∧ R w0.heap.size γ' w' v x ∧ SQ (.pan v) sl' σ'
    | _ => False

theorem CQ.ext {γ1 : Gh} {w1 : World} (he : Ext w0.heap.size γ w γ1 w1) {SQ : SExit → Slots → St → Prop} {e : Exit} {a' : Act} {w' : World} (h : CQ G w0 γ1 w1 n ds SQ e a' w') : CQ G w0 γ w n ds SQ e a' w' := by
  obtain ⟨γ', σ', sl', h1, h2, h3⟩ := h
  exact ⟨γ', σ', sl', he.trans h1, h2, h3⟩

theorem wp_loop_ex {c : Code} {Q : Exit → Act → World → Prop} (I : Nat → Act → World → Prop) {m : Nat} (h₀ : I m a w)
    (round : ∀ m a w, I m a w → c.wp P (Exit.then (fun a' w' => ∃ m', m' < m ∧ I m' a' w') Q) a w) : (Code.loop c).wp P Q a w := by
  intro b k cs
  have key : ∀ m a w, I m a w → ∃ e a' w', Q e a' w' ∧ Arrives P (lone (b.at a (.code c :: .inLoop c :: k)) cs w) b k cs e a' w' := by
    intro m
    induction m using Nat.strongRecOn with
    | _ m ih =>
      intro a w hI
      obtain ⟨e, a₁, w₁, hq, harr⟩ := round m a w hI b (.inLoop c :: k) cs
      cases e with
      | normal =>
        obtain ⟨m', hlt, hI₁⟩ := hq
        obtain ⟨e₂, a₂, w₂, hq₂, harr₂⟩ := ih m' hlt a₁ w₁ hI₁
        exact ⟨e₂, a₂, w₂, hq₂, .of_steps (Steps.trans harr (.one step_inLoop)) harr₂⟩
      | exit id => exact ⟨_, a₁, w₁, hq, .pass (x := .inLoop c) rfl (fun _ _ => .inl (by simp)) harr⟩
      | goto l => exact ⟨_, a₁, w₁, hq, .pass (x := .inLoop c) rfl (fun _ _ => .inl (by simp)) harr⟩
      | ret => exact ⟨_, a₁, w₁, hq, .pass (x := .inLoop c) rfl (fun _ _ => .inl (by simp)) harr⟩
      | panic ch => exact ⟨_, a₁, w₁, hq, .pass (x := .inLoop c) rfl (fun _ _ => .inl (by simp)) harr⟩
      | outgrown => exact ⟨_, a₁, w₁, hq, .pass (x := .inLoop c) rfl (fun _ _ => .inl (by simp)) harr⟩
  obtain ⟨e, a', w', hq, harr⟩ := key m a w h₀
  exact ⟨e, a', w', hq, .of_steps (.one step_loop) harr⟩

theorem trOpers_get {ops : Array Oper} : ∀ {l : List Oper} {sos : List SOper}, trOpers P n ops l = some sos → l.length = sos.length ∧ ∀ (k : Nat) (so : SOper), sos[k]? = some so → ∃ o, l[k]? = some o ∧ trOper P n ops o = some so
  | [], sos, h => by simp [trOpers] at h; subst h; exact ⟨rfl, fun k so hk => by simp at hk⟩
  | o :: r, sos, h => by
    simp only [trOpers] at h
    split at h
    · rename_i s ss h1 h2
      injection h with h; subst h
      obtain ⟨g1, g2⟩ := trOpers_get h2
      refine ⟨by simp [g1], fun k so hk => ?_⟩
      cases k with
      | zero => simp at hk; subst hk; exact ⟨o, rfl, h1⟩
      | succ k => obtain ⟨o', h3, h4⟩ := g2 k so (by simpa using hk); exact ⟨o', by simpa using h3, h4⟩
    · cases h

theorem backOK_spec : ∀ {l : List (List Nat)} {k : Nat}, backOK k l = true → ∀ i, ∀ j ∈ l.getD i [], j < k + i
  | [], k, _, i, j, hj => by simp at hj
  | d :: r, k, h, i, j, hj => by
    simp only [backOK, Bool.and_eq_true, List.all_eq_true, decide_eq_true_eq] at h
    cases i with
    | zero => simp at hj; have := h.1 j hj; omega
    | succ i =>
      have := backOK_spec h.2 i j (by simpa using hj)
      omega

theorem pickL_spec (sos : List SOper) : ∀ (l : List Nat), (∀ i ∈ l, i < sos.length) → (pickL sos l).map (·.1) = l ∧ ∀ p ∈ pickL sos l, sos[p.1]? = some p.2
  | [], _ => ⟨rfl, fun p hp => by simp [pickL] at hp⟩
  | i :: r, h => by
    have hi := h i (by simp)
    obtain ⟨g1, g2⟩ := pickL_spec sos r (fun j hj => h j (by simp [hj]))
    simp only [pickL, List.getElem?_eq_getElem hi]
    refine ⟨by simp [g1], fun p hp => ?_⟩
    simp at hp
    rcases hp with rfl | hp
    · simp [hi]
    · exact g2 p hp

theorem region_order {ops : Array Oper} {id : Nat} {sos0 sos : List SOper} {ix : List Nat} {SQ : SExit → Slots → St → Prop} {ks : Option (List Nat)} (hm : P.follows .mixedOrders = true) (ht : trOpers P n ops ops.toList = some sos0) (hlen : sos0.length = sos.length) (hX : ∀ (k : Nat) (sx : SOper), sos[k]? = some sx → ∃ so, sos0[k]? = some so ∧ (sx = so ∨ sx = so.toK))
    (hb : backOK 0 (ops.toList.map binding) = true) (hp : pairsOK (befTab (ops.toList.map binding) []) (pickL sos ix) = true) (ho : orderOK ops.size ix = true) (hr : Rel G w0 γ σ w n ds sl a)
    (h : swp P G (.region ((pickL sos ix).map (·.2)) ks) SQ sl σ) : (Code.region id ops true).wp P (CQ G w0 γ w n ds SQ) a w := by
  obtain ⟨hl, hget⟩ := trOpers_get ht
  have hl' : sos.length = ops.size := by rw [← hlen, ← hl]; simp
  simp only [orderOK, Bool.and_eq_true, List.all_eq_true, decide_eq_true_eq, beq_iff_eq, List.mem_range] at ho
  obtain ⟨⟨⟨ho1, ho2⟩, ho3⟩, ho4⟩ := ho
  obtain ⟨hp1, hp2⟩ := pickL_spec sos ix (fun i hi => by rw [hl']; exact ho2 i hi)
  refine wp_region_any hm ?_
  obtain ⟨hI1, hE1⟩ := hr.inv.drew
  have hr1 : Rel G w0 γ σ { w with drawn := w.drawn + 1 } n ds sl a := hr.ext hE1 hI1
  have hdep : ∀ i o, ops[i]? = some o → (ops.toList.map binding).getD i [] = binding o := by
    intro i o hi
    rw [List.getD_eq_getElem?_getD, List.getElem?_map]
    have : ops.toList[i]? = some o := by simpa using hi
    rw [this]; rfl
  refine any_order (ops.toList.map binding) hdep (fun i j hj => by have := backOK_spec hb i j hj; omega) _ (fun L hc i hi k hk => befTab_spec hc _ [] (by simp) (Nat.zero_le _) (fun i hi => by simp at hi) i hi k hk)
    ops.size (pickL sos ix) (Array.replicate ops.size false) ?_ (by simp) (fun i hi => ?_) (by rw [hp1]; exact ho3) (fun p hpp => ?_) ?_ hp hr1 h (fun γ' σ' w' sl' a' he hr' hk => ?_) (fun γ' σ' w' v x a' he hr' hv hk => ?_)
  · rw [← List.length_map (f := (·.1)), hp1]; exact ho4
  · rw [hp1]
    constructor
    · intro _; simpa using ho1 i hi
    · intro _; simp [hi]
  · obtain ⟨so, h0, h3⟩ := hX p.1 p.2 (hp2 p hpp)
    obtain ⟨o, h1, h2⟩ := hget p.1 so h0
    exact ⟨o, so, by simpa using h1, h2, h3⟩
  · intro i hi j hj
    rcases hi with hi | hi
    · exfalso
      rw [Array.getD_eq_getD_getElem?] at hi
      by_cases hlt : i < ops.size
      · simp [hlt] at hi
      · simp [hlt] at hi
    · rw [List.getD_eq_getElem?_getD, List.getElem?_eq_none (by simpa using hi)] at hj
      simp at hj
  · exact ⟨γ', σ', _, hE1.trans he, hr'.keep ks, hk⟩
  · exact ⟨γ', σ', _, hE1.trans he, hr', v, x, rfl, hv, hk⟩

theorem region_sound {ops : Array Oper} {id : Nat} {draw : Bool} {l : List SOper} {SQ : SExit → Slots → St → Prop} {ks : Option (List Nat)} (hm : P.follows .mixedOrders = true) (ht : trRegion P n ops draw = some l) (hr : Rel G w0 γ σ w n ds sl a)
    (h : swp P G (.region l ks) SQ sl σ) : (Code.region id ops draw).wp P (CQ G w0 γ w n ds SQ) a w := by
  unfold trRegion at ht
  split at ht
  · cases ht
  · rename_i sos hs
    split at ht
    · rename_i hd; subst hd
      injection ht with ht; subst ht
      obtain ⟨hl, hget⟩ := trOpers_get hs
      refine wp_region (sOps_sound (K := fun sl σ => SQ .normal (keepO ks sl) σ) (Kp := fun v σ' => SQ (.pan v) (fun _ => none) σ') (List.range ops.size) sos hr (by rw [← hl]; simp) (fun k i so hk hso => ?_) h
        (fun γ' σ' w' sl' a' he hr' hk => ⟨γ', σ', _, he, hr'.keep ks, hk⟩) (fun γ' σ' w' v x a' he hr' hv hk => ⟨γ', σ', _, he, hr', v, x, rfl, hv, hk⟩))
      obtain ⟨o, h1, h2⟩ := hget k so hso
      have hk' : k < ops.size := by have := (List.getElem?_eq_some_iff.1 hk).1; simpa using this
      have : i = k := by simp [hk'] at hk; exact hk.symm
      subst this
      exact ⟨o, by simpa using h1, h2⟩
    · rename_i hd
      have hdt : draw = true := by cases draw; exact absurd rfl hd; rfl
      subst hdt
      simp only at ht
      split at ht
      · rename_i hb
        split at ht
        · rename_i hc; injection ht with ht; subst ht
          exact region_order hm hs rfl (fun k sx h => ⟨sx, h, .inl rfl⟩) hb hc.1 hc.2 hr h
        · split at ht
          · rename_i hc; injection ht with ht; subst ht
            exact region_order hm hs rfl (fun k sx h => ⟨sx, h, .inl rfl⟩) hb hc.1 hc.2 hr h
          · split at ht
            · rename_i l hl
              injection ht with ht; subst ht
              have key : ∀ (ks : List Nat), tryK (befTab (ops.toList.map binding) []) ops.size sos ks = some l → (Code.region id ops true).wp P (CQ G w0 γ w n ds SQ) a w := by
                intro ks
                induction ks with
                | nil => intro h; cases h
                | cons k r ih =>
                  intro hk
                  simp only [tryK] at hk
                  split at hk
                  · rename_i hc; injection hk with hk; subst hk
                    exact region_order (sos := toKAt k sos) hm hs (toKAt_length k sos).symm (fun i sx h => toKAt_get k sos i sx h) hb hc.1 hc.2 hr h
                  · exact ih hk
              exact key _ hl
            split at ht
            · rename_i hc; injection ht with ht; subst ht
              refine region_order (sos := sos.map SOper.toK) hm hs (by simp) (fun k sx h => ?_) hb hc.1 hc.2 hr h
              rw [List.getElem?_map, Option.map_eq_some_iff] at h
              obtain ⟨so, h1, h2⟩ := h
              exact ⟨so, h1, .inr h2.symm⟩
            · cases ht
      · cases ht

theorem swp_sound (hm : P.follows .mixedOrders = true) : ∀ (sc : SC) {c : Code} {SQ : SExit → Slots → St → Prop} {γ : Gh} {σ : St} {w : World} {sl : Slots} {a : Act}, tr P n c = some (strip sc) → Rel G w0 γ σ w n ds sl a → swp P G sc SQ sl σ → c.wp P (CQ G w0 γ w n ds SQ) a w
  | .skip, c, SQ, γ, σ, w, sl, a, ht, hr, h => by
    cases c <;> simp only [tr, strip] at ht <;> first | cases ht | (split at ht <;> cases ht) | skip
    exact wp_skip ⟨γ, σ, sl, .refl _ _ _, hr, h⟩
  | .ret, c, SQ, γ, σ, w, sl, a, ht, hr, h => by
    cases c <;> simp only [tr, strip] at ht <;> first | cases ht | (split at ht <;> cases ht) | skip
    exact wp_ret ⟨γ, σ, sl, .refl _ _ _, hr, h⟩
  | .exit id, c, SQ, γ, σ, w, sl, a, ht, hr, h => by
    cases c <;> simp only [tr, strip] at ht <;> first | (injection ht with ht; injection ht with ht; subst ht; exact wp_exit ⟨γ, σ, sl, .refl _ _ _, hr, h⟩) | (exfalso; (try split at ht) <;> cases ht)
  | .seq x y, c, SQ, γ, σ, w, sl, a, ht, hr, h => by
    cases c <;> simp only [tr, strip] at ht <;> first | (cases ht; done) | skip
    case seq c1 c2 =>
      split at ht
      · rename_i x' y' h1 h2
        injection ht with ht; injection ht with e1 e2; subst e1; subst e2
        refine wp_seq (wp_mono (swp_sound hm x h1 hr h) ?_)
        rintro e a1 w1 ⟨γ1, σ1, sl1, he, hr1, hq⟩
        cases e with
        | normal => exact wp_mono (swp_sound hm y h2 hr1 hq) fun e a2 w2 hq2 => hq2.ext he
        | exit id => exact ⟨γ1, σ1, sl1, he, hr1, hq⟩
        | ret => exact ⟨γ1, σ1, sl1, he, hr1, hq⟩
        | panic ch => exact ⟨γ1, σ1, sl1, he, hr1, hq⟩
        | goto l => exact hq.elim
        | outgrown => exact hq.elim
      · cases ht
    all_goals (split at ht <;> cases ht)
  | .cond oc ks x y, c, SQ, γ, σ, w, sl, a, ht, hr, h => by
    cases c <;> simp only [tr, strip] at ht <;> first | (cases ht; done) | skip
    case cond cc c1 c2 =>
      split at ht
      · rename_i oc' x' y' h0 h1 h2
        injection ht with ht; injection ht with e0 _ e1 e2; subst e0; subst e1; subst e2
        simp only [swp] at h
        split at h
        · rename_i t hv
          have hR := ev_sound hr h0 hv
          generalize hce : a.eval cc = cv at hR
          cases hR
          exact wp_cond_split hce (fun e => swp_sound hm x h1 (hr.keep ks) (h.1 e)) (fun e => swp_sound hm y h2 (hr.keep ks) (h.2 e))
        · exact h.elim
      · cases ht
    all_goals (split at ht <;> cases ht)
  | .block id x, c, SQ, γ, σ, w, sl, a, ht, hr, h => by
    cases c <;> simp only [tr, strip] at ht <;> first | (cases ht; done) | skip
    case block id' c1 =>
      split at ht
      · rename_i x' h1
        injection ht with ht; injection ht with e0 e1; subst e0; subst e1
        refine wp_block (wp_mono (swp_sound hm x h1 hr h) ?_)
        rintro e a1 w1 ⟨γ1, σ1, sl1, he, hr1, hq⟩
        cases e with
        | normal => exact ⟨γ1, σ1, sl1, he, hr1, hq⟩
        | exit id2 =>
          simp only at hq
          simp only [Exit.inBlock]
          split
          · rename_i e; rw [if_pos e] at hq; exact ⟨γ1, σ1, sl1, he, hr1, hq⟩
          · rename_i e; rw [if_neg e] at hq; exact ⟨γ1, σ1, sl1, he, hr1, hq⟩
        | ret => exact ⟨γ1, σ1, sl1, he, hr1, hq⟩
        | panic ch => exact ⟨γ1, σ1, sl1, he, hr1, hq⟩
        | goto l => exact hq.elim
        | outgrown => exact hq.elim
      · cases ht
    all_goals (split at ht <;> cases ht)
  | .loop x, c, SQ, γ, σ, w, sl, a, ht, hr, h => by
    cases c <;> simp only [tr, strip] at ht <;> first | (cases ht; done) | skip
    case loop c1 =>
      split at ht
      · rename_i x' h1
        injection ht with ht; injection ht with e1; subst e1
        obtain ⟨I, m, hI, hround⟩ := h
        refine wp_loop_ex (fun m a' w' => ∃ γ' σ' sl', Ext w0.heap.size γ w γ' w' ∧ Rel G w0 γ' σ' w' n ds sl' a' ∧ I m sl' σ') (m := m) ⟨γ, σ, sl, .refl _ _ _, hr, hI⟩ ?_
        rintro m a1 w1 ⟨γ1, σ1, sl1, he, hr1, hI1⟩
        refine wp_mono (swp_sound hm x h1 hr1 (hround m sl1 σ1 hI1)) ?_
        rintro e a2 w2 ⟨γ2, σ2, sl2, he2, hr2, hq⟩
        cases e with
        | normal =>
          obtain ⟨m', σ3, hlt, hf, hI3⟩ := hq
          exact ⟨m', hlt, γ2, σ3, sl2, he.trans he2, hr2.forget hf, hI3⟩
        | exit id => exact ⟨γ2, σ2, sl2, he.trans he2, hr2, hq⟩
        | ret => exact ⟨γ2, σ2, sl2, he.trans he2, hr2, hq⟩
        | panic ch => exact ⟨γ2, σ2, sl2, he.trans he2, hr2, hq⟩
        | goto l => exact hq.elim
        | outgrown => exact hq.elim
      · cases ht
    all_goals (split at ht <;> cases ht)
  | .region ops ks, c, SQ, γ, σ, w, sl, a, ht, hr, h => by
    cases c <;> simp only [tr, strip] at ht <;> first | (cases ht; done) | skip
    case region id ops' draw =>
      split at ht
      · rename_i l hl
        injection ht with ht; injection ht with e1 e2; subst e1
        exact region_sound hm hl hr h
      · cases ht
    all_goals (split at ht <;> cases ht)
  | .stop, c, SQ, γ, σ, w, sl, a, ht, hr, h => by
    simp only [swp] at h

/-! ### functions -/
def trRes (P : Program) : List ResultVar → Option (List (Nat × Option (Bool × Nat)))
  | [] => some []
  | .tmp t :: r => match trRes P r with
    | some l => some ((t, none) :: l)
    | none => none
  | .cell t ty :: r => match aggB P ty, P.info? ty, trRes P r with
    | some g, some i, some l => if 0 < i.size then some ((t, some (g, i.size)) :: l) else none
    | _, _, _ => none
def sRes1 (sl : Slots) (σ : St) : Nat × Option (Bool × Nat) → Option V
  | (t, none) => sl t
  | (t, some (g, m)) => match (sl t).bind σ.at with
    | some cs => if m ≤ cs.length then mkv g (cs.take m) else none
    | none => none
def sResL (sl : Slots) (σ : St) : List (Nat × Option (Bool × Nat)) → Option (List V)
  | [] => some []
  | x :: r => match sRes1 sl σ x, sResL sl σ r with
    | some v, some vs => some (v :: vs)
    | _, _ => none
def sRes (sl : Slots) (σ : St) (rs : List (Nat × Option (Bool × Nat))) : Option V := match sResL sl σ rs with
  | some [v] => some v
  | some vs => some (.tup vs)
  | none => none

def retQ (rs : List (Nat × Option (Bool × Nat))) (Post : SEnd → St → Prop) : SExit → Slots → St → Prop
  | .normal, sl, σ => match sRes sl σ rs with
    | some v => ∃ r σ', Weak v r ∧ Forget σ σ' ∧ Post (.ret r) σ'
    | none => False
  | .ret, sl, σ => match sRes sl σ rs with
    | some v => ∃ r σ', Weak v r ∧ Forget σ σ' ∧ Post (.ret r) σ'
    | none => False
  | .pan v, _, σ => ∃ r σ', Weak v r ∧ Forget σ σ' ∧ Post (.pan r) σ'
  | .exit _, _, _ => False

def resOne (tmps : Array Value) : ResultVar → Sem Value
  | .tmp t => pure (tmps.getD t undef)
  | .cell b t => do loadVar t (← asAddr (tmps.getD b undef))
theorem results_eq (fn : Func) (tmps : Array Value) : results fn tmps = (do
    let vs ← fn.results.mapM (resOne tmps)
    pure (if h : vs.size = 1 then vs[0] else .tuple vs)) := by
  unfold results
  congr 1

theorem resL_sound (hr : Rel G w0 γ σ w n ds sl a) : ∀ {rv : List ResultVar} {rs : List (Nat × Option (Bool × Nat))} {vs : List V}, trRes P rv = some rs → sResL sl σ rs = some vs →
    ∃ xs : List Value, (rv.mapM (resOne a.tmps)).run P w = .ok xs w ∧ RL w0.heap.size γ w vs xs
  | [], rs, vs, h, hs => by simp [trRes] at h; subst h; simp [sResL] at hs; subst hs; exact ⟨[], rfl, .nil⟩
  | .tmp t :: r, rs, vs, h, hs => by
    simp only [trRes] at h
    split at h
    · rename_i l hl
      injection h with h; subst h
      simp only [sResL] at hs
      split at hs
      · rename_i v us h1 h2
        injection hs with hs; subst hs
        obtain ⟨xs, h3, h4⟩ := resL_sound hr hl h2
        refine ⟨a.tmps.getD t undef :: xs, ?_, .cons (hr.slots t v h1) h4⟩
        rw [List.mapM_cons]
        simp only [resOne, Sem.run_bind, Sem.run_pure, Result.andThen_ok, h3]
      · cases hs
    · cases h
  | .cell t ty :: r, rs, vs, h, hs => by
    simp only [trRes] at h
    split at h
    · rename_i g i l hg hi hl
      split at h
      · rename_i hsz
        injection h with h; subst h
        simp only [sResL] at hs
        split at hs
        · rename_i v us h1 h2
          injection hs with hs; subst hs
          obtain ⟨xs, h3, h4⟩ := resL_sound hr hl h2
          simp only [sRes1] at h1
          split at h1
          · rename_i cs hcs
            split at h1
            · rename_i hle
              rw [Option.bind_eq_some_iff] at hcs
              obtain ⟨u, hu, hat⟩ := hcs
              obtain ⟨b, off, ys, hxe, hRL, h1', hc⟩ := at_sound hr.inv (hr.slots t u hu) hat
              have hlx : i.size ≤ ys.length := by rw [← hRL.1]; exact hle
              have hld := run_loadVar_list (w := w) hg hi (b := b) (o := off) hlx (.inr hsz) hc
              refine ⟨_ :: xs, ?_, .cons (mkv_sound (hRL.take i.size) (fun j y hy => ?_) h1) h4⟩
              · have ha : asAddr (a.tmps.getD t undef) = pure ⟨b, off, none⟩ := by rw [hxe]; rfl
                rw [List.mapM_cons]
                simp only [resOne, ha, Sem.run_bind, Sem.run_pure, Result.andThen_ok, hld, h3]
              · rw [List.getElem?_take] at hy
                split at hy
                · exact h1' j y hy
                · cases hy
            · cases h1
          · cases h1
        · cases hs
      · cases h
    · cases h

theorem res_sound (hr : Rel G w0 γ σ w n ds sl a) {fn : Func} {rs : List (Nat × Option (Bool × Nat))} {v : V} (h : trRes P fn.results.toList = some rs) (hs : sRes sl σ rs = some v) : ∃ x, (results fn a.tmps).run P w = .ok x w ∧ R w0.heap.size γ w v x := by
  unfold sRes at hs
  have key : ∀ vs, sResL sl σ rs = some vs → ∃ xs : List Value, (results fn a.tmps).run P w = .ok (if h : xs.length = 1 then xs[0] else .tuple xs.toArray) w ∧ RL w0.heap.size γ w vs xs := by
    intro vs hvs
    obtain ⟨xs, h1, h2⟩ := resL_sound hr h hvs
    refine ⟨xs, ?_, h2⟩
    rw [results_eq, Array.mapM_eq_mapM_toList]
    simp only [Sem.run_bind, Sem.run_map]
    rw [h1]
    simp only [Result.andThen_ok, Sem.run_pure, List.size_toArray]
    congr 1
  split at hs
  · rename_i u hu
    injection hs with hs; subst hs
    obtain ⟨xs, h1, h2⟩ := key _ hu
    obtain ⟨x, xs', rfl, h3, h4⟩ := h2.inv_cons
    obtain rfl := h4.inv_nil
    exact ⟨x, by simpa using h1, h3⟩
  · rename_i vs hne hu
    injection hs with hs; subst hs
    obtain ⟨xs, h1, h2⟩ := key _ hu
    have hl : ¬ xs.length = 1 := by
      intro he
      rw [← h2.1] at he
      match vs, he with
      | [v], _ => exact hne v rfl
    rw [dif_neg hl] at h1
    exact ⟨_, h1, .tup vs xs.toArray (by simpa using h2.1) (fun i x y hx hy => h2.2 i x y hx (by simpa using hy))⟩
  · cases hs

/-- The slots that a call begins with. -/
def argS : Nat → List V → Slots
  | _, [] => fun _ => none
  | k, v :: r => fun t => if t = k then some v else argS (k + 1) r t

theorem argS_get : ∀ {vs : List V} {k t : Nat} {v : V}, argS k vs t = some v → ∃ j, t = k + j ∧ vs[j]? = some v
  | [], k, t, v, h => by simp [argS] at h
  | u :: vs, k, t, v, h => by
    simp only [argS] at h
    split at h
    · rename_i e; injection h with h; subst h; exact ⟨0, by omega, rfl⟩
    · obtain ⟨j, h1, h2⟩ := argS_get h
      exact ⟨j + 1, by omega, by simpa using h2⟩

theorem SCall.of_code (hm : P.follows .mixedOrders = true) {f : FuncId} {fn : Func} {c : Code} {sc : SC} {rs : List (Nat × Option (Bool × Nat))} {args : List V} {Post : SEnd → St → Prop} (hf : P.funcs[f]? = some fn) (hname : (fn.name == "runtime.NumGoroutine") = false) (hb : fn.body = some c)
    (htr : tr P fn.ntmps c = some (strip sc)) (hres : trRes P fn.results.toList = some rs) (hl : args.length ≤ fn.ntmps) (h : swp P G sc (retQ rs Post) (argS 0 args) σ) : SCall P G f args σ Post := by
  intro w0 γ w xs hI hRL
  have hname' : ¬ fn.name = "runtime.NumGoroutine" := by simpa using hname
  refine .inl ⟨by simp [callFunc, hf, hname', hb], calls_of_wp hf hb ?_⟩
  have hlen : args.length = xs.size := by simpa using hRL.1
  have hrel : Rel G w0 γ σ w fn.ntmps [] (argS 0 args) { tmps := xs ++ Array.replicate (fn.ntmps - xs.size) undef, defers := [] } := by
    refine ⟨hI, fun t v hv => ?_, by simp; omega, rfl⟩
    obtain ⟨j, rfl, hj⟩ := argS_get hv
    have hjl : j < xs.size := by rw [← hlen]; exact (List.getElem?_eq_some_iff.1 hj).1
    have := hRL.2 j v xs[j] hj (by simp [hjl])
    simp only [Nat.zero_add, Array.getD_eq_getD_getElem?]
    rw [Array.getElem?_append_left hjl, Array.getElem?_eq_getElem hjl]
    exact this
  refine wp_mono (swp_sound hm sc htr hrel h) ?_
  rintro e a' w' ⟨γ', σ', sl', he, hr', hq⟩
  have fin : ∀ {v : V}, sRes sl' σ' rs = some v → (∃ r σ'', Weak v r ∧ Forget σ' σ'' ∧ Post (.ret r) σ'') → bodyPost P fn (fun e w' => ∃ γ' σ', Ext w0.heap.size γ w γ' w' ∧ Inv G w0 γ' σ' w' ∧ ∃ r x, R w0.heap.size γ' w' r x ∧
      ((e = .returned x ∧ Post (.ret r) σ') ∨ (e = .panicked [{ v := x, recovered := false }] ∧ Post (.pan r) σ'))) .ret a' w' := by
    rintro v hv ⟨r, σ'', hw, hf, hp⟩
    obtain ⟨x, h1, h2⟩ := res_sound (P := P) hr' hres hv
    exact ⟨hr'.defs, x, h1, γ', σ'', he, hr'.inv.forget hf, r, x, hw _ _ _ _ h2, .inl ⟨rfl, hp⟩⟩
  cases e with
  | normal =>
    simp only [retQ] at hq
    split at hq
    · rename_i v hv; exact fin hv hq
    · exact hq.elim
  | ret =>
    simp only [retQ] at hq
    split at hq
    · rename_i v hv; exact fin hv hq
    · exact hq.elim
  | exit id => exact hq.elim
  | panic ch =>
    obtain ⟨v, x, rfl, hv, r, σ'', hw, hf, hp⟩ := hq
    exact ⟨hr'.defs, γ', σ'', he, hr'.inv.forget hf, r, x, hw _ _ _ _ hv, .inr ⟨rfl, hp⟩⟩
  | goto l => exact hq.elim
  | outgrown => exact hq.elim

end
end Go.Shadow

/- THE SHADOW LOGIC, part 16: the same, cut for stepping: each place where a proof has to say something is a structure of its own. -/
namespace Go.Shadow
open Go Go.RowKit

/-! ### stops -/
structure Test (p : Prop) [Decidable p] (K : V → Prop) : Prop where
  h : K (.bool (decide p))
theorem Test.split {p : Prop} [Decidable p] {K : V → Prop} (h1 : p → K (.bool true)) (h2 : ¬ p → K (.bool false)) : Test p K := by
  constructor
  by_cases hp : p
  · rw [decide_eq_true hp]; exact h1 hp
  · rw [decide_eq_false hp]; exact h2 hp
theorem Test.yes {p : Prop} [Decidable p] {K : V → Prop} (hp : p) (h : K (.bool true)) : Test p K := .split (fun _ => h) (fun n => absurd hp n)
theorem Test.no {p : Prop} [Decidable p] {K : V → Prop} (hp : ¬ p) (h : K (.bool false)) : Test p K := .split (fun n => absurd n hp) (fun _ => h)

structure BTest (b : Bool) (K : V → Prop) : Prop where
  h : K (.bool b)
theorem BTest.split {b : Bool} {K : V → Prop} (h1 : b = true → K (.bool true)) (h2 : b = false → K (.bool false)) : BTest b K := by
  constructor
  cases b
  · exact h2 rfl
  · exact h1 rfl

theorem BTest.yes {b : Bool} {K : V → Prop} (hb : b = true) (h : K (.bool true)) : BTest b K := .split (fun _ => h) (fun n => by rw [hb] at n; cases n)
theorem BTest.no {b : Bool} {K : V → Prop} (hb : b = false) (h : K (.bool false)) : BTest b K := .split (fun n => by rw [hb] at n; cases n) (fun _ => h)

structure Arith (k : IntKind) (z : Int) (K : V → Prop) : Prop where
  h : K (.int k (k.wrap z))
theorem Arith.i64 {z : Int} {K : V → Prop} (y : Int) (e : z = y) (h : -9223372036854775808 ≤ y ∧ y ≤ 9223372036854775807) (k : K (.int .i64 y)) : Arith .i64 z K := by
  subst e; exact ⟨by rw [IntWalk.i64_in _ h]; exact k⟩
theorem Arith.u8 {z : Int} {K : V → Prop} (y : Int) (e : z = y) (h : 0 ≤ y ∧ y ≤ 255) (k : K (.int .u8 y)) : Arith .u8 z K := by
  subst e; exact ⟨by rw [IntWalk.u8_in _ h]; exact k⟩

structure Load (σ : St) (b off n : Nat) (K : List V → Prop) : Prop where
  h : ∃ cs, σ.box b = some cs ∧ off + n ≤ cs.length ∧ K ((cs.drop off).take n)
theorem Load.mk' {σ : St} {b off n : Nat} {K : List V → Prop} {cs : List V} (hb : σ.box b = some cs) (hl : off + n ≤ cs.length) (k : K ((cs.drop off).take n)) : Load σ b off n K := ⟨cs, hb, hl, k⟩
structure Store (σ : St) (b off : Nat) (vs : List V) (K : St → Prop) : Prop where
  h : ∃ cs, σ.box b = some cs ∧ off + vs.length ≤ cs.length ∧ K (σ.put b (setL cs off vs))
theorem Store.mk' {σ : St} {b off : Nat} {vs : List V} {K : St → Prop} {cs : List V} (cs' : List V) (hb : σ.box b = some cs) (hl : off + vs.length ≤ cs.length) (e : setL cs off vs = cs') (k : ∀ σ', σ' = σ.put b cs' → K σ') : Store σ b off vs K :=
  ⟨cs, hb, hl, k _ (by rw [e])⟩
structure RefLoad (cs : List V) (n : Nat) (K : List V → Prop) : Prop where
  h : n ≤ cs.length ∧ K (cs.take n)

structure Idx (l : List UInt8) (i : Int) (K : UInt8 → Prop) : Prop where
  h : 0 ≤ i ∧ ∃ c, l[i.toNat]? = some c ∧ K c
theorem Idx.mk' {l : List UInt8} {i : Int} {K : UInt8 → Prop} (n : Nat) (c : UInt8) (e : i = n) (hc : l[n]? = some c) (k : K c) : Idx l i K := by subst e; exact ⟨by omega, c, by simpa using hc, k⟩
structure IdxE (es : List (List V)) (i : Int) (K : List V → Prop) : Prop where
  h : 0 ≤ i ∧ ∃ e, es[i.toNat]? = some e ∧ K e
theorem IdxE.mk' {es : List (List V)} {i : Int} {K : List V → Prop} (n : Nat) (c : List V) (e : i = n) (hc : es[n]? = some c) (k : K c) : IdxE es i K := by subst e; exact ⟨by omega, c, by simpa using hc, k⟩
structure Cut {α : Type} (l : List α) (i j : Int) (K : List α → Prop) : Prop where
  h : 0 ≤ i ∧ i ≤ j ∧ j ≤ l.length ∧ K ((l.take j.toNat).drop i.toNat)
theorem Cut.mk' {α : Type} {l : List α} {i j : Int} {K : List α → Prop} (a b : Nat) (e1 : i = a) (e2 : j = b) (h1 : a ≤ b) (h2 : b ≤ l.length) (k : K ((l.take b).drop a)) : Cut l i j K := by
  subst e1; subst e2; exact ⟨by omega, by omega, by omega, by simpa using k⟩
structure CutR {α : Type} (l : List α) (i : Int) (K : List α → Prop) : Prop where
  h : 0 ≤ i ∧ i ≤ l.length ∧ K (l.drop i.toNat)
theorem CutR.mk' {α : Type} {l : List α} {i : Int} {K : List α → Prop} (a : Nat) (e1 : i = a) (h2 : a ≤ l.length) (k : K (l.drop a)) : CutR l i K := by
  subst e1; exact ⟨by omega, by omega, by simpa using k⟩
structure CutL {α : Type} (l : List α) (j : Int) (K : List α → Prop) : Prop where
  h : 0 ≤ j ∧ j ≤ l.length ∧ K (l.take j.toNat)
theorem CutL.mk' {α : Type} {l : List α} {j : Int} {K : List α → Prop} (b : Nat) (e1 : j = b) (h2 : b ≤ l.length) (k : K (l.take b)) : CutL l j K := by
  subst e1; exact ⟨by omega, by omega, by simpa using k⟩

structure CallK (P : Program) (G : Globs) (f : FuncId) (args : List V) (σ : St) (K Kp : V → St → Prop) : Prop where
  h : SCall P G f args σ fun e σ' => match e with
      | .ret v => K v σ'
      | .pan v => Kp v σ'
theorem CallK.mk' {P : Program} {G : Globs} {f : FuncId} {args : List V} {σ : St} {K Kp : V → St → Prop} {Post : SEnd → St → Prop} (h : SCall P G f args σ Post) (k : ∀ e σ', Post e σ' → match e with
      | .ret v => K v σ'
      | .pan v => Kp v σ') : CallK P G f args σ K Kp := ⟨h.mono k⟩
/-- A call that returns a value and leaves all as it was. -/
def SRet (P : Program) (G : Globs) (f : FuncId) (args : List V) (r : V) : Prop := ∀ σ, SCall P G f args σ fun e σ' => σ' = σ ∧ e = .ret r
theorem CallK.pure {P : Program} {G : Globs} {f : FuncId} {args : List V} {σ : St} {K Kp : V → St → Prop} {r : V} (h : SRet P G f args r) (k : K r σ) : CallK P G f args σ K Kp :=
  .mk' (h σ) (by rintro e σ' ⟨rfl, rfl⟩; exact k)

structure App (s : Nat) (bytes : Nat) (tag : Tag) (s' : Nat) (es : List (List V)) (s2 : Nat) (ns : List (List V)) (σ : St) (K : V → St → Prop) : Prop where
  h : (tag = .nil ∨ s' = s) ∧ (s2 = s ∨ ns = []) ∧ (es.length + ns.length) * bytes ≤ 140737488355328 ∧ es.length + ns.length ≤ 9223372036854775807 ∧
      match ns, tag with
      | [], _ => K (.slice tag s' es) σ
      | _ :: _, .tip k => σ.live k = true ∧ ∀ t', σ.live t' = false → K (.slice (.tip t') s (es ++ ns)) ((σ.off k).on t')
      | _ :: _, .foreign => False
      | _ :: _, _ => ∀ t', σ.live t' = false → K (.slice (.tip t') s (es ++ ns)) (σ.on t')
structure AppS (bytes : Nat) (tag : Tag) (s' : Nat) (es : List (List V)) (l : List UInt8) (σ : St) (K : V → St → Prop) : Prop where
  h : (tag = .nil ∨ s' = 1) ∧ (es.length + l.length) * bytes ≤ 140737488355328 ∧ es.length + l.length ≤ 9223372036854775807 ∧
      match l, tag with
      | [], _ => K (.slice tag s' es) σ
      | _ :: _, .tip k => σ.live k = true ∧ ∀ t', σ.live t' = false → K (.slice (.tip t') 1 (es ++ byteEls l)) ((σ.off k).on t')
      | _ :: _, .foreign => False
      | _ :: _, _ => ∀ t', σ.live t' = false → K (.slice (.tip t') 1 (es ++ byteEls l)) (σ.on t')

/-- The state behind has all of the state ahead. -/
abbrev Over (σ1 σ : St) : Prop := Forget σ σ1
/-- A slice whose spare room is this call's own, out of the state 'σ1'. -/
def Mine (σ1 σ : St) : Tag → Prop
  | .foreign => False
  | .tip t => σ.live t = true ∧ σ1.live t = false
  | _ => True
theorem Mine.over {σ1 σ σ' : St} {tag : Tag} (h : Mine σ1 σ tag) (o : Over σ σ') : Mine σ1 σ' tag := by
  cases tag with
  | tip t => exact ⟨o.live t h.1, h.2⟩
  | _ => exact h
theorem App.mk' {s bytes : Nat} {tag : Tag} {s' : Nat} {es : List (List V)} {s2 : Nat} {ns : List (List V)} {σ σ1 : St} {K : V → St → Prop} (o : Over σ1 σ) (m : Mine σ1 σ tag) (hs : tag = .nil ∨ s' = s) (hs2 : s2 = s) (hb : (es.length + ns.length) * bytes ≤ 140737488355328) (hb0 : es.length + ns.length ≤ 9223372036854775807)
    (hn : ns ≠ []) (k : ∀ t' σ', Over σ1 σ' → Mine σ1 σ' (.tip t') → σ'.box = σ.box → (∀ t, σ.live t = true → tag ≠ .tip t → σ'.live t = true ∧ t ≠ t') → K (.slice (.tip t') s (es ++ ns)) σ') : App s bytes tag s' es s2 ns σ K := by
  refine ⟨hs, .inl hs2, hb, hb0, ?_⟩
  have on : ∀ t', σ.live t' = false → Over σ1 (σ.on t') ∧ Mine σ1 (σ.on t') (.tip t') ∧ (∀ t, σ.live t = true → (σ.on t').live t = true ∧ t ≠ t') := by
    intro t' ht'
    refine ⟨⟨o.box, fun t h => by simp [St.on, o.live t h]⟩, ⟨by simp [St.on], ?_⟩, fun t h => ⟨by simp [St.on, h], fun e => by subst e; rw [h] at ht'; cases ht'⟩⟩
    cases h : σ1.live t' with
    | false => rfl
    | true => rw [o.live t' h] at ht'; cases ht'
  match ns, hn with
  | n :: ns, _ =>
    cases tag with
    | nil => exact fun t' h => k t' _ (on t' h).1 (on t' h).2.1 rfl (fun t ht _ => (on t' h).2.2 t ht)
    | full => exact fun t' h => k t' _ (on t' h).1 (on t' h).2.1 rfl (fun t ht _ => (on t' h).2.2 t ht)
    | foreign => exact m.elim
    | tip u =>
      refine ⟨m.1, fun t' h => k t' _ ⟨o.box, fun t ht => ?_⟩ ⟨by simp [St.on], (on t' h).2.1.2⟩ rfl (fun t ht hne => ⟨?_, ?_⟩)⟩
      · have hne : t ≠ u := fun e => by subst e; rw [m.2] at ht; cases ht
        simp [St.on, St.off, o.live t ht, hne]
      · have hne' : t ≠ u := fun e => hne (by rw [e])
        simp [St.on, St.off, ht, hne']
      · intro e; subst e; rw [ht] at h; cases h

def BrE (b : Bool) (x y : Prop) : Prop := match b with
  | true => x
  | false => y
theorem BrE.br {b : Bool} {x y : Prop} (h : BrE b x y) : Br b x y := by
  cases b
  · simpa [BrE, Br_true, Br_false] using h
  · simpa [BrE, Br_true, Br_false] using h

def partsB : List (Nat × Nat × Opd) → List V → Bool
  | [], [] => true
  | p :: ps, v :: vs => v.notTup && v.cells.length == p.2.1 && partsB ps vs
  | _, _ => false
theorem partsB_ok : ∀ {ps : List (Nat × Nat × Opd)} {vs : List V}, partsB ps vs = true → partsOK ps vs
  | [], [], _ => trivial
  | p :: ps, v :: vs, h => by
    simp only [partsB, Bool.and_eq_true, beq_iff_eq] at h
    exact ⟨h.1.1, h.1.2, partsB_ok h.2⟩
  | [], _ :: _, h => by cases h
  | _ :: _, [], h => by cases h
def elsB (s : Nat) : List V → Bool
  | [] => true
  | v :: vs => v.notTup && v.cells.length == s && elsB s vs
theorem elsB_ok {s : Nat} : ∀ {vs : List V}, elsB s vs = true → elsOK s vs
  | [], _ => trivial
  | v :: vs, h => by
    simp only [elsB, Bool.and_eq_true, beq_iff_eq] at h
    exact ⟨h.1.1, h.1.2, elsB_ok h.2⟩
structure B2S (es : List (List V)) (K : List UInt8 → Prop) : Prop where
  h : ∃ l, V.bytes es = some l ∧ K l
theorem bytes_byteEls : ∀ l : List UInt8, V.bytes (byteEls l) = some l
  | [] => rfl
  | b :: l => by
    have hb := b.toNat_lt
    have : V.bytes (byteEls (b :: l)) = (V.bytes (byteEls l)).map (UInt8.ofNat ((b.toNat : Int)).toNat :: ·) := by
      show (if 0 ≤ (b.toNat : Int) ∧ (b.toNat : Int) < 256 then _ else none) = _
      rw [if_pos ⟨by omega, by omega⟩]
      rfl
    rw [this, bytes_byteEls l]
    simp
theorem B2S.mk' {l : List UInt8} {K : List UInt8 → Prop} (k : K l) : B2S (byteEls l) K := ⟨l, bytes_byteEls l, k⟩
structure Sure (p : Prop) (q : Prop) : Prop where
  h : p ∧ q
theorem Sure.mk' {p q : Prop} (h : p) (k : q) : Sure p q := ⟨h, k⟩

def sBinE (op : BinOp) (k : IntKind) (x y : Int) (K : V → Prop) : Prop :=
  match op with
  | .add => Arith k (x + y) K
  | .sub => Arith k (x - y) K
  | .mul => Arith k (x * y) K
  | .quo => Sure (y ≠ 0) (Arith k (x.tdiv y) K)
  | .rem => Sure (y ≠ 0) (K (.int k (x.tmod y)))
  | .eql => Test (x = y) K
  | .neq => Test (x ≠ y) K
  | .lss => Test (x < y) K
  | .leq => Test (x ≤ y) K
  | .gtr => Test (y < x) K
  | .geq => Test (y ≤ x) K
  | op => sBin op k x y K
theorem sBinE.bin {op : BinOp} {k : IntKind} {x y : Int} {K : V → Prop} (h : sBinE op k x y K) : sBin op k x y K := by
  cases op <;> simp only [sBinE, sBin] at h ⊢
  case quo => exact ⟨h.h.1, h.h.2.h⟩
  case eql =>
    have := h.h
    rwa [show decide (x = y) = (x == y) from by rw [Bool.eq_iff_iff]; simp] at this
  case neq =>
    have := h.h
    rwa [show decide (x ≠ y) = (x != y) from by rw [Bool.eq_iff_iff]; simp] at this
  all_goals first | exact h | exact h.h
def sBinSE (op : BinOp) (x y : List UInt8) (K : V → Prop) : Prop :=
  match op with
  | .add => Sure (x.length + y.length ≤ 9223372036854775807) (K (.str (x ++ y)))
  | .eql => Test (x = y) K
  | .neq => Test (x ≠ y) K
  | .lss => BTest (Op.bytesLess x y) K
  | op => sBinS op x y K
theorem sBinSE.bin {op : BinOp} {x y : List UInt8} {K : V → Prop} (h : sBinSE op x y K) : sBinS op x y K := by
  cases op <;> simp only [sBinSE, sBinS] at h ⊢
  case eql =>
    have := h.h
    rwa [show decide (x = y) = (x == y) from by rw [Bool.eq_iff_iff]; simp] at this
  case neq =>
    have := h.h
    rwa [show decide (x ≠ y) = (!(x == y)) from by rw [Bool.eq_iff_iff]; simp] at this
  all_goals first | exact h | exact h.h

/-- A slice that is made: empty ones grow, others are written. -/
structure MkSl (s bytes : Nat) (zero : List V) (l c : Int) (σ : St) (K : V → St → Prop) : Prop where
  h : 0 ≤ l ∧ l ≤ c ∧ (bytes : Int) * c ≤ 140737488355328 ∧ c ≤ 9223372036854775807 ∧ c.toNat * s ≤ 16777216 ∧ match l with
      | .ofNat 0 => ∀ t', σ.live t' = false → K (.slice (.tip t') s []) (σ.on t')
      | .ofNat (Nat.succ n) => l = c ∧ s = 1 ∧ ∀ b, σ.box b = none → K (.mslice b 0 (n + 1) (n + 1)) (σ.put b (List.replicate (n + 1) zero).flatten)
      | .negSucc _ => False
theorem MkSl.empty {s bytes : Nat} {zero : List V} {c : Int} {σ : St} {K : V → St → Prop} (h1 : 0 ≤ c) (h2 : (bytes : Int) * c ≤ 140737488355328) (h3 : c ≤ 9223372036854775807) (h4 : c.toNat * s ≤ 16777216)
    (k : ∀ t', σ.live t' = false → K (.slice (.tip t') s []) (σ.on t')) : MkSl s bytes zero 0 c σ K := ⟨by omega, h1, h2, h3, h4, k⟩
theorem MkSl.full {bytes : Nat} {zero : List V} {l : Int} {σ : St} {K : V → St → Prop} (n : Nat) (e : l = n) (hn : 0 < n) (h2 : bytes * n ≤ 140737488355328) (h4 : n ≤ 16777216)
    (k : ∀ b, σ.box b = none → K (.mslice b 0 n n) (σ.put b (List.replicate n zero).flatten)) : MkSl 1 bytes zero l l σ K := by
  subst e
  cases n with
  | zero => omega
  | succ n => exact ⟨by omega, by omega, by
      rw [← Int.natCast_mul]
      generalize bytes * (n + 1) = q at h2 ⊢
      omega, by omega, by rw [Int.toNat_natCast]; omega, rfl, rfl, k⟩
structure CopyK (b off len s : Nat) (es : List (List V)) (σ : St) (K : V → St → Prop) : Prop where
  h : ∃ cs, σ.box b = some cs ∧ s = 1 ∧ off + len ≤ cs.length ∧ es.length ≤ len ∧ 0 < es.length ∧ K (.int .i64 es.length) (σ.put b (setL cs off es.flatten))
theorem CopyK.mk' {b off len s : Nat} {es : List (List V)} {σ : St} {K : V → St → Prop} {cs : List V} (cs' : List V) (hb : σ.box b = some cs) (hs : s = 1) (h1 : off + len ≤ cs.length) (h2 : es.length ≤ len) (h3 : 0 < es.length) (e : setL cs off es.flatten = cs')
    (k : ∀ σ', σ' = σ.put b cs' → K (.int .i64 es.length) σ') : CopyK b off len s es σ K := ⟨cs, hb, hs, h1, h2, h3, k _ (by rw [e])⟩

def sOpE (P : Program) (G : Globs) (o : SOp) (sl : Slots) (σ : St) (K : V → St → Prop) (Kp : V → St → Prop) : Prop :=
  match o with
  | .pick c a b => match c.ev sl G, a.ev sl G, b.ev sl G with
    | some (.bool c), some a, some b => BrE c (K a σ) (K b σ)
    | _, _, _ => False
  | .build zero parts => match evs sl G (parts.map (·.2.2)) with
    | some vs => match partsB parts vs with
      | true => K (.agg (fillL zero (offs parts vs))) σ
      | false => False
    | none => False
  | .mkslice s parts => match evs sl G parts with
    | some vs => match elsB s vs with
      | true => K (.slice .full s (vs.map V.cells)) σ
      | false => False
    | none => False
  | .load agg n a => match a.ev sl G with
    | some (.loc b off) => Load σ b off n fun cs => match mkv agg cs with
      | some v => K v σ
      | none => False
    | some (.ref cs) => RefLoad cs n fun cs => match mkv agg cs with
      | some v => K v σ
      | none => False
    | _ => False
  | .store n a x => match a.ev sl G, x.ev sl G with
    | some (.loc b off), some v => match v.notTup with
      | true => Sure (v.cells.length = n) (Store σ b off v.cells fun σ' => K (.tup []) σ')
      | false => False
    | _, _ => False
  | .bin op x y => match x.ev sl G, y.ev sl G with
    | some (.int k a), some (.int k' b) => match (decide (k = k') || decide (op = .shl) || decide (op = .shr)) with
      | true => sBinE op k a b (K · σ)
      | false => False
    | _, _ => False
  | .bins op x y => match x.ev sl G, y.ev sl G with
    | some (.str a), some (.str b) => sBinSE op a b (K · σ)
    | _, _ => False
  | .binb neg x y => match x.ev sl G, y.ev sl G with
    | some (.bool a), some (.bool b) => BTest (if neg then a != b else a == b) (K · σ)
    | _, _ => False
  | .eqs neg sh x y => match x.ev sl G, y.ev sl G with
    | some (.agg a), some (.agg b) => match shapeL sh a with
      | true => match eqL a b with
        | some r => BTest (if neg then !r else r) (K · σ)
        | none => False
      | false => False
    | _, _ => False
  | .un op x => match op, x.ev sl G with
    | .neg, some (.int k a) => Arith k (0 - a) (K · σ)
    | .not, some (.bool b) => K (.bool !b) σ
    | .xor, some (.int k a) => K (.int k (bitsOp .xor k (if k.signed then -1 else k.max) a)) σ
    | _, _ => False
  | .i2i k x => match x.ev sl G with
    | some (.int _ a) => Arith k a (K · σ)
    | _ => False
  | .b2s x => match x.ev sl G with
    | some (.slice _ s es) => Sure (s = 1 ∨ es = []) (B2S es fun l => K (.str l) σ)
    | some (.mslice b off len _) => Load σ b off len fun cs => B2S (cs.map ([·])) fun l => K (.str l) σ
    | _ => False
  | .cuts x lo hi => match x.ev sl G, lo.map (fun y : Opd => y.ev sl G), hi.map (fun y : Opd => y.ev sl G) with
    | some (.str l), some (some (.int _ i)), some (some (.int _ j)) => Cut l i j fun l => K (.str l) σ
    | some (.str l), some (some (.int _ i)), none => CutR l i fun l => K (.str l) σ
    | some (.str l), none, some (some (.int _ j)) => CutL l j fun l => K (.str l) σ
    | some (.str l), none, none => K (.str l) σ
    | _, _, _ => False
  | .slice z x lo hi => match x.ev sl G, lo.map (fun y : Opd => y.ev sl G), hi.map (fun y : Opd => y.ev sl G) with
    | some (.slice _ s es), some (some (.int _ i)), some (some (.int _ j)) => Sure (s = z) (Cut es i j fun es => K (.slice .foreign s es) σ)
    | some (.slice _ s es), some (some (.int _ i)), none => Sure (s = z) (CutR es i fun es => K (.slice .foreign s es) σ)
    | some (.mslice b off len cap), some (some (.int _ i)), none => Sure (0 ≤ i ∧ i < len ∧ len ≤ cap) (K (.mslice b (off + i.toNat * z) (len - i.toNat) (cap - i.toNat)) σ)
    | some (.slice _ s es), none, some (some (.int _ j)) => Sure (s = z) (CutL es j fun es => K (.slice .foreign s es) σ)
    | some (.slice t s es), none, none => Sure (s = z) (K (.slice t s es) σ)
    | _, _, _ => False
  | .iaddr s x i => match x.ev sl G, i.ev sl G with
    | some (.slice _ s' es), some (.int _ i) => Sure (s' = s ∨ es = []) (IdxE es i fun e => K (.ref e) σ)
    | some (.mslice b off len _), some (.int _ i) => Sure (0 ≤ i ∧ i < len) (K (.loc b (off + i.toNat * s)) σ)
    | _, _ => False
  | .iaddrA s len x i => match x.ev sl G, i.ev sl G with
    | some (.loc b o), some (.int _ i) => Sure (0 ≤ i ∧ i < len) (K (.loc b (o + i.toNat * s)) σ)
    | some (.ref cs), some (.int _ i) => Sure (0 ≤ i ∧ i < len) (K (.ref (cs.drop (i.toNat * s))) σ)
    | _, _ => False
  | .idxs x i => match x.ev sl G, i.ev sl G with
    | some (.str l), some (.int _ i) => Idx l i fun b => K (.int .u8 b.toNat) σ
    | _, _ => False
  | .call f args => match evs sl G args with
    | some vs => CallK P G f vs σ K Kp
    | none => False
  | .callv x args => match x.ev sl G, evs sl G args with
    | some (.func f a b), some vs => CallK P G f (a ++ vs ++ b) σ K Kp
    | _, _ => False
  | .callk f args => match evs sl G args with
    | some vs => CallK P G f vs σ (fun v σ' => Kept σ σ' (K v σ')) Kp
    | none => False
  | .calli tbl x args => match x.ev sl G, evs sl G args with
    | some (.iface t v), some vs => match tbl.lookup t with
      | some f => CallK P G f (v :: vs) σ K Kp
      | none => False
    | _, _ => False
  | .mkmsl s bytes zero len cap => match len.ev sl G, cap.ev sl G with
    | some (.int _ l), some (.int _ c) => MkSl s bytes zero l c σ K
    | _, _ => False
  | .copy x y => match x.ev sl G, y.ev sl G with
    | some (.mslice b off len _), some (.slice _ s es) => CopyK b off len s es σ K
    | _, _ => False
  | .conv2u x => match x.ev sl G with
    | some (.loc b o) => Load σ b o 1 fun _ => K (.loc b o) σ
    | _ => False
  | .append s bytes a b => match a.ev sl G, b.ev sl G with
    | some (.slice tag s' es), some (.slice _ s2 ns) => App s bytes tag s' es s2 ns σ K
    | _, _ => False
  | .appends bytes a b => match a.ev sl G, b.ev sl G with
    | some (.slice tag s' es), some (.str l) => AppS bytes tag s' es l σ K
    | _, _ => False
  | o => sOp P G o sl σ K Kp

theorem sOpE.op {P : Program} {G : Globs} {o : SOp} {sl : Slots} {σ : St} {K Kp : V → St → Prop} (h : sOpE P G o sl σ K Kp) : sOp P G o sl σ K Kp := by
  cases o <;> simp only [sOpE] at h
  case mv => exact h
  all_goals first | exact h | skip
  all_goals simp only [sOp]
  case pick => 
    split at h
    · rename_i e1 e2 e3; simp only [e1, e2, e3]; exact h.br
    · exact h.elim
  case build => 
    split at h
    · rename_i e1
      split at h
      · rename_i hp; simp only [e1]; exact ⟨partsB_ok hp, h⟩
      · exact h.elim
    · exact h.elim
  case mkslice => 
    split at h
    · rename_i e1
      split at h
      · rename_i hp; simp only [e1]; exact ⟨elsB_ok hp, h⟩
      · exact h.elim
    · exact h.elim
  case load =>
    split at h
    · rename_i e
      obtain ⟨cs, h1, h2, h3⟩ := h.h
      simp only [e, Option.bind_some, St.at, h1, Option.map_some, List.length_drop]
      exact ⟨by omega, h3⟩
    · rename_i e
      obtain ⟨h2, h3⟩ := h.h
      simp only [e, Option.bind_some, St.at]
      exact ⟨h2, h3⟩
    · exact h.elim
  case store =>
    split at h
    · rename_i e1 e2
      split at h
      · rename_i hn
        obtain ⟨hl, hs⟩ := h.h
        obtain ⟨cs, h1, h2, h3⟩ := hs.h
        simp only [e1, e2, h1]
        exact ⟨hn, hl, by omega, h3⟩
      · exact h.elim
    · exact h.elim
  case bin =>
    split at h
    · rename_i e1 e2
      split at h
      · rename_i hd
        simp only [Bool.or_eq_true, decide_eq_true_eq] at hd
        simp only [e1, e2]
        exact ⟨by rcases hd with (hd | hd) | hd <;> simp [hd], h.bin⟩
      · exact h.elim
    · exact h.elim
  case bins =>
    split at h
    · rename_i e1 e2; simp only [e1, e2]; exact h.bin
    · exact h.elim
  case binb =>
    split at h
    · rename_i e1 e2; simp only [e1, e2]; exact h.h
    · exact h.elim
  case eqs =>
    split at h
    · rename_i e1 e2
      split at h
      · rename_i hs
        split at h
        · rename_i e3; simp only [e1, e2, e3]; exact ⟨hs, h.h⟩
        · exact h.elim
      · exact h.elim
    · exact h.elim
  case un =>
    split at h
    · rename_i e1; simp only [e1]; exact h.h
    · rename_i e1; simp only [e1]; exact h
    · rename_i e1; simp only [e1]; exact h
    · exact h.elim
  case i2i =>
    split at h
    · rename_i e1; simp only [e1]; exact h.h
    · exact h.elim
  case b2s =>
    split at h
    · rename_i e1
      obtain ⟨h1, h2⟩ := h.h
      obtain ⟨l, h3, h4⟩ := h2.h
      simp only [e1, h3]
      exact ⟨h1, h4⟩
    · rename_i e1
      obtain ⟨cs, h1, h2, h3⟩ := h.h
      obtain ⟨l, h4, h5⟩ := h3.h
      simp only [e1, h1, h4]
      exact ⟨h2, h5⟩
    · exact h.elim
  case cuts =>
    split at h
    · rename_i e1 e2 e3; simp only [e1, e2, e3]; exact h.h
    · rename_i e1 e2 e3; simp only [e1, e2, e3]; exact h.h
    · rename_i e1 e2 e3; simp only [e1, e2, e3]; exact h.h
    · rename_i e1 e2 e3; simp only [e1, e2, e3]; exact h
    · exact h.elim
  case slice =>
    split at h
    · rename_i e1 e2 e3; simp only [e1, e2, e3]; exact ⟨h.h.1, h.h.2.h⟩
    · rename_i e1 e2 e3; simp only [e1, e2, e3]; exact ⟨h.h.1, h.h.2.h⟩
    · rename_i e1 e2 e3; simp only [e1, e2, e3]; exact ⟨h.h.1.1, h.h.1.2.1, h.h.1.2.2, h.h.2⟩
    · rename_i e1 e2 e3; simp only [e1, e2, e3]; exact ⟨h.h.1, h.h.2.h⟩
    · rename_i e1 e2 e3; simp only [e1, e2, e3]; exact h.h
    · exact h.elim
  case iaddr =>
    split at h
    · rename_i e1 e2
      obtain ⟨h1, h2⟩ := h.h
      obtain ⟨h3, e, h4, h5⟩ := h2.h
      simp only [e1, e2, h4]
      exact ⟨h1, h3, h5⟩
    · rename_i e1 e2; simp only [e1, e2]; exact ⟨h.h.1.1, h.h.1.2, h.h.2⟩
    · exact h.elim
  case iaddrA =>
    split at h
    · rename_i e1 e2; simp only [e1, e2]; exact ⟨h.h.1.1, h.h.1.2, h.h.2⟩
    · rename_i e1 e2; simp only [e1, e2]; exact ⟨h.h.1.1, h.h.1.2, h.h.2⟩
    · exact h.elim
  case idxs =>
    split at h
    · rename_i e1 e2
      obtain ⟨h3, e, h4, h5⟩ := h.h
      simp only [e1, e2, h4]
      exact ⟨h3, h5⟩
    · exact h.elim
  case call =>
    split at h
    · rename_i e1; simp only [e1]; exact h.h
    · exact h.elim
  case callv =>
    split at h
    · rename_i e1 e2; simp only [e1, e2]; exact h.h
    · exact h.elim
  case callk =>
    split at h
    · rename_i e1; simp only [e1]; exact h.h
    · exact h.elim
  case calli =>
    split at h
    · rename_i e1 e2
      split at h
      · rename_i e3; simp only [e1, e2, e3]; exact h.h
      · exact h.elim
    · exact h.elim
  case mkmsl =>
    split at h
    · rename_i e1 e2; simp only [e1, e2]; exact h.h
    · exact h.elim
  case copy =>
    split at h
    · rename_i e1 e2
      obtain ⟨cs, h1, h2⟩ := h.h
      simp only [e1, e2, h1]; exact h2
    · exact h.elim
  case conv2u =>
    split at h
    · rename_i e1
      obtain ⟨cs, h1, h2, h3⟩ := h.h
      simp only [e1, h1]; exact ⟨by omega, h3⟩
    · exact h.elim
  case append =>
    split at h
    · rename_i e1 e2; simp only [e1, e2]; exact h.h
    · exact h.elim
  case appends =>
    split at h
    · rename_i e1 e2; simp only [e1, e2]; exact h.h
    · exact h.elim

def sOperE (P : Program) (G : Globs) (o : SOper) (sl : Slots) (σ : St) (K : Slots → St → Prop) (Kp : V → St → Prop) : Prop :=
  match o.guard with
  | none => sOpE P G o.op sl σ (fun v σ' => K (putD sl o.dst v) σ') Kp
  | some (g, want) => match sl g with
    | some (.bool b) => BrE (b == want) (sOpE P G o.op sl σ (fun v σ' => K (putD sl o.dst v) σ') Kp) (K (putD sl o.dst (.tup [])) σ)
    | some (.tup []) => K (putD sl o.dst (.tup [])) σ
    | _ => False
def sOpsE (P : Program) (G : Globs) (Kp : V → St → Prop) (K : Slots → St → Prop) : List SOper → Slots → St → Prop
  | [], sl, σ => K sl σ
  | o :: r, sl, σ => sOperE P G o sl σ (sOpsE P G Kp K r) Kp
theorem sOpsE.ops {P : Program} {G : Globs} {Kp : V → St → Prop} {K K' : Slots → St → Prop} (hK : ∀ sl σ, K sl σ → K' sl σ) : ∀ {l : List SOper} {sl : Slots} {σ : St}, sOpsE P G Kp K l sl σ → sOps P G Kp K' l sl σ
  | [], _, _, h => hK _ _ h
  | o :: r, sl, σ, h => by
    simp only [sOpsE, sOperE] at h
    simp only [sOps, sOper]
    cases hg : o.guard with
    | none =>
      rw [hg] at h
      exact sOp_mono (fun v σ' h => sOpsE.ops hK h) h.op
    | some gw =>
      obtain ⟨g, want⟩ := gw
      rw [hg] at h
      simp only at h ⊢
      split at h
      · rename_i e1
        have := h.br
        simp only [e1]
        exact ⟨fun e => sOp_mono (fun v σ' h => sOpsE.ops hK h) (this.1 e).op, fun e => sOpsE.ops hK (this.2 e)⟩
      · rename_i e1
        simp only [e1]
        exact sOpsE.ops hK h
      · exact h.elim

/-- A loop: what holds ahead of each round, counted down. -/
structure LoopK (body : (SExit → Slots → St → Prop) → Slots → St → Prop) (Q : SExit → Slots → St → Prop) (sl : Slots) (σ : St) : Prop where
  h : ∃ (I : Nat → Slots → St → Prop) (n : Nat), I n sl σ ∧ ∀ n sl σ, I n sl σ → body (fun e sl' σ' => match e with
    | .normal => ∃ m σ'', m < n ∧ Forget σ' σ'' ∧ I m sl' σ''
    | .exit id => Q (.exit id) sl' σ'
    | .ret => Q .ret sl' σ'
    | .pan v => Q (.pan v) sl' σ') sl σ

def swpE (P : Program) (G : Globs) : SC → (SExit → Slots → St → Prop) → Slots → St → Prop
  | .skip, Q, sl, σ => Q .normal sl σ
  | .ret, Q, sl, σ => Q .ret sl σ
  | .exit id, Q, sl, σ => Q (.exit id) sl σ
  | .seq a b, Q, sl, σ => swpE P G a (fun e sl σ => match e with
    | .normal => swpE P G b Q sl σ
    | .exit id => Q (.exit id) sl σ
    | .ret => Q .ret sl σ
    | .pan v => Q (.pan v) sl σ) sl σ
  | .cond c ks a b, Q, sl, σ => match c.ev sl G with
    | some (.bool t) => BrE t (swpE P G a Q (keepO ks sl) σ) (swpE P G b Q (keepO ks sl) σ)
    | _ => False
  | .block id c, Q, sl, σ => swpE P G c (fun e sl σ => match e with
    | .normal => Q .normal sl σ
    | .exit id' => if id' = id then Q .normal sl σ else Q (.exit id') sl σ
    | .ret => Q .ret sl σ
    | .pan v => Q (.pan v) sl σ) sl σ
  | .loop c, Q, sl, σ => LoopK (swpE P G c) Q sl σ
  | .region ops ks, Q, sl, σ => sOpsE P G (fun v σ' => Q (.pan v) (fun _ => none) σ') (fun sl σ => Q .normal (keepO ks sl) σ) ops sl σ
  | .stop, _, _, _ => False

theorem swpE.swp {P : Program} {G : Globs} : ∀ {sc : SC} {Q Q' : SExit → Slots → St → Prop} {sl : Slots} {σ : St}, (∀ e sl σ, Q e sl σ → Q' e sl σ) → (∀ v, Q (.pan v) = Q' (.pan v)) → swpE P G sc Q sl σ → swp P G sc Q' sl σ
  | .skip, Q, Q', sl, σ, hQ, hP, h => hQ _ _ _ h
  | .ret, Q, Q', sl, σ, hQ, hP, h => hQ _ _ _ h
  | .exit id, Q, Q', sl, σ, hQ, hP, h => hQ _ _ _ h
  | .seq a b, Q, Q', sl, σ, hQ, hP, h => by
    simp only [swpE] at h
    simp only [Shadow.swp]
    refine swpE.swp (sc := a) ?_ ?_ h
    rotate_left
    · intro v; exact hP v
    intro e sl σ h
    cases e with
    | normal => exact swpE.swp (sc := b) hQ hP h
    | exit id => exact hQ _ _ _ h
    | ret => exact hQ _ _ _ h
    | pan v => exact hQ _ _ _ h
  | .cond c ks a b, Q, Q', sl, σ, hQ, hP, h => by
    simp only [swpE] at h
    simp only [Shadow.swp]
    split at h
    · rename_i e1
      have := h.br
      try simp only [e1]
      exact ⟨fun e => swpE.swp (sc := a) hQ hP (this.1 e), fun e => swpE.swp (sc := b) hQ hP (this.2 e)⟩
    · exact h.elim
  | .block id c, Q, Q', sl, σ, hQ, hP, h => by
    simp only [swpE] at h
    simp only [Shadow.swp]
    refine swpE.swp (sc := c) ?_ ?_ h
    rotate_left
    · intro v; exact hP v
    intro e sl σ h
    cases e with
    | normal => exact hQ _ _ _ h
    | exit id' =>
      simp only at h ⊢
      split at h
      · rename_i e1; rw [if_pos e1]; exact hQ _ _ _ h
      · rename_i e1; rw [if_neg e1]; exact hQ _ _ _ h
    | ret => exact hQ _ _ _ h
    | pan v => exact hQ _ _ _ h
  | .loop c, Q, Q', sl, σ, hQ, hP, h => by
    obtain ⟨I, n, h0, hs⟩ := (show LoopK _ _ _ _ from h).h
    refine ⟨I, n, h0, fun n sl σ hI => ?_⟩
    refine swpE.swp (sc := c) ?_ ?_ (hs n sl σ hI)
    rotate_left
    · intro v; exact hP v
    intro e sl σ h
    cases e with
    | normal => exact h
    | exit id => exact hQ _ _ _ h
    | ret => exact hQ _ _ _ h
    | pan v => exact hQ _ _ _ h
  | .region ops ks, Q, Q', sl, σ, hQ, hP, h => by
    simp only [swpE] at h
    simp only [Shadow.swp]
    simp only [hP] at h
    exact sOpsE.ops (fun _ _ h => hQ _ _ _ h) h
  | .stop, Q, Q', sl, σ, hQ, hP, h => by
    simp only [swpE] at h

structure Ret (v : V) (σ : St) (Post : SEnd → St → Prop) : Prop where
  h : ∃ r σ', Weak v r ∧ Forget σ σ' ∧ Post (.ret r) σ'
theorem Ret.mk' {v : V} {σ : St} {Post : SEnd → St → Prop} (h : Post (.ret v) σ) : Ret v σ Post := ⟨v, σ, .refl _, .refl _, h⟩
theorem Ret.weak {v r : V} {σ σ' : St} {Post : SEnd → St → Prop} (hw : Weak v r) (hf : Forget σ σ') (h : Post (.ret r) σ') : Ret v σ Post := ⟨r, σ', hw, hf, h⟩
structure Pan (v : V) (σ : St) (Post : SEnd → St → Prop) : Prop where
  h : ∃ r σ', Weak v r ∧ Forget σ σ' ∧ Post (.pan r) σ'
def resK (sl : Slots) (σ : St) : List (Nat × Option (Bool × Nat)) → (List V → Prop) → Prop
  | [], K => K []
  | (t, none) :: r, K => match sl t with
    | some v => resK sl σ r (fun vs => K (v :: vs))
    | none => False
  | (t, some (g, m)) :: r, K => match sl t with
    | some (.loc b off) => Load σ b off m (fun cs => match mkv g cs with
      | some v => resK sl σ r (fun vs => K (v :: vs))
      | none => False)
    | _ => False
abbrev wrapRes : List V → V
  | [v] => v
  | vs => .tup vs
theorem resK_sound {sl : Slots} {σ : St} : ∀ {rs : List (Nat × Option (Bool × Nat))} {K : List V → Prop}, resK sl σ rs K → ∃ vs, sResL sl σ rs = some vs ∧ K vs
  | [], K, h => ⟨[], rfl, h⟩
  | (t, none) :: r, K, h => by
    simp only [resK] at h
    split at h
    · rename_i v e
      obtain ⟨vs, h1, h2⟩ := resK_sound h
      exact ⟨v :: vs, by simp only [sResL, sRes1, e, h1], h2⟩
    · exact h.elim
  | (t, some (g, m)) :: r, K, h => by
    simp only [resK] at h
    split at h
    · rename_i b off e
      obtain ⟨cs, h1, h2, h3⟩ := h.h
      split at h3
      · rename_i v hv
        obtain ⟨vs, h4, h5⟩ := resK_sound h3
        refine ⟨v :: vs, ?_, h5⟩
        simp only [sResL, sRes1, e, Option.bind_some, St.at, h1, Option.map_some, List.length_drop]
        rw [if_pos (by omega), hv]
        simp only [h4]
      · exact h3.elim
    · exact h.elim
theorem wrapRes_sRes {sl : Slots} {σ : St} {rs : List (Nat × Option (Bool × Nat))} {vs : List V} (h : sResL sl σ rs = some vs) : sRes sl σ rs = some (wrapRes vs) := by
  unfold sRes
  rw [h]
  match vs with
  | [] => rfl
  | [v] => rfl
  | v :: u :: vs => rfl
def retE (rs : List (Nat × Option (Bool × Nat))) (Post : SEnd → St → Prop) : SExit → Slots → St → Prop
  | .normal, sl, σ => resK sl σ rs fun vs => Ret (wrapRes vs) σ Post
  | .ret, sl, σ => resK sl σ rs fun vs => Ret (wrapRes vs) σ Post
  | .pan v, _, σ => ∃ r σ', Weak v r ∧ Forget σ σ' ∧ Post (.pan r) σ'
  | .exit _, _, _ => False

/-- The loaded function 'f' has this shadow code. -/
structure IsCode (P : Program) (f : FuncId) (sc : SC) (rs : List (Nat × Option (Bool × Nat))) (n : Nat) : Prop where
  h : ∃ fn c, P.funcs[f]? = some fn ∧ (fn.name == "runtime.NumGoroutine") = false ∧ fn.body = some c ∧ tr P fn.ntmps c = some (strip sc) ∧ trRes P fn.results.toList = some rs ∧ fn.ntmps = n
theorem IsCode.mk' {P : Program} {f : FuncId} {sc : SC} {rs : List (Nat × Option (Bool × Nat))} {n : Nat} {fn : Func} (h1 : P.funcs[f]? = some fn) (h2 : (fn.name == "runtime.NumGoroutine") = false)
    (h3 : fn.body.bind (tr P fn.ntmps) = some (strip sc)) (h4 : trRes P fn.results.toList = some rs) (h5 : fn.ntmps = n) : IsCode P f sc rs n := by
  rw [Option.bind_eq_some_iff] at h3
  obtain ⟨c, h3, h6⟩ := h3
  exact ⟨fn, c, h1, h2, h3, h6, h4, h5⟩
theorem IsCode.call {P : Program} {G : Globs} (hm : P.follows .mixedOrders = true) {f : FuncId} {sc : SC} {rs : List (Nat × Option (Bool × Nat))} {n : Nat} {args : List V} {σ : St} {Post : SEnd → St → Prop} (hc : IsCode P f sc rs n) (hl : args.length ≤ n)
    (h : swpE P G sc (retE rs Post) (argS 0 args) σ) : SCall P G f args σ Post := by
  obtain ⟨fn, c, h1, h2, h3, h4, h5, h6⟩ := hc
  subst h6
  refine SCall.of_code hm h1 h2 h3 h4 h5 hl (swpE.swp (Q := retE rs Post) (Q' := retQ rs Post) ?_ (fun v => rfl) h)
  intro e sl σ h
  cases e with
  | normal =>
    obtain ⟨vs, h1, h2⟩ := resK_sound (show resK sl σ rs fun vs => Ret (wrapRes vs) σ Post from h)
    simp only [retQ, wrapRes_sRes h1]
    exact h2.h
  | ret =>
    obtain ⟨vs, h1, h2⟩ := resK_sound (show resK sl σ rs fun vs => Ret (wrapRes vs) σ Post from h)
    simp only [retQ, wrapRes_sRes h1]
    exact h2.h
  | pan v => exact h
  | exit id => exact h

end Go.Shadow

/- THE SHADOW LOGIC, part 19: functions that defer calls. -/
namespace Go.Shadow
open Go Go.RowKit

/-- Code with its deferred calls at the outside. -/
inductive SD where
  | code (c : SC)
  | seq (c : SC) (d : SD)
  | defer (ops : List SOper) (x : Opd) (args : List Opd) (ks : Option (List Nat)) (d : SD)
  | cond (c : Opd) (ks : Option (List Nat)) (a b : SD)

section
variable {P : Program} {G : Globs} {w0 w : World} {γ : Gh} {σ : St} {n : Nat} {sl : Slots} {a : Act}

/-- A frame's mode: none: it returns; a value: it panics with it. -/
def ModeRel (B : Nat) (γ : Gh) (w : World) : Option V → FrameMode → Prop
  | none, u => u = .returning
  | some v, u => ∃ x, u = .panicking [{ v := x, recovered := false }] ∧ R B γ w v x
def recMode : FrameMode → FrameMode
  | .panicking [e] => .panicking [{ e with recovered := true }]
  | u => u
/-- What a deferred call does: it returns, and has recovered or not. -/
def SDCall (P : Program) (G : Globs) (f : FuncId) (args : List V) (mode : Option V) (σ : St) (Post : Bool → St → Prop) : Prop :=
  ∀ (w0 : World) (γ : Gh) (w : World) (xs : Array Value) (u : FrameMode), Inv G w0 γ σ w → RL w0.heap.size γ w args xs.toList → ModeRel w0.heap.size γ w mode u →
    (callFunc f xs).run P w = .ok (.enter f xs) w ∧ CallsD P f xs u w fun e u' w' => ∃ γ' σ' r, Ext w0.heap.size γ w γ' w' ∧ Inv G w0 γ' σ' w' ∧ (∃ v, e = .returned v) ∧ Post r σ' ∧ u' = (if r then recMode u else u)

theorem ModeRel.ext {γ' : Gh} {w' : World} {B : Nat} {m : Option V} {u : FrameMode} (he : Ext B γ w γ' w') (h : ModeRel B γ w m u) : ModeRel B γ' w' m u := by
  cases m with
  | none => exact h
  | some v => obtain ⟨x, h1, h2⟩ := h; exact ⟨x, h1, h2.ext he⟩
theorem ModeRel.settle {B : Nat} {m : Option V} {u : FrameMode} (h : ModeRel B γ w m u) (r : Bool) : ModeRel B γ w (if r then none else m) (settle (if r then recMode u else u)) := by
  cases m with
  | none => have h : u = .returning := h; subst h; cases r <;> rfl
  | some v =>
    obtain ⟨x, rfl, h2⟩ := h
    cases r
    · exact ⟨x, rfl, h2⟩
    · rfl

/-- A deferred call, as the frame keeps it. -/
def DRel (B : Nat) (γ : Gh) (w : World) (d : FuncId × List V) (x : Deferred) : Prop := ∃ cap, x.target = .fn (.func d.1) cap ∧ RL B γ w d.2 (x.args ++ cap).toList
def DRels (B : Nat) (γ : Gh) (w : World) : List (FuncId × List V) → List Deferred → Prop
  | [], [] => True
  | d :: ds, x :: xs => DRel B γ w d x ∧ DRels B γ w ds xs
  | _, _ => False
theorem DRels.ext {γ' : Gh} {w' : World} {B : Nat} (he : Ext B γ w γ' w') : ∀ {ds : List (FuncId × List V)} {xs : List Deferred}, DRels B γ w ds xs → DRels B γ' w' ds xs
  | [], [], _ => trivial
  | d :: ds, x :: xs, h => by
    obtain ⟨⟨cap, h1, h2⟩, h3⟩ := h
    exact ⟨⟨cap, h1, h2.ext he⟩, DRels.ext he h3⟩
  | [], _ :: _, h => h.elim
  | _ :: _, [], h => h.elim

/-- The way out of a function: its deferred calls, and then its results. -/
def SLeave (P : Program) (G : Globs) (rs : List (Nat × Option (Bool × Nat))) (Post : SEnd → St → Prop) : List (FuncId × List V) → Option V → Slots → St → Prop
  | [], none, sl, σ => retQ rs Post .ret sl σ
  | [], some v, sl, σ => retQ rs Post (.pan v) sl σ
  | (f, vs) :: ds, m, sl, σ => SDCall P G f vs m σ fun r σ' => SLeave P G rs Post ds (if r then none else m) sl σ'

def retR (G : Globs) (w0 : World) (γ : Gh) (w : World) (Post : SEnd → St → Prop) (e : Ending) (w' : World) : Prop :=
  ∃ γ' σ', Ext w0.heap.size γ w γ' w' ∧ Inv G w0 γ' σ' w' ∧ ∃ r x, R w0.heap.size γ' w' r x ∧
      ((e = .returned x ∧ Post (.ret r) σ') ∨ (e = .panicked [{ v := x, recovered := false }] ∧ Post (.pan r) σ'))

theorem leave_sound {fn : Func} {rs : List (Nat × Option (Bool × Nat))} {Post : SEnd → St → Prop} (hres : trRes P fn.results.toList = some rs) {γ0 : Gh} {wb : World} : ∀ (ds : List (FuncId × List V)) (xs : List Deferred) (m : Option V) (u : FrameMode) {γ : Gh} {σ : St} {w : World} {sl : Slots} {a : Act} {dd : List Deferred},
    Ext w0.heap.size γ0 wb γ w → Rel G w0 γ σ w n dd sl a → DRels w0.heap.size γ w ds xs → ModeRel w0.heap.size γ w m u → SLeave P G rs Post ds m sl σ → Leaves P fn a.tmps (retR G w0 γ0 wb Post) xs u w
  | [], [], none, u, γ, σ, w, sl, a, dd, he, hr, _, hm, h => by
    have hm : u = .returning := hm
    subst hm
    simp only [SLeave, retQ] at h
    split at h
    · rename_i v hv
      obtain ⟨r, σ'', hw, hf, hp⟩ := h
      obtain ⟨x, h1, h2⟩ := res_sound (P := P) hr hres hv
      exact ⟨x, h1, γ, σ'', he, hr.inv.forget hf, r, x, hw _ _ _ _ h2, .inl ⟨rfl, hp⟩⟩
    · exact h.elim
  | [], [], some v, u, γ, σ, w, sl, a, dd, he, hr, _, hm, h => by
    obtain ⟨x, rfl, hv⟩ := hm
    obtain ⟨r, σ'', hw, hf, hp⟩ := h
    exact ⟨γ, σ'', he, hr.inv.forget hf, r, x, hw _ _ _ _ hv, .inr ⟨rfl, hp⟩⟩
  | (f, vs) :: ds, x :: xs, m, u, γ, σ, w, sl, a, dd, he, hr, hd, hm, h => by
    obtain ⟨⟨cap, h1, h2⟩, h3⟩ := hd
    have h : SDCall P G f vs m σ fun r σ' => SLeave P G rs Post ds (if r then none else m) sl σ' := h
    obtain ⟨g1, g2⟩ := h w0 γ w (x.args ++ cap) u hr.inv h2 hm
    obtain ⟨t, xa⟩ := x
    simp only at h1 g1 g2
    subst h1
    have hu : u ≠ .run := by
      cases m with
      | none => have hm : u = .returning := hm; subst hm; simp
      | some v => obtain ⟨x, rfl, _⟩ := hm; simp
    refine leaves_cons (f := f) (args := xa ++ cap) hu (by simpa [invoke] using g1) (g2.mono ?_)
    rintro e u' w' ⟨γ', σ', r, he', hI', ⟨v, rfl⟩, hp, rfl⟩
    exact leave_sound hres ds xs _ _ (he.trans he') (hr.ext he' hI') (h3.ext he') ((hm.ext he').settle r) hp
  | [], _ :: _, _, _, _, _, _, _, _, _, _, _, hd, _, _ => hd.elim
  | _ :: _, [], _, _, _, _, _, _, _, _, _, _, hd, _, _ => hd.elim

def swpD (P : Program) (G : Globs) (rs : List (Nat × Option (Bool × Nat))) (Post : SEnd → St → Prop) : SD → List (FuncId × List V) → Slots → St → Prop
  | .code c, ds, sl, σ => swp P G c (fun e sl σ => match e with
    | .normal => SLeave P G rs Post ds none sl σ
    | .ret => SLeave P G rs Post ds none sl σ
    | .pan v => SLeave P G rs Post ds (some v) sl σ
    | .exit _ => False) sl σ
  | .seq c d, ds, sl, σ => swp P G c (fun e sl σ => match e with
    | .normal => swpD P G rs Post d ds sl σ
    | .ret => SLeave P G rs Post ds none sl σ
    | .pan v => SLeave P G rs Post ds (some v) sl σ
    | .exit _ => False) sl σ
  | .defer ops x args ks d, ds, sl, σ => sOps P G (fun v σ => SLeave P G rs Post ds (some v) (fun _ => none) σ) (fun sl σ => match x.ev sl G, evs sl G args with
    | some (.func f u v), some vs => swpD P G rs Post d ((f, u ++ vs ++ v) :: ds) (keepO ks sl) σ
    | _, _ => False) ops sl σ
  | .cond c ks x y, ds, sl, σ => match c.ev sl G with
    | some (.bool t) => Br t (swpD P G rs Post x ds (keepO ks sl) σ) (swpD P G rs Post y ds (keepO ks sl) σ)
    | _ => False

def deferOp (o : Oper) : Option (Operand × List Operand) := match o.op, o.guard, o.dst with
  | .defer { callee := .value x, args, argTypes := _ }, none, none => some (x, args.toList)
  | _, _, _ => none
/-- The code is this shadow code. -/
def trD (P : Program) (n : Nat) : SD → Code → Prop
  | .code sc, c => tr P n c = some (strip sc)
  | .seq sc d, .seq a b => tr P n a = some (strip sc) ∧ trD P n d b
  | .defer ops x args _ d, .seq (.region _ os false) b => (∃ k, os.size = k + 1 ∧ trOpers P n os (os.toList.take k) = some ops ∧ ∃ o y ys, os[k]? = some o ∧ deferOp o = some (y, ys) ∧ trOpd y = some x ∧ trOpds ys = some args) ∧ trD P n d b
  | .cond oc _ x y, .cond c a b => trOpd c = some oc ∧ trD P n x a ∧ trD P n y b
  | _, _ => False

theorem wpOps_append {ops : Array Oper} {Q : Exit → Act → World → Prop} : ∀ (l1 l2 : List Nat) (a : Act) (w : World), wpOps P ops (fun e a w => match e with
      | .normal => wpOps P ops Q l2 a w
      | e => Q e a w) l1 a w → wpOps P ops Q (l1 ++ l2) a w
  | [], l2, a, w, h => h
  | i :: l1, l2, a, w, h => by
    simp only [List.cons_append, wpOps] at h ⊢
    split
    · rename_i ho; simp only [ho] at h; exact wpOps_append l1 l2 a w h
    · rename_i o ho
      simp only [ho] at h
      split
      · rename_i hw
        simp only [hw, if_true] at h
        have key : ∀ r : Result Next, o.upon P a (wpOps P ops (fun e a w => match e with
            | .normal => wpOps P ops Q l2 a w
            | e => Q e a w) l1) (fun e a w => match e with
            | .normal => wpOps P ops Q l2 a w
            | e => Q e a w) r → o.upon P a (wpOps P ops Q (l1 ++ l2)) Q r := by
          intro r hr
          unfold Oper.upon at hr ⊢
          split at hr
          · exact wpOps_append l1 l2 _ _ hr
          · exact wpOps_append l1 l2 _ _ hr
          · exact wpOps_append l1 l2 _ _ hr
          · refine hr.mono fun e w' he => ?_
            cases e with
            | returned v => exact wpOps_append l1 l2 _ _ he
            | panicked ch => exact he
            | outgrown => exact he
          · exact hr.mono fun v w' he => wpOps_append l1 l2 _ _ he
          · exact hr
          · exact hr.elim
        rcases h with h | h
        · exact .inl (key _ h)
        · exact .inr h
      · rename_i hw
        simp only [hw, if_false] at h
        exact wpOps_append l1 l2 _ _ h

theorem take_range {k m : Nat} (h : k ≤ m) : (List.range m).take k = List.range k := by
  rw [List.take_range]; congr 1; omega

theorem swpD_sound (hm : P.follows .mixedOrders = true) {fn : Func} {rs : List (Nat × Option (Bool × Nat))} {Post : SEnd → St → Prop} (hres : trRes P fn.results.toList = some rs) {γ0 : Gh} {wb : World} : ∀ (sd : SD) {c : Code} {ds : List (FuncId × List V)} {γ : Gh} {σ : St} {w : World} {sl : Slots} {a : Act} {dd : List Deferred},
    trD P n sd c → Ext w0.heap.size γ0 wb γ w → Rel G w0 γ σ w n dd sl a → DRels w0.heap.size γ w ds dd → swpD P G rs Post sd ds sl σ → c.wp P (bodyPostD P fn (retR G w0 γ0 wb Post)) a w
  | .code sc, c, ds, γ, σ, w, sl, a, dd, ht, he, hr, hd, h => by
    refine wp_mono (swp_sound hm sc ht hr h) ?_
    rintro e a' w' ⟨γ', σ', sl', he', hr', hq⟩
    cases e with
    | normal => simp only [bodyPostD]; rw [hr'.defs]; exact leave_sound hres ds dd none _ (he.trans he') hr' (hd.ext he') rfl hq
    | ret => simp only [bodyPostD]; rw [hr'.defs]; exact leave_sound hres ds dd none _ (he.trans he') hr' (hd.ext he') rfl hq
    | exit id => exact hq.elim
    | panic ch =>
      obtain ⟨v, x, rfl, hv, hq⟩ := hq
      simp only [bodyPostD]; rw [hr'.defs]; exact leave_sound hres ds dd (some v) _ (he.trans he') hr' (hd.ext he') ⟨x, rfl, hv⟩ hq
    | goto l => exact hq.elim
    | outgrown => exact hq.elim
  | .seq sc d, c, ds, γ, σ, w, sl, a, dd, ht, he, hr, hd, h => by
    cases c <;> simp only [trD] at ht <;> first | exact ht.elim | skip
    refine wp_seq (wp_mono (swp_sound hm sc ht.1 hr h) ?_)
    rintro e a' w' ⟨γ', σ', sl', he', hr', hq⟩
    cases e with
    | normal => exact swpD_sound hm hres d ht.2 (he.trans he') hr' (hd.ext he') hq
    | ret => simp only [Exit.then, bodyPostD]; rw [hr'.defs]; exact leave_sound hres ds dd none _ (he.trans he') hr' (hd.ext he') rfl hq
    | exit id => exact hq.elim
    | panic ch =>
      obtain ⟨v, x, rfl, hv, hq⟩ := hq
      simp only [Exit.then, bodyPostD]; rw [hr'.defs]; exact leave_sound hres ds dd (some v) _ (he.trans he') hr' (hd.ext he') ⟨x, rfl, hv⟩ hq
    | goto l => exact hq.elim
    | outgrown => exact hq.elim
  | .cond oc ks x y, c, ds, γ, σ, w, sl, a, dd, ht, he, hr, hd, h => by
    cases c <;> simp only [trD] at ht <;> first | exact ht.elim | skip
    simp only [swpD] at h
    split at h
    · rename_i t hv
      have hR := ev_sound hr ht.1 hv
      generalize hce : a.eval _ = cv at hR
      cases hR
      exact wp_cond_split hce (fun e => swpD_sound hm hres x ht.2.1 he (hr.keep ks) hd (h.1 e)) (fun e => swpD_sound hm hres y ht.2.2 he (hr.keep ks) hd (h.2 e))
    · exact h.elim
  | .defer ops x args ks d, c, ds, γ, σ, w, sl, a, dd, ht, he, hr, hd, h => by
    cases c <;> first | exact False.elim ht | skip
    rename_i c1 c2
    cases c1 <;> first | exact False.elim ht | skip
    rename_i id os draw
    cases draw <;> first | exact False.elim ht | skip
    obtain ⟨⟨k, hk, hops, o, y, ys, ho, hdo, hy, hys⟩, ht2⟩ := ht
    obtain ⟨hl, hget⟩ := trOpers_get hops
    have hlk : (os.toList.take k).length = k := by simp [hk]
    refine wp_seq (wp_region ?_)
    rw [hk, List.range_succ]
    refine wpOps_append _ _ _ _ ?_
    refine sOps_sound (G := G) (w0 := w0) (K := fun sl σ => match x.ev sl G, evs sl G args with
      | some (.func f u v), some vs => swpD P G rs Post d ((f, u ++ vs ++ v) :: ds) (keepO ks sl) σ
      | _, _ => False) (Kp := fun v σ => SLeave P G rs Post ds (some v) (fun _ => none) σ) (List.range k) ops hr (by simp; omega) (fun j i so hj hso => ?_) h (fun γ' σ' w' sl' a' he' hr' hq => ?_) (fun γ' σ' w' v x' a' he' hr' hv hq => ?_)
    · obtain ⟨o', h1, h2⟩ := hget j so hso
      have hj' : j < k := by have := (List.getElem?_eq_some_iff.1 hj).1; simpa using this
      have : i = j := by simp [hj'] at hj; exact hj.symm
      subst this
      refine ⟨o', ?_, h2⟩
      rw [List.getElem?_take, if_pos hj'] at h1
      simpa using h1
    · -- the deferred call
      split at hq
      · rename_i f u v vs h1 h2
        have e1 := ev_sound hr' hy h1
        have hRL := evs_sound hr' hys h2
        unfold deferOp at hdo
        split at hdo
        · rename_i xo xargs xts hop hguard hdst
          injection hdo with hdo; injection hdo with q1 q2; subst q1; subst q2
          generalize hxe : a'.eval xo = xe at e1
          cases e1 with | func _ _ _ fs cs hl1 hl2 hr1 hr2 =>
          have r1 : RL w0.heap.size γ' w' u fs.toList := ⟨by simpa using hl1, fun i x y hx hy => hr1 i x y hx (by simpa using hy)⟩
          have r2 : RL w0.heap.size γ' w' v cs.toList := ⟨by simpa using hl2, fun i x y hx hy => hr2 i x y hx (by simpa using hy)⟩
          have hexec : (execOp a'.eval o).run P w' = .ok (.defer { target := .fn (.func f) cs, args := fs ++ xargs.map a'.eval }) w' := by
            simp [execOp, hop, resolve, hxe, Deferred.ofValue]
          have hwant : Region.wanted o (yielded os a'.tmps) = true := by simp [Region.wanted, hguard]
          simp only [wpOps, ho, hwant, if_true]
          refine .inl ?_
          unfold Oper.wp
          rw [hexec, Oper.upon_defer]
          have hput : ∀ b : Act, b.put o.dst undef = b := by intro b; rw [hdst]; rfl
          rw [hput]
          have hr2' : Rel G w0 γ' σ' w' n ({ target := .fn (.func f) cs, args := fs ++ xargs.map a'.eval } :: dd) sl' { a' with defers := { target := .fn (.func f) cs, args := fs ++ xargs.map a'.eval } :: a'.defers } :=
            ⟨hr'.inv, hr'.slots, hr'.size, by simp [hr'.defs]⟩
          exact swpD_sound (ds := (f, u ++ vs ++ v) :: ds) hm hres d ht2 (he.trans he') (hr2'.keep ks) ⟨⟨cs, rfl, by simpa using (r1.append hRL).append r2⟩, hd.ext he'⟩ hq
        · cases hdo
      · exact hq.elim
    · simp only [Exit.then, bodyPostD]; rw [hr'.defs]; exact leave_sound hres ds dd (some v) _ (he.trans he') hr' (hd.ext he') ⟨x', rfl, hv⟩ hq

/-- A function that defers calls. -/
structure IsCodeD (P : Program) (f : FuncId) (sd : SD) (rs : List (Nat × Option (Bool × Nat))) (n : Nat) : Prop where
  h : ∃ fn c, P.funcs[f]? = some fn ∧ (fn.name == "runtime.NumGoroutine") = false ∧ fn.body = some c ∧ trD P fn.ntmps sd c ∧ trRes P fn.results.toList = some rs ∧ fn.ntmps = n
theorem SCall.of_codeD (hm : P.follows .mixedOrders = true) {f : FuncId} {sd : SD} {rs : List (Nat × Option (Bool × Nat))} {args : List V} {Post : SEnd → St → Prop} (hc : IsCodeD P f sd rs n) (hl : args.length ≤ n) (h : swpD P G rs Post sd [] (argS 0 args) σ) : SCall P G f args σ Post := by
  obtain ⟨fn, c, hf, hname, hb, htr, hres, hn⟩ := hc
  subst hn
  intro w0 γ w xs hI hRL
  have hname' : ¬ fn.name = "runtime.NumGoroutine" := by simpa using hname
  refine .inl ⟨by simp [callFunc, hf, hname', hb], calls_of_wp_defers hf hb ?_⟩
  have hlen : args.length = xs.size := by simpa using hRL.1
  have hrel : Rel G w0 γ σ w fn.ntmps [] (argS 0 args) { tmps := xs ++ Array.replicate (fn.ntmps - xs.size) undef, defers := [] } := by
    refine ⟨hI, fun t v hv => ?_, by simp; omega, rfl⟩
    obtain ⟨j, rfl, hj⟩ := argS_get hv
    have hjl : j < xs.size := by rw [← hlen]; exact (List.getElem?_eq_some_iff.1 hj).1
    have := hRL.2 j v xs[j] hj (by simp [hjl])
    simp only [Nat.zero_add, Array.getD_eq_getD_getElem?]
    rw [Array.getElem?_append_left hjl, Array.getElem?_eq_getElem hjl]
    exact this
  exact swpD_sound (ds := []) hm hres sd htr (.refl _ _ _) hrel (show DRels _ _ _ [] [] from trivial) h

/-- A deferred call of a function that defers and recovers nothing. -/
theorem SDCall.of_code (hm : P.follows .mixedOrders = true) {f : FuncId} {sc : SC} {rs : List (Nat × Option (Bool × Nat))} {args : List V} {mode : Option V} {Post : Bool → St → Prop} (hc : IsCode P f sc rs n) (hl : args.length ≤ n)
    (h : swpE P G sc (retE rs fun e σ' => (∃ v, e = .ret v) ∧ Post false σ') (argS 0 args) σ) : SDCall P G f args mode σ Post := by
  obtain ⟨fn, c, h1, h2, h3, h4, h5, h6⟩ := hc
  subst h6
  intro w0 γ w xs u hI hRL hmode
  have hs : SCall P G f args σ (fun e σ' => (∃ v, e = .ret v) ∧ Post false σ') := IsCode.call hm ⟨fn, c, h1, h2, h3, h4, h5, rfl⟩ hl h
  have hname' : ¬ fn.name = "runtime.NumGoroutine" := by simpa using h2
  refine ⟨by simp [callFunc, h1, hname', h3], ?_⟩
  have hlen : args.length = xs.size := by simpa using hRL.1
  have hrel : Rel G w0 γ σ w fn.ntmps [] (argS 0 args) { tmps := xs ++ Array.replicate (fn.ntmps - xs.size) undef, defers := [] } := by
    refine ⟨hI, fun t v hv => ?_, by simp; omega, rfl⟩
    obtain ⟨j, rfl, hj⟩ := argS_get hv
    have hjl : j < xs.size := by rw [← hlen]; exact (List.getElem?_eq_some_iff.1 hj).1
    have := hRL.2 j v xs[j] hj (by simp [hjl])
    simp only [Nat.zero_add, Array.getD_eq_getD_getElem?]
    rw [Array.getElem?_append_left hjl, Array.getElem?_eq_getElem hjl]
    exact this
  have hswp := swpE.swp (Q := retE rs fun e σ' => (∃ v, e = .ret v) ∧ Post false σ') (Q' := retE rs fun e σ' => (∃ v, e = .ret v) ∧ Post false σ') (fun _ _ _ h => h) (fun _ => rfl) h
  refine (callsD_of_wp (R := fun e w' => ∃ γ' σ', Ext w0.heap.size γ w γ' w' ∧ Inv G w0 γ' σ' w' ∧ (∃ v, e = .returned v) ∧ Post false σ') h1 h3 (wp_mono (swp_sound hm sc h4 hrel hswp) ?_)).mono ?_
  · rintro e a' w' ⟨γ', σ', sl', he, hr', hq⟩
    have fin : (∃ vs, sResL sl' σ' rs = some vs ∧ Ret (wrapRes vs) σ' (fun e σ' => (∃ v, e = .ret v) ∧ Post false σ')) → bodyPost P fn (fun e w' => ∃ γ' σ', Ext w0.heap.size γ w γ' w' ∧ Inv G w0 γ' σ' w' ∧ (∃ v, e = .returned v) ∧ Post false σ') .ret a' w' := by
      rintro ⟨vs, hv, ⟨r, σ'', hw, hf, _, hp⟩⟩
      obtain ⟨x, q1, q2⟩ := res_sound (P := P) hr' h5 (wrapRes_sRes hv)
      exact ⟨hr'.defs, x, q1, γ', σ'', he, hr'.inv.forget hf, ⟨x, rfl⟩, hp⟩
    cases e with
    | normal => exact fin (resK_sound hq)
    | ret => exact fin (resK_sound hq)
    | exit id => exact hq.elim
    | panic ch =>
      obtain ⟨v, x, rfl, hv, r, σ'', hw, hf, ⟨v', hv'⟩, hp⟩ := hq
      cases hv'
    | goto l => exact hq.elim
    | outgrown => exact hq.elim
  · rintro e u' w' ⟨rfl, γ', σ', he, hI', hv, hp⟩
    exact ⟨γ', σ', false, he, hI', hv, hp, rfl⟩

/-! ### the same, cut for stepping -/
structure DefK (P : Program) (G : Globs) (f : FuncId) (args : List V) (mode : Option V) (σ : St) (K : Bool → St → Prop) : Prop where
  h : SDCall P G f args mode σ K
theorem SDCall.mono {f : FuncId} {args : List V} {mode : Option V} {σ : St} {K K' : Bool → St → Prop} (h : SDCall P G f args mode σ K) (k : ∀ r σ', K r σ' → K' r σ') : SDCall P G f args mode σ K' := by
  intro w0 γ w xs u hI hRL hm
  obtain ⟨h1, h2⟩ := h w0 γ w xs u hI hRL hm
  exact ⟨h1, h2.mono fun e u' w' ⟨γ', σ', r, g1, g2, g3, g4, g5⟩ => ⟨γ', σ', r, g1, g2, g3, k _ _ g4, g5⟩⟩
theorem DefK.mk' {f : FuncId} {args : List V} {mode : Option V} {σ : St} {K K' : Bool → St → Prop} (h : SDCall P G f args mode σ K) (k : ∀ r σ', K r σ' → K' r σ') : DefK P G f args mode σ K' := ⟨h.mono k⟩
def SLeaveE (P : Program) (G : Globs) (rs : List (Nat × Option (Bool × Nat))) (Post : SEnd → St → Prop) : List (FuncId × List V) → Option V → Slots → St → Prop
  | [], none, sl, σ => retE rs Post .ret sl σ
  | [], some v, _, σ => Pan v σ Post
  | (f, vs) :: ds, m, sl, σ => DefK P G f vs m σ fun r σ' => SLeaveE P G rs Post ds (if r then none else m) sl σ'
theorem SLeaveE.leave {rs : List (Nat × Option (Bool × Nat))} {Post : SEnd → St → Prop} : ∀ {ds : List (FuncId × List V)} {m : Option V} {sl : Slots} {σ : St}, SLeaveE P G rs Post ds m sl σ → SLeave P G rs Post ds m sl σ
  | [], none, sl, σ, h => by
    obtain ⟨vs, h1, h2⟩ := resK_sound (show resK sl σ rs fun vs => Ret (wrapRes vs) σ Post from h)
    simp only [SLeave, retQ, wrapRes_sRes h1]
    exact h2.h
  | [], some v, sl, σ, h => (show Pan v σ Post from h).h
  | (f, vs) :: ds, m, sl, σ, h => (show DefK P G f vs m σ _ from h).h.mono fun r σ' h => SLeaveE.leave h
def swpDE (P : Program) (G : Globs) (rs : List (Nat × Option (Bool × Nat))) (Post : SEnd → St → Prop) : SD → List (FuncId × List V) → Slots → St → Prop
  | .code c, ds, sl, σ => swpE P G c (fun e sl σ => match e with
    | .normal => SLeaveE P G rs Post ds none sl σ
    | .ret => SLeaveE P G rs Post ds none sl σ
    | .pan v => SLeave P G rs Post ds (some v) sl σ
    | .exit _ => False) sl σ
  | .seq c d, ds, sl, σ => swpE P G c (fun e sl σ => match e with
    | .normal => swpDE P G rs Post d ds sl σ
    | .ret => SLeaveE P G rs Post ds none sl σ
    | .pan v => SLeave P G rs Post ds (some v) sl σ
    | .exit _ => False) sl σ
  | .defer ops x args ks d, ds, sl, σ => sOpsE P G (fun v σ => SLeave P G rs Post ds (some v) (fun _ => none) σ) (fun sl σ => match x.ev sl G, evs sl G args with
    | some (.func f u v), some vs => swpDE P G rs Post d ((f, u ++ vs ++ v) :: ds) (keepO ks sl) σ
    | _, _ => False) ops sl σ
  | .cond c ks x y, ds, sl, σ => match c.ev sl G with
    | some (.bool t) => BrE t (swpDE P G rs Post x ds (keepO ks sl) σ) (swpDE P G rs Post y ds (keepO ks sl) σ)
    | _ => False
theorem swpDE.swpD {rs : List (Nat × Option (Bool × Nat))} {Post : SEnd → St → Prop} : ∀ {sd : SD} {ds : List (FuncId × List V)} {sl : Slots} {σ : St}, swpDE P G rs Post sd ds sl σ → Shadow.swpD P G rs Post sd ds sl σ
  | .code c, ds, sl, σ, h => by
    refine swpE.swp ?_ ?_ (show swpE P G c _ sl σ from h)
    · intro e sl σ h
      cases e with
      | normal => exact SLeaveE.leave h
      | ret => exact SLeaveE.leave h
      | pan v => exact h
      | exit id => exact h
    · intro v; rfl
  | .seq c d, ds, sl, σ, h => by
    refine swpE.swp ?_ ?_ (show swpE P G c _ sl σ from h)
    · intro e sl σ h
      cases e with
      | normal => exact swpDE.swpD h
      | ret => exact SLeaveE.leave h
      | pan v => exact h
      | exit id => exact h
    · intro v; rfl
  | .defer ops x args ks d, ds, sl, σ, h => by
    refine sOpsE.ops (fun sl σ h => ?_) (show sOpsE P G _ _ ops sl σ from h)
    revert h
    cases x.ev sl G with
    | none => exact False.elim
    | some u =>
      cases evs sl G args with
      | none => intro h; cases u <;> exact h.elim
      | some vs =>
        cases u <;> first | exact False.elim | exact fun h => swpDE.swpD h
  | .cond c ks x y, ds, sl, σ, h => by
    simp only [swpDE] at h
    simp only [Shadow.swpD]
    split at h
    · rename_i e1
      have := h.br
      try simp only [e1]
      exact ⟨fun e => swpDE.swpD (this.1 e), fun e => swpDE.swpD (this.2 e)⟩
    · exact h.elim
def stripD : SD → SD
  | .code c => .code (strip c)
  | .seq c d => .seq (strip c) (stripD d)
  | .defer ops x args _ d => .defer ops x args none (stripD d)
  | .cond c _ a b => .cond c none (stripD a) (stripD b)
def trX (P : Program) (n : Nat) : SD → Code → Option SD
  | .code _, c => match tr P n c with
    | some x => some (.code x)
    | none => none
  | .seq _ d, .seq a b => match tr P n a, trX P n d b with
    | some x, some y => some (.seq x y)
    | _, _ => none
  | .defer _ _ _ _ d, .seq (.region _ os false) b => match os[os.size - 1]? with
    | some o => match trOpers P n os (os.toList.take (os.size - 1)), deferOp o, trX P n d b with
      | some ops, some (y, ys), some r => match trOpd y, trOpds ys with
        | some x, some args => some (.defer ops x args none r)
        | _, _ => none
      | _, _, _ => none
    | none => none
  | .cond _ _ x y, .cond c a b => match trOpd c, trX P n x a, trX P n y b with
    | some oc, some x, some y => some (.cond oc none x y)
    | _, _, _ => none
  | _, _ => none
theorem trX_spec : ∀ {sd : SD} {c : Code}, trX P n sd c = some (stripD sd) → trD P n sd c
  | .code sc, c, h => by
    simp only [trX, stripD] at h
    split at h
    · rename_i x hx; injection h with h; injection h with h; subst h; exact hx
    · cases h
  | .seq sc d, c, h => by
    cases c <;> simp only [trX, stripD] at h <;> first | cases h | skip
    split at h
    · rename_i x y h1 h2; injection h with h; injection h with e1 e2; subst e1; subst e2
      exact ⟨h1, trX_spec h2⟩
    · cases h
  | .cond oc ks x y, c, h => by
    cases c <;> simp only [trX, stripD] at h <;> first | cases h | skip
    split at h
    · rename_i x y h0 h1 h2; injection h with h; injection h with e0 _ e1 e2; subst e0; subst e1; subst e2
      exact ⟨h0, trX_spec h1, trX_spec h2⟩
    · cases h
  | .defer ops x args ks d, c, h => by
    cases c <;> first | (exfalso; simp [trX, stripD] at h; done) | skip
    rename_i c1 c2
    cases c1 <;> first | (exfalso; simp [trX, stripD] at h; done) | skip
    rename_i id os draw
    cases draw <;> first | (exfalso; simp [trX, stripD] at h; done) | skip
    simp only [trX, stripD] at h
    split at h
    · rename_i o ho
      split at h
      · rename_i ops' y ys r h1 h2 h3
        split at h
        · rename_i x' args' h4 h5
          injection h with h; injection h with e0 e1 e2 _ e3; subst e0; subst e1; subst e2; subst e3
          have hlt : os.size - 1 < os.size := (Array.getElem?_eq_some_iff.1 ho).1
          exact ⟨⟨os.size - 1, by omega, h1, o, y, ys, ho, h2, h4, h5⟩, trX_spec h3⟩
        · cases h
      · cases h
    · cases h
theorem IsCodeD.mk' {f : FuncId} {sd : SD} {rs : List (Nat × Option (Bool × Nat))} {fn : Func} (h1 : P.funcs[f]? = some fn) (h2 : (fn.name == "runtime.NumGoroutine") = false)
    (h3 : fn.body.bind (trX P fn.ntmps sd) = some (stripD sd)) (h4 : trRes P fn.results.toList = some rs) (h5 : fn.ntmps = n) : IsCodeD P f sd rs n := by
  rw [Option.bind_eq_some_iff] at h3
  obtain ⟨c, h3, h6⟩ := h3
  exact ⟨fn, c, h1, h2, h3, trX_spec h6, h4, h5⟩
theorem IsCodeD.call (hm : P.follows .mixedOrders = true) {f : FuncId} {sd : SD} {rs : List (Nat × Option (Bool × Nat))} {n : Nat} {args : List V} {σ : St} {Post : SEnd → St → Prop} (hc : IsCodeD P f sd rs n) (hl : args.length ≤ n) (h : swpDE P G rs Post sd [] (argS 0 args) σ) : SCall P G f args σ Post :=
  SCall.of_codeD hm hc hl h.swpD
end
end Go.Shadow

/- Shadow code of the functions of the lexer (printed by a program). -/
namespace Go.Shadow.Lex
open Go Go.RowKit Go.Proofs
/-- (*quietus/lexer.reader).skip -/
def sc20 : SC := (.block 0 (.loop (.seq (.seq (.region [⟨(some 4), (.mv (.t 0)), none⟩, ⟨(some 5), (.nilchk (.t 4)), none⟩, ⟨(some 6), (.faddr 1 (.t 5)), none⟩, ⟨(some 7), (.load false 1 (.t 6)), none⟩, ⟨(some 8), (.mv (.t 0)), none⟩, ⟨(some 9), (.nilchk (.t 8)), none⟩, ⟨(some 10), (.faddr 0 (.t 9)), none⟩, ⟨(some 11), (.load false 1 (.t 10)), none⟩, ⟨(some 12), (.len true (.t 11)), none⟩, ⟨(some 13), (.bin .lss (.t 7) (.t 12)), none⟩] (some [0, 13])) (.cond (.t 13) (some [0]) .skip (.exit 0))) (.block 1 (.seq (.region [⟨(some 14), (.mv (.t 0)), none⟩, ⟨(some 15), (.nilchk (.t 14)), none⟩, ⟨(some 16), (.faddr 0 (.t 15)), none⟩, ⟨(some 17), (.load false 1 (.t 16)), none⟩, ⟨(some 18), (.mv (.t 0)), none⟩, ⟨(some 19), (.nilchk (.t 18)), none⟩, ⟨(some 20), (.faddr 1 (.t 19)), none⟩, ⟨(some 21), (.load false 1 (.t 20)), none⟩, ⟨(some 22), (.idxs (.t 17) (.t 21)), none⟩, ⟨(some 2), (.mv (.t 22)), none⟩] (some [0, 2])) (.block 2 (.seq (.region [⟨(some 24), (.mv (.t 2)), none⟩, ⟨(some 25), (.bin .eql (.t 24) (.c (.int .u8 35))), none⟩, ⟨(some 23), (.mv (.t 25)), none⟩] (some [0, 2, 23])) (.cond (.t 23) (some [0, 2]) (.seq (.region [⟨(some 26), (.mv (.t 0)), none⟩, ⟨(some 27), (.nilchk (.t 26)), none⟩, ⟨(some 28), (.faddr 0 (.t 27)), none⟩, ⟨(some 29), (.load false 1 (.t 28)), none⟩, ⟨(some 30), (.mv (.t 0)), none⟩, ⟨(some 31), (.nilchk (.t 30)), none⟩, ⟨(some 32), (.faddr 1 (.t 31)), none⟩, ⟨(some 33), (.load false 1 (.t 32)), none⟩, ⟨(some 34), (.cuts (.t 29) (some (.t 33)) none), none⟩, ⟨(some 35), (.call 30 [(.t 34), (.c (.int .u8 10))]), none⟩, ⟨(some 3), (.mv (.t 35)), none⟩] (some [0, 3])) (.seq (.seq (.region [⟨(some 36), (.mv (.t 3)), none⟩, ⟨(some 37), (.bin .lss (.t 36) (.c (.int .i64 0))), none⟩] (some [0, 3, 37])) (.cond (.t 37) (some [0, 3]) (.region [⟨(some 38), (.mv (.t 0)), none⟩, ⟨(some 39), (.nilchk (.t 38)), none⟩, ⟨(some 40), (.faddr 0 (.t 39)), none⟩, ⟨(some 41), (.load false 1 (.t 40)), none⟩, ⟨(some 42), (.len true (.t 41)), none⟩, ⟨(some 43), (.mv (.t 0)), none⟩, ⟨(some 44), (.nilchk (.t 43)), none⟩, ⟨(some 45), (.faddr 1 (.t 44)), none⟩, ⟨(some 46), (.load false 1 (.t 45)), none⟩, ⟨(some 47), (.bin .sub (.t 42) (.t 46)), none⟩, ⟨(some 3), (.mv (.t 47)), none⟩] (some [0, 3])) .skip)) (.region [⟨(some 48), (.mv (.t 0)), none⟩, ⟨(some 49), (.nilchk (.t 48)), none⟩, ⟨(some 50), (.faddr 1 (.t 49)), none⟩, ⟨(some 51), (.load false 1 (.t 50)), none⟩, ⟨(some 52), (.mv (.t 3)), none⟩, ⟨(some 53), (.bin .add (.t 51) (.t 52)), none⟩, ⟨(some 54), (.nilchk (.t 48)), none⟩, ⟨(some 55), (.faddr 1 (.t 54)), none⟩, ⟨none, (.store 1 (.t 55) (.t 53)), none⟩] (some [0])))) (.seq (.region [⟨(some 57), (.mv (.t 2)), none⟩, ⟨(some 58), (.call 31 [(.t 57)]), none⟩, ⟨(some 59), (.bin .eql (.t 58) (.c (.int .i64 1))), none⟩, ⟨(some 56), (.mv (.t 59)), none⟩] (some [0, 56])) (.cond (.t 56) (some [0]) (.region [⟨(some 60), (.mv (.t 0)), none⟩, ⟨(some 61), (.nilchk (.t 60)), none⟩, ⟨(some 62), (.faddr 1 (.t 61)), none⟩, ⟨(some 63), (.load false 1 (.t 62)), none⟩, ⟨(some 64), (.bin .add (.t 63) (.c (.int .i64 1))), none⟩, ⟨(some 65), (.nilchk (.t 60)), none⟩, ⟨(some 66), (.faddr 1 (.t 65)), none⟩, ⟨none, (.store 1 (.t 66) (.t 64)), none⟩] (some [0])) .ret))))))))))
theorem code20 : IsCode Tryz.prog 20 sc20 [] 67 := .mk' Tryz.func20 (by kernel_rfl) (by kernel_rfl) (by kernel_rfl) (by kernel_rfl)
/-- (*quietus/lexer.reader).next -/
def sc21 : SC := (.seq (.region [⟨(some 2), (.mv (.c (.int .i64 0))), none⟩] (some [0])) (.seq (.seq (.region [⟨(some 7), (.build [.nilfunc, .nilfunc, .nilfunc, .nilfunc] [(0, (1, (.f 32))), (1, (1, (.f 33))), (2, (1, (.f 34))), (3, (1, (.f 35)))]), none⟩, ⟨(some 8), (.mv (.c (.int .i64 0))), none⟩] (some [0, 7, 8])) (.block 0 (.loop (.seq (.region [⟨(some 9), (.bin .lss (.t 8) (.c (.int .i64 4))), none⟩] (some [0, 7, 8, 9])) (.seq (.cond (.t 9) (some [0, 7, 8]) .skip (.exit 0)) (.seq (.block 1 (.seq (.region [⟨(some 10), (.idxa false 1 4 (.t 7) (.t 8)), none⟩, ⟨(some 4), (.mv (.t 10)), none⟩] (some [0, 4, 7, 8])) (.seq (.region [⟨(some 12), (.mv (.t 4)), none⟩, ⟨(some 13), (.mv (.t 0)), none⟩, ⟨(some 14), (.callv (.t 12) [(.t 13)]), none⟩, ⟨(some 11), (.mv (.t 14)), none⟩, ⟨(some 15), (.extract 0 (.t 11)), none⟩, ⟨(some 16), (.extract 1 (.t 11)), none⟩, ⟨(some 5), (.mv (.t 15)), none⟩, ⟨(some 6), (.mv (.t 16)), none⟩] (some [0, 5, 6, 7, 8])) (.seq (.region [⟨(some 17), (.mv (.t 5)), none⟩] (some [0, 6, 7, 8, 17])) (.cond (.t 17) (some [0, 6, 7, 8]) (.seq (.region [⟨(some 18), (.mv (.t 6)), none⟩, ⟨(some 2), (.mv (.t 18)), none⟩] (some [2])) .ret) .skip))))) (.region [⟨(some 19), (.bin .add (.t 8) (.c (.int .i64 1))), none⟩, ⟨(some 8), (.mv (.t 19)), none⟩] (some [0, 7, 8])))))))) (.seq (.region [⟨(some 2), (.mv (.c (.int .i64 26))), none⟩] (some [2])) .ret)))
theorem code21 : IsCode Tryz.prog 21 sc21 [(2, none)] 20 := .mk' Tryz.func21 (by kernel_rfl) (by kernel_rfl) (by kernel_rfl) (by kernel_rfl)
/-- (*quietus/lexer.reader).put -/
def sc22 : SC := (.seq (.region [⟨(some 10), (.mv (.c (.int .i64 0))), none⟩] (some [0, 1, 2, 3, 4])) (.seq (.region [⟨(some 11), (.mv (.t 0)), none⟩, ⟨(some 12), (.mv (.t 0)), none⟩, ⟨(some 13), (.nilchk (.t 12)), none⟩, ⟨(some 14), (.faddr 2 (.t 13)), none⟩, ⟨(some 15), (.load false 1 (.t 14)), none⟩, ⟨(some 16), (.mv (.t 1)), none⟩, ⟨(some 17), (.mv (.t 0)), none⟩, ⟨(some 18), (.nilchk (.t 17)), none⟩, ⟨(some 19), (.faddr 1 (.t 18)), none⟩, ⟨(some 20), (.load false 1 (.t 19)), none⟩, ⟨(some 21), (.mv (.t 3)), none⟩, ⟨(some 22), (.mv (.t 4)), none⟩, ⟨(some 23), (.build [(.int .i64 0), (.int .i64 0), (.str []), (.int .i64 0)] [(0, (1, (.t 16))), (1, (1, (.t 20))), (2, (1, (.t 21))), (3, (1, (.t 22)))]), none⟩, ⟨(some 24), (.mkslice 4 [(.t 23)]), none⟩, ⟨(some 25), (.append 4 40 (.t 15) (.t 24)), none⟩, ⟨(some 26), (.nilchk (.t 11)), none⟩, ⟨(some 27), (.faddr 2 (.t 26)), none⟩, ⟨none, (.store 1 (.t 27) (.t 25)), none⟩] (some [0, 2])) (.seq (.region [⟨(some 28), (.mv (.t 0)), none⟩, ⟨(some 29), (.mv (.t 2)), none⟩, ⟨(some 30), (.nilchk (.t 28)), none⟩, ⟨(some 31), (.faddr 1 (.t 30)), none⟩, ⟨none, (.store 1 (.t 31) (.t 29)), none⟩] (some [])) (.seq (.region [⟨(some 10), (.mv (.c (.int .i64 0))), none⟩] (some [10])) .ret))))
theorem code22 : IsCode Tryz.prog 22 sc22 [(10, none)] 32 := .mk' Tryz.func22 (by kernel_rfl) (by kernel_rfl) (by kernel_rfl) (by kernel_rfl)
/-- quietus/lexer.class -/
def sc31 : SC := (.seq (.region [⟨(some 2), (.mv (.c (.int .i64 0))), none⟩] (some [0])) (.seq (.block 0 (.seq (.block 4 (.seq (.block 3 (.seq (.block 2 (.block 1 (.seq (.seq (.seq (.region [⟨(some 4), (.mv (.t 0)), none⟩, ⟨(some 5), (.bin .eql (.t 4) (.c (.int .u8 95))), none⟩, ⟨(some 3), (.mv (.t 5)), none⟩] (some [0, 3])) (.cond (.t 3) (some [0]) (.exit 1) .skip)) (.seq (.seq (.seq (.region [⟨(some 7), (.mv (.t 0)), none⟩, ⟨(some 8), (.bin .geq (.t 7) (.c (.int .u8 97))), none⟩, ⟨(some 9), (.mv (.t 8)), none⟩, ⟨(some 10), (.mv (.t 0)), (some (9, true))⟩, ⟨(some 11), (.bin .leq (.t 10) (.c (.int .u8 122))), (some (9, true))⟩, ⟨(some 12), (.pick (.t 9) (.t 11) (.c (.bool false))), none⟩, ⟨(some 6), (.mv (.t 12)), none⟩] (some [0, 6])) (.cond (.t 6) (some [0, 6]) .skip (.region [⟨(some 13), (.mv (.t 0)), none⟩, ⟨(some 14), (.bin .geq (.t 13) (.c (.int .u8 65))), none⟩, ⟨(some 15), (.mv (.t 14)), none⟩, ⟨(some 16), (.mv (.t 0)), (some (15, true))⟩, ⟨(some 17), (.bin .leq (.t 16) (.c (.int .u8 90))), (some (15, true))⟩, ⟨(some 18), (.pick (.t 15) (.t 17) (.c (.bool false))), none⟩, ⟨(some 6), (.mv (.t 18)), none⟩] (some [0, 6])))) (.cond (.t 6) (some [0]) (.exit 2) .skip)) (.seq (.seq (.region [⟨(some 20), (.mv (.t 0)), none⟩, ⟨(some 21), (.bin .geq (.t 20) (.c (.int .u8 48))), none⟩, ⟨(some 22), (.mv (.t 21)), none⟩, ⟨(some 23), (.mv (.t 0)), (some (22, true))⟩, ⟨(some 24), (.bin .leq (.t 23) (.c (.int .u8 57))), (some (22, true))⟩, ⟨(some 25), (.pick (.t 22) (.t 24) (.c (.bool false))), none⟩, ⟨(some 19), (.mv (.t 25)), none⟩] (some [0, 19])) (.cond (.t 19) (some [0]) (.exit 3) .skip)) (.seq (.seq (.region [⟨(some 27), (.mv (.t 0)), none⟩, ⟨(some 28), (.bin .eql (.t 27) (.c (.int .u8 32))), none⟩, ⟨(some 26), (.mv (.t 28)), none⟩] (some [0, 26])) (.cond (.t 26) (some [0, 26]) .skip (.seq (.region [⟨(some 29), (.mv (.t 0)), none⟩, ⟨(some 30), (.bin .eql (.t 29) (.c (.int .u8 9))), none⟩, ⟨(some 26), (.mv (.t 30)), none⟩] (some [0, 26])) (.cond (.t 26) (some [0, 26]) .skip (.seq (.region [⟨(some 31), (.mv (.t 0)), none⟩, ⟨(some 32), (.bin .eql (.t 31) (.c (.int .u8 10))), none⟩, ⟨(some 26), (.mv (.t 32)), none⟩] (some [0, 26])) (.cond (.t 26) (some [0, 26]) .skip (.region [⟨(some 33), (.mv (.t 0)), none⟩, ⟨(some 34), (.bin .eql (.t 33) (.c (.int .u8 13))), none⟩, ⟨(some 26), (.mv (.t 34)), none⟩] (some [26])))))))) (.cond (.t 26) (some []) (.exit 4) .skip))))) (.exit 0)))) (.seq (.seq (.region [⟨(some 2), (.mv (.c (.int .i64 3))), none⟩] (some [2])) .ret) (.exit 0)))) (.seq (.seq (.region [⟨(some 2), (.mv (.c (.int .i64 2))), none⟩] (some [2])) .ret) (.exit 0)))) (.seq (.seq (.region [⟨(some 2), (.mv (.c (.int .i64 1))), none⟩] (some [2])) .ret) (.exit 0)))) (.seq (.region [⟨(some 2), (.mv (.c (.int .i64 0))), none⟩] (some [2])) .ret)))
theorem code31 : IsCode Tryz.prog 31 sc31 [(2, none)] 35 := .mk' Tryz.func31 (by kernel_rfl) (by kernel_rfl) (by kernel_rfl) (by kernel_rfl)
/-- (*quietus/lexer.reader).name -/
def sc32 : SC := (.seq (.region [⟨(some 2), (.mv (.c (.bool false))), none⟩, ⟨(some 3), (.mv (.c (.int .i64 0))), none⟩] (some [0])) (.seq (.seq (.region [⟨(some 5), (.mv (.t 0)), none⟩, ⟨(some 6), (.nilchk (.t 5)), none⟩, ⟨(some 7), (.faddr 0 (.t 6)), none⟩, ⟨(some 8), (.load false 1 (.t 7)), none⟩, ⟨(some 9), (.mv (.t 0)), none⟩, ⟨(some 10), (.nilchk (.t 9)), none⟩, ⟨(some 11), (.faddr 1 (.t 10)), none⟩, ⟨(some 12), (.load false 1 (.t 11)), none⟩, ⟨(some 13), (.idxs (.t 8) (.t 12)), none⟩, ⟨(some 14), (.call 31 [(.t 13)]), none⟩, ⟨(some 15), (.bin .neq (.t 14) (.c (.int .i64 3))), none⟩] (some [0, 15])) (.cond (.t 15) (some [0]) (.seq (.region [⟨(some 2), (.mv (.c (.bool false))), none⟩, ⟨(some 3), (.mv (.c (.int .i64 0))), none⟩] (some [2, 3])) .ret) .skip)) (.seq (.region [⟨(some 16), (.mv (.t 0)), none⟩, ⟨(some 17), (.call 49 [(.t 16), (.c (.int .i64 2))]), none⟩, ⟨(some 4), (.mv (.t 17)), none⟩] (some [0, 4])) (.seq (.seq (.region [⟨(some 18), (.mv (.t 4)), none⟩, ⟨(some 19), (.mv (.t 0)), none⟩, ⟨(some 20), (.nilchk (.t 19)), none⟩, ⟨(some 21), (.faddr 1 (.t 20)), none⟩, ⟨(some 22), (.load false 1 (.t 21)), none⟩, ⟨(some 23), (.bin .sub (.t 18) (.t 22)), none⟩, ⟨(some 24), (.bin .gtr (.t 23) (.c (.int .i64 32))), none⟩] (some [0, 4, 24])) (.cond (.t 24) (some [0, 4]) (.seq (.region [⟨(some 2), (.mv (.c (.bool true))), none⟩, ⟨(some 3), (.mv (.c (.int .i64 2))), none⟩] (some [2, 3])) .ret) .skip)) (.seq (.region [⟨(some 25), (.mv (.t 0)), none⟩, ⟨(some 26), (.mv (.t 4)), none⟩, ⟨(some 27), (.mv (.t 0)), none⟩, ⟨(some 28), (.nilchk (.t 27)), none⟩, ⟨(some 29), (.faddr 0 (.t 28)), none⟩, ⟨(some 30), (.load false 1 (.t 29)), none⟩, ⟨(some 31), (.mv (.t 0)), none⟩, ⟨(some 32), (.nilchk (.t 31)), none⟩, ⟨(some 33), (.faddr 1 (.t 32)), none⟩, ⟨(some 34), (.load false 1 (.t 33)), none⟩, ⟨(some 35), (.mv (.t 4)), none⟩, ⟨(some 36), (.cuts (.t 30) (some (.t 34)) (some (.t 35))), none⟩, ⟨(some 37), (.call 22 [(.t 25), (.c (.int .i64 1)), (.t 26), (.t 36), (.c (.int .i64 0))]), none⟩, ⟨(some 2), (.mv (.c (.bool true))), none⟩, ⟨(some 3), (.mv (.t 37)), none⟩] (some [2, 3])) .ret)))))
theorem code32 : IsCode Tryz.prog 32 sc32 [(2, none), (3, none)] 38 := .mk' Tryz.func32 (by kernel_rfl) (by kernel_rfl) (by kernel_rfl) (by kernel_rfl)
/-- (*quietus/lexer.reader).number -/
def sc33 : SC := (.seq (.region [⟨(some 2), (.mv (.c (.bool false))), none⟩, ⟨(some 3), (.mv (.c (.int .i64 0))), none⟩] (some [0])) (.seq (.seq (.region [⟨(some 8), (.mv (.t 0)), none⟩, ⟨(some 9), (.nilchk (.t 8)), none⟩, ⟨(some 10), (.faddr 0 (.t 9)), none⟩, ⟨(some 11), (.load false 1 (.t 10)), none⟩, ⟨(some 12), (.mv (.t 0)), none⟩, ⟨(some 13), (.nilchk (.t 12)), none⟩, ⟨(some 14), (.faddr 1 (.t 13)), none⟩, ⟨(some 15), (.load false 1 (.t 14)), none⟩, ⟨(some 16), (.idxs (.t 11) (.t 15)), none⟩, ⟨(some 17), (.call 31 [(.t 16)]), none⟩, ⟨(some 18), (.bin .neq (.t 17) (.c (.int .i64 2))), none⟩] (some [0, 18])) (.cond (.t 18) (some [0]) (.seq (.region [⟨(some 2), (.mv (.c (.bool false))), none⟩, ⟨(some 3), (.mv (.c (.int .i64 0))), none⟩] (some [2, 3])) .ret) .skip)) (.seq (.region [⟨(some 19), (.mv (.t 0)), none⟩, ⟨(some 20), (.call 49 [(.t 19), (.c (.int .i64 2))]), none⟩, ⟨(some 4), (.mv (.t 20)), none⟩] (some [0, 4])) (.seq (.region [⟨(some 21), (.mv (.t 0)), none⟩, ⟨(some 22), (.nilchk (.t 21)), none⟩, ⟨(some 23), (.faddr 0 (.t 22)), none⟩, ⟨(some 24), (.load false 1 (.t 23)), none⟩, ⟨(some 25), (.mv (.t 0)), none⟩, ⟨(some 26), (.nilchk (.t 25)), none⟩, ⟨(some 27), (.faddr 1 (.t 26)), none⟩, ⟨(some 28), (.load false 1 (.t 27)), none⟩, ⟨(some 29), (.mv (.t 4)), none⟩, ⟨(some 30), (.cuts (.t 24) (some (.t 28)) (some (.t 29))), none⟩, ⟨(some 5), (.mv (.t 30)), none⟩] (some [0, 4, 5])) (.seq (.region [⟨(some 32), (.mv (.t 5)), none⟩, ⟨(some 33), (.call 50 [(.t 32)]), none⟩, ⟨(some 31), (.mv (.t 33)), none⟩, ⟨(some 34), (.extract 0 (.t 31)), none⟩, ⟨(some 35), (.extract 1 (.t 31)), none⟩, ⟨(some 6), (.mv (.t 34)), none⟩, ⟨(some 7), (.mv (.t 35)), none⟩] (some [0, 4, 5, 6, 7])) (.seq (.seq (.region [⟨(some 36), (.mv (.t 7)), none⟩, ⟨(some 37), (.eqn true (.t 36) (.c .nilIface)), none⟩, ⟨(some 38), (.mv (.t 37)), none⟩, ⟨(some 39), (.mv (.t 5)), (some (38, false))⟩, ⟨(some 40), (.len true (.t 39)), (some (38, false))⟩, ⟨(some 41), (.bin .gtr (.t 40) (.c (.int .i64 15))), (some (38, false))⟩, ⟨(some 42), (.pick (.t 38) (.c (.bool true)) (.t 41)), none⟩, ⟨(some 43), (.mv (.t 42)), none⟩, ⟨(some 44), (.mv (.t 5)), (some (43, false))⟩, ⟨(some 45), (.len true (.t 44)), (some (43, false))⟩, ⟨(some 46), (.bin .gtr (.t 45) (.c (.int .i64 1))), (some (43, false))⟩, ⟨(some 47), (.mv (.t 46)), (some (43, false))⟩, ⟨(some 48), (.mv (.t 5)), (some (47, true))⟩, ⟨(some 49), (.idxs (.t 48) (.c (.int .i64 0))), (some (47, true))⟩, ⟨(some 50), (.bin .eql (.t 49) (.c (.int .u8 48))), (some (47, true))⟩, ⟨(some 51), (.pick (.t 47) (.t 50) (.c (.bool false))), (some (43, false))⟩, ⟨(some 52), (.pick (.t 43) (.c (.bool true)) (.t 51)), none⟩] (some [0, 4, 6, 52])) (.cond (.t 52) (some [0, 4, 6]) (.seq (.region [⟨(some 2), (.mv (.c (.bool true))), none⟩, ⟨(some 3), (.mv (.c (.int .i64 27))), none⟩] (some [2, 3])) .ret) .skip)) (.seq (.region [⟨(some 53), (.mv (.t 0)), none⟩, ⟨(some 54), (.mv (.t 4)), none⟩, ⟨(some 55), (.mv (.t 6)), none⟩, ⟨(some 56), (.call 22 [(.t 53), (.c (.int .i64 2)), (.t 54), (.c (.str [])), (.t 55)]), none⟩, ⟨(some 2), (.mv (.c (.bool true))), none⟩, ⟨(some 3), (.mv (.t 56)), none⟩] (some [2, 3])) .ret)))))))
theorem code33 : IsCode Tryz.prog 33 sc33 [(2, none), (3, none)] 57 := .mk' Tryz.func33 (by kernel_rfl) (by kernel_rfl) (by kernel_rfl) (by kernel_rfl)
/-- (*quietus/lexer.reader).text -/
def sc34 : SC := (.seq (.region [⟨(some 2), (.mv (.c (.bool false))), none⟩, ⟨(some 3), (.mv (.c (.int .i64 0))), none⟩] (some [0])) (.seq (.seq (.region [⟨(some 8), (.mv (.t 0)), none⟩, ⟨(some 9), (.nilchk (.t 8)), none⟩, ⟨(some 10), (.faddr 0 (.t 9)), none⟩, ⟨(some 11), (.load false 1 (.t 10)), none⟩, ⟨(some 12), (.mv (.t 0)), none⟩, ⟨(some 13), (.nilchk (.t 12)), none⟩, ⟨(some 14), (.faddr 1 (.t 13)), none⟩, ⟨(some 15), (.load false 1 (.t 14)), none⟩, ⟨(some 16), (.idxs (.t 11) (.t 15)), none⟩, ⟨(some 17), (.bin .neq (.t 16) (.c (.int .u8 34))), none⟩] (some [0, 17])) (.cond (.t 17) (some [0]) (.seq (.region [⟨(some 2), (.mv (.c (.bool false))), none⟩, ⟨(some 3), (.mv (.c (.int .i64 0))), none⟩] (some [2, 3])) .ret) .skip)) (.seq (.region [⟨(some 4), (.mv (.c (.slice .nil 0 []))), none⟩] (some [0, 4])) (.seq (.seq (.region [⟨(some 18), (.mv (.t 0)), none⟩, ⟨(some 19), (.nilchk (.t 18)), none⟩, ⟨(some 20), (.faddr 1 (.t 19)), none⟩, ⟨(some 21), (.load false 1 (.t 20)), none⟩, ⟨(some 22), (.bin .add (.t 21) (.c (.int .i64 1))), none⟩, ⟨(some 5), (.mv (.t 22)), none⟩] (some [0, 4, 5])) (.block 0 (.loop (.seq (.seq (.region [⟨(some 23), (.mv (.t 4)), none⟩, ⟨(some 24), (.len false (.t 23)), none⟩, ⟨(some 25), (.bin .leq (.t 24) (.c (.int .i64 200))), none⟩] (some [0, 4, 5, 25])) (.cond (.t 25) (some [0, 4, 5]) .skip (.exit 0))) (.seq (.block 1 (.seq (.seq (.region [⟨(some 28), (.mv (.t 5)), none⟩, ⟨(some 29), (.mv (.t 0)), none⟩, ⟨(some 30), (.nilchk (.t 29)), none⟩, ⟨(some 31), (.faddr 0 (.t 30)), none⟩, ⟨(some 32), (.load false 1 (.t 31)), none⟩, ⟨(some 33), (.len true (.t 32)), none⟩, ⟨(some 34), (.bin .geq (.t 28) (.t 33)), none⟩] (some [0, 4, 5, 34])) (.cond (.t 34) (some [0, 4, 5]) (.seq (.region [⟨(some 2), (.mv (.c (.bool true))), none⟩, ⟨(some 3), (.mv (.c (.int .i64 28))), none⟩] (some [2, 3])) .ret) .skip)) (.seq (.region [⟨(some 35), (.mv (.t 0)), none⟩, ⟨(some 36), (.nilchk (.t 35)), none⟩, ⟨(some 37), (.faddr 0 (.t 36)), none⟩, ⟨(some 38), (.load false 1 (.t 37)), none⟩, ⟨(some 39), (.mv (.t 5)), none⟩, ⟨(some 40), (.idxs (.t 38) (.t 39)), none⟩, ⟨(some 6), (.mv (.t 40)), none⟩] (some [0, 4, 5, 6])) (.block 2 (.seq (.region [⟨(some 46), (.mv (.t 6)), none⟩, ⟨(some 47), (.bin .eql (.t 46) (.c (.int .u8 34))), none⟩, ⟨(some 45), (.mv (.t 47)), none⟩] (some [0, 4, 5, 6, 45])) (.cond (.t 45) (some [0, 4, 5, 6]) (.seq (.region [⟨(some 48), (.mv (.t 0)), none⟩, ⟨(some 49), (.mv (.t 5)), none⟩, ⟨(some 50), (.bin .add (.t 49) (.c (.int .i64 1))), none⟩, ⟨(some 51), (.mv (.t 4)), none⟩, ⟨(some 52), (.b2s (.t 51)), none⟩, ⟨(some 53), (.call 22 [(.t 48), (.c (.int .i64 3)), (.t 50), (.t 52), (.c (.int .i64 0))]), none⟩, ⟨(some 2), (.mv (.c (.bool true))), none⟩, ⟨(some 3), (.mv (.t 53)), none⟩] (some [2, 3])) .ret) (.seq (.region [⟨(some 55), (.mv (.t 6)), none⟩, ⟨(some 56), (.bin .eql (.t 55) (.c (.int .u8 92))), none⟩, ⟨(some 54), (.mv (.t 56)), none⟩] (some [0, 4, 5, 6, 54])) (.cond (.t 54) (some [0, 4, 5, 6]) (.seq (.region [⟨(some 57), (.mv (.t 5)), none⟩, ⟨(some 58), (.bin .add (.t 57) (.c (.int .i64 1))), none⟩, ⟨(some 5), (.mv (.t 58)), none⟩] (some [0, 4, 5])) (.seq (.region [⟨(some 7), (.mv (.c (.int .i64 (-1)))), none⟩] (some [0, 4, 5, 7])) (.seq (.seq (.region [⟨(some 59), (.mv (.t 5)), none⟩, ⟨(some 60), (.mv (.t 0)), none⟩, ⟨(some 61), (.nilchk (.t 60)), none⟩, ⟨(some 62), (.faddr 0 (.t 61)), none⟩, ⟨(some 63), (.load false 1 (.t 62)), none⟩, ⟨(some 64), (.len true (.t 63)), none⟩, ⟨(some 65), (.bin .lss (.t 59) (.t 64)), none⟩] (some [0, 4, 5, 7, 65])) (.cond (.t 65) (some [0, 4, 5, 7]) (.region [⟨(some 66), (.mv (.t 0)), none⟩, ⟨(some 67), (.nilchk (.t 66)), none⟩, ⟨(some 68), (.faddr 0 (.t 67)), none⟩, ⟨(some 69), (.load false 1 (.t 68)), none⟩, ⟨(some 70), (.mv (.t 5)), none⟩, ⟨(some 71), (.idxs (.t 69) (.t 70)), none⟩, ⟨(some 72), (.call 30 [(.c (.str [34, 92, 110])), (.t 71)]), none⟩, ⟨(some 7), (.mv (.t 72)), none⟩] (some [0, 4, 5, 7])) .skip)) (.seq (.seq (.region [⟨(some 73), (.mv (.t 7)), none⟩, ⟨(some 74), (.bin .lss (.t 73) (.c (.int .i64 0))), none⟩] (some [0, 4, 5, 7, 74])) (.cond (.t 74) (some [0, 4, 5, 7]) (.seq (.region [⟨(some 2), (.mv (.c (.bool true))), none⟩, ⟨(some 3), (.mv (.c (.int .i64 28))), none⟩] (some [2, 3])) .ret) .skip)) (.region [⟨(some 75), (.mv (.t 4)), none⟩, ⟨(some 76), (.mv (.t 7)), none⟩, ⟨(some 77), (.idxs (.c (.str [34, 92, 10])) (.t 76)), none⟩, ⟨(some 78), (.mkslice 1 [(.t 77)]), none⟩, ⟨(some 79), (.append 1 1 (.t 75) (.t 78)), none⟩, ⟨(some 4), (.mv (.t 79)), none⟩] (some [0, 4, 5])))))) (.seq (.region [⟨(some 81), (.mv (.t 6)), none⟩, ⟨(some 82), (.bin .lss (.t 81) (.c (.int .u8 32))), none⟩, ⟨(some 83), (.mv (.t 82)), none⟩, ⟨(some 84), (.mv (.t 6)), (some (83, false))⟩, ⟨(some 85), (.bin .gtr (.t 84) (.c (.int .u8 126))), (some (83, false))⟩, ⟨(some 86), (.pick (.t 83) (.c (.bool true)) (.t 85)), none⟩, ⟨(some 80), (.mv (.t 86)), none⟩] (some [0, 4, 5, 6, 80])) (.cond (.t 80) (some [0, 4, 5, 6]) (.seq (.region [⟨(some 2), (.mv (.c (.bool true))), none⟩, ⟨(some 3), (.mv (.c (.int .i64 28))), none⟩] (some [2, 3])) .ret) (.region [⟨(some 41), (.mv (.t 4)), none⟩, ⟨(some 42), (.mv (.t 6)), none⟩, ⟨(some 43), (.mkslice 1 [(.t 42)]), none⟩, ⟨(some 44), (.append 1 1 (.t 41) (.t 43)), none⟩, ⟨(some 4), (.mv (.t 44)), none⟩] (some [0, 4, 5])))))))))))) (.region [⟨(some 26), (.mv (.t 5)), none⟩, ⟨(some 27), (.bin .add (.t 26) (.c (.int .i64 1))), none⟩, ⟨(some 5), (.mv (.t 27)), none⟩] (some [0, 4, 5]))))))) (.seq (.region [⟨(some 2), (.mv (.c (.bool true))), none⟩, ⟨(some 3), (.mv (.c (.int .i64 2))), none⟩] (some [2, 3])) .ret)))))
theorem code34 : IsCode Tryz.prog 34 sc34 [(2, none), (3, none)] 87 := .mk' Tryz.func34 (by kernel_rfl) (by kernel_rfl) (by kernel_rfl) (by kernel_rfl)
/-- (*quietus/lexer.reader).sign -/
def sc35 : SC := (.seq (.region [⟨(some 2), (.mv (.c (.bool false))), none⟩, ⟨(some 3), (.mv (.c (.int .i64 0))), none⟩] (some [0])) (.seq (.region [⟨(some 7), (.mv (.t 0)), none⟩, ⟨(some 8), (.nilchk (.t 7)), none⟩, ⟨(some 9), (.faddr 0 (.t 8)), none⟩, ⟨(some 10), (.load false 1 (.t 9)), none⟩, ⟨(some 11), (.mv (.t 0)), none⟩, ⟨(some 12), (.nilchk (.t 11)), none⟩, ⟨(some 13), (.faddr 1 (.t 12)), none⟩, ⟨(some 14), (.load false 1 (.t 13)), none⟩, ⟨(some 15), (.cuts (.t 10) (some (.t 14)) none), none⟩, ⟨(some 4), (.mv (.t 15)), none⟩] (some [0, 4])) (.seq (.seq (.region [⟨(some 16), (.call 51 [(.c (.str [45, 62, 32, 58, 61, 32, 61, 61, 32, 33, 61, 32, 60, 61, 32, 62, 61, 32, 38, 38, 32, 124, 124, 32, 46, 46]))]), none⟩, ⟨(some 17), (.len false (.t 16)), none⟩, ⟨(some 18), (.mv (.c (.int .i64 0))), none⟩] (some [0, 4, 16, 17, 18])) (.block 0 (.loop (.seq (.region [⟨(some 19), (.bin .lss (.t 18) (.t 17)), none⟩] (some [0, 4, 16, 17, 18, 19])) (.seq (.cond (.t 19) (some [0, 4, 16, 17, 18]) .skip (.exit 0)) (.seq (.block 1 (.seq (.region [⟨(some 20), (.iaddr 1 (.t 16) (.t 18)), none⟩, ⟨(some 21), (.load false 1 (.t 20)), none⟩, ⟨(some 6), (.mv (.t 21)), none⟩] (some [0, 4, 6, 16, 17, 18])) (.seq (.region [⟨(some 22), (.mv (.t 4)), none⟩, ⟨(some 23), (.mv (.t 6)), none⟩, ⟨(some 24), (.call 52 [(.t 22), (.t 23)]), none⟩] (some [0, 4, 6, 16, 17, 18, 24])) (.cond (.t 24) (some [0, 4, 6, 16, 17, 18]) (.seq (.region [⟨(some 25), (.mv (.t 0)), none⟩, ⟨(some 26), (.mv (.t 0)), none⟩, ⟨(some 27), (.nilchk (.t 26)), none⟩, ⟨(some 28), (.faddr 1 (.t 27)), none⟩, ⟨(some 29), (.load false 1 (.t 28)), none⟩, ⟨(some 30), (.bin .add (.t 29) (.c (.int .i64 2))), none⟩, ⟨(some 31), (.mv (.t 6)), none⟩, ⟨(some 32), (.call 22 [(.t 25), (.c (.int .i64 4)), (.t 30), (.t 31), (.c (.int .i64 0))]), none⟩, ⟨(some 2), (.mv (.c (.bool true))), none⟩, ⟨(some 3), (.mv (.t 32)), none⟩] (some [2, 3])) .ret) .skip)))) (.region [⟨(some 33), (.bin .add (.t 18) (.c (.int .i64 1))), none⟩, ⟨(some 18), (.mv (.t 33)), none⟩] (some [0, 4, 16, 17, 18])))))))) (.seq (.seq (.region [⟨(some 34), (.mv (.t 4)), none⟩, ⟨(some 35), (.cuts (.t 34) none (some (.c (.int .i64 1)))), none⟩, ⟨(some 36), (.call 53 [(.c (.str [40, 41, 123, 125, 91, 93, 44, 59, 58, 46, 43, 45, 42, 47, 37, 60, 62, 61, 33, 38, 124, 64, 63, 94, 126])), (.t 35)]), none⟩, ⟨(some 37), (.un .not (.t 36)), none⟩] (some [0, 4, 37])) (.cond (.t 37) (some [0, 4]) (.seq (.region [⟨(some 2), (.mv (.c (.bool false))), none⟩, ⟨(some 3), (.mv (.c (.int .i64 0))), none⟩] (some [2, 3])) .ret) .skip)) (.seq (.region [⟨(some 38), (.mv (.t 0)), none⟩, ⟨(some 39), (.mv (.t 0)), none⟩, ⟨(some 40), (.nilchk (.t 39)), none⟩, ⟨(some 41), (.faddr 1 (.t 40)), none⟩, ⟨(some 42), (.load false 1 (.t 41)), none⟩, ⟨(some 43), (.bin .add (.t 42) (.c (.int .i64 1))), none⟩, ⟨(some 44), (.mv (.t 4)), none⟩, ⟨(some 45), (.cuts (.t 44) none (some (.c (.int .i64 1)))), none⟩, ⟨(some 46), (.call 22 [(.t 38), (.c (.int .i64 4)), (.t 43), (.t 45), (.c (.int .i64 0))]), none⟩, ⟨(some 2), (.mv (.c (.bool true))), none⟩, ⟨(some 3), (.mv (.t 46)), none⟩] (some [2, 3])) .ret)))))
theorem code35 : IsCode Tryz.prog 35 sc35 [(2, none), (3, none)] 47 := .mk' Tryz.func35 (by kernel_rfl) (by kernel_rfl) (by kernel_rfl) (by kernel_rfl)
/-- (*quietus/lexer.reader).span -/
def sc49 : SC := (.seq (.region [⟨(some 4), (.mv (.c (.int .i64 0))), none⟩] (some [0, 1])) (.seq (.region [⟨(some 6), (.mv (.t 0)), none⟩, ⟨(some 7), (.nilchk (.t 6)), none⟩, ⟨(some 8), (.faddr 1 (.t 7)), none⟩, ⟨(some 9), (.load false 1 (.t 8)), none⟩, ⟨(some 5), (.mv (.t 9)), none⟩] (some [0, 1, 5])) (.seq (.block 0 (.loop (.seq (.seq (.region [⟨(some 10), (.mv (.t 5)), none⟩, ⟨(some 11), (.mv (.t 0)), none⟩, ⟨(some 12), (.nilchk (.t 11)), none⟩, ⟨(some 13), (.faddr 0 (.t 12)), none⟩, ⟨(some 14), (.load false 1 (.t 13)), none⟩, ⟨(some 15), (.len true (.t 14)), none⟩, ⟨(some 16), (.bin .lss (.t 10) (.t 15)), none⟩, ⟨(some 17), (.mv (.t 16)), none⟩, ⟨(some 18), (.mv (.t 0)), (some (17, true))⟩, ⟨(some 19), (.nilchk (.t 18)), (some (17, true))⟩, ⟨(some 20), (.faddr 0 (.t 19)), (some (17, true))⟩, ⟨(some 21), (.load false 1 (.t 20)), (some (17, true))⟩, ⟨(some 22), (.mv (.t 5)), (some (17, true))⟩, ⟨(some 23), (.idxs (.t 21) (.t 22)), (some (17, true))⟩, ⟨(some 24), (.call 31 [(.t 23)]), (some (17, true))⟩, ⟨(some 25), (.mv (.t 1)), (some (17, true))⟩, ⟨(some 26), (.bin .geq (.t 24) (.t 25)), (some (17, true))⟩, ⟨(some 27), (.pick (.t 17) (.t 26) (.c (.bool false))), none⟩] (some [0, 1, 5, 27])) (.cond (.t 27) (some [0, 1, 5]) .skip (.exit 0))) (.block 1 (.region [⟨(some 28), (.mv (.t 5)), none⟩, ⟨(some 29), (.bin .add (.t 28) (.c (.int .i64 1))), none⟩, ⟨(some 5), (.mv (.t 29)), none⟩] (some [0, 1, 5])))))) (.seq (.region [⟨(some 30), (.mv (.t 5)), none⟩, ⟨(some 4), (.mv (.t 30)), none⟩] (some [4])) .ret))))
theorem code49 : IsCode Tryz.prog 49 sc49 [(4, none)] 31 := .mk' Tryz.func49 (by kernel_rfl) (by kernel_rfl) (by kernel_rfl) (by kernel_rfl)
/-- quietus/lexer.Tokens -/
def sc12 : SC := (.seq (.region [⟨(some 2), (.mv (.c (.slice .nil 0 []))), none⟩, ⟨(some 3), (.alloc [(.int .i64 0), (.int .i64 0)]), none⟩] (some [0, 3])) (.seq (.seq (.region [⟨(some 6), (.mv (.t 0)), none⟩, ⟨(some 7), (.len true (.t 6)), none⟩, ⟨(some 8), (.bin .gtr (.t 7) (.c (.int .i64 65536))), none⟩] (some [0, 3, 8])) (.cond (.t 8) (some [0, 3]) (.seq (.region [⟨(some 9), (.build [(.int .i64 0), (.int .i64 0)] [(1, (1, (.c (.int .i64 2))))]), none⟩, ⟨(some 2), (.mv (.c (.slice .nil 0 []))), none⟩, ⟨none, (.store 2 (.t 3) (.t 9)), none⟩] (some [2, 3])) .ret) .skip)) (.seq (.region [⟨(some 10), (.mv (.t 0)), none⟩, ⟨(some 11), (.build [(.str []), (.int .i64 0), (.slice .nil 0 [])] [(0, (1, (.t 10)))]), none⟩, ⟨(some 12), (.box (.t 11)), none⟩, ⟨(some 4), (.mv (.t 12)), none⟩] (some [0, 3, 4])) (.seq (.seq (.region [⟨(some 13), (.mv (.t 4)), none⟩, ⟨(some 14), (.call 20 [(.t 13)]), none⟩] (some [0, 3, 4])) (.block 0 (.loop (.seq (.seq (.region [⟨(some 15), (.mv (.t 4)), none⟩, ⟨(some 16), (.nilchk (.t 15)), none⟩, ⟨(some 17), (.faddr 1 (.t 16)), none⟩, ⟨(some 18), (.load false 1 (.t 17)), none⟩, ⟨(some 19), (.mv (.t 0)), none⟩, ⟨(some 20), (.len true (.t 19)), none⟩, ⟨(some 21), (.bin .lss (.t 18) (.t 20)), none⟩] (some [0, 3, 4, 21])) (.cond (.t 21) (some [0, 3, 4]) .skip (.exit 0))) (.seq (.block 1 (.seq (.region [⟨(some 24), (.mv (.t 4)), none⟩, ⟨(some 25), (.call 21 [(.t 24)]), none⟩, ⟨(some 5), (.mv (.t 25)), none⟩] (some [0, 3, 4, 5])) (.seq (.region [⟨(some 26), (.mv (.t 5)), none⟩, ⟨(some 27), (.bin .neq (.t 26) (.c (.int .i64 0))), none⟩] (some [0, 3, 4, 5, 27])) (.cond (.t 27) (some [0, 3, 4, 5]) (.seq (.region [⟨(some 28), (.mv (.t 4)), none⟩, ⟨(some 29), (.nilchk (.t 28)), none⟩, ⟨(some 30), (.faddr 1 (.t 29)), none⟩, ⟨(some 31), (.load false 1 (.t 30)), none⟩, ⟨(some 32), (.mv (.t 5)), none⟩, ⟨(some 33), (.build [(.int .i64 0), (.int .i64 0)] [(0, (1, (.t 31))), (1, (1, (.t 32)))]), none⟩, ⟨(some 2), (.mv (.c (.slice .nil 0 []))), none⟩, ⟨none, (.store 2 (.t 3) (.t 33)), none⟩] (some [2, 3])) .ret) .skip)))) (.region [⟨(some 22), (.mv (.t 4)), none⟩, ⟨(some 23), (.call 20 [(.t 22)]), none⟩] (some [0, 3, 4]))))))) (.seq (.region [⟨(some 34), (.mv (.t 4)), none⟩, ⟨(some 35), (.mv (.t 0)), none⟩, ⟨(some 36), (.len true (.t 35)), none⟩, ⟨(some 37), (.call 22 [(.t 34), (.c (.int .i64 5)), (.t 36), (.c (.str [])), (.c (.int .i64 0))]), none⟩] (some [3, 4])) (.seq (.region [⟨(some 38), (.mv (.t 4)), none⟩, ⟨(some 39), (.nilchk (.t 38)), none⟩, ⟨(some 40), (.faddr 2 (.t 39)), none⟩, ⟨(some 41), (.load false 1 (.t 40)), none⟩, ⟨(some 42), (.build [(.int .i64 0), (.int .i64 0)] []), none⟩, ⟨(some 2), (.mv (.t 41)), none⟩, ⟨none, (.store 2 (.t 3) (.t 42)), none⟩] (some [2, 3])) .ret))))))
theorem code12 : IsCode Tryz.prog 12 sc12 [(2, none), (3, (some (true, 2)))] 43 := .mk' Tryz.func12 (by kernel_rfl) (by kernel_rfl) (by kernel_rfl) (by kernel_rfl)
/-- strings.IndexByte -/
def sc30 : SC := (.seq (.region [⟨(some 4), (.mv (.c (.int .i64 0))), none⟩] (some [0, 1])) (.seq (.region [⟨(some 5), (.mv (.t 0)), none⟩, ⟨(some 6), (.mv (.t 1)), none⟩, ⟨(some 7), (.call 48 [(.t 5), (.t 6)]), none⟩, ⟨(some 4), (.mv (.t 7)), none⟩] (some [4])) .ret))
theorem code30 : IsCode Tryz.prog 30 sc30 [(4, none)] 8 := .mk' Tryz.func30 (by kernel_rfl) (by kernel_rfl) (by kernel_rfl) (by kernel_rfl)
/-- internal/stringslite.IndexByte -/
def sc48 : SC := (.seq (.region [⟨(some 4), (.mv (.c (.int .i64 0))), none⟩] (some [0, 1])) (.seq (.region [⟨(some 5), (.mv (.t 0)), none⟩, ⟨(some 6), (.mv (.t 1)), none⟩, ⟨(some 7), (.call 62 [(.t 5), (.t 6)]), none⟩, ⟨(some 4), (.mv (.t 7)), none⟩] (some [4])) .ret))
theorem code48 : IsCode Tryz.prog 48 sc48 [(4, none)] 8 := .mk' Tryz.func48 (by kernel_rfl) (by kernel_rfl) (by kernel_rfl) (by kernel_rfl)
end Go.Shadow.Lex

/- The lexer in plain Lean: no program in sight. -/
namespace Go.Shadow.Lex
structure Tok where
  kind : Int
  at_ : Int
  s : List UInt8
  n : Int
  deriving DecidableEq

def isLetter (c : UInt8) : Bool := c.toNat == 95 || (97 ≤ c.toNat && c.toNat ≤ 122) || (65 ≤ c.toNat && c.toNat ≤ 90)
def isDigit (c : UInt8) : Bool := 48 ≤ c.toNat && c.toNat ≤ 57
def isBlank (c : UInt8) : Bool := c.toNat == 32 || c.toNat == 9 || c.toNat == 10 || c.toNat == 13
def cls (c : UInt8) : Int := if isLetter c then 3 else if isDigit c then 2 else if isBlank c then 1 else 0
def isWord (c : UInt8) : Bool := isLetter c || isDigit c

/-- The first place from k on whose byte is not p. -/
def spanTo (p : UInt8 → Bool) (l : List UInt8) (k : Nat) : Nat := k + ((l.drop k).takeWhile p).length
theorem drop_cons {l : List UInt8} {k : Nat} {c : UInt8} (h : l[k]? = some c) : l.drop k = c :: l.drop (k + 1) := by
  obtain ⟨h1, h2⟩ := List.getElem?_eq_some_iff.1 h
  rw [List.drop_eq_getElem_cons h1, h2]
theorem spanTo_step {p : UInt8 → Bool} {l : List UInt8} {k : Nat} {c : UInt8} (h : l[k]? = some c) (hp : p c = true) : spanTo p l (k + 1) = spanTo p l k := by
  simp only [spanTo, drop_cons h, List.takeWhile_cons, hp, if_true, List.length_cons]; omega
theorem spanTo_stop {p : UInt8 → Bool} {l : List UInt8} {k : Nat} {c : UInt8} (h : l[k]? = some c) (hp : p c = false) : spanTo p l k = k := by
  simp [spanTo, drop_cons h, List.takeWhile_cons, hp]
theorem spanTo_end {p : UInt8 → Bool} {l : List UInt8} {k : Nat} (h : l.length ≤ k) : spanTo p l k = k := by
  simp [spanTo, List.drop_eq_nil_of_le h]
theorem takeWhile_length_le (p : UInt8 → Bool) (l : List UInt8) : (l.takeWhile p).length ≤ l.length := by
  induction l with
  | nil => simp
  | cons a l ih => simp only [List.takeWhile_cons]; split <;> simp; omega
theorem spanTo_ge (p : UInt8 → Bool) (l : List UInt8) (k : Nat) : k ≤ spanTo p l k := by simp [spanTo]
theorem spanTo_le (p : UInt8 → Bool) (l : List UInt8) (k : Nat) (h : k ≤ l.length) : spanTo p l k ≤ l.length := by
  have := takeWhile_length_le p (l.drop k)
  simp only [List.length_drop] at this
  simp only [spanTo]; omega

/-- The number of blanks and comments' bytes ahead ('b': within a comment). -/
def sk : Bool → List UInt8 → Nat
  | _, [] => 0
  | false, c :: r => if isBlank c then 1 + sk false r else if c.toNat = 35 then 1 + sk true r else 0
  | true, c :: r => if c.toNat = 10 then 1 + sk false r else 1 + sk true r
def skipTo (l : List UInt8) (k : Nat) : Nat := k + sk false (l.drop k)

/-! ### one token -/
def esc (d : UInt8) : Option UInt8 := if d.toNat = 34 then some 34 else if d.toNat = 92 then some 92 else if d.toNat = 110 then some 10 else none
/-- A text behind its quotation mark: an error, or its bytes and how many bytes are left behind it. -/
def textScan : List UInt8 → List UInt8 → Sum Nat (List UInt8 × Nat)
  | [], b => if 200 < b.length then .inl 2 else .inl 28
  | [c], b => if 200 < b.length then .inl 2 else if c.toNat = 34 then .inr (b, 0) else if c.toNat = 92 then .inl 28 else if c.toNat < 32 ∨ 126 < c.toNat then .inl 28 else textScan [] (b ++ [c])
  | c :: d :: r, b => if 200 < b.length then .inl 2 else if c.toNat = 34 then .inr (b, (d :: r).length) else
    if c.toNat = 92 then (match esc d with
      | none => .inl 28
      | some e => textScan r (b ++ [e]))
    else if c.toNat < 32 ∨ 126 < c.toNat then .inl 28 else textScan (d :: r) (b ++ [c])

theorem textScan_nil (b : List UInt8) : textScan [] b = if 200 < b.length then .inl 2 else .inl 28 := rfl
theorem textScan_cons (c : UInt8) (r b : List UInt8) : textScan (c :: r) b = if 200 < b.length then .inl 2 else if c.toNat = 34 then .inr (b, r.length) else
    if c.toNat = 92 then (match r with
      | [] => .inl 28
      | d :: r' => match esc d with
        | none => .inl 28
        | some e => textScan r' (b ++ [e]))
    else if c.toNat < 32 ∨ 126 < c.toNat then .inl 28 else textScan r (b ++ [c]) := by
  cases r with
  | nil => simp [textScan]
  | cons d r => rw [textScan]

theorem sk_comment (r : List UInt8) : sk true r = (r.takeWhile (·.toNat != 10)).length + sk false (r.drop (r.takeWhile (·.toNat != 10)).length) := by
  induction r with
  | nil => rfl
  | cons c r ih =>
    by_cases hc : c.toNat = 10
    · simp [sk, hc, isBlank]
    · simp only [sk, hc, if_false, List.takeWhile_cons, bne_iff_ne, ne_eq, not_false_eq_true, if_true, List.length_cons, List.drop_succ_cons, ih]; omega
theorem sk_le (b : Bool) (r : List UInt8) : sk b r ≤ r.length := by
  induction r generalizing b with
  | nil => cases b <;> simp [sk]
  | cons c r ih =>
    cases b
    · simp only [sk, List.length_cons]
      split
      · have := ih false; omega
      · split
        · have := ih true; omega
        · omega
    · simp only [sk, List.length_cons]
      split
      · have := ih false; omega
      · have := ih true; omega
theorem skipTo_ge (l : List UInt8) (k : Nat) : k ≤ skipTo l k := by simp [skipTo]
theorem skipTo_le (l : List UInt8) (k : Nat) (h : k ≤ l.length) : skipTo l k ≤ l.length := by
  have := sk_le false (l.drop k)
  simp only [List.length_drop] at this
  simp only [skipTo]; omega
theorem skipTo_blank {l : List UInt8} {k : Nat} {c : UInt8} (h : l[k]? = some c) (hb : isBlank c = true) : skipTo l (k + 1) = skipTo l k := by
  simp only [skipTo, drop_cons h, sk, hb, if_true]; omega
theorem skipTo_stop {l : List UInt8} {k : Nat} {c : UInt8} (h : l[k]? = some c) (hb : isBlank c = false) (h2 : c.toNat ≠ 35) : skipTo l k = k := by
  simp [skipTo, drop_cons h, sk, hb, h2]
theorem skipTo_end {l : List UInt8} {k : Nat} (h : l.length ≤ k) : skipTo l k = k := by
  simp [skipTo, List.drop_eq_nil_of_le h, sk]
/-- A comment: up to its line feed, or to the end. -/
theorem skipTo_comment {l : List UInt8} {k : Nat} {c : UInt8} (h : l[k]? = some c) (h2 : c.toNat = 35) : skipTo l (k + ((l.drop k).takeWhile (·.toNat != 10)).length) = skipTo l k ∧ k < k + ((l.drop k).takeWhile (·.toNat != 10)).length := by
  have hb : isBlank c = false := by simp [isBlank, h2]
  have hc := sk_comment (l.drop (k + 1))
  simp only [skipTo, drop_cons h, sk, hb, h2, if_false, if_true, List.takeWhile_cons, bne_iff_ne, ne_eq, Nat.reduceEqDiff, not_false_eq_true, List.length_cons]
  refine ⟨?_, by omega⟩
  rw [show l.drop (k + ((l.drop (k + 1)).takeWhile (·.toNat != 10)).length.succ) = (l.drop (k + 1)).drop ((l.drop (k + 1)).takeWhile (·.toNat != 10)).length from by rw [List.drop_drop]; congr 1; omega]
  simp only [Bool.false_eq_true, if_false]
  omega

def signs2 : List (List UInt8) := [[45, 62], [58, 61], [61, 61], [33, 61], [60, 61], [62, 61], [38, 38], [124, 124], [46, 46]]
def signs1 : List UInt8 := [40, 41, 123, 125, 91, 93, 44, 59, 58, 46, 43, 45, 42, 47, 37, 60, 62, 61, 33, 38, 124, 64, 63, 94, 126]
def signAt (r : List UInt8) : Option (List UInt8) := match signs2.find? (·.isPrefixOf r) with
  | some p => some p
  | none => match r with
    | [] => none
    | c :: _ => if c ∈ signs1 then some [c] else none

def digitsVal (s : List UInt8) : Nat := s.foldl (fun n c => 10 * n + (c.toNat - 48)) 0
def numVal (s : List UInt8) : Option Nat := if s.all isDigit ∧ s.length ≤ 15 ∧ ¬ (1 < s.length ∧ s.head? = some 48) then some (digitsVal s) else none

/-- The token at k, and where it ends; or an error. -/
def lexOne (l : List UInt8) (k : Nat) : Sum Nat (Tok × Nat) := match l[k]? with
  | none => .inl 26
  | some c =>
    if isLetter c then
      let zz := spanTo isWord l k
      if 32 < zz - k then .inl 2 else .inr (⟨1, k, (l.take zz).drop k, 0⟩, zz)
    else if isDigit c then
      let zz := spanTo isWord l k
      match numVal ((l.take zz).drop k) with
      | some n => .inr (⟨2, k, [], n⟩, zz)
      | none => .inl 27
    else if c.toNat = 34 then
      match textScan (l.drop (k + 1)) [] with
      | .inl e => .inl e
      | .inr (b, left) => .inr (⟨3, k, b, 0⟩, l.length - left)
    else match signAt (l.drop k) with
      | some s => .inr (⟨4, k, s, 0⟩, k + s.length)
      | none => .inl 26

/-- The tokens from k on (k: no blank), or the place and the error. -/
def lexJ (l : List UInt8) (k : Nat) : Sum (Nat × Nat) (List Tok) :=
  if h : k < l.length then match lexOne l k with
    | .inl e => .inl (k, e)
    | .inr (t, zz) => if h2 : k < zz ∧ k < skipTo l zz then match lexJ l (skipTo l zz) with
      | .inl p => .inl p
      | .inr ts => .inr (t :: ts)
      else .inl (k, 0)
  else .inr [⟨5, l.length, [], 0⟩]
  termination_by l.length - k
def lex (l : List UInt8) : Sum (Nat × Nat) (List Tok) := if 65536 < l.length then .inl (0, 2) else lexJ l (skipTo l 0)
end Go.Shadow.Lex

/- The lexer in plain Lean: against the library's own words. -/
namespace Go.Shadow.Lex
open Go

theorem digitsVal_bound (s : List UInt8) : ∀ acc, s.all isDigit = true → s.foldl (fun n (c : UInt8) => 10 * n + (c.toNat - 48)) acc < (acc + 1) * 10 ^ s.length := by
  induction s with
  | nil => intro acc _; simp
  | cons c s ih =>
    intro acc h
    simp only [List.all_cons, Bool.and_eq_true] at h
    have hd : c.toNat - 48 ≤ 9 := by have := h.1; simp [isDigit] at this; omega
    have := ih (10 * acc + (c.toNat - 48)) h.2
    simp only [List.foldl_cons, List.length_cons, Nat.pow_succ]
    calc _ < _ := this
      _ ≤ ((acc + 1) * 10) * 10 ^ s.length := Nat.mul_le_mul_right _ (by omega)
      _ = _ := by rw [Nat.mul_assoc, Nat.mul_comm (10 ^ s.length) 10]
theorem parse_digits (s : List UInt8) : ∀ acc, s.all isDigit = true → (acc + 1) * 10 ^ s.length ≤ 1000000000000000000 → Lib.parseUint10 acc s = .ok (s.foldl (fun n (c : UInt8) => 10 * n + (c.toNat - 48)) acc) := by
  induction s with
  | nil => intro acc _ _; rfl
  | cons c s ih =>
    intro acc h hb
    simp only [List.all_cons, Bool.and_eq_true] at h
    have h1 : 48 ≤ c.toNat ∧ c.toNat ≤ 57 := by simpa [isDigit] using h.1
    have hp : 1 ≤ 10 ^ s.length := Nat.one_le_pow _ _ (by omega)
    simp only [List.length_cons, Nat.pow_succ] at hb
    have hb2 : (acc + 1) * 10 * 10 ^ s.length ≤ 1000000000000000000 := by rw [Nat.mul_assoc, Nat.mul_comm 10]; exact hb
    have hb3 : (acc + 1) * 10 * 1 ≤ (acc + 1) * 10 * 10 ^ s.length := Nat.mul_le_mul_left _ hp
    simp only [Lib.parseUint10, h1, and_self, if_true, List.foldl_cons]
    rw [if_neg (by omega), if_neg (by omega), Nat.mul_comm acc 10]
    refine ih _ h.2 (Nat.le_trans (Nat.mul_le_mul_right _ ?_) hb2)
    omega
theorem parse_other (s : List UInt8) : ∀ acc u, Lib.parseUint10 acc s = .ok u → s.all isDigit = true := by
  induction s with
  | nil => intro _ _ _; rfl
  | cons c s ih =>
    intro acc u h
    simp only [Lib.parseUint10] at h
    split at h
    · rename_i h1
      split at h
      · cases h
      · split at h
        · cases h
        · simp only [List.all_cons, Bool.and_eq_true]
          exact ⟨by simp [isDigit, h1], ih _ _ h⟩
    · cases h

theorem atoi_digit {c : UInt8} {r : List UInt8} (hc : isDigit c = true) :
    (∀ v, Lib.atoiAll (c :: r) = .ok v → ∃ u, Lib.parseUint10 0 (c :: r) = .ok u ∧ v = (u : Int)) ∧ ∀ u, Lib.parseUint10 0 (c :: r) = .ok u → u < 9223372036854775808 → Lib.atoiAll (c :: r) = .ok (u : Int) := by
  have h1 : 48 ≤ c.toNat ∧ c.toNat ≤ 57 := by simpa [isDigit] using hc
  have h2 : ¬ c.toNat = 43 := by omega
  have h3 : ¬ c.toNat = 45 := by omega
  simp only [Lib.atoiAll, Lib.parseMag, h2, h3, or_self, if_false, reduceCtorEq]
  rcases Lib.parseUint10 0 (c :: r) with u | _ | _
  · refine ⟨fun v h => ?_, fun u' h hu => ?_⟩
    · simp only [false_and, not_false_eq_true, true_and, if_false] at h
      split at h
      · cases h
      · injection h with h; exact ⟨u, rfl, h.symm⟩
    · injection h with h; subst h
      simp only [false_and, not_false_eq_true, true_and, if_false]
      rw [if_neg (by omega)]
  · exact ⟨fun v h => (by cases h), fun u h => (by cases h)⟩
  · exact ⟨fun v h => (by cases h), fun u h => (by cases h)⟩
theorem atoi_ok {c : UInt8} {r : List UInt8} {v : Int} (hc : isDigit c = true) (h : Lib.atoiAll (c :: r) = .ok v) : (c :: r).all isDigit = true ∧ ((c :: r).length ≤ 15 → v = digitsVal (c :: r)) := by
  obtain ⟨u, hp, rfl⟩ := (atoi_digit hc).1 v h
  have ha := parse_other _ _ _ hp
  refine ⟨ha, fun hl => ?_⟩
  have := parse_digits (c :: r) 0 ha (by
    have : 10 ^ (c :: r).length ≤ 10 ^ 15 := Nat.pow_le_pow_right (by omega) hl
    omega)
  rw [this] at hp
  injection hp with hp
  rw [← hp]; rfl
theorem atoi_bad {c : UInt8} {r : List UInt8} (hc : isDigit c = true) (h : ∀ v, Lib.atoiAll (c :: r) ≠ .ok v) : numVal (c :: r) = none := by
  unfold numVal
  rw [if_neg]
  rintro ⟨ha, hl, _⟩
  have hp := parse_digits (c :: r) 0 ha (by
    have : 10 ^ (c :: r).length ≤ 10 ^ 15 := Nat.pow_le_pow_right (by omega) hl
    omega)
  have hb := digitsVal_bound (c :: r) 0 ha
  have : 10 ^ (c :: r).length ≤ 10 ^ 15 := Nat.pow_le_pow_right (by omega) hl
  exact h _ ((atoi_digit hc).2 _ hp (by omega))
end Go.Shadow.Lex

/- DERIVED: THE SHELF's CONTRACTS AT THIS DUMP, IN PLAIN WORDS (tools/lay-plain.mjs out of 'TryzShelf.lean', which tools/lay-shelf.mjs wrote): THE SAME DECLARATIONS UNDER THE SAME NAMES: 'import', 'namespace', 'open', 'def', 'theorem' AND NOTHING ELSE: no command of the shelf's: FOR A HAND-IN. Each laying: the table of numbers ('.._ren') and one theorem, a field a fact of the dump's own or the kernel's comparison; each contract: ONE APPLICATION. -/
namespace Go.Proofs
open Go.Shelf

def Tryz.lays156_ren : Go.Shelf.Ren := ⟨fun | 156 => 27 | 165 => 45 | 166 => 46 | 169 => 47 | 240 => 60 | 241 => 61 | 276 => 79 | 277 => 80 | n => n, fun | 31 => 57 | 9 => 9 | 3 => 3 | 4 => 4 | 0 => 0 | 20 => 20 | 72 => 89 | 76 => 93 | 70 => 87 | 37 => 46 | 75 => 92 | 127 => 103 | 164 => 129 | 5 => 5 | 80 => 95 | n => n, fun | n => n⟩
theorem Tryz.lays156 : Go.Proofs.Lays.n156 Tryz.prog Tryz.lays156_ren := {
  mixed := by kernel_rfl
  f156 := Tryz.func27.trans (congrArg some (by kernel_rfl))
  f165 := Tryz.func45.trans (congrArg some (by kernel_rfl))
  f166 := Tryz.func46.trans (congrArg some (by kernel_rfl))
  f169 := Tryz.func47.trans (congrArg some (by kernel_rfl))
  f240 := Tryz.func60.trans (congrArg some (by kernel_rfl))
  f241 := Tryz.func61.trans (congrArg some (by kernel_rfl))
  f276 := Tryz.func79.trans (congrArg some (by kernel_rfl))
  f277 := Tryz.func80.trans (congrArg some (by kernel_rfl))
  t0 := Tryz.underlying0
  a0 := Tryz.isAgg0
  z0 := Tryz.sizeOf0
  v0 := Tryz.zeroValue0
  t3 := Tryz.underlying3
  a3 := Tryz.isAgg3
  z3 := Tryz.sizeOf3
  v3 := Tryz.zeroValue3
  t4 := Tryz.underlying4
  a4 := Tryz.isAgg4
  z4 := Tryz.sizeOf4
  v4 := Tryz.zeroValue4
  t9 := Tryz.underlying9
  a9 := Tryz.isAgg9
  z9 := Tryz.sizeOf9
  v9 := Tryz.zeroValue9
  t20 := Tryz.underlying20
  a20 := Tryz.isAgg20
  z20 := Tryz.sizeOf20
  v20 := Tryz.zeroValue20
  t31 := Tryz.underlying57
  a31 := Tryz.isAgg57
  z31 := Tryz.sizeOf57
  v31 := Tryz.zeroValue57
  t37 := Tryz.underlying46
  a37 := Tryz.isAgg46
  z37 := Tryz.sizeOf46
  v37 := Tryz.zeroValue46
  t70 := Tryz.underlying87
  a70 := Tryz.isAgg87
  z70 := Tryz.sizeOf87
  v70 := Tryz.zeroValue87
  t72 := Tryz.underlying89
  a72 := Tryz.isAgg89
  z72 := Tryz.sizeOf89
  v72 := Tryz.zeroValue89
  t75 := Tryz.underlying92
  a75 := Tryz.isAgg92
  z75 := Tryz.sizeOf92
  v75 := Tryz.zeroValue92
  t76 := Tryz.underlying93
  a76 := Tryz.isAgg93
  z76 := Tryz.sizeOf93
  v76 := Tryz.zeroValue93
  t127 := Tryz.underlying103
  a127 := Tryz.isAgg103
  z127 := Tryz.sizeOf103
  v127 := Tryz.zeroValue103
  t164 := Tryz.underlying129
  a164 := Tryz.isAgg129
  z164 := Tryz.sizeOf129
  v164 := Tryz.zeroValue129 }
theorem Tryz.Builder_Extra_156 : Builder.Extra Tryz.prog Tryz.lays156_ren := {
  sizeBuilder := by kernel_rfl
  liesBuilder := by kernel_rfl
  t5 := Tryz.underlying5
  a5 := Tryz.isAgg5
  z5 := Tryz.sizeOf5
  v5 := Tryz.zeroValue5
  infoByte := by kernel_rfl
  cellsByte := by kernel_rfl
  sizeByte := by kernel_rfl
  neB5 := by decide }
open Go.RowKit in
theorem Tryz.strings_Join_none (a : Option Addr) (c : Nat) (sep : ByteArray) (w : World) :
    Calls Tryz.prog 27 #[.slice a 0 c, .string sep] w fun e w' => e = .returned (.string ⟨#[]⟩) ∧ w' = w := Any.strings_Join_none Tryz.lays156 Tryz.Builder_Extra_156 a c sep w
open Go.RowKit in
theorem Tryz.strings_Join (bk o c : Nat) (xs : List ByteArray) (sep : ByteArray) (w : World) (hcells : ∀ (j : Nat) x, xs[j]? = some x → w.cell? ⟨bk, o + j, none⟩ = some (.string x)) (hbk : bk < w.heap.size) (hN : xs.length ≤ 140737488355328) (hcap : xs.length ≤ c) (hlen : (Lib.join (xs.map (·.data.toList)) sep.data.toList).length ≤ 140737488355328) :
    Calls Tryz.prog 27 #[.slice (some ⟨bk, o, none⟩) xs.length c, .string sep] w fun e w' => e = .returned (.string ⟨(Lib.join (xs.map (·.data.toList)) sep.data.toList).toArray⟩) ∧ Below w.heap.size w w' := Any.strings_Join Tryz.lays156 Tryz.Builder_Extra_156 bk o c xs sep w hcells hbk hN hcap hlen
def Tryz.lays137_ren : Go.Shelf.Ren := ⟨fun | 137 => 30 | 217 => 48 | 266 => 62 | n => n, fun | 9 => 9 | 5 => 5 | 3 => 3 | n => n, fun | n => n⟩
theorem Tryz.lays137 : Go.Proofs.Lays.n137 Tryz.prog Tryz.lays137_ren := {
  mixed := by kernel_rfl
  f137 := Tryz.func30.trans (congrArg some (by kernel_rfl))
  f217 := Tryz.func48.trans (congrArg some (by kernel_rfl))
  f266 := Tryz.func62.trans (congrArg some (by kernel_rfl))
  t3 := Tryz.underlying3
  a3 := Tryz.isAgg3
  z3 := Tryz.sizeOf3
  v3 := Tryz.zeroValue3
  t5 := Tryz.underlying5
  a5 := Tryz.isAgg5
  z5 := Tryz.sizeOf5
  v5 := Tryz.zeroValue5
  t9 := Tryz.underlying9
  a9 := Tryz.isAgg9
  z9 := Tryz.sizeOf9
  v9 := Tryz.zeroValue9 }
open Go.RowKit in
theorem Tryz.strings_IndexByte (s : ByteArray) (c : Int) (w : World) :
    Calls Tryz.prog 30 #[.string s, .int .u8 c] w fun e w' => e = .returned (.int .i64 (Lib.indexByte s.data.toList c.toNat.toUInt8)) ∧ w' = w := Any.strings_IndexByte Tryz.lays137 s c w
def Tryz.laysM171_ren : Go.Shelf.Ren := ⟨fun | 171 => 24 | 243 => 42 | 246 => 56 | 283 => 69 | 284 => 70 | 285 => 71 | 286 => 72 | 129 => 89 | 317 => 88 | 318 => 90 | 319 => 91 | 320 => 92 | 337 => 107 | 338 => 108 | n => n, fun | 3 => 3 | 9 => 9 | 2 => 2 | 4 => 4 | 171 => 109 | 0 => 0 | 53 => 110 | 37 => 46 | 5 => 5 | 173 => 113 | 212 => 144 | 51 => 73 | 20 => 20 | 213 => 145 | 46 => 147 | 232 => 197 | 233 => 198 | n => n, fun | 17 => 3 | 18 => 6 | 19 => 7 | n => n⟩
theorem Tryz.laysM171 : Go.Proofs.LaysM.n171 Tryz.prog Tryz.laysM171_ren := {
  mixed := by kernel_rfl
  f129 := Tryz.func89.trans (congrArg some (by kernel_rfl))
  f171 := Tryz.func24.trans (congrArg some (by kernel_rfl))
  f243 := Tryz.func42.trans (congrArg some (by kernel_rfl))
  f246 := Tryz.func56.trans (congrArg some (by kernel_rfl))
  f283 := Tryz.func69.trans (congrArg some (by kernel_rfl))
  f284 := Tryz.func70.trans (congrArg some (by kernel_rfl))
  f285 := Tryz.func71.trans (congrArg some (by kernel_rfl))
  f286 := Tryz.func72.trans (congrArg some (by kernel_rfl))
  f317 := Tryz.func88.trans (congrArg some (by kernel_rfl))
  f318 := Tryz.func90.trans (congrArg some (by kernel_rfl))
  f319 := Tryz.func91.trans (congrArg some (by kernel_rfl))
  f320 := Tryz.func92.trans (congrArg some (by kernel_rfl))
  f337 := Tryz.func107.trans (congrArg some (by kernel_rfl))
  f338 := Tryz.func108.trans (congrArg some (by kernel_rfl))
  t0 := Tryz.underlying0
  a0 := Tryz.isAgg0
  z0 := Tryz.sizeOf0
  v0 := Tryz.zeroValue0
  t2 := Tryz.underlying2
  a2 := Tryz.isAgg2
  z2 := Tryz.sizeOf2
  v2 := Tryz.zeroValue2
  t3 := Tryz.underlying3
  a3 := Tryz.isAgg3
  z3 := Tryz.sizeOf3
  v3 := Tryz.zeroValue3
  t4 := Tryz.underlying4
  a4 := Tryz.isAgg4
  z4 := Tryz.sizeOf4
  v4 := Tryz.zeroValue4
  t5 := Tryz.underlying5
  a5 := Tryz.isAgg5
  z5 := Tryz.sizeOf5
  v5 := Tryz.zeroValue5
  t9 := Tryz.underlying9
  a9 := Tryz.isAgg9
  z9 := Tryz.sizeOf9
  v9 := Tryz.zeroValue9
  t20 := Tryz.underlying20
  a20 := Tryz.isAgg20
  z20 := Tryz.sizeOf20
  v20 := Tryz.zeroValue20
  t37 := Tryz.underlying46
  a37 := Tryz.isAgg46
  z37 := Tryz.sizeOf46
  v37 := Tryz.zeroValue46
  t46 := Tryz.underlying147
  a46 := Tryz.isAgg147
  z46 := Tryz.sizeOf147
  v46 := Tryz.zeroValue147
  t51 := Tryz.underlying73
  a51 := Tryz.isAgg73
  z51 := Tryz.sizeOf73
  v51 := Tryz.zeroValue73
  t53 := Tryz.underlying110
  a53 := Tryz.isAgg110
  z53 := Tryz.sizeOf110
  v53 := Tryz.zeroValue110
  t171 := Tryz.underlying109
  a171 := Tryz.isAgg109
  z171 := Tryz.sizeOf109
  v171 := Tryz.zeroValue109
  t173 := Tryz.underlying113
  a173 := Tryz.isAgg113
  z173 := Tryz.sizeOf113
  v173 := Tryz.zeroValue113
  t212 := Tryz.underlying144
  a212 := Tryz.isAgg144
  z212 := Tryz.sizeOf144
  v212 := Tryz.zeroValue144
  t213 := Tryz.underlying145
  a213 := Tryz.isAgg145
  z213 := Tryz.sizeOf145
  t232 := Tryz.underlying197
  a232 := Tryz.isAgg197
  z232 := Tryz.sizeOf197
  v232 := Tryz.zeroValue197
  t233 := Tryz.underlying198
  a233 := Tryz.isAgg198
  z233 := Tryz.sizeOf198
  v233 := Tryz.zeroValue198
  g17 := by kernel_rfl
  g18 := by kernel_rfl
  g19 := by kernel_rfl
  i0 := by kernel_rfl
  i2 := by kernel_rfl
  i3 := by kernel_rfl
  i4 := by kernel_rfl
  i5 := by kernel_rfl
  i9 := by kernel_rfl
  i20 := by kernel_rfl
  i37 := by kernel_rfl
  i46 := by kernel_rfl
  i51 := by kernel_rfl
  i53 := by kernel_rfl
  i171 := by kernel_rfl
  i173 := by kernel_rfl
  i212 := by kernel_rfl
  i232 := by kernel_rfl
  i233 := by kernel_rfl
  m17 := by kernel_rfl
  m18 := by kernel_rfl
  m19 := by kernel_rfl }
open Go.RowKit Go.Sort Go.Lib in
theorem Tryz.strconv_Itoa (n : Int) (h0 : -9223372036854775808 ≤ n) (h1 : n ≤ 9223372036854775807) (w : World) (htab : Lib.TabIs Tryz.prog w "internal/strconv.uint64pow10" .u64 Lib.pow10Tab) :
    Calls Tryz.prog 24 #[.int .i64 n] w fun e w' => e = .returned (.string ⟨(Lib.itoa n).toArray⟩) ∧ ∃ k os, w' = grow (w.drewN k) os := Any.strconv_Itoa Tryz.laysM171 n h0 h1 w htab
def Tryz.laysC172_ren : Go.Shelf.Ren := ⟨fun | 172 => 50 | 244 => 63 | 245 => 64 | 247 => 81 | 279 => 82 | 280 => 83 | 281 => 84 | 282 => 85 | 287 => 99 | 316 => 100 | 171 => 24 | 205 => 101 | 321 => 118 | 322 => 119 | 243 => 42 | 246 => 56 | 283 => 69 | 284 => 70 | 285 => 71 | 286 => 72 | 129 => 89 | 317 => 88 | 318 => 90 | 319 => 91 | 320 => 92 | 337 => 107 | 338 => 108 | n => n, fun | 9 => 9 | 3 => 3 | 75 => 92 | 76 => 93 | 4 => 4 | 5 => 5 | 167 => 132 | 37 => 46 | 0 => 0 | 85 => 133 | 2 => 2 | 168 => 135 | 53 => 110 | 175 => 163 | 46 => 147 | 210 => 166 | 127 => 103 | 145 => 192 | 143 => 190 | 21 => 21 | 171 => 109 | 173 => 113 | 212 => 144 | 51 => 73 | 20 => 20 | 213 => 145 | 232 => 197 | 233 => 198 | 80 => 95 | n => n, fun | 15 => 4 | 16 => 5 | 17 => 3 | 18 => 6 | 19 => 7 | n => n⟩
theorem Tryz.laysC172 : Go.Proofs.LaysC.n172 Tryz.prog Tryz.laysC172_ren := {
  mixed := by kernel_rfl
  f129 := Tryz.func89.trans (congrArg some (by kernel_rfl))
  f171 := Tryz.func24.trans (congrArg some (by kernel_rfl))
  f172 := Tryz.func50.trans (congrArg some (by kernel_rfl))
  f205 := Tryz.func101.trans (congrArg some (by kernel_rfl))
  f243 := Tryz.func42.trans (congrArg some (by kernel_rfl))
  f244 := Tryz.func63.trans (congrArg some (by kernel_rfl))
  f245 := Tryz.func64.trans (congrArg some (by kernel_rfl))
  f246 := Tryz.func56.trans (congrArg some (by kernel_rfl))
  f247 := Tryz.func81.trans (congrArg some (by kernel_rfl))
  f279 := Tryz.func82.trans (congrArg some (by kernel_rfl))
  f280 := Tryz.func83.trans (congrArg some (by kernel_rfl))
  f281 := Tryz.func84.trans (congrArg some (by kernel_rfl))
  f282 := Tryz.func85.trans (congrArg some (by kernel_rfl))
  f283 := Tryz.func69.trans (congrArg some (by kernel_rfl))
  f284 := Tryz.func70.trans (congrArg some (by kernel_rfl))
  f285 := Tryz.func71.trans (congrArg some (by kernel_rfl))
  f286 := Tryz.func72.trans (congrArg some (by kernel_rfl))
  f287 := Tryz.func99.trans (congrArg some (by kernel_rfl))
  f316 := Tryz.func100.trans (congrArg some (by kernel_rfl))
  f317 := Tryz.func88.trans (congrArg some (by kernel_rfl))
  f318 := Tryz.func90.trans (congrArg some (by kernel_rfl))
  f319 := Tryz.func91.trans (congrArg some (by kernel_rfl))
  f320 := Tryz.func92.trans (congrArg some (by kernel_rfl))
  f321 := Tryz.func118.trans (congrArg some (by kernel_rfl))
  f322 := Tryz.func119.trans (congrArg some (by kernel_rfl))
  f337 := Tryz.func107.trans (congrArg some (by kernel_rfl))
  f338 := Tryz.func108.trans (congrArg some (by kernel_rfl))
  t0 := Tryz.underlying0
  a0 := Tryz.isAgg0
  z0 := Tryz.sizeOf0
  v0 := Tryz.zeroValue0
  t2 := Tryz.underlying2
  a2 := Tryz.isAgg2
  z2 := Tryz.sizeOf2
  v2 := Tryz.zeroValue2
  t3 := Tryz.underlying3
  a3 := Tryz.isAgg3
  z3 := Tryz.sizeOf3
  v3 := Tryz.zeroValue3
  t4 := Tryz.underlying4
  a4 := Tryz.isAgg4
  z4 := Tryz.sizeOf4
  v4 := Tryz.zeroValue4
  t5 := Tryz.underlying5
  a5 := Tryz.isAgg5
  z5 := Tryz.sizeOf5
  v5 := Tryz.zeroValue5
  t9 := Tryz.underlying9
  a9 := Tryz.isAgg9
  z9 := Tryz.sizeOf9
  v9 := Tryz.zeroValue9
  t20 := Tryz.underlying20
  a20 := Tryz.isAgg20
  z20 := Tryz.sizeOf20
  v20 := Tryz.zeroValue20
  t21 := Tryz.underlying21
  a21 := Tryz.isAgg21
  z21 := Tryz.sizeOf21
  v21 := Tryz.zeroValue21
  t37 := Tryz.underlying46
  a37 := Tryz.isAgg46
  z37 := Tryz.sizeOf46
  v37 := Tryz.zeroValue46
  t46 := Tryz.underlying147
  a46 := Tryz.isAgg147
  z46 := Tryz.sizeOf147
  v46 := Tryz.zeroValue147
  t51 := Tryz.underlying73
  a51 := Tryz.isAgg73
  z51 := Tryz.sizeOf73
  v51 := Tryz.zeroValue73
  t53 := Tryz.underlying110
  a53 := Tryz.isAgg110
  z53 := Tryz.sizeOf110
  v53 := Tryz.zeroValue110
  t75 := Tryz.underlying92
  a75 := Tryz.isAgg92
  z75 := Tryz.sizeOf92
  v75 := Tryz.zeroValue92
  t76 := Tryz.underlying93
  a76 := Tryz.isAgg93
  z76 := Tryz.sizeOf93
  v76 := Tryz.zeroValue93
  t85 := Tryz.underlying133
  a85 := Tryz.isAgg133
  z85 := Tryz.sizeOf133
  v85 := Tryz.zeroValue133
  t127 := Tryz.underlying103
  a127 := Tryz.isAgg103
  z127 := Tryz.sizeOf103
  v127 := Tryz.zeroValue103
  t143 := Tryz.underlying190
  a143 := Tryz.isAgg190
  z143 := Tryz.sizeOf190
  v143 := Tryz.zeroValue190
  t145 := Tryz.underlying192
  a145 := Tryz.isAgg192
  z145 := Tryz.sizeOf192
  v145 := Tryz.zeroValue192
  t167 := Tryz.underlying132
  a167 := Tryz.isAgg132
  z167 := Tryz.sizeOf132
  v167 := Tryz.zeroValue132
  t168 := Tryz.underlying135
  a168 := Tryz.isAgg135
  z168 := Tryz.sizeOf135
  v168 := Tryz.zeroValue135
  t171 := Tryz.underlying109
  a171 := Tryz.isAgg109
  z171 := Tryz.sizeOf109
  v171 := Tryz.zeroValue109
  t173 := Tryz.underlying113
  a173 := Tryz.isAgg113
  z173 := Tryz.sizeOf113
  v173 := Tryz.zeroValue113
  t175 := Tryz.underlying163
  a175 := Tryz.isAgg163
  z175 := Tryz.sizeOf163
  v175 := Tryz.zeroValue163
  t210 := Tryz.underlying166
  a210 := Tryz.isAgg166
  z210 := Tryz.sizeOf166
  v210 := Tryz.zeroValue166
  t212 := Tryz.underlying144
  a212 := Tryz.isAgg144
  z212 := Tryz.sizeOf144
  v212 := Tryz.zeroValue144
  t213 := Tryz.underlying145
  a213 := Tryz.isAgg145
  z213 := Tryz.sizeOf145
  t232 := Tryz.underlying197
  a232 := Tryz.isAgg197
  z232 := Tryz.sizeOf197
  v232 := Tryz.zeroValue197
  t233 := Tryz.underlying198
  a233 := Tryz.isAgg198
  z233 := Tryz.sizeOf198
  v233 := Tryz.zeroValue198
  g15 := by kernel_rfl
  g16 := by kernel_rfl
  g17 := by kernel_rfl
  g18 := by kernel_rfl
  g19 := by kernel_rfl
  t80 := Tryz.underlying95
  a80 := Tryz.isAgg95
  z80 := Tryz.sizeOf95
  v80 := Tryz.zeroValue95
  i0 := by kernel_rfl
  i2 := by kernel_rfl
  i3 := by kernel_rfl
  i4 := by kernel_rfl
  i5 := by kernel_rfl
  i9 := by kernel_rfl
  i20 := by kernel_rfl
  i21 := by kernel_rfl
  i37 := by kernel_rfl
  i46 := by kernel_rfl
  i51 := by kernel_rfl
  i53 := by kernel_rfl
  i75 := by kernel_rfl
  i76 := by kernel_rfl
  i80 := by kernel_rfl
  i85 := by kernel_rfl
  i127 := by kernel_rfl
  i143 := by kernel_rfl
  i145 := by kernel_rfl
  i167 := by kernel_rfl
  i168 := by kernel_rfl
  i171 := by kernel_rfl
  i173 := by kernel_rfl
  i175 := by kernel_rfl
  i210 := by kernel_rfl
  i212 := by kernel_rfl
  i232 := by kernel_rfl
  i233 := by kernel_rfl
  m15 := by kernel_rfl
  m16 := by kernel_rfl
  m17 := by kernel_rfl
  m18 := by kernel_rfl
  m19 := by kernel_rfl
  c0 := by kernel_rfl
  c2 := by kernel_rfl
  c3 := by kernel_rfl
  c4 := by kernel_rfl
  c5 := by kernel_rfl
  c9 := by kernel_rfl
  c20 := by kernel_rfl
  c21 := by kernel_rfl
  c37 := by kernel_rfl
  c46 := by kernel_rfl
  c51 := by kernel_rfl
  c53 := by kernel_rfl
  c75 := by kernel_rfl
  c76 := by kernel_rfl
  c80 := by kernel_rfl
  c85 := by kernel_rfl
  c127 := by kernel_rfl
  c143 := by kernel_rfl
  c145 := by kernel_rfl
  c167 := by kernel_rfl
  c168 := by kernel_rfl
  c171 := by kernel_rfl
  c173 := by kernel_rfl
  c175 := by kernel_rfl
  c210 := by kernel_rfl
  c212 := by kernel_rfl
  c213 := by kernel_rfl
  c232 := by kernel_rfl
  c233 := by kernel_rfl }
open Go.RowKit in
theorem Tryz.strconv_Atoi_ok (s : ByteArray) (hmax : s.size ≤ 9223372036854775806) (v : Int) (h : Lib.atoiAll s.data.toList = .ok v) (w : World) :
    Calls Tryz.prog 50 #[.string s] w fun e w' => e = .returned (.tuple #[.int .i64 v, .nilIface]) ∧ (w' = w ∨ ∃ t, w' = Lib.bytesWorld w 5 t) := Any.strconv_Atoi_ok Tryz.laysC172 s hmax v h w
open Go.RowKit in
theorem Tryz.strconv_Atoi_range (s : ByteArray) (hlim : s.size ≤ 281474976710656) (h : Lib.atoiAll s.data.toList = .range) (ev : Value) (w : World) (hv : w.cell? ⟨5, 0, none⟩ = some ev) (hev : ev = .nilIface ∨ ∃ te pe, ev = .iface te pe) :
    Calls Tryz.prog 50 #[.string s] w fun e w' => ∃ N, e = .returned (.tuple #[.int .i64 (Lib.atoiSat s.data.toList), .iface 135 (.pointer (some ⟨N, 0, none⟩))]) ∧ w.heap.size ≤ N ∧ w'.heap[N]? = some (.cells #[.string ⟨#[65, 116, 111, 105]⟩, .string s, ev] 166 (0, 0)) ∧ Below w.heap.size w w' := Any.strconv_Atoi_range Tryz.laysC172 s hlim h ev w hv hev
def Tryz.lays144_ren : Go.Shelf.Ren := ⟨fun | 144 => 53 | 143 => 68 | 219 => 87 | 217 => 48 | 225 => 104 | 224 => 105 | 267 => 106 | 266 => 62 | 314 => 120 | n => n, fun | 9 => 9 | 4 => 4 | 3 => 3 | 5 => 5 | 46 => 147 | 146 => 195 | 51 => 73 | n => n, fun | 1 => 1 | n => n⟩
theorem Tryz.lays144 : Go.Proofs.Lays.n144 Tryz.prog Tryz.lays144_ren := {
  mixed := by kernel_rfl
  f143 := Tryz.func68.trans (congrArg some (by kernel_rfl))
  f144 := Tryz.func53.trans (congrArg some (by kernel_rfl))
  f217 := Tryz.func48.trans (congrArg some (by kernel_rfl))
  f219 := Tryz.func87.trans (congrArg some (by kernel_rfl))
  f224 := Tryz.func105.trans (congrArg some (by kernel_rfl))
  f225 := Tryz.func104.trans (congrArg some (by kernel_rfl))
  f266 := Tryz.func62.trans (congrArg some (by kernel_rfl))
  f267 := Tryz.func106.trans (congrArg some (by kernel_rfl))
  f314 := Tryz.func120.trans (congrArg some (by kernel_rfl))
  t3 := Tryz.underlying3
  a3 := Tryz.isAgg3
  z3 := Tryz.sizeOf3
  v3 := Tryz.zeroValue3
  t4 := Tryz.underlying4
  a4 := Tryz.isAgg4
  z4 := Tryz.sizeOf4
  v4 := Tryz.zeroValue4
  t5 := Tryz.underlying5
  a5 := Tryz.isAgg5
  z5 := Tryz.sizeOf5
  v5 := Tryz.zeroValue5
  t9 := Tryz.underlying9
  a9 := Tryz.isAgg9
  z9 := Tryz.sizeOf9
  v9 := Tryz.zeroValue9
  t46 := Tryz.underlying147
  a46 := Tryz.isAgg147
  z46 := Tryz.sizeOf147
  v46 := Tryz.zeroValue147
  t51 := Tryz.underlying73
  a51 := Tryz.isAgg73
  z51 := Tryz.sizeOf73
  v51 := Tryz.zeroValue73
  t146 := Tryz.underlying195
  a146 := Tryz.isAgg195
  z146 := Tryz.sizeOf195
  v146 := Tryz.zeroValue195
  g1 := by kernel_rfl }
open Go.RowKit Go.Lib in
theorem Tryz.strings_Contains_one (s : ByteArray) (c : UInt8) (w : World) :
    Calls Tryz.prog 53 #[.string s, .string ⟨#[c]⟩] w fun e w' => e = .returned (.bool (decide (0 ≤ Lib.indexByte s.data.toList c))) ∧ w' = w := Any.strings_Contains_one Tryz.lays144 s c w
def Tryz.lays99_ren : Go.Shelf.Ren := ⟨fun | 99 => 52 | 206 => 67 | n => n, fun | 9 => 9 | 4 => 4 | 3 => 3 | n => n, fun | n => n⟩
theorem Tryz.lays99 : Go.Proofs.Lays.n99 Tryz.prog Tryz.lays99_ren := {
  mixed := by kernel_rfl
  f99 := Tryz.func52.trans (congrArg some (by kernel_rfl))
  f206 := Tryz.func67.trans (congrArg some (by kernel_rfl))
  t3 := Tryz.underlying3
  a3 := Tryz.isAgg3
  z3 := Tryz.sizeOf3
  v3 := Tryz.zeroValue3
  t4 := Tryz.underlying4
  a4 := Tryz.isAgg4
  z4 := Tryz.sizeOf4
  v4 := Tryz.zeroValue4
  t9 := Tryz.underlying9
  a9 := Tryz.isAgg9
  z9 := Tryz.sizeOf9
  v9 := Tryz.zeroValue9 }
open Go.RowKit Go.Lib in
theorem Tryz.strings_HasPrefix (s p : ByteArray) (w : World) :
    Calls Tryz.prog 52 #[.string s, .string p] w fun e w' => e = .returned (.bool (Lib.hasPrefix s.data.toList p.data.toList)) ∧ w' = w := Any.strings_HasPrefix Tryz.lays99 s p w
def Tryz.lays157_ren : Go.Shelf.Ren := ⟨fun | 157 => 51 | 229 => 65 | 199 => 66 | 261 => 86 | 311 => 102 | 312 => 103 | n => n, fun | 9 => 9 | 31 => 57 | 3 => 3 | 5 => 5 | 4 => 4 | 119 => 105 | 0 => 0 | 40 => 107 | 152 => 138 | 21 => 21 | 154 => 140 | 51 => 73 | 141 => 142 | 196 => 171 | 193 => 168 | 198 => 174 | 49 => 172 | 194 => 169 | 201 => 177 | 226 => 193 | 46 => 147 | 227 => 194 | n => n, fun | 0 => 0 | 6 => 2 | n => n⟩
theorem Tryz.lays157 : Go.Proofs.Lays.n157 Tryz.prog Tryz.lays157_ren := {
  mixed := by kernel_rfl
  f157 := Tryz.func51.trans (congrArg some (by kernel_rfl))
  f199 := Tryz.func66.trans (congrArg some (by kernel_rfl))
  f229 := Tryz.func65.trans (congrArg some (by kernel_rfl))
  f261 := Tryz.func86.trans (congrArg some (by kernel_rfl))
  f311 := Tryz.func102.trans (congrArg some (by kernel_rfl))
  f312 := Tryz.func103.trans (congrArg some (by kernel_rfl))
  t0 := Tryz.underlying0
  a0 := Tryz.isAgg0
  z0 := Tryz.sizeOf0
  v0 := Tryz.zeroValue0
  t3 := Tryz.underlying3
  a3 := Tryz.isAgg3
  z3 := Tryz.sizeOf3
  v3 := Tryz.zeroValue3
  t4 := Tryz.underlying4
  a4 := Tryz.isAgg4
  z4 := Tryz.sizeOf4
  v4 := Tryz.zeroValue4
  t5 := Tryz.underlying5
  a5 := Tryz.isAgg5
  z5 := Tryz.sizeOf5
  v5 := Tryz.zeroValue5
  t9 := Tryz.underlying9
  a9 := Tryz.isAgg9
  z9 := Tryz.sizeOf9
  v9 := Tryz.zeroValue9
  t21 := Tryz.underlying21
  a21 := Tryz.isAgg21
  z21 := Tryz.sizeOf21
  v21 := Tryz.zeroValue21
  t31 := Tryz.underlying57
  a31 := Tryz.isAgg57
  z31 := Tryz.sizeOf57
  v31 := Tryz.zeroValue57
  t40 := Tryz.underlying107
  a40 := Tryz.isAgg107
  z40 := Tryz.sizeOf107
  v40 := Tryz.zeroValue107
  t46 := Tryz.underlying147
  a46 := Tryz.isAgg147
  z46 := Tryz.sizeOf147
  v46 := Tryz.zeroValue147
  t49 := Tryz.underlying172
  a49 := Tryz.isAgg172
  z49 := Tryz.sizeOf172
  v49 := Tryz.zeroValue172
  t51 := Tryz.underlying73
  a51 := Tryz.isAgg73
  z51 := Tryz.sizeOf73
  v51 := Tryz.zeroValue73
  t119 := Tryz.underlying105
  a119 := Tryz.isAgg105
  z119 := Tryz.sizeOf105
  t141 := Tryz.underlying142
  a141 := Tryz.isAgg142
  z141 := Tryz.sizeOf142
  v141 := Tryz.zeroValue142
  t152 := Tryz.underlying138
  a152 := Tryz.isAgg138
  z152 := Tryz.sizeOf138
  v152 := Tryz.zeroValue138
  t154 := Tryz.underlying140
  a154 := Tryz.isAgg140
  z154 := Tryz.sizeOf140
  v154 := Tryz.zeroValue140
  t193 := Tryz.underlying168
  a193 := Tryz.isAgg168
  z193 := Tryz.sizeOf168
  v193 := Tryz.zeroValue168
  t194 := Tryz.underlying169
  a194 := Tryz.isAgg169
  z194 := Tryz.sizeOf169
  v194 := Tryz.zeroValue169
  t196 := Tryz.underlying171
  a196 := Tryz.isAgg171
  z196 := Tryz.sizeOf171
  v196 := Tryz.zeroValue171
  t198 := Tryz.underlying174
  a198 := Tryz.isAgg174
  z198 := Tryz.sizeOf174
  v198 := Tryz.zeroValue174
  t201 := Tryz.underlying177
  a201 := Tryz.isAgg177
  z201 := Tryz.sizeOf177
  v201 := Tryz.zeroValue177
  t226 := Tryz.underlying193
  a226 := Tryz.isAgg193
  z226 := Tryz.sizeOf193
  v226 := Tryz.zeroValue193
  t227 := Tryz.underlying194
  a227 := Tryz.isAgg194
  z227 := Tryz.sizeOf194
  v227 := Tryz.zeroValue194
  g0 := by kernel_rfl
  g6 := by kernel_rfl }
open Go.RowKit Go.Lib in
theorem Tryz.strings_Fields (s : ByteArray) (w : World) (hs : s.size < 4294967281) (hascii : ∀ (j : Nat) b, s.data.toList[j]? = some b → b.toNat < 128) (htab : Lib.TabIs Tryz.prog w "strings.asciiSpace" .u8 Lib.asciiSpaceTab) :
    Calls Tryz.prog 51 #[.string s] w fun e w' =>
      e = .returned (.slice (some ⟨w.heap.size, 0, none⟩) (Lib.fields s.data.toList).length (Lib.fields s.data.toList).length) ∧ w' = w.alloc (.cells ((Lib.fields s.data.toList).map fun l => Value.string ⟨l.toArray⟩).toArray 9) := Any.strings_Fields Tryz.lays157 (by kernel_rfl) (by kernel_rfl) s w hs hascii htab
end Go.Proofs

/- THE SHADOW LOGIC, part 17: contracts proved otherwise ('Calls') taken over. -/
namespace Go.Shadow
open Go Go.RowKit

section
variable {P : Program} {G : Globs} {w0 w w' : World} {γ : Gh} {σ : St}

theorem Inv.below (hI : Inv G w0 γ σ w) (hb : Below w.heap.size w w') : Inv G w0 γ σ w' ∧ Ext w0.heap.size γ w γ w' := by
  have hk := fun b (h : b < w.heap.size) => hb.block b h
  have he : Ext w0.heap.size γ w γ w' := .of_heap hb.size hk
  exact ⟨hI.ext he (hI.bel.trans (hb.mono hI.size)) (fun b cs h => let ⟨h1, h2, h3, vs, ty, h4, h5⟩ := hI.box b cs h; ⟨h1, h2, h3, vs, ty, (hk b (lt_of_heap h4)).trans h4, h5.ext he⟩) hI.live
    (fun t g h => let ⟨h1, h2, u, vs, ty, h3, h4, h5⟩ := hI.tip t g h; ⟨h1, h2, u, vs, ty, h3, (hk g (lt_of_heap h4)).trans h4, h5⟩) hI.inj
    (fun b u h => let ⟨h1, h2⟩ := hI.rowlt b u h; ⟨h1, Nat.lt_of_lt_of_le h2 hb.size⟩), he⟩

/-- A new block's first 'n' cells: they never change from here on. -/
theorem Inv.below_row (hI : Inv G w0 γ σ w) (hb : Below w.heap.size w w') {g n : Nat} (hg : w.heap.size ≤ g) (hlt : g < w'.heap.size) :
    ∃ γ', Inv G w0 γ' σ w' ∧ Ext w0.heap.size γ w γ' w' ∧ γ'.row g = some n := by
  obtain ⟨hI', he⟩ := hI.below hb
  have hfr := hI.row_fresh hg
  have he2 : Ext w0.heap.size γ w { γ with row := fun b => if b = g then some n else γ.row b } w' := by
    refine ⟨he.hsz, he.cell, fun b u hu => ⟨u, ?_, Nat.le_refl _⟩, Nat.le_refl _, fun t g' _ hg' => ⟨hg', ?_⟩, he.shape⟩
    · have : b ≠ g := by rintro rfl; rw [hfr] at hu; cases hu
      simp [this, hu]
    · obtain ⟨_, _, u, _, _, hu, _⟩ := hI.tip t g' hg'
      have : g' ≠ g := by rintro rfl; rw [hfr] at hu; cases hu
      simp [this]
  refine ⟨_, hI.ext he2 hI'.bel (fun b cs h => ?_) hI.live (fun t g' h => ?_) hI.inj (fun b u h => ?_), he2, by simp⟩
  · obtain ⟨h1, h2, h3, us, ty', h4, h5⟩ := hI.box b cs h
    have hlt := lt_of_heap h4
    exact ⟨h1, by simp [show b ≠ g by omega, h2], h3, us, ty', (hb.block b hlt).trans h4, h5.ext he2⟩
  · obtain ⟨h1, h2, u, us, ty', h3, h4, h5⟩ := hI.tip t g' h
    have hlt := lt_of_heap h4
    exact ⟨h1, h2, u, us, ty', by simp [show g' ≠ g by omega, h3], (hb.block g' hlt).trans h4, h5⟩
  · by_cases hbg : b = g
    · subst hbg; exact ⟨Nat.le_trans hI.size hg, hlt⟩
    · simp only [if_neg hbg] at h
      have := hI.rowlt b u h
      exact ⟨this.1, Nat.lt_of_lt_of_le this.2 hb.size⟩

theorem RL.inv1 {B : Nat} {a : V} {xs : Array Value} (h : RL B γ w [a] xs.toList) : ∃ x, xs = #[x] ∧ R B γ w a x := by
  obtain ⟨x, xs', e, h1, h2⟩ := h.inv_cons
  obtain rfl := h2.inv_nil
  exact ⟨x, by rw [← Array.toArray_toList (xs := xs), e], h1⟩
theorem RL.inv2 {B : Nat} {a b : V} {xs : Array Value} (h : RL B γ w [a, b] xs.toList) : ∃ x y, xs = #[x, y] ∧ R B γ w a x ∧ R B γ w b y := by
  obtain ⟨x, xs', e, h1, h2⟩ := h.inv_cons
  obtain ⟨y, xs'', rfl, h3, h4⟩ := h2.inv_cons
  obtain rfl := h4.inv_nil
  exact ⟨x, y, by rw [← Array.toArray_toList (xs := xs), e], h1, h3⟩
theorem RL.inv3 {B : Nat} {a b c : V} {xs : Array Value} (h : RL B γ w [a, b, c] xs.toList) : ∃ x y z, xs = #[x, y, z] ∧ R B γ w a x ∧ R B γ w b y ∧ R B γ w c z := by
  obtain ⟨x, xs', e, h1, h2⟩ := h.inv_cons
  obtain ⟨y, xs'', rfl, h3, h4⟩ := h2.inv_cons
  obtain ⟨z, xs3, rfl, h5, h6⟩ := h4.inv_cons
  obtain rfl := h6.inv_nil
  exact ⟨x, y, z, by rw [← Array.toArray_toList (xs := xs), e], h1, h3, h5⟩
theorem R.inv_str {B : Nat} {l : List UInt8} {x : Value} (h : R B γ w (.str l) x) : x = .string ⟨l.toArray⟩ := by
  cases h with
  | str l s h => subst h; rfl
theorem R.inv_int {B : Nat} {k : IntKind} {n : Int} {x : Value} (h : R B γ w (.int k n) x) : x = .int k n := by cases h; rfl
theorem R.mk_str {B : Nat} (l : List UInt8) : R B γ w (.str l) (.string ⟨l.toArray⟩) := .str _ _ (by simp)

/-- A function that is known by 'Calls', whose result is no address. -/
theorem SRet.of_calls {f : FuncId} {args : List V} {r : V} (he : ∀ args w, (callFunc f args).run P w = .ok (.enter f args) w)
    (h : ∀ (w0 : World) (γ : Gh) (w : World) (xs : Array Value), G.pre w0 → Below w0.heap.size w0 w → RL w0.heap.size γ w args xs.toList → Calls P f xs w fun e w' => Below w.heap.size w w' ∧ ∃ x, e = .returned x ∧ ∀ B γ w, R B γ w r x) : SRet P G f args r := by
  intro σ w0 γ w xs hI hr
  refine .inl ⟨he _ _, (h w0 γ w xs hI.pre hI.bel hr).mono ?_⟩
  rintro e w' ⟨hb, x, rfl, hx⟩
  obtain ⟨h1, h2⟩ := hI.below hb
  exact ⟨γ, σ, h2, h1, r, x, hx _ _ _, .inl ⟨rfl, rfl, rfl⟩⟩

theorem RL.tup {B : Nat} {vs : List V} {xs : List Value} (h : RL B γ w vs xs) : R B γ w (.tup vs) (.tuple xs.toArray) :=
  .tup _ _ (by simpa using h.1) (fun i x y hx hy => h.2 i x y hx (by simpa using hy))
end
end Go.Shadow

/- The library's functions that the lexer calls, as shadow contracts. -/
namespace Go.Shadow.Lex
open Go Go.RowKit Go.Proofs

/-- What the start-up code has laid. -/
def lexPre (w : World) : Prop :=
  Lib.TabIs Tryz.prog w "strings.asciiSpace" .u8 Lib.asciiSpaceTab ∧ Lib.TabIs Tryz.prog w "internal/strconv.uint64pow10" .u64 Lib.pow10Tab ∧
  (∃ t p, w.cell? ⟨4, 0, none⟩ = some (.iface t p)) ∧ ∃ t p, w.cell? ⟨5, 0, none⟩ = some (.iface t p)
def LG : Globs := { at_ := fun _ => none, pre := lexPre }

theorem var?_below {P : Program} {g : Nat} {W W' : World} {n : String} {cs : Array Value} (h : Below W.heap.size W W') (hg : P.globalNamed n = some g) (hv : W.var? P n = some cs) : W'.var? P n = some cs := by
  unfold World.var? at hv ⊢
  simp only [hg, Option.bind_some] at hv ⊢
  have : g < W.heap.size := by
    cases hh : W.heap[g]? with
    | none => rw [hh] at hv; cases hv
    | some o => exact (Array.getElem?_eq_some_iff.1 hh).1
  rw [h.block g this]
  exact hv
theorem lexPre_below {w w' : World} (h : lexPre w) (hb : Below w.heap.size w w') : lexPre w' := by
  obtain ⟨h1, h2, ⟨t, p, h3⟩, u, q, h4⟩ := h
  refine ⟨?_, ?_, ⟨t, p, ?_⟩, u, q, ?_⟩
  · exact var?_below hb (g := 0) (by kernel_rfl) h1
  · exact var?_below hb (g := 3) (by kernel_rfl) h2
  · rw [hb.cell (World.block_lt_of_cell? w _ h3)]; exact h3
  · rw [hb.cell (World.block_lt_of_cell? w _ h4)]; exact h4

theorem indexByte_ret (s : List UInt8) (c : UInt8) : SRet Tryz.prog LG 30 [.str s, .int .u8 c.toNat] (.int .i64 (Lib.indexByte s c)) := by
  refine SRet.of_calls (enters_of Tryz.func30 (by kernel_rfl) rfl) ?_
  intro w0 γ w xs _ _ hr
  obtain ⟨x, y, rfl, hx, hy⟩ := hr.inv2
  obtain rfl := hx.inv_str
  obtain rfl := hy.inv_int
  refine (Tryz.strings_IndexByte _ _ _).mono ?_
  rintro e w' ⟨rfl, rfl⟩
  refine ⟨.refl _ _, _, rfl, fun B γ w => ?_⟩
  have : ((c.toNat : Int).toNat).toUInt8 = c := by simp
  rw [this]
  exact .int _ _

theorem hasPrefix_ret (s p : List UInt8) : SRet Tryz.prog LG 52 [.str s, .str p] (.bool (Lib.hasPrefix s p)) := by
  refine SRet.of_calls (enters_of Tryz.func52 (by kernel_rfl) rfl) ?_
  intro w0 γ w xs _ _ hr
  obtain ⟨x, y, rfl, hx, hy⟩ := hr.inv2
  obtain rfl := hx.inv_str
  obtain rfl := hy.inv_str
  refine (Tryz.strings_HasPrefix _ _ _).mono ?_
  rintro e w' ⟨rfl, rfl⟩
  exact ⟨.refl _ _, _, rfl, fun B γ w => .bool _⟩

theorem containsOne_ret (s : List UInt8) (c : UInt8) : SRet Tryz.prog LG 53 [.str s, .str [c]] (.bool (decide (0 ≤ Lib.indexByte s c))) := by
  refine SRet.of_calls (enters_of Tryz.func53 (by kernel_rfl) rfl) ?_
  intro w0 γ w xs _ _ hr
  obtain ⟨x, y, rfl, hx, hy⟩ := hr.inv2
  obtain rfl := hx.inv_str
  obtain rfl := hy.inv_str
  refine (Tryz.strings_Contains_one _ _ _).mono ?_
  rintro e w' ⟨rfl, rfl⟩
  exact ⟨.refl _ _, _, rfl, fun B γ w => .bool _⟩

theorem itoa_ret (n : Int) (h : -9223372036854775808 ≤ n ∧ n ≤ 9223372036854775807) : SRet Tryz.prog LG 24 [.int .i64 n] (.str (Lib.itoa n)) := by
  refine SRet.of_calls (enters_of Tryz.func24 (by kernel_rfl) rfl) ?_
  intro w0 γ w xs hp hb hr
  obtain ⟨x, rfl, hx⟩ := hr.inv1
  obtain rfl := hx.inv_int
  refine (Tryz.strconv_Itoa n h.1 h.2 w (lexPre_below hp hb).2.1).mono ?_
  rintro e w' ⟨rfl, k, os, rfl⟩
  exact ⟨Lib.below_grow _ _ (Nat.le_refl _) _ _, _, rfl, fun B γ w => .mk_str _⟩

theorem below_bytesWorld (w : World) (e : TypeId) (s : ByteArray) : Below w.heap.size w (Lib.bytesWorld w e s) := Lib.bytesWorld_below w e s

theorem atoi_call (s : List UInt8) (hs : s.length ≤ 70000) (σ : St) : SCall Tryz.prog LG 50 [.str s] σ fun e σ' => σ' = σ ∧ ∃ v er, e = .ret (.tup [.int .i64 v, er]) ∧
    ((Lib.atoiAll s = .ok v ∧ er = .nilIface) ∨ ((∃ t b, er = .iface t (.loc b 0)) ∧ ∀ v, Lib.atoiAll s ≠ .ok v)) := by
  intro w0 γ w xs hI hr
  refine .inl ⟨enters_of Tryz.func50 (by kernel_rfl) rfl _ _, ?_⟩
  obtain ⟨x, rfl, hx⟩ := hr.inv1
  obtain rfl := hx.inv_str
  have hsz : (ByteArray.mk s.toArray).size = s.length := by simp [ByteArray.size]
  have hd : (ByteArray.mk s.toArray).data.toList = s := by simp
  have hp := lexPre_below hI.pre hI.bel
  rcases ha : Lib.atoiAll s with v | _ | _
  · refine (Tryz.strconv_Atoi_ok _ (by rw [hsz]; omega) v (by rw [hd]; exact ha) w).mono ?_
    rintro e w' ⟨rfl, hw⟩
    have hb : Below w.heap.size w w' := by
      rcases hw with rfl | ⟨t, rfl⟩
      · exact .refl _ _
      · exact below_bytesWorld _ _ _
    obtain ⟨h1, h2⟩ := hI.below hb
    exact ⟨γ, σ, h2, h1, _, _, RL.tup (.cons (.int .i64 v) (.cons .nilIface .nil)), .inl ⟨rfl, rfl, v, .nilIface, rfl, .inl ⟨rfl, rfl⟩⟩⟩
  · obtain ⟨t, p, hv⟩ := hp.2.2.1
    refine (Any.strconv_Atoi_syntax Tryz.laysC172 _ (by rw [hsz]; omega) (by rw [hd]; exact ha) _ w hv (.inr ⟨_, _, rfl⟩)).mono ?_
    rintro e w' ⟨A, rfl, _, _, hb⟩
    obtain ⟨h1, h2⟩ := hI.below hb
    exact ⟨γ, σ, h2, h1, _, _, RL.tup (.cons (.int .i64 0) (.cons (.iface 135 (.loc A 0) _ (.loc A 0)) .nil)), .inl ⟨rfl, rfl, _, _, rfl, .inr ⟨⟨135, A, rfl⟩, fun v e => by cases e⟩⟩⟩
  · obtain ⟨t, p, hv⟩ := hp.2.2.2
    refine (Tryz.strconv_Atoi_range _ (by rw [hsz]; omega) (by rw [hd]; exact ha) _ w hv (.inr ⟨_, _, rfl⟩)).mono ?_
    rintro e w' ⟨A, rfl, _, _, hb⟩
    obtain ⟨h1, h2⟩ := hI.below hb
    exact ⟨γ, σ, h2, h1, _, _, RL.tup (.cons (.int .i64 _) (.cons (.iface 135 (.loc A 0) _ (.loc A 0)) .nil)), .inl ⟨rfl, rfl, _, _, rfl, .inr ⟨⟨135, A, rfl⟩, fun v e => by cases e⟩⟩⟩

/-- A list of strings' elements. -/
def strEls (ls : List (List UInt8)) : List (List V) := ls.map fun l => [.str l]
theorem strEls_flatten (ls : List (List UInt8)) : (strEls ls).flatten = ls.map .str := by
  induction ls with
  | nil => rfl
  | cons l ls ih => simp only [strEls, List.map_cons, List.flatten_cons] at ih ⊢; rw [ih]; rfl

theorem fields_call (s : List UInt8) (hs : s.length < 4294967281) (ha : ∀ (j : Nat) b, s[j]? = some b → b.toNat < 128) (σ : St) :
    SCall Tryz.prog LG 51 [.str s] σ fun e σ' => σ' = σ ∧ e = .ret (.slice .foreign 1 (strEls (Lib.fields s))) := by
  intro w0 γ w xs hI hr
  refine .inl ⟨enters_of Tryz.func51 (by kernel_rfl) rfl _ _, ?_⟩
  obtain ⟨x, rfl, hx⟩ := hr.inv1
  obtain rfl := hx.inv_str
  have hsz : (ByteArray.mk s.toArray).size = s.length := by simp [ByteArray.size]
  have hd : (ByteArray.mk s.toArray).data.toList = s := by simp
  have hp := lexPre_below hI.pre hI.bel
  refine (Tryz.strings_Fields _ w (by rw [hsz]; exact hs) (by rw [hd]; exact ha) hp.1).mono ?_
  rw [hd]
  rintro e w' ⟨rfl, rfl⟩
  have hb : Below w.heap.size w (w.alloc (.cells ((Lib.fields s).map fun l => Value.string ⟨l.toArray⟩).toArray 9)) := (Below.refl _ _).alloc (Nat.le_refl _) _
  obtain ⟨γ', h1, h2, h3⟩ := hI.below_row hb (g := w.heap.size) (n := (Lib.fields s).length) (Nat.le_refl _) (by simp)
  have hlen : (Lib.fields s).length = (strEls (Lib.fields s)).length := by simp [strEls]
  refine ⟨γ', σ, h2, h1, .slice .foreign 1 (strEls (Lib.fields s)), _, ?_, .inl ⟨rfl, rfl, rfl⟩⟩
  rw [hlen]
  refine .slice .foreign 1 _ _ _ w.heap.size 0 (fun k => .string ⟨((Lib.fields s).getD k []).toArray⟩) ?_ (by simp [strEls]) (.inl rfl) trivial ?_ ?_ ?_
  · intro i e he
    simp only [strEls, List.getElem?_map, Option.map_eq_some_iff] at he
    obtain ⟨l, _, rfl⟩ := he; rfl
  · intro k x hx
    rw [strEls_flatten, List.getElem?_map, Option.map_eq_some_iff] at hx
    obtain ⟨l, _, rfl⟩ := hx; rfl
  · intro k x hx
    rw [strEls_flatten, List.getElem?_map, Option.map_eq_some_iff] at hx
    obtain ⟨l, hl, rfl⟩ := hx
    have hk : k < (Lib.fields s).length := (List.getElem?_eq_some_iff.1 hl).1
    refine ⟨.inr ⟨_, h3, by omega⟩, ?_⟩
    have hh : (w.alloc (.cells ((Lib.fields s).map fun l => Value.string ⟨l.toArray⟩).toArray 9)).heap[w.heap.size]? = some (.cells ((Lib.fields s).map fun l => Value.string ⟨l.toArray⟩).toArray 9 (0, 0)) := by
      show (w.heap.push _)[w.heap.size]? = _
      simp
    simp only [World.cell?, hh]
    simp [hl, List.getElem?_eq_getElem hk, List.getD_eq_getElem?_getD]
  · intro k x hx
    rw [strEls_flatten, List.getElem?_map, Option.map_eq_some_iff] at hx
    obtain ⟨l, hl, rfl⟩ := hx
    simp only [List.getD_eq_getElem?_getD, hl, Option.getD_some]
    exact .mk_str l

theorem join_call (tag : Tag) (ls : List (List UInt8)) (sep : List UInt8) (hn : ls.length ≤ 140737488355328) (hl : (Lib.join ls sep).length ≤ 140737488355328) (s' : Nat) (σ : St) :
    SCall Tryz.prog LG 27 [.slice tag s' (strEls ls), .str sep] σ fun e σ' => σ' = σ ∧ e = .ret (.str (Lib.join ls sep)) := by
  intro w0 γ w xs hI hr
  refine .inl ⟨enters_of Tryz.func27 (by kernel_rfl) rfl _ _, ?_⟩
  obtain ⟨x, y, rfl, hx, hy⟩ := hr.inv2
  obtain rfl := hy.inv_str
  have hd : (ByteArray.mk sep.toArray).data.toList = sep := by simp
  cases hx with
  | slice _ _ _ a cap b o vs hs hcap ha ht h1 hc hR =>
  have hlen : (strEls ls).length = ls.length := by simp [strEls]
  rw [hlen] at hcap ⊢
  match ls, ha with
  | [], _ =>
    refine (Tryz.strings_Join_none _ _ _ w).mono ?_
    rintro e w' ⟨rfl, rfl⟩
    exact ⟨γ, σ, .refl _ _ _, hI, _, _, .mk_str [], .inl ⟨rfl, rfl, rfl⟩⟩
  | l :: ls, .inr ⟨_, h⟩ => cases h
  | l :: ls, .inl h =>
    subst h
    rw [strEls_flatten] at hc hR
    have hcell : ∀ (j : Nat) (x : ByteArray), ((l :: ls).map fun l => (⟨l.toArray⟩ : ByteArray))[j]? = some x → w.cell? ⟨b, o + j, none⟩ = some (.string x) := by
      intro j x hx
      rw [List.getElem?_map, Option.map_eq_some_iff] at hx
      obtain ⟨u, hu, rfl⟩ := hx
      have hv : ((l :: ls).map V.str)[j]? = some (.str u) := by rw [List.getElem?_map, hu]; rfl
      rw [(hc j _ hv).2, (hR j _ hv).inv_str]
    have hmap : ((l :: ls).map fun l => (⟨l.toArray⟩ : ByteArray)).map (fun x => x.data.toList) = l :: ls := by
      rw [List.map_map]; simp [Function.comp_def]
    have hl2 : ((l :: ls).map fun l => (⟨l.toArray⟩ : ByteArray)).length = (l :: ls).length := by simp
    have := Tryz.strings_Join b o cap ((l :: ls).map fun l => (⟨l.toArray⟩ : ByteArray)) ⟨sep.toArray⟩ w hcell (World.block_lt_of_cell? w _ (hcell 0 _ rfl)) (by rw [hl2]; exact hn) (by rw [hl2]; exact hcap) (by rw [hmap, hd]; exact hl)
    rw [hmap, hd, hl2] at this
    refine this.mono ?_
    rintro e w' ⟨rfl, hb⟩
    obtain ⟨h1, h2⟩ := hI.below hb
    exact ⟨γ, σ, h2, h1, _, _, .mk_str _, .inl ⟨rfl, rfl, rfl⟩⟩

end Go.Shadow.Lex
