/- THE SHADOW LOGIC, part 11: the translation of operations is sound. -/
import Derived.Test.YtgebphnfnmeaaaaGreatDoorSh10
namespace Go.Shadow
open Go Go.RowKit

def placesOK (P : Program) (t : TypeId) : Bool := match P.underlying t with
  | some (.struct fs) => (fs.toList.mapM (fun (f : Field) => (P.info? f.type).map fun (i : TypeInfo) => (f.offset, i.size))).isSome
  | some (.array _ e) => (P.info? e).isSome
  | _ => false
def zeroAgg (P : Program) (t : TypeId) : Bool := match P.info? t with
  | some i => match i.zero with
    | some (.agg _) => true
    | _ => false
  | none => false
def trOpt : Option Operand → Option (Option Opd)
  | none => some none
  | some x => match trOpd x with
    | some y => some (some y)
    | none => none
def negOf : BinOp → Option Bool
  | .eql => some false
  | .neq => some true
  | _ => none

def trBin (P : Program) (op : BinOp) (t : TypeId) (x y : Operand) : Option SOp :=
  match trOpd x, trOpd y with
  | some ox, some oy => match P.underlying t with
    | some (.int _) => some (.bin op ox oy)
    | some .string => some (.bins op ox oy)
    | some .bool => match negOf op with
      | some neg => some (.binb neg ox oy)
      | none => none
    | some (.struct fs) => match negOf op, shF P fs.toList with
      | some neg, some sh => if P.stoodInHeld t = false ∧ P.eqGuardType P.depth t = false ∧ flatF P fs.toList 0 = true then some (.eqs neg sh ox oy) else none
      | _, _ => none
    | some _ => match negOf op, y with
      | some neg, .const c => match trV c with
        | some cv => if nilFits P t c = true then some (.eqn neg ox (.c cv)) else none
        | none => none
      | _, _ => none
    | none => none
  | _, _ => none

def trConv (P : Program) (s t : TypeId) (x : Operand) : Option SOp :=
  match trOpd x with
  | some ox => match P.underlying s, P.underlying t with
    | some (.int _), some (.int k) => some (.i2i k ox)
    | some .string, some .string => some (.s2s ox)
    | some (.slice e), some .string => match P.underlying e with
      | some (.int .u8) => some (.b2s ox)
      | _ => none
    | some .string, some (.slice e) => match P.underlying e with
      | some (.int .u8) => some (.s2b ox)
      | _ => none
    | _, _ => none
  | none => none

def trCall (P : Program) (c : Call) : Option SOp :=
  match c with
  | { callee := .value (.func f), args, argTypes := _ } => match trOpds args.toList with
    | some xs => some (.call f xs)
    | none => none
  | { callee := .value x, args, argTypes := _ } => match trOpd x, trOpds args.toList with
    | some y, some xs => some (.callv y xs)
    | _, _ => none
  | { callee := .invoke _ _, .. } => none
  | { callee := .builtin b, args := ⟨args⟩, argTypes := ⟨ts⟩ } => match b, args, ts with
    | .len, [x], [t] => match trOpd x, P.underlying t with
      | some ox, some .string => some (.len true ox)
      | some ox, some (.slice _) => some (.len false ox)
      | _, _ => none
    | .max, xs, _ => match trOpds xs with
      | some ys => some (.mm true ys)
      | none => none
    | .min, xs, _ => match trOpds xs with
      | some ys => some (.mm false ys)
      | none => none
    | .append, [x, y], [t, t2] => match trOpd x, trOpd y, P.underlying t with
      | some ox, some oy, some (.slice e) => match P.info? e with
        | some i => match i.zero with
          | some z => if z.cells.size = i.size ∧ 0 < i.size then match P.underlying t2 with
            | some (.slice _) => some (.append i.size i.bytes ox oy)
            | some .string => if i.size = 1 then some (.appends i.bytes ox oy) else none
            | _ => none
            else none
          | none => none
        | none => none
      | _, _, _ => none
    | .panic, [x], _ => match trOpd x with
      | some ox => some (.panic ox)
      | none => none
    | _, _, _ => none

def trOp (P : Program) (op : Op) : Option SOp :=
  match op with
  | .move x => match trOpd x with
    | some y => some (.mv y)
    | none => none
  | .assign x => match trOpd x with
    | some y => some (.mv y)
    | none => none
  | .pick c x y => match trOpd c, trOpd x, trOpd y with
    | some oc, some ox, some oy => some (.pick oc ox oy)
    | _, _, _ => none
  | .alloc t => match zeroL P t with
    | some z => some (.alloc z)
    | none => none
  | .box _ x => match trOpd x with
    | some y => some (.box y)
    | none => none
  | .build t parts => match zeroL P t with
    | some z => match trParts P t z.length parts.toList with
      | some ps => if placesOK P t = true then some (.build z ps) else none
      | none => none
    | none => none
  | .buildSlice t len parts => match P.underlying t with
    | some (.slice e) => match P.info? e, zeroL P e, trEls 0 parts.toList with
      | some i, some _, some ps => if 0 < i.size ∧ parts.size = len ∧ len * i.size ≤ 16777216 then some (.mkslice i.size ps) else none
      | _, _, _ => none
    | _ => none
  | .load t x => match trOpd x, aggB P t, P.info? t with
    | some ox, some g, some i => if 0 < i.size then some (.load g i.size ox) else none
    | _, _, _ => none
  | .store t x y => match trOpd x, trOpd y, P.info? t with
    | some ox, some oy, some i => some (.store i.size ox oy)
    | _, _, _ => none
  | .nilCheck x => match trOpd x with
    | some y => some (.nilchk y)
    | none => none
  | .binOp op t x y _ => trBin P op t x y
  | .unOp op _ x => match trOpd x with
    | some y => some (.un op y)
    | none => none
  | .convert s t x => trConv P s t x
  | .makeInterface t x => match trOpd x, P.underlying t with
    | some _, some (.interface _) => none
    | some ox, some _ => some (.mkif t ox)
    | _, _ => none
  | .makeFunc (.func f) fi ca => match trOpds fi.toList, trOpds ca.toList with
    | some a, some b => some (.mkfn f a b)
    | _, _ => none
  | .slice t x lo hi none => match trOpd x, trOpt lo, trOpt hi with
    | some ox, some olo, some ohi => match P.underlying t with
      | some .string => some (.cuts ox olo ohi)
      | some (.slice e) => match P.info? e with
        | some i => some (.slice i.size ox olo ohi)
        | none => none
      | _ => none
    | _, _, _ => none
  | .fieldAddr t x k => match trOpd x, P.underlying t with
    | some ox, some (.struct fs) => match fs[k]? with
      | some f => match P.info? f.type with
        | some i => if i.size ≠ 0 then some (.faddr f.offset ox) else none
        | none => none
      | none => none
    | _, _ => none
  | .field t x k => match trOpd x, P.underlying t with
    | some ox, some (.struct fs) => match fs[k]? with
      | some f => match P.info? f.type, aggB P f.type with
        | some i, some g => if 0 < i.size then some (.field g i.size f.offset ox) else none
        | _, _ => none
      | none => none
    | _, _ => none
  | .indexAddr t x y => match trOpd x, trOpd y, P.underlying t with
    | some ox, some oy, some (.slice e) => match P.info? e with
      | some i => some (.iaddr i.size ox oy)
      | none => none
    | some ox, some oy, some (.array m e) => match P.info? e with
      | some i => some (.iaddrA i.size m ox oy)
      | none => none
    | _, _, _ => none
  | .index t x y => match trOpd x, trOpd y, P.underlying t with
    | some ox, some oy, some .string => some (.idxs ox oy)
    | some ox, some oy, some (.array m e) => match P.info? e, aggB P e with
      | some i, some g => if 0 < i.size then some (.idxa g i.size m ox oy) else none
      | _, _ => none
    | _, _, _ => none
  | .extract x k => match trOpd x with
    | some y => some (.extract k y)
    | none => none
  | .call c => trCall P c
  | .panic x => match trOpd x with
    | some y => some (.panic y)
    | none => none
  | .typeAssert x _ t ok => match trOpd x, P.underlying t with
    | some _, some (.interface _) => none
    | some ox, some _ => match zeroL P t, aggB P t with
      | some z, some g => if zeroAgg P t = g then some (.tassert t z g ok ox) else none
      | _, _ => none
    | _, _ => none
  | _ => none

section
variable {P : Program} {G : Globs} {w0 w : World} {γ : Gh} {σ : St} {n : Nat} {ds : List Deferred} {sl : Slots} {a : Act} {o : Oper} {K Kp : V → St → Prop}

theorem trOpt_eq {x : Option Operand} {y : Option Opd} (h : trOpt x = some y) : x.map trOpd = y.map some := by
  cases x with
  | none => simp [trOpt] at h; subst h; rfl
  | some x =>
    simp only [trOpt] at h
    split at h
    · rename_i z hz; injection h with h; subst h; simp [hz]
    · cases h

theorem negOf_eq {op : BinOp} {neg : Bool} (h : negOf op = some neg) : op = if neg then .neq else .eql := by
  cases op <;> simp [negOf] at h <;> subst h <;> rfl

theorem trBin_sound (hr : Rel G w0 γ σ w n ds sl a) {op : BinOp} {t t2 : TypeId} {x y : Operand} {so : SOp} (ho : o.op = .binOp op t x y t2) (ht : trBin P op t x y = some so) (h : sOp P G so sl σ K Kp) : Does P G o a w w0 γ K Kp := by
  unfold trBin at ht
  split at ht
  · rename_i ox oy hx hy
    split at ht
    · injection ht with ht; subst ht; exact do_bin hr ho hx hy h
    · injection ht with ht; subst ht; exact do_bins hr ho hx hy h
    · rename_i hu
      split at ht
      · rename_i neg hn; injection ht with ht; subst ht; exact do_binb hr (negOf_eq hn) ho hu hx hy h
      · cases ht
    · rename_i fs hu
      split at ht
      · rename_i neg sh hn hsh
        split at ht
        · rename_i hc; injection ht with ht; subst ht
          exact do_eqs hr (negOf_eq hn) ho hu hc.1 hc.2.1 hc.2.2 hsh hx hy h
        · cases ht
      · cases ht
    · split at ht
      · rename_i neg c hn
        split at ht
        · rename_i cv hc
          split at ht
          · rename_i hf; injection ht with ht; subst ht
            exact do_eqn hr (negOf_eq hn) ho hf hx hc h
          · cases ht
        · cases ht
      · cases ht
    · cases ht
  · cases ht

theorem trConv_sound (hr : Rel G w0 γ σ w n ds sl a) {s t : TypeId} {x : Operand} {so : SOp} (ho : o.op = .convert s t x) (ht : trConv P s t x = some so) (h : sOp P G so sl σ K Kp) : Does P G o a w w0 γ K Kp := by
  unfold trConv at ht
  split at ht
  · rename_i ox hx
    split at ht
    · rename_i hs hd; injection ht with ht; subst ht; exact do_i2i hr ho hs hd hx h
    · rename_i hs hd; injection ht with ht; subst ht; exact do_s2s hr ho hs hd hx h
    · rename_i e hs hd
      split at ht
      · rename_i he; injection ht with ht; subst ht; exact do_b2s hr ho hs he hd hx h
      · cases ht
    · rename_i e hs hd
      split at ht
      · rename_i he; injection ht with ht; subst ht; exact do_s2b hr ho hs hd he hx h
      · cases ht
    · cases ht
  · cases ht

theorem trCall_sound (hr : Rel G w0 γ σ w n ds sl a) {c : Call} {so : SOp} (ho : o.op = .call c) (ht : trCall P c = some so) (h : sOp P G so sl σ K Kp) : Does P G o a w w0 γ K Kp := by
  unfold trCall at ht
  split at ht
  · split at ht
    · rename_i xs hx; injection ht with ht; subst ht; exact do_call hr ho hx h
    · cases ht
  · split at ht
    · rename_i y xs hy hx; injection ht with ht; subst ht; exact do_callv hr ho hy hx h
    · cases ht
  · cases ht
  · split at ht
    · split at ht
      · rename_i ox hx hu; injection ht with ht; subst ht; exact do_len hr ho (.inl ⟨rfl, hu⟩) hx h
      · rename_i ox e hx hu; injection ht with ht; subst ht; exact do_len hr ho (.inr ⟨rfl, _, hu⟩) hx h
      · cases ht
    · split at ht
      · rename_i xs _ ys hx; injection ht with ht; subst ht; exact do_mm (mx := true) hr ho hx h
      · cases ht
    · split at ht
      · rename_i xs _ ys hx; injection ht with ht; subst ht; exact do_mm (mx := false) hr ho hx h
      · cases ht
    · split at ht
      · rename_i ox oy e hx hy hu
        split at ht
        · rename_i i hi
          split at ht
          · rename_i z hz
            split at ht
            · rename_i hc
              split at ht
              · rename_i e2 hu2; injection ht with ht; subst ht
                exact do_append hr ho hu hi hz hc.1 hc.2 hu2 hx hy h
              · rename_i hu2
                split at ht
                · rename_i h1; injection ht with ht; subst ht
                  exact do_append_str hr ho hu hi hz hc.1 h1 hu2 hx hy h
                · cases ht
              · cases ht
            · cases ht
          · cases ht
        · cases ht
      · cases ht
    · split at ht
      · rename_i ox hx; injection ht with ht; subst ht; exact do_panic hr (.inr ⟨_, ho⟩) hx h
      · cases ht
    · cases ht

theorem sOp_sound (hr : Rel G w0 γ σ w n ds sl a) {so : SOp} (ht : trOp P o.op = some so) (h : sOp P G so sl σ K Kp) : Does P G o a w w0 γ K Kp := by
  generalize hop : o.op = op at ht
  unfold trOp at ht
  split at ht
  · split at ht
    · rename_i y hx; injection ht with ht; subst ht; exact do_mv hr (.inl hop) hx h
    · cases ht
  · split at ht
    · rename_i y hx; injection ht with ht; subst ht; exact do_mv hr (.inr hop) hx h
    · cases ht
  · split at ht
    · rename_i oc ox oy hc hx hy; injection ht with ht; subst ht; exact do_pick hr hop hc hx hy h
    · cases ht
  · split at ht
    · rename_i z hz; injection ht with ht; subst ht; exact do_alloc hr hop hz h
    · cases ht
  · split at ht
    · rename_i y hx; injection ht with ht; subst ht; exact do_box hr hop hx h
    · cases ht
  · split at ht
    · rename_i z hz
      split at ht
      · rename_i ps hp
        split at ht
        · rename_i hpl; injection ht with ht; subst ht
          refine do_build hr hop hz hp ?_ h
          unfold placesOK at hpl
          split at hpl
          · rename_i fs hf; exact .inl ⟨fs, hf, hpl⟩
          · rename_i m e he
            obtain ⟨i, hi⟩ := Option.isSome_iff_exists.1 hpl
            exact .inr ⟨m, e, i, he, hi⟩
          · cases hpl
        · cases ht
      · cases ht
    · cases ht
  · split at ht
    · rename_i e hu
      split at ht
      · rename_i i z ps hi hz hp
        split at ht
        · rename_i hc; injection ht with ht; subst ht
          exact do_mkslice hr hop hu hi hz hc.1 hp hc.2.1 hc.2.2 h
        · cases ht
      · cases ht
    · cases ht
  · split at ht
    · rename_i ox g i hx hg hi
      split at ht
      · rename_i hs; injection ht with ht; subst ht; exact do_load hr hop hx hg hi hs h
      · cases ht
    · cases ht
  · split at ht
    · rename_i ox oy i hx hy hi; injection ht with ht; subst ht; exact do_store hr hop hx hy hi h
    · cases ht
  · split at ht
    · rename_i y hx; injection ht with ht; subst ht; exact do_nilchk hr hop hx h
    · cases ht
  · exact trBin_sound hr hop ht h
  · split at ht
    · rename_i y hx; injection ht with ht; subst ht; exact do_un hr hop hx h
    · cases ht
  · exact trConv_sound hr hop ht h
  · split at ht
    · cases ht
    · rename_i ox d hni hx hd; injection ht with ht; subst ht
      refine do_mkif hr hop hd ?_ hx h
      cases d <;> first | rfl | (exact absurd rfl (hni _))
    · cases ht
  · split at ht
    · rename_i u v hf hc; injection ht with ht; subst ht; exact do_mkfn hr hop hf hc h
    · cases ht
  · split at ht
    · rename_i ox olo ohi hx hlo hhi
      split at ht
      · rename_i hu; injection ht with ht; subst ht; exact do_cuts hr hop hu hx (trOpt_eq hlo) (trOpt_eq hhi) h
      · rename_i e hu
        split at ht
        · rename_i i hi; injection ht with ht; subst ht; exact do_slice hr hop hu hi hx (trOpt_eq hlo) (trOpt_eq hhi) h
        · cases ht
      · cases ht
    · cases ht
  · split at ht
    · rename_i ox fs hx hu
      split at ht
      · rename_i f hf
        split at ht
        · rename_i i hi
          split at ht
          · rename_i hs; injection ht with ht; subst ht; exact do_faddr hr hop hu hf hi hs hx h
          · cases ht
        · cases ht
      · cases ht
    · cases ht
  · split at ht
    · rename_i ox fs hx hu
      split at ht
      · rename_i f hf
        split at ht
        · rename_i i g hi hg
          split at ht
          · rename_i hs; injection ht with ht; subst ht; exact do_field hr hop hu hf hi hg hs hx h
          · cases ht
        · cases ht
      · cases ht
    · cases ht
  · split at ht
    · rename_i ox oy e hx hy hu
      split at ht
      · rename_i i hi; injection ht with ht; subst ht; exact do_iaddr hr hop hu hi hx hy h
      · cases ht
    · rename_i ox oy m e hx hy hu
      split at ht
      · rename_i i hi; injection ht with ht; subst ht; exact do_iaddrA hr hop hu hi hx hy h
      · cases ht
    · cases ht
  · split at ht
    · rename_i ox oy hx hy hu; injection ht with ht; subst ht; exact do_idxs hr hop hu hx hy h
    · rename_i ox oy m e hx hy hu
      split at ht
      · rename_i i g hi hg
        split at ht
        · rename_i hs; injection ht with ht; subst ht; exact do_idxa hr hop hu hi hg hs hx hy h
        · cases ht
      · cases ht
    · cases ht
  · split at ht
    · rename_i y hx; injection ht with ht; subst ht; exact do_extract hr hop hx h
    · cases ht
  · exact trCall_sound hr hop ht h
  · split at ht
    · rename_i y hx; injection ht with ht; subst ht; exact do_panic hr (.inl hop) hx h
    · cases ht
  · split at ht
    · cases ht
    · rename_i ox d hni hx hd
      split at ht
      · rename_i z g hz hg
        split at ht
        · rename_i hzg; injection ht with ht; subst ht
          refine do_tassert hr hop hd ?_ hz hg ?_ hx h
          · cases d <;> first | rfl | (exact absurd rfl (hni _))
          · intro i v hi hv
            unfold zeroAgg at hzg
            simp only [hi, hv] at hzg
            cases v <;> simp_all
        · cases ht
      · cases ht
    · cases ht
  · cases ht

end
end Go.Shadow
