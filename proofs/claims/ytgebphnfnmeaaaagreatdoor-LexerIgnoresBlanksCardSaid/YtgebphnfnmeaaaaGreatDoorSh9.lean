/- THE SHADOW LOGIC, part 9: literals, append, conversions of bytes, calls: sound. -/
import Derived.Test.YtgebphnfnmeaaaaGreatDoorSh8
namespace Go.Shadow
open Go Go.RowKit

section
variable {P : Program} {G : Globs} {w0 w : World} {γ : Gh} {σ : St} {n : Nat} {ds : List Deferred} {sl : Slots} {a : Act} {o : Oper} {K Kp : V → St → Prop}

theorem setL_length : ∀ (vs : List V) (cs : List V) (off : Nat), (setL cs off vs).length = cs.length
  | [], cs, off => rfl
  | v :: vs, cs, off => by rw [setL, setL_length vs]; simp

theorem foldl_setL {B : Nat} {γ : Gh} {w : World} {off : Nat} : ∀ {us : List Value} {vs : List V} {i : Nat} {cells : Array Value} {cs : List V}, RL B γ w vs us → RL B γ w cs cells.toList → 
    RL B γ w (setL cs (off + i) vs) ((us.zipIdx i).foldl (fun (q : Array Value) (p : Value × Nat) => q.setIfInBounds (off + p.2) p.1) cells).toList
  | us, [], i, cells, cs, h, hc => by
    have : us = [] := h.inv_nil
    subst this
    exact hc
  | us, v :: vs, i, cells, cs, h, hc => by
    obtain ⟨u, us', rfl, h1, h2⟩ := h.inv_cons
    simp only [List.zipIdx_cons, List.foldl_cons, setL]
    have := foldl_setL (off := off) (i := i + 1) (cells := cells.setIfInBounds (off + i) u) (cs := cs.set (off + i) v) h2 (by
      refine ⟨by simpa using hc.1, fun j x y hx hy => ?_⟩
      rw [List.getElem?_set] at hx
      simp only [Array.toList_setIfInBounds, List.getElem?_set] at hy
      have hl := hc.1
      split at hx
      · rename_i hij; subst hij
        split at hx
        · rename_i hlt
          injection hx with hx
          simp only [if_true, ← hl, hlt] at hy
          injection hy with hy
          subst hx; subst hy; exact h1
        · cases hx
      · rename_i hij
        simp only [if_neg hij] at hy
        exact hc.2 j x y hx hy)
    rwa [show off + (i + 1) = off + i + 1 by omega] at this

theorem fill_sound {B : Nat} {γ : Gh} {w : World} {place : Nat → Option (Nat × Nat)} : ∀ {ps : List (Nat × Value)} {qs : List (Nat × List V)} {cells : Array Value} {cs : List V}, RL B γ w cs cells.toList →
    ps.length = qs.length → (∀ (j : Nat) (p : Nat × Value) (q : Nat × List V), ps[j]? = some p → qs[j]? = some q → place p.1 = some (q.1, q.2.length) ∧ RL B γ w q.2 p.2.cells.toList ∧ q.1 + q.2.length ≤ cs.length) →
    ∃ cells', Instr.fill place cells ps = some cells' ∧ RL B γ w (fillL cs qs) cells'.toList ∧ (fillL cs qs).length = cs.length
  | [], qs, cells, cs, hc, hl, _ => by
    have : qs = [] := List.eq_nil_of_length_eq_zero hl.symm
    subst this
    exact ⟨cells, rfl, hc, rfl⟩
  | p :: ps, [], cells, cs, hc, hl, _ => by simp at hl
  | p :: ps, q :: qs, cells, cs, hc, hl, h => by
    obtain ⟨h1, h2, h3⟩ := h 0 p q rfl rfl
    have hsz : p.2.cells.size = q.2.length := by have := h2.1; simpa using this.symm
    have hcl : cs.length = cells.size := by simpa using hc.1
    have hf := foldl_setL (off := q.1) (i := 0) h2 hc
    have hlen : (setL cs q.1 q.2).length = cs.length := setL_length _ _ _
    obtain ⟨cells', h4, h5, h6⟩ := fill_sound (place := place) (ps := ps) (qs := qs) (cells := (p.2.cells.toList.zipIdx 0).foldl (fun (z : Array Value) (y : Value × Nat) => z.setIfInBounds (q.1 + y.2) y.1) cells) (cs := setL cs q.1 q.2) (by simpa using hf) (by simpa using hl) (fun j p' q' hp hq => by
      obtain ⟨g1, g2, g3⟩ := h (j + 1) p' q' (by simpa using hp) (by simpa using hq)
      exact ⟨g1, g2, by rw [hlen]; exact g3⟩)
    refine ⟨cells', ?_, h5, h6.trans hlen⟩
    obtain ⟨pi, pv⟩ := p
    simp only at h1 hsz h4
    simp only [Instr.fill, h1, hsz, ne_eq, not_true_eq_false, decide_false, Bool.false_or]
    rw [if_neg (by simp; omega)]
    rw [← h4]
    congr 1
    rw [← Array.foldl_toList]
    congr 1
    simp [Array.toList_zipIdx]

theorem offs_get : ∀ {parts : List (Nat × Nat × Opd)} {vs : List V}, partsOK parts vs → (offs parts vs).length = parts.length ∧ parts.length = vs.length ∧ ∀ (j : Nat) (q : Nat × List V), (offs parts vs)[j]? = some q → ∃ p v, parts[j]? = some p ∧ vs[j]? = some v ∧ q = (p.1, v.cells) ∧ v.notTup = true ∧ v.cells.length = p.2.1
  | [], [], _ => ⟨rfl, rfl, fun j q h => by simp [offs] at h⟩
  | [], v :: vs, h => h.elim
  | p :: ps, [], h => h.elim
  | p :: ps, v :: vs, ⟨h1, h2, h3⟩ => by
    obtain ⟨g1, g2, g3⟩ := offs_get h3
    refine ⟨by simp [offs, g1], by simp [g2], fun j q hq => ?_⟩
    cases j with
    | zero => simp [offs] at hq; exact ⟨p, v, rfl, rfl, hq.symm, h1, h2⟩
    | succ j => obtain ⟨p', v', k1, k2, k3⟩ := g3 j q (by simpa [offs] using hq); exact ⟨p', v', by simpa using k1, by simpa using k2, k3⟩

/-- The places of a struct's or an array's parts. -/
def placeOf (P : Program) (t : TypeId) (k : Nat) : Option (Nat × Nat) := match P.underlying t with
  | some (.struct fs) => match fs[k]? with
    | some f => (P.info? f.type).map fun i => (f.offset, i.size)
    | none => none
  | some (.array _ e) => (P.info? e).map fun i => (k * i.size, i.size)
  | _ => none
def trParts (P : Program) (t : TypeId) (len : Nat) : List (Nat × Operand) → Option (List (Nat × Nat × Opd))
  | [] => some []
  | (k, x) :: r => match placeOf P t k, trOpd x, trParts P t len r with
    | some (off, sz), some ox, some ps => if off + sz ≤ len then some ((off, sz, ox) :: ps) else none
    | _, _, _ => none

theorem trParts_sound {t : TypeId} {len : Nat} : ∀ {l : List (Nat × Operand)} {ps : List (Nat × Nat × Opd)}, trParts P t len l = some ps → trOpds (l.map (·.2)) = some (ps.map (·.2.2)) ∧ l.length = ps.length ∧
    ∀ (j : Nat) (q : Nat × Operand) (p : Nat × Nat × Opd), l[j]? = some q → ps[j]? = some p → placeOf P t q.1 = some (p.1, p.2.1) ∧ p.1 + p.2.1 ≤ len
  | [], ps, h => by simp [trParts] at h; subst h; exact ⟨rfl, rfl, fun j q p hq => by simp at hq⟩
  | (k, x) :: r, ps, h => by
    simp only [trParts] at h
    split at h
    · rename_i off sz ox ps' h1 h2 h3
      split at h
      · rename_i hle
        injection h with h; subst h
        obtain ⟨g1, g2, g3⟩ := trParts_sound h3
        refine ⟨by simp [trOpds, h2, g1], by simp [g2], fun j q p hq hp => ?_⟩
        cases j with
        | zero => simp at hq hp; subst hq; subst hp; exact ⟨h1, hle⟩
        | succ j => exact g3 j q p (by simpa using hq) (by simpa using hp)
      · cases h
    · cases h

theorem mapM_places {fs : List Field} {l : List (Nat × Nat)} (h : fs.mapM (fun f => (P.info? f.type).map fun i => (f.offset, i.size)) = some l) : ∀ (k : Nat), l[k]? = (match fs[k]? with | some f => (P.info? f.type).map fun i => (f.offset, i.size) | none => none) := by
  induction fs generalizing l with
  | nil => intro k; simp at h; subst h; simp
  | cons f fs ih =>
    intro k
    rw [List.mapM_cons] at h
    cases hf : P.info? f.type with
    | none => simp [hf] at h
    | some i =>
      cases hm : fs.mapM (fun f => (P.info? f.type).map fun i => (f.offset, i.size)) with
      | none => simp [hf, hm] at h
      | some l' =>
        simp [hf, hm] at h
        subst h
        cases k with
        | zero => simp [hf]
        | succ k => simpa using ih hm k

theorem do_build (hr : Rel G w0 γ σ w n ds sl a) {t : TypeId} {parts : Array (Nat × Operand)} {z : List V} {ps : List (Nat × Nat × Opd)} (ho : o.op = .build t parts) (hz : zeroL P t = some z) (hp : trParts P t z.length parts.toList = some ps)
    (hpl : (∃ fs, P.underlying t = some (.struct fs) ∧ (fs.toList.mapM (fun (f : Field) => (P.info? f.type).map fun (i : TypeInfo) => (f.offset, i.size))).isSome = true) ∨ ∃ m e i, P.underlying t = some (.array m e) ∧ P.info? e = some i) (h : sOp P G (.build z ps) sl σ K Kp) : Does P G o a w w0 γ K Kp := by
  simp only [sOp] at h
  obtain ⟨i, zv, hi, hzv, hzs, hzt⟩ := zeroL_sound hz
  obtain ⟨hops, hlen, hplaces⟩ := trParts_sound hp
  split at h
  · rename_i vs hvs
    obtain ⟨hok, h⟩ := h
    have hRL := evs_sound hr hops hvs
    obtain ⟨o1, o2, o3⟩ := offs_get hok
    have hget : ∀ (j : Nat) (p : Nat × Value) (q : Nat × List V), (parts.map fun (i, x) => (i, a.eval x)).toList[j]? = some p → (offs ps vs)[j]? = some q →
        placeOf P t p.1 = some (q.1, q.2.length) ∧ RL w0.heap.size γ w q.2 p.2.cells.toList ∧ q.1 + q.2.length ≤ z.length := by
      intro j p q hpj hq
      obtain ⟨p', v, k1, k2, rfl, k4, k5⟩ := o3 j q hq
      simp only [Array.toList_map, List.getElem?_map, Option.map_eq_some_iff] at hpj
      obtain ⟨⟨pi, px⟩, hpp, rfl⟩ := hpj
      obtain ⟨g1, g2⟩ := hplaces j (pi, px) p' hpp k1
      have hRv := hRL.2 j v (a.eval px) k2 (by simp [hpp])
      exact ⟨by rw [k5]; exact g1, hRv.cells (hRv.cells_one k4), by rw [k5]; exact g2⟩
    have hzr := trVs_sound (B := w0.heap.size) (γ := γ) (w := w) hzt
    have hl2 : (parts.map fun (i, x) => (i, a.eval x)).toList.length = (offs ps vs).length := by rw [o1, ← hlen]; simp
    have hone : ∀ (j : Nat) (x : V), (fillL z (offs ps vs))[j]? = some x → x.one = true := by
      have hall : ∀ q ∈ offs ps vs, ∀ x ∈ q.2, V.one x = true := by
        intro q hq x hx
        obtain ⟨j, hj⟩ := List.getElem?_of_mem hq
        obtain ⟨p', v, k1, k2, rfl, k4, k5⟩ := o3 j q hj
        have hjl : j < parts.toList.length := by rw [hlen]; exact (List.getElem?_eq_some_iff.1 k1).1
        have hRv := hRL.2 j v (a.eval (parts.toList[j]).2) k2 (by simp [List.getElem?_eq_getElem hjl])
        obtain ⟨j2, hj2⟩ := List.getElem?_of_mem hx
        exact hRv.cells_one k4 j2 x hj2
      have hset : ∀ (vs cs : List V) (off : Nat), (∀ x ∈ cs, V.one x = true) → (∀ x ∈ vs, V.one x = true) → ∀ x ∈ setL cs off vs, V.one x = true := by
        intro vs
        induction vs with
        | nil => intro cs off hc _; exact hc
        | cons v vs ih =>
          intro cs off hc hv
          refine ih _ _ (fun x hx => ?_) (fun x hx => hv x (by simp [hx]))
          rcases List.mem_or_eq_of_mem_set hx with h | h
          · exact hc x h
          · subst h; exact hv _ (by simp)
      have hfill : ∀ (qs : List (Nat × List V)) (cs : List V), (∀ x ∈ cs, V.one x = true) → (∀ q ∈ qs, ∀ x ∈ q.2, V.one x = true) → ∀ x ∈ fillL cs qs, V.one x = true := by
        intro qs
        induction qs with
        | nil => intro cs hc _; exact hc
        | cons q qs ih => intro cs hc hq; exact ih _ (hset _ _ _ hc (hq q (by simp))) (fun q' hq' => hq q' (by simp [hq']))
      intro j x hx
      exact hfill _ _ (fun y hy => by obtain ⟨j2, hj2⟩ := List.getElem?_of_mem hy; exact trVs_one hzt j2 y hj2) hall x (List.mem_of_getElem? hx)
    have hfin : ∀ cells', P.built t (parts.map fun (i, x) => (i, a.eval x)).toList = some cells' → RL w0.heap.size γ w (fillL z (offs ps vs)) cells'.toList → Does P G o a w w0 γ K Kp := by
      intro cells' hb hrl
      refine .same hr.inv (x := .agg cells') ?_ (.agg _ _ (by simpa using hrl.1) hone (fun j x y hx hy => hrl.2 j x y hx (by simpa using hy))) h
      simp only [execOp, ho, Sem.run_bind, run_build w t _ cells' hb, Result.andThen_ok]
      rfl
    rcases hpl with ⟨fs, hfs, hm⟩ | ⟨m, e, ie, he, hie⟩
    · obtain ⟨l, hl⟩ := Option.isSome_iff_exists.1 hm
      have hpe : ∀ k, l.toArray[k]? = placeOf P t k := by
        intro k
        simp only [placeOf, hfs, List.getElem?_toArray, mapM_places hl k]
        simp
      obtain ⟨cells', h1, h2, h3⟩ := fill_sound (place := (l.toArray[·]?)) hzr hl2 (fun j p q hj hq => by obtain ⟨g1, g2, g3⟩ := hget j p q hj hq; exact ⟨by rw [hpe]; exact g1, g2, g3⟩)
      exact hfin cells' (by simp only [Program.built, hi, hfs, hzv, hl]; exact h1) h2
    · have hpe : ∀ k, (some (k * ie.size, ie.size) : Option (Nat × Nat)) = placeOf P t k := by intro k; simp [placeOf, he, hie]
      obtain ⟨cells', h1, h2, h3⟩ := fill_sound (place := fun k => some (k * ie.size, ie.size)) hzr hl2 (fun j p q hj hq => by obtain ⟨g1, g2, g3⟩ := hget j p q hj hq; exact ⟨by rw [hpe]; exact g1, g2, g3⟩)
      exact hfin cells' (by simp only [Program.built, hi, he, hzv, hie]; exact h1) h2
  · exact h.elim

end
end Go.Shadow
