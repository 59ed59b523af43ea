/- THE SHADOW LOGIC, part 10: slice literals, max and min, append, bytes, calls: sound. -/
import Derived.Test.YtgebphnfnmeaaaaGreatDoorSh9
namespace Go.Shadow
open Go Go.RowKit

section
variable {P : Program} {G : Globs} {w0 w : World} {γ : Gh} {σ : St} {n : Nat} {ds : List Deferred} {sl : Slots} {a : Act} {o : Oper} {K Kp : V → St → Prop}

theorem setL_mid (pre mid post vs : List V) (h : mid.length = vs.length) : setL (pre ++ mid ++ post) pre.length vs = pre ++ vs ++ post := by
  induction vs generalizing pre mid with
  | nil => have : mid = [] := List.eq_nil_of_length_eq_zero h; subst this; rfl
  | cons v vs ih =>
    cases mid with
    | nil => simp at h
    | cons m mid =>
      have := ih (pre ++ [v]) mid (by simpa using h)
      simp only [setL]
      rw [show (pre ++ (m :: mid) ++ post).set pre.length v = (pre ++ [v]) ++ mid ++ post by simp]
      rw [show pre.length + 1 = (pre ++ [v]).length by simp, this]
      simp

theorem elsOK_get {s : Nat} : ∀ {vs : List V}, elsOK s vs → ∀ v ∈ vs, v.notTup = true ∧ v.cells.length = s
  | [], _, v, hv => by simp at hv
  | u :: us, ⟨h1, h2, h3⟩, v, hv => by
    simp at hv
    rcases hv with rfl | hv
    · exact ⟨h1, h2⟩
    · exact elsOK_get h3 v hv

theorem fillL_all {s : Nat} : ∀ (vs : List V) (k : Nat) (pre rest : List V), (∀ v ∈ vs, v.cells.length = s) → pre.length = k * s → rest.length = vs.length * s →
    fillL (pre ++ rest) ((vs.zipIdx k).map fun p => (p.2 * s, p.1.cells)) = pre ++ (vs.map V.cells).flatten
  | [], k, pre, rest, _, _, hr => by
    have : rest = [] := List.eq_nil_of_length_eq_zero (by simpa using hr)
    subst this; simp [fillL]
  | v :: vs, k, pre, rest, hv, hp, hr => by
    have hvl := hv v (by simp)
    simp only [List.zipIdx_cons, List.map_cons, fillL, List.flatten_cons]
    have hsplit : rest = rest.take s ++ rest.drop s := (List.take_append_drop s rest).symm
    have hrl : s ≤ rest.length := by rw [hr]; simp [Nat.succ_mul]
    have h1 : setL (pre ++ rest) (k * s) v.cells = (pre ++ v.cells) ++ rest.drop s := by
      rw [← hp]
      conv => lhs; rw [hsplit, ← List.append_assoc]
      rw [setL_mid pre (rest.take s) (rest.drop s) v.cells (by simp [hvl, Nat.min_eq_left hrl])]
    rw [h1, fillL_all vs (k + 1) (pre ++ v.cells) (rest.drop s) (fun u hu => hv u (by simp [hu])) (by simp [hp, hvl, Nat.succ_mul]) (by simp [hr, Nat.succ_mul])]
    simp

/-- The parts of a slice literal, each once and in order. -/
def trEls : Nat → List (Nat × Operand) → Option (List Opd)
  | _, [] => some []
  | k, (i, x) :: r => if i = k then match trOpd x, trEls (k + 1) r with
    | some y, some ys => some (y :: ys)
    | _, _ => none
    else none

theorem trEls_sound : ∀ {l : List (Nat × Operand)} {k : Nat} {ys : List Opd}, trEls k l = some ys → trOpds (l.map (·.2)) = some ys ∧ l = ((l.map (·.2)).zipIdx k).map fun p => (p.2, p.1)
  | [], k, ys, h => by simp [trEls] at h; subst h; exact ⟨rfl, rfl⟩
  | (i, x) :: r, k, ys, h => by
    simp only [trEls] at h
    split at h
    · rename_i hik; subst hik
      split at h
      · rename_i y ys' h1 h2
        injection h with h; subst h
        obtain ⟨g1, g2⟩ := trEls_sound h2
        refine ⟨by simp [trOpds, h1, g1], ?_⟩
        rw [List.map_cons, List.zipIdx_cons, List.map_cons, ← g2]
      · cases h
    · cases h

theorem do_mkslice (hr : Rel G w0 γ σ w n ds sl a) {t e : TypeId} {len : Nat} {parts : Array (Nat × Operand)} {i : TypeInfo} {z : List V} {ps : List Opd} (ho : o.op = .buildSlice t len parts) (ht : P.underlying t = some (.slice e)) (hi : P.info? e = some i) (hz : zeroL P e = some z) (hs : 0 < i.size)
    (hp : trEls 0 parts.toList = some ps) (hl : parts.size = len) (hsm : len * i.size ≤ 16777216) (h : sOp P G (.mkslice i.size ps) sl σ K Kp) : Does P G o a w w0 γ K Kp := by
  simp only [sOp] at h
  obtain ⟨i', zv, hi', hzv, hzs, hzt⟩ := zeroL_sound hz
  rw [hi] at hi'; injection hi' with hi'; subst hi'
  obtain ⟨hops, hpl⟩ := trEls_sound hp
  split at h
  · rename_i vs hvs
    obtain ⟨hok, h⟩ := h
    have hRL := evs_sound hr hops hvs
    have hlen : vs.length = len := by have := hRL.1; simp at this; omega
    have hzl : zv.cells.size = z.length := by have := (trVs_sound (B := 0) (γ := γ) (w := w) hzt).1; simpa using this.symm
    -- the row before the parts
    have hzeros : ∃ (Z : Array Value) (zs : List V), (if len * i.size = 0 then (pure #[] : Sem (Array Value)) else do pure (← zeroValue e).cells).run P w = .ok (if len * i.size = 0 then #[] else zv.cells) w ∧
        Z = (Array.range (len * i.size)).map (fun k => (if len * i.size = 0 then (#[] : Array Value) else zv.cells)[k % (if len * i.size = 0 then (#[] : Array Value) else zv.cells).size]!) ∧ RL w0.heap.size γ w zs Z.toList ∧ zs.length = len * i.size := by
      refine ⟨_, (List.range (len * i.size)).map (fun k => z.getD (k % i.size) .nilptr), ?_, rfl, ?_, by simp⟩
      · split
        · rfl
        · simp [zeroValue, typeInfo, hi, hzv]
      · refine ⟨by simp, fun k x y hx hy => ?_⟩
        have hk : k < len * i.size := by have := (List.getElem?_eq_some_iff.1 hx).1; simpa using this
        have hne : ¬ (len * i.size = 0) := by omega
        simp only [if_neg hne] at hy
        simp [hk] at hx
        simp [hk] at hy
        have hm : k % i.size < i.size := Nat.mod_lt _ hs
        have hml : k % i.size < z.length := by omega
        rw [hzs] at hy
        rw [List.getElem?_eq_getElem hml] at hx
        simp at hx
        have := (trVs_sound (B := w0.heap.size) (γ := γ) (w := w) hzt).2 (k % i.size) x y (by rw [List.getElem?_eq_getElem hml, hx]) (by
          rw [getElem!_pos zv.cells (k % i.size) (by omega)] at hy
          simp [show k % i.size < zv.cells.size by omega, hy])
        exact this
    obtain ⟨Z, zs, hz0, hZ, hzr, hzl2⟩ := hzeros
    have hqs : (parts.map fun (i, x) => (i, a.eval x)).toList.length = ((vs.zipIdx 0).map fun p => (p.2 * i.size, p.1.cells)).length := by simp [hl, hlen]
    obtain ⟨cells', h1, h2, h3⟩ := fill_sound (place := fun k => some (k * i.size, i.size)) hzr hqs (fun j p q hj hq => by
      simp only [List.getElem?_map, List.getElem?_zipIdx, Option.map_eq_some_iff, Nat.zero_add] at hq
      obtain ⟨⟨v, k⟩, ⟨v', hv', hvk⟩, rfl⟩ := hq
      injection hvk with e1 e2; subst e1; subst e2
      simp only [Array.toList_map, List.getElem?_map, Option.map_eq_some_iff] at hj
      obtain ⟨⟨pi, px⟩, hpp, rfl⟩ := hj
      have hjl : j < vs.length := (List.getElem?_eq_some_iff.1 hv').1
      obtain ⟨hn, hc⟩ := elsOK_get hok v' (List.mem_of_getElem? hv')
      have hpij : pi = j := by
        rw [hpl] at hpp
        simp only [List.getElem?_map, List.getElem?_zipIdx, Option.map_eq_some_iff, Nat.zero_add] at hpp
        obtain ⟨⟨q1, q2⟩, ⟨_, _, h5⟩, h6⟩ := hpp
        injection h5 with _ h5
        injection h6 with h6 _
        simp at h5 h6
        omega
      subst hpij
      have hRv := hRL.2 pi v' (a.eval px) hv' (by
        have : (parts.toList.map (·.2))[pi]? = some px := by simp only [List.getElem?_map, hpp]; rfl
        simp only [List.getElem?_map] at this ⊢
        rw [hpp]; rfl)
      refine ⟨by simp [hc], hRv.cells (hRv.cells_one hn), ?_⟩
      simp only [hc, hzl2]
      rw [← Nat.succ_mul]
      exact Nat.mul_le_mul_right _ (by omega))
    have hfl := fillL_all (s := i.size) vs 0 [] zs (fun v hv => (elsOK_get hok v hv).2) (by simp) (by rw [hzl2, hlen])
    simp only [List.nil_append] at hfl
    rw [hfl] at h2
    -- the new row
    obtain ⟨γ', hI, hE, hrow, _⟩ := hr.inv.row_new e cells'
    have hrun : (execOp a.eval o).run P w = .ok (.value (.slice (some ⟨w.heap.size, 0, none⟩) len len)) (w.alloc (.cells cells' e)) := by
      have hns : ¬ (len * i.size > 16777216) := by omega
      by_cases h0 : len * i.size = 0
      · simp only [if_pos h0] at hZ
        rw [hZ] at h1
        simp only [execOp, ho, Instr.buildSlice, Sem.run_bind, run_underlying ht, Result.andThen_ok, sizeOf, typeInfo, run_program, hi, Sem.run_pure, Nat.reducePow, if_neg hns, if_pos h0]
        change ((Sem.run P (match Instr.fill _ _ _ with | some cells => _ | _ => _) w).andThen _) = _
        rw [h1]
        rfl
      · simp only [if_neg h0] at hZ
        rw [hZ] at h1
        simp only [execOp, ho, Instr.buildSlice, Sem.run_bind, run_underlying ht, Result.andThen_ok, sizeOf, typeInfo, zeroValue, run_program, hi, hzv, Sem.run_pure, Nat.reducePow, if_neg hns, if_neg h0]
        change ((Sem.run P (match Instr.fill _ _ _ with | some cells => _ | _ => _) w).andThen _) = _
        rw [h1]
        rfl
    have hcs : cells'.size = len * i.size := by
      have := h2.1
      rw [← List.length_map (as := vs) (f := V.cells)] at hlen
      simp only [Array.length_toList] at this
      rw [← this, flatten_length (s := i.size) (fun k el hel => by
        simp only [List.getElem?_map, Option.map_eq_some_iff] at hel
        obtain ⟨v, hv, rfl⟩ := hel
        exact (elsOK_get hok v (List.mem_of_getElem? hv)).2), hlen]
    have hels : ∀ (k : Nat) (el : List V), (vs.map V.cells)[k]? = some el → el.length = i.size := by
      intro k el hel
      simp only [List.getElem?_map, Option.map_eq_some_iff] at hel
      obtain ⟨v, hv, rfl⟩ := hel
      exact (elsOK_get hok v (List.mem_of_getElem? hv)).2
    have hnb := heap_alloc_new w (.cells cells' e)
    have h2' := h2.ext hE
    refine .value hrun hE hI ?_ h
    have hmk := R.slice (B := w0.heap.size) (γ := γ') (w := w.alloc (.cells cells' e)) .full i.size (vs.map V.cells) (some ⟨w.heap.size, 0, none⟩) len w.heap.size 0 (fun k => cells'.toList.getD k undef) hels (by simp [hlen]) (.inl rfl) (by simp [TagOK, hlen])
      (fun k x hk => ?_) (fun k x hk => ?_) (fun k x hk => ?_)
    · simpa [hlen] using hmk
    · obtain ⟨el, hel, hx⟩ := List.mem_flatten.1 (List.mem_of_getElem? hk)
      obtain ⟨v, hv, rfl⟩ := List.mem_map.1 hel
      obtain ⟨j, hj⟩ := List.getElem?_of_mem hv
      obtain ⟨j2, hj2⟩ := List.getElem?_of_mem hx
      have hjl : j < vs.length := (List.getElem?_eq_some_iff.1 hj).1
      have hjp : j < (parts.toList.map (·.2)).length := by simp [hl]; omega
      have hRv := hRL.2 j v _ hj (by rw [List.getElem?_map, List.getElem?_eq_getElem hjp]; rfl)
      exact hRv.cells_one (elsOK_get hok v hv).1 j2 x hj2
    · have hkl : k < cells'.size := by have := (List.getElem?_eq_some_iff.1 hk).1; have h9 := h2.1; simp only [Array.length_toList] at h9; omega
      refine ⟨.inr ⟨_, hrow, by simpa using hkl⟩, ?_⟩
      simp only [Nat.zero_add]
      rw [cell_of_row _ _ k _ _ _ hnb, List.getD_eq_getElem?_getD]
      simp [hkl]
    · have hkl : k < cells'.size := by have := (List.getElem?_eq_some_iff.1 hk).1; have h9 := h2.1; simp only [Array.length_toList] at h9; omega
      exact h2'.2 k x _ hk (by rw [List.getD_eq_getElem?_getD]; simp [hkl])
  · exact h.elim

theorem mm_sound : ∀ {vs : List V} {us : List Value} {m r : Int} {B : Nat} {γ : Gh}, RL B γ w vs us →
    (maxOf m vs = some r → (us.foldlM Builtin.max2 (.int .i64 m)).run P w = .ok (.int .i64 r) w) ∧ (minOf m vs = some r → (us.foldlM Builtin.min2 (.int .i64 m)).run P w = .ok (.int .i64 r) w)
  | [], us, m, r, B, γ, h => by
    obtain rfl := h.inv_nil
    exact ⟨fun e => by simp [maxOf] at e; subst e; simp, fun e => by simp [minOf] at e; subst e; simp⟩
  | v :: vs, us, m, r, B, γ, h => by
    obtain ⟨u, us', rfl, h1, h2⟩ := h.inv_cons
    refine ⟨fun e => ?_, fun e => ?_⟩
    · cases v <;> first | (simp [maxOf] at e; done) | skip
      rename_i k y
      cases k <;> first | (simp [maxOf] at e; done) | skip
      simp only [maxOf] at e
      cases h1
      have := (mm_sound (m := if y > m then y else m) (r := r) h2).1 e
      simp only [List.foldlM_cons, Builtin.max2, Sem.run_bind, Sem.run_pure, Result.andThen_ok]
      exact this
    · cases v <;> first | (simp [minOf] at e; done) | skip
      rename_i k y
      cases k <;> first | (simp [minOf] at e; done) | skip
      simp only [minOf] at e
      cases h1
      have := (mm_sound (m := if y < m then y else m) (r := r) h2).2 e
      simp only [List.foldlM_cons, Builtin.min2, Sem.run_bind, Sem.run_pure, Result.andThen_ok]
      exact this

theorem do_mm (hr : Rel G w0 γ σ w n ds sl a) {mx : Bool} {xs : Array Operand} {ts : Array TypeId} {oxs : List Opd} (ho : o.op = .call { callee := .builtin (if mx then .max else .min), args := xs, argTypes := ts }) (hx : trOpds xs.toList = some oxs) (h : sOp P G (.mm mx oxs) sl σ K Kp) : Does P G o a w w0 γ K Kp := by
  simp only [sOp] at h
  split at h
  · rename_i x r hv
    have hRL := evs_sound hr hx hv
    obtain ⟨u, us, hus, h1, h2⟩ := hRL.inv_cons
    cases h1
    have hm : (xs.map a.eval).toList = .int .i64 x :: us := by simpa using hus
    split at h
    · rename_i m hmm
      refine .same hr.inv (x := .int .i64 m) ?_ (.int _ _) h
      cases mx
      · have := (mm_sound (P := P) (w := w) (m := x) (r := m) h2).2 (by simpa using hmm)
        simp only [execOp, ho, resolve, invoke, builtin, Sem.run_bind, Sem.run_pure, Result.andThen_ok, Bool.false_eq_true, if_false, Builtin.min_, hm, this]
      · have := (mm_sound (P := P) (w := w) (m := x) (r := m) h2).1 (by simpa using hmm)
        simp only [execOp, ho, resolve, invoke, builtin, Sem.run_bind, Sem.run_pure, Result.andThen_ok, if_true, Builtin.max_, hm, this]
    · exact h.elim
  · exact h.elim

theorem R.retag {B : Nat} {γ : Gh} {w : World} {s s' : Nat} {es : List (List V)} {v : Value} (h : R B γ w (.slice .nil s es) v) : R B γ w (.slice .nil s' es) v := by
  cases h with
  | slice _ _ _ ad cap b off vs hs hl ha htg h1 hc hr =>
    obtain ⟨e1, e2, e3⟩ := htg
    have : es = [] := List.eq_nil_of_length_eq_zero e2
    subst this
    exact .slice .nil s' [] ad cap b off vs (by simp) hl ha ⟨e1, e2, e3⟩ (by simp) (by simp) (by simp)
theorem R.resize {B : Nat} {γ : Gh} {w : World} {s s' : Nat} {v : Value} {tag : Tag} (h : R B γ w (.slice tag s []) v) : R B γ w (.slice .foreign s' []) v := by
  cases h with
  | slice _ _ _ ad cap b off vs hs hl ha htg h1 hc hr => exact .slice .foreign s' [] ad cap b off vs (by simp) hl ha trivial (by simp) (by simp) (by simp)

theorem flatten_byteEls (l : List UInt8) : (byteEls l).flatten = l.map fun b => V.int .u8 b.toNat := by
  induction l with
  | nil => rfl
  | cons b l ih => simp only [byteEls, List.map_cons, List.flatten_cons] at ih ⊢; rw [ih]; rfl

theorem run_append_call {t t2 : TypeId} {x y : Operand} (ho : o.op = .call { callee := .builtin .append, args := #[x, y], argTypes := #[t, t2] }) :
    (execOp a.eval o).run P w = ((Builtin.append_ #[t, t2] o.type #[a.eval x, a.eval y]).run P w).andThen fun v w' => .ok (.value v) w' := by
  simp only [execOp, ho, resolve, invoke, builtin, Sem.run_bind, Sem.run_pure, Result.andThen_ok, List.map_toArray, List.map_cons, List.map_nil]

theorem do_append (hr : Rel G w0 γ σ w n ds sl a) {t t2 e e2 : TypeId} {x y : Operand} {ox oy : Opd} {i : TypeInfo} {z : Value} (ho : o.op = .call { callee := .builtin .append, args := #[x, y], argTypes := #[t, t2] }) (ht : P.underlying t = some (.slice e)) (hi : P.info? e = some i) (hz : i.zero = some z) (hzs : z.cells.size = i.size) (hsz : 0 < i.size)
    (ht2 : P.underlying t2 = some (.slice e2)) (hx : trOpd x = some ox) (hy : trOpd y = some oy) (h : sOp P G (.append i.size i.bytes ox oy) sl σ K Kp) : Does P G o a w w0 γ K Kp := by
  simp only [sOp] at h
  split at h
  · rename_i tag s' es tg2 s2 ns h1 h2
    obtain ⟨hs', hs2, hb, hb2, h⟩ := h
    have e1 := ev_sound hr hx h1
    have e2' := ev_sound hr hy h2
    cases ns with
    | nil =>
      simp only at h
      refine .same hr.inv (x := a.eval x) ?_ e1 h
      have hsrc : Src P w i.size t2 (a.eval y) 0 [] := by
        obtain ⟨news, g1, g2, g3⟩ := Src.of_slice (s := i.size) ht2 (e2'.resize (s' := i.size))
        have : news = [] := List.eq_nil_of_length_eq_zero (by simpa using g1.size)
        subst this; exact g1
      rw [run_append_call ho]
      generalize hxe : a.eval x = xe at e1
      cases e1 with | slice _ _ _ ad cap b off vs hs hl ha htg h1' hc hr' =>
      rw [run_app_none w t t2 o.type e i ht hi ad es.length cap (a.eval y) hsrc hl]
      rfl
    | cons nn ns =>
      have hs2' : s2 = i.size := by rcases hs2 with h | h; exact h; cases h
      subst hs2'
      obtain ⟨news, g1, g2, g3⟩ := Src.of_slice (w := w) ht2 e2'
      have hnse : ∀ (k : Nat) (el : List V), (nn :: ns)[k]? = some el → el.length = i.size := by
        have := e2'
        generalize a.eval y = ye at this
        cases this with | slice _ _ _ ad cap b off vs hs hl ha htg h1' hc hr' => exact hs
      have hns1 : ∀ (k : Nat) (x : V), (nn :: ns).flatten[k]? = some x → x.one = true := by
        have := e2'
        generalize a.eval y = ye at this
        cases this with | slice _ _ _ ad cap b off vs hs hl ha htg h1' hc hr' => exact h1'
      have e1' : R w0.heap.size γ w (.slice tag i.size es) (a.eval x) := by
        rcases hs' with rfl | rfl
        · exact e1.retag
        · exact e1
      have go : (tag = .nil ∨ tag = .full ∨ ∃ k, tag = .tip k ∧ σ.live k = true) → (∀ t', σ.live t' = false → K (.slice (.tip t') i.size (es ++ nn :: ns)) ((match tag with | .tip k => σ.off k | _ => σ).on t')) → Does P G o a w w0 γ K Kp := by
        intro htag hk
        obtain ⟨t', γ', v', w', hrun, hlv, hE, hI, hR⟩ := hr.inv.append (P := P) (t := t) (xT := t2) (ty := o.type) ht hi hz hzs hsz e1' htag g1 hnse g2 hns1 (by simp) hb hb2
        exact .value (by rw [run_append_call ho, hrun]; rfl) hE hI hR (hk t' hlv)
      cases tag with
      | tip k => simp only at h; exact go (.inr (.inr ⟨k, rfl, h.1⟩)) h.2
      | foreign => exact h.elim
      | nil => exact go (.inl rfl) h
      | full => exact go (.inr (.inl rfl)) h
  · exact h.elim

theorem do_append_str (hr : Rel G w0 γ σ w n ds sl a) {t t2 e : TypeId} {x y : Operand} {ox oy : Opd} {i : TypeInfo} {z : Value} (ho : o.op = .call { callee := .builtin .append, args := #[x, y], argTypes := #[t, t2] }) (ht : P.underlying t = some (.slice e)) (hi : P.info? e = some i) (hz : i.zero = some z) (hzs : z.cells.size = i.size) (hs1 : i.size = 1)
    (ht2 : P.underlying t2 = some .string) (hx : trOpd x = some ox) (hy : trOpd y = some oy) (h : sOp P G (.appends i.bytes ox oy) sl σ K Kp) : Does P G o a w w0 γ K Kp := by
  simp only [sOp] at h
  split at h
  · rename_i tag s' es l h1 h2
    obtain ⟨hs', hb, hb2, h⟩ := h
    have hsz : 0 < i.size := by omega
    have e1 := ev_sound hr hx h1
    have e2' := ev_sound hr hy h2
    obtain ⟨s1, hye, hl1⟩ : ∃ s1 : ByteArray, a.eval y = .string s1 ∧ s1.data.toList = l := by
      generalize a.eval y = ye at e2'
      cases e2' with | str _ s1 q1 => exact ⟨s1, rfl, q1⟩
    have hsrc := Src.of_str (P := P) (w := w) ht2 l s1 hl1
    rw [← hye] at hsrc
    rw [← hs1] at hsrc
    cases l with
    | nil =>
      simp only at h
      refine .same hr.inv (x := a.eval x) ?_ e1 h
      rw [run_append_call ho]
      generalize hxe : a.eval x = xe at e1
      cases e1 with | slice _ _ _ ad cap b off vs hs hl ha htg h1' hc hr' =>
      rw [run_app_none w t t2 o.type e i ht hi ad es.length cap (a.eval y) hsrc hl]
      rfl
    | cons c l =>
      have e1' : R w0.heap.size γ w (.slice tag i.size es) (a.eval x) := by
        rcases hs' with rfl | rfl
        · exact e1.retag
        · rw [hs1]; exact e1
      have hflat := flatten_byteEls (c :: l)
      have hRLn : RL w0.heap.size γ w (byteEls (c :: l)).flatten ((c :: l).map fun b => Value.int .u8 b.toNat) := by
        rw [hflat]
        refine ⟨by simp, fun k x y hx hy => ?_⟩
        simp only [List.getElem?_map, Option.map_eq_some_iff] at hx hy
        obtain ⟨b1, hb1, rfl⟩ := hx
        obtain ⟨b2, hb2, rfl⟩ := hy
        rw [hb1] at hb2; injection hb2 with hb2; subst hb2
        exact .int _ _
      have hlen2 : (byteEls (c :: l)).length = (c :: l).length := by simp [byteEls]
      have hnse : ∀ (k : Nat) (el : List V), (byteEls (c :: l))[k]? = some el → el.length = i.size := by
        intro k el hel
        simp only [byteEls, List.getElem?_map, Option.map_eq_some_iff] at hel
        obtain ⟨b, _, rfl⟩ := hel
        simp [hs1]
      have hns1 : ∀ (k : Nat) (x : V), (byteEls (c :: l)).flatten[k]? = some x → x.one = true := by
        intro k x hx
        rw [hflat] at hx
        simp only [List.getElem?_map, Option.map_eq_some_iff] at hx
        obtain ⟨b, _, rfl⟩ := hx
        rfl
      rw [← hlen2] at hsrc hb hb2
      have go : (tag = .nil ∨ tag = .full ∨ ∃ k, tag = .tip k ∧ σ.live k = true) → (∀ t', σ.live t' = false → K (.slice (.tip t') 1 (es ++ byteEls (c :: l))) ((match tag with | .tip k => σ.off k | _ => σ).on t')) → Does P G o a w w0 γ K Kp := by
        intro htag hk
        obtain ⟨t', γ', v', w', hrun, hlv, hE, hI, hR⟩ := hr.inv.append (P := P) (t := t) (xT := t2) (ty := o.type) ht hi hz hzs hsz e1' htag hsrc hnse hRLn hns1 (by simp [byteEls]) hb hb2
        rw [hs1] at hR
        exact .value (by rw [run_append_call ho, hrun]; rfl) hE hI hR (hk t' hlv)
      cases tag with
      | tip k => simp only at h; exact go (.inr (.inr ⟨k, rfl, h.1⟩)) h.2
      | foreign => exact h.elim
      | nil => exact go (.inl rfl) h
      | full => exact go (.inr (.inl rfl)) h
  · exact h.elim

theorem bytes_nums : ∀ {es : List (List V)} {l : List UInt8}, V.bytes es = some l → ∃ ns : List Int, es = ns.map (fun q => [V.int .u8 q]) ∧ l = ns.map fun q => UInt8.ofNat q.toNat
  | [], l, h => by simp [V.bytes] at h; subst h; exact ⟨[], rfl, rfl⟩
  | e :: es, l, h => by
    unfold V.bytes at h
    split at h
    · cases ‹_ :: _ = []›
    · rename_i q r heq
      injection heq with h1 h2; subst h1; subst h2
      split at h
      · simp only [Option.map_eq_some_iff] at h
        obtain ⟨l', hl', rfl⟩ := h
        obtain ⟨ns, e1, e2⟩ := bytes_nums hl'
        exact ⟨q :: ns, by simp [e1], by simp [e2]⟩
      · cases h
    · cases h

theorem do_b2s (hr : Rel G w0 γ σ w n ds sl a) {s t e : TypeId} {x : Operand} {ox : Opd} (ho : o.op = .convert s t x) (hs : P.underlying s = some (.slice e)) (he : P.underlying e = some (.int .u8)) (ht : P.underlying t = some .string) (hx : trOpd x = some ox) (h : sOp P G (.b2s ox) sl σ K Kp) : Does P G o a w w0 γ K Kp := by
  simp only [sOp] at h
  split at h
  · rename_i tag s' es h1
    obtain ⟨hs1, h⟩ := h
    split at h
    · rename_i l hl
      have e1 := ev_sound hr hx h1
      generalize hxe : a.eval x = xe at e1
      obtain ⟨ns, hes, hln⟩ := bytes_nums hl
      cases e1 with | slice _ _ _ ad cap b off vs hsz hcap ha htg h1' hc hr' =>
      have hflat : es.flatten = ns.map fun q => V.int .u8 q := by
        rw [hes]; clear hes hln; induction ns with
        | nil => rfl
        | cons q ns ih => simp [ih]
      have hlen : es.length = ns.length := by rw [hes]; simp
      have hstr : (strOfNums ns).data.toList = l := by rw [strOfNums_data, hln]
      refine .same hr.inv (x := .string (strOfNums ns)) ?_ (.str _ _ hstr) h
      rcases ha with rfl | ⟨rfl, rfl⟩
      · have := run_convert_bytes_arg (P := P) w s e hs he b off es.length cap ns hlen.symm (fun k hk => by
          have hk' : k < ns.length := by omega
          have hx' : es.flatten[k]? = some (V.int .u8 ns[k]) := by rw [hflat]; simp [hk']
          have h2 := hr' k _ hx'
          have h3 := (hc k _ hx').2
          generalize vs k = vk at h2 h3
          cases h2
          rw [h3]; simp [hk']) t ht
        simp only [execOp, ho, hxe, Sem.run_bind, this, Result.andThen_ok]; rfl
      · have : ns = [] := List.eq_nil_of_length_eq_zero (by simpa using hlen.symm)
        subst this
        have := run_convert_bytes_nil (P := P) w s e hs he 0 cap t ht
        simp only [execOp, ho, hxe, Sem.run_bind, List.length_nil, this, Result.andThen_ok]; rfl
    · exact h.elim
  · exact h.elim

theorem cell_freeze (w : World) (ad : Addr) (k : Nat) (b : Addr) : (w.freeze ad k).cell? b = w.cell? b := by
  unfold World.freeze
  split
  · rfl
  · simp only [World.cell?, Array.getElem?_modify]
    by_cases hb : ad.block = b.block
    · simp only [if_pos hb]
      cases w.heap[b.block]? with
      | none => rfl
      | some o => cases o <;> simp
    · simp only [if_neg hb]
theorem shape_freeze (w : World) (ad : Addr) (k : Nat) (b : Nat) : (w.freeze ad k).shape? b = w.shape? b := by
  unfold World.freeze
  split
  · rfl
  · simp only [World.shape?, Array.getElem?_modify]
    by_cases hb : ad.block = b
    · simp only [if_pos hb]
      cases w.heap[b]? with
      | none => rfl
      | some o => cases o <;> simp
    · simp only [if_neg hb]
theorem heap_freeze (w : World) (ad : Addr) (k : Nat) (b : Nat) (h : b ≠ ad.block) : (w.freeze ad k).heap[b]? = w.heap[b]? := by
  unfold World.freeze
  split
  · rfl
  · simp [Array.getElem?_modify, Ne.symm h]
theorem size_freeze (w : World) (ad : Addr) (k : Nat) : (w.freeze ad k).heap.size = w.heap.size := by
  unfold World.freeze
  split <;> simp

/-- Cells of a row are marked as a string's. -/
theorem Inv.freeze {G : Globs} {w0 w : World} {γ : Gh} {σ : St} (hI : Inv G w0 γ σ w) {b u : Nat} (off k : Nat) (hrow : γ.row b = some u) (htip : ∀ t, γ.tip t ≠ some b) :
    Inv G w0 γ σ (w.freeze ⟨b, off, none⟩ k) ∧ Ext w0.heap.size γ w γ (w.freeze ⟨b, off, none⟩ k) := by
  have hB := (hI.rowlt b u hrow).1
  have he : Ext w0.heap.size γ w γ (w.freeze ⟨b, off, none⟩ k) := ⟨by rw [size_freeze]; exact Nat.le_refl _, fun b' o v _ hc => by rw [cell_freeze]; exact hc, fun _ u hu => ⟨u, hu, Nat.le_refl _⟩, Nat.le_refl _, fun _ _ _ hg => ⟨hg, rfl⟩, fun b' x hx => by rw [shape_freeze]; exact hx⟩
  refine ⟨hI.ext he (hI.bel.trans ⟨?_, ?_, ?_, by rw [size_freeze]; exact Nat.le_refl _, fun c hc => heap_freeze w _ k c (by simp only; omega)⟩) (fun c cs h => ?_) hI.live (fun t g h => ?_) hI.inj (fun c u' h => ?_), he⟩
  · unfold World.freeze; split <;> rfl
  · unfold World.freeze; split <;> rfl
  · unfold World.freeze; split <;> rfl
  · obtain ⟨h1, h2, h3, vs, ty, h4, h5⟩ := hI.box c cs h
    have hne : c ≠ b := by rintro rfl; rw [hrow] at h2; cases h2
    exact ⟨h1, h2, h3, vs, ty, (heap_freeze w _ k c hne).trans h4, h5.ext he⟩
  · obtain ⟨h1, h2, u', vs, ty, h3, h4, h5⟩ := hI.tip t g h
    have hne : g ≠ b := by rintro rfl; exact htip t h
    exact ⟨h1, h2, u', vs, ty, h3, (heap_freeze w _ k g hne).trans h4, h5⟩
  · have := hI.rowlt c u' h
    exact ⟨this.1, by rw [size_freeze]; exact this.2⟩

theorem do_s2b (hr : Rel G w0 γ σ w n ds sl a) {s t e : TypeId} {x : Operand} {ox : Opd} (ho : o.op = .convert s t x) (hs : P.underlying s = some .string) (ht : P.underlying t = some (.slice e)) (he : P.underlying e = some (.int .u8)) (hx : trOpd x = some ox) (h : sOp P G (.s2b ox) sl σ K Kp) : Does P G o a w w0 γ K Kp := by
  simp only [sOp] at h
  split at h
  · rename_i l h1
    have e1 := ev_sound hr hx h1
    generalize hxe : a.eval x = xe at e1
    cases e1 with | str _ s1 q1 =>
    have hsz : s1.size = l.length := by rw [← q1]; rfl
    generalize hcap : (Question.appendCap l.length 0 e).cut (w.tape w.drawn (.appendCap l.length 0 e)) = cap
    have hge : l.length ≤ cap := by rw [← hcap]; simp [Question.cut]
    generalize hC : (s1.data.map fun b => Value.int .u8 b.toNat) ++ Array.replicate (cap - l.length) (Value.int .u8 0) = C
    obtain ⟨hI1, hE1⟩ := hr.inv.drew
    obtain ⟨γ', hI2, hE2, hrow, htp⟩ := hI1.row_new e C
    have hE := hE1.trans hE2
    have hWs : w.drew.heap.size = w.heap.size := rfl
    rw [hWs] at hrow
    have htip : ∀ t, γ'.tip t ≠ some w.heap.size := by
      intro t ht'
      rw [htp] at ht'
      obtain ⟨_, _, u0, vs0, ty0, _, h40, _⟩ := hr.inv.tip t _ ht'
      have := lt_of_heap h40; omega
    obtain ⟨hI3, hE3⟩ := hI2.freeze C.size 1 hrow htip
    have hE' := hE.trans hE3
    refine .value (w' := (w.drew.alloc (.cells C e)).freeze ⟨w.heap.size, C.size, none⟩ 1) (x := .slice (some ⟨w.heap.size, 0, none⟩) l.length cap) ?_ hE' hI3 ?_ h
    · have hsh : (w.drew.alloc (.cells C e)).shape? w.heap.size = some (e, C.size) := by
        have := heap_alloc_new w.drew (.cells C e)
        rw [hWs] at this
        simp only [World.shape?, this]
      have hCs : C.size = cap := by rw [← hC]; simp; omega
      simp [execOp, ho, hxe, convert, run_underlying hs, run_underlying ht, run_underlying he, Conv.stringToBytes, Question.forced, hsz, hcap, hC, newRow, markStringish, hsh, hCs]
    · have hnb := heap_alloc_new w.drew (.cells C e)
      rw [hWs] at hnb
      have hflat := flatten_byteEls l
      have hmk := R.slice (B := w0.heap.size) (γ := γ') (w := (w.drew.alloc (.cells C e)).freeze ⟨w.heap.size, C.size, none⟩ 1) .foreign 1 (byteEls l) (some ⟨w.heap.size, 0, none⟩) cap w.heap.size 0 (fun k => Value.int .u8 (l.getD k 0).toNat)
        (fun k el hel => by simp only [byteEls, List.getElem?_map, Option.map_eq_some_iff] at hel; obtain ⟨b, _, rfl⟩ := hel; rfl) (by simp [byteEls]; exact hge) (.inl rfl) trivial (fun k y hk => ?_) (fun k y hk => ?_) (fun k y hk => ?_)
      · simpa [byteEls] using hmk
      · rw [hflat] at hk; simp only [List.getElem?_map, Option.map_eq_some_iff] at hk; obtain ⟨b, _, rfl⟩ := hk; rfl
      · rw [hflat] at hk; simp only [List.getElem?_map, Option.map_eq_some_iff] at hk; obtain ⟨b, hb, rfl⟩ := hk
        have hkl : k < l.length := (List.getElem?_eq_some_iff.1 hb).1
        have hCk : C[k]? = some (.int .u8 b.toNat) := by
          rw [← hC, Array.getElem?_append_left (by simp; omega)]
          have : s1.data[k]? = some b := by rw [← Array.getElem?_toList, q1]; exact hb
          simp [this]
        refine ⟨.inr ⟨_, hrow, by have := (Array.getElem?_eq_some_iff.1 hCk).1; simpa using this⟩, ?_⟩
        rw [cell_freeze, Nat.zero_add, cell_of_row _ _ k _ _ _ hnb, hCk]
        simp [List.getD_eq_getElem?_getD, hb]
      · rw [hflat] at hk; simp only [List.getElem?_map, Option.map_eq_some_iff] at hk; obtain ⟨b, hb, rfl⟩ := hk
        simp only [List.getD_eq_getElem?_getD, hb, Option.getD_some]
        exact .int _ _
  · exact h.elim

theorem scall_does {f : FuncId} {vs : List V} {xs : Array Value} (hI : Inv G w0 γ σ w) (hRL : RL w0.heap.size γ w vs xs.toList) (hrun : (execOp a.eval o).run P w = (callFunc f xs).run P w)
    (h : SCall P G f vs σ fun e σ' => match e with | .ret v => K v σ' | .pan v => Kp v σ') : Does P G o a w w0 γ K Kp := by
  intro next Q hK hKp
  rw [hrun]
  rcases h w0 γ w xs hI hRL with ⟨h1, h2⟩ | ⟨x, w', h1, γ', σ', h2, h3, r, y, h4, h5⟩
  · rw [h1]
    refine h2.mono ?_
    rintro e w' ⟨γ', σ', h2, h3, r, y, h4, h5⟩
    rcases h5 with ⟨rfl, h5⟩ | ⟨rfl, h5⟩
    · exact hK γ' σ' w' r y h2 h3 h4 h5
    · exact hKp γ' σ' w' r y h2 h3 h4 h5
  · rw [h1]
    rcases h5 with ⟨h5, h6⟩ | ⟨h5, h6⟩
    · injection h5 with h5; subst h5
      exact hK γ' σ' w' r x h2 h3 h4 h6
    · cases h5

theorem do_call (hr : Rel G w0 γ σ w n ds sl a) {f : FuncId} {xs : Array Operand} {ts : Array TypeId} {oxs : List Opd} (ho : o.op = .call { callee := .value (.func f), args := xs, argTypes := ts }) (hx : trOpds xs.toList = some oxs) (h : sOp P G (.call f oxs) sl σ K Kp) : Does P G o a w w0 γ K Kp := by
  simp only [sOp] at h
  split at h
  · rename_i vs hv
    have hRL := evs_sound hr hx hv
    refine scall_does hr.inv (xs := xs.map a.eval) (by simpa using hRL) ?_ h
    simp [execOp, ho, resolve, Deferred.ofValue, Act.eval, invoke]
  · exact h.elim

theorem do_callv (hr : Rel G w0 γ σ w n ds sl a) {x : Operand} {ox : Opd} {xs : Array Operand} {ts : Array TypeId} {oxs : List Opd} (ho : o.op = .call { callee := .value x, args := xs, argTypes := ts }) (hx0 : trOpd x = some ox) (hx : trOpds xs.toList = some oxs) (h : sOp P G (.callv ox oxs) sl σ K Kp) : Does P G o a w w0 γ K Kp := by
  simp only [sOp] at h
  split at h
  · rename_i f u1 u2 vs h1 hv
    have hRL := evs_sound hr hx hv
    have e1 := ev_sound hr hx0 h1
    generalize hxe : a.eval x = xe at e1
    cases e1 with | func _ _ _ fs cs hl1 hl2 hr1 hr2 =>
    have r1 : RL w0.heap.size γ w u1 fs.toList := ⟨by simpa using hl1, fun i x y hx hy => hr1 i x y hx (by simpa using hy)⟩
    have r2 : RL w0.heap.size γ w u2 cs.toList := ⟨by simpa using hl2, fun i x y hx hy => hr2 i x y hx (by simpa using hy)⟩
    refine scall_does hr.inv (xs := fs ++ xs.map a.eval ++ cs) (by simpa using (r1.append hRL).append r2) ?_ h
    simp [execOp, ho, resolve, hxe, Deferred.ofValue, invoke]
  · exact h.elim

end
end Go.Shadow
