/- THE SHADOW LOGIC, part 7: conversions, cuts, places, elements: sound. -/
import Derived.Test.YtgebphnfnmeaaaaGreatDoorSh6
namespace Go.Shadow
open Go Go.RowKit

section
variable {P : Program} {G : Globs} {w0 w : World} {γ : Gh} {σ : St} {n : Nat} {ds : List Deferred} {sl : Slots} {a : Act} {o : Oper} {K Kp : V → St → Prop}

theorem do_un (hr : Rel G w0 γ σ w n ds sl a) {op : UnOp} {t : TypeId} {x : Operand} {ox : Opd} (ho : o.op = .unOp op t x) (hx : trOpd x = some ox) (h : sOp P G (.un op ox) sl σ K Kp) : Does P G o a w w0 γ K Kp := by
  simp only [sOp] at h
  split at h
  · rename_i k q h1
    have e1 := ev_sound hr hx h1
    generalize hxe : a.eval x = xe at e1
    cases e1
    exact .same hr.inv (x := .int k (k.wrap (0 - q))) (by simp [execOp, ho, hxe, Op.unary, Op.intArith]) (.int _ _) h
  · rename_i b h1
    have e1 := ev_sound hr hx h1
    generalize hxe : a.eval x = xe at e1
    cases e1
    exact .same hr.inv (x := .bool !b) (by simp [execOp, ho, hxe, Op.unary]) (.bool _) h
  · rename_i k q h1
    have e1 := ev_sound hr hx h1
    generalize hxe : a.eval x = xe at e1
    cases e1
    exact .same hr.inv (x := .int k (bitsOp .xor k (if k.signed then -1 else k.max) q)) (by simp [execOp, ho, hxe, Op.unary, Op.intBits, bitsOp]) (.int _ _) h
  · exact h.elim

theorem do_i2i (hr : Rel G w0 γ σ w n ds sl a) {s t : TypeId} {k j : IntKind} {x : Operand} {ox : Opd} (ho : o.op = .convert s t x) (hs : P.underlying s = some (.int j)) (ht : P.underlying t = some (.int k)) (hx : trOpd x = some ox) (h : sOp P G (.i2i k ox) sl σ K Kp) : Does P G o a w w0 γ K Kp := by
  simp only [sOp] at h
  split at h
  · rename_i k' q h1
    have e1 := ev_sound hr hx h1
    generalize hxe : a.eval x = xe at e1
    cases e1
    exact .same hr.inv (x := .int k (k.wrap q)) (by simp [execOp, ho, hxe, convert, run_underlying hs, run_underlying ht, Conv.intToInt]) (.int _ _) h
  · exact h.elim

theorem do_s2s (hr : Rel G w0 γ σ w n ds sl a) {s t : TypeId} {x : Operand} {ox : Opd} (ho : o.op = .convert s t x) (hs : P.underlying s = some .string) (ht : P.underlying t = some .string) (hx : trOpd x = some ox)
    (h : sOp P G (.s2s ox) sl σ K Kp) : Does P G o a w w0 γ K Kp := by
  simp only [sOp] at h
  split at h
  · rename_i l h1
    have e1 := ev_sound hr hx h1
    generalize hxe : a.eval x = xe at e1
    cases e1 with | str _ s1 q1 =>
    exact .same hr.inv (x := .string s1) (by simp [execOp, ho, hxe, convert, run_underlying hs, run_underlying ht]) (.str _ _ q1) h
  · exact h.elim

theorem do_mkif (hr : Rel G w0 γ σ w n ds sl a) {t : TypeId} {d : TypeDesc} {x : Operand} {ox : Opd} (ho : o.op = .makeInterface t x) (hd : P.underlying t = some d) (hni : (match d with | .interface _ => false | _ => true) = true) (hx : trOpd x = some ox) (h : sOp P G (.mkif t ox) sl σ K Kp) : Does P G o a w w0 γ K Kp := by
  simp only [sOp] at h
  split at h
  · rename_i v h1
    have e1 := ev_sound hr hx h1
    refine .same hr.inv (x := .iface t (a.eval x)) ?_ (.iface t v _ e1) h
    cases d <;> simp at hni <;> simp [execOp, ho, Instr.makeInterface, run_underlying hd]
  · exact h.elim

theorem do_mkfn (hr : Rel G w0 γ σ w n ds sl a) {f : FuncId} {fi ca : Array Operand} {ofi oca : List Opd} (ho : o.op = .makeFunc (.func f) fi ca) (hf : trOpds fi.toList = some ofi) (hc : trOpds ca.toList = some oca) (h : sOp P G (.mkfn f ofi oca) sl σ K Kp) : Does P G o a w w0 γ K Kp := by
  simp only [sOp] at h
  split at h
  · rename_i u v h1 h2
    have e1 := evs_sound hr hf h1
    have e2 := evs_sound hr hc h2
    refine .same hr.inv (x := .func (.func f) (fi.map a.eval) (ca.map a.eval)) (by simp [execOp, ho, Instr.makeFunc]) (.func f u v _ _ (by simpa using e1.1) (by simpa using e2.1) (fun i x y hx hy => e1.2 i x y hx (by simpa using hy)) (fun i x y hx hy => e2.2 i x y hx (by simpa using hy))) h
  · exact h.elim

theorem do_faddr (hr : Rel G w0 γ σ w n ds sl a) {t : TypeId} {fs : Array Field} {f : Field} {i : TypeInfo} {k : Nat} {x : Operand} {ox : Opd} (ho : o.op = .fieldAddr t x k) (ht : P.underlying t = some (.struct fs)) (hf : fs[k]? = some f) (hi : P.info? f.type = some i) (hs : i.size ≠ 0) (hx : trOpd x = some ox) (h : sOp P G (.faddr f.offset ox) sl σ K Kp) : Does P G o a w w0 γ K Kp := by
  have hrun : ∀ b off, a.eval x = .pointer (some ⟨b, off, none⟩) → (execOp a.eval o).run P w = .ok (.value (.pointer (some ⟨b, off + f.offset, none⟩))) w := by
    intro b off hxe
    simp [execOp, ho, hxe, Instr.fieldAt, run_underlying ht, hf, Instr.sureAddr, fieldPlace, sizeOf, typeInfo, hi, hs, add_lit]
  simp only [sOp] at h
  split at h
  · rename_i b off h1
    have e1 := ev_sound hr hx h1
    generalize hxe : a.eval x = xe at e1
    cases e1
    exact .same hr.inv (hrun _ _ hxe) (.loc _ _) h
  · rename_i cs h1
    have e1 := ev_sound hr hx h1
    generalize hxe : a.eval x = xe at e1
    cases e1 with | ref _ b off vs h1' hc hr' =>
    refine .same hr.inv (hrun _ _ hxe) (.ref (cs.drop f.offset) b (off + f.offset) (fun j => vs (f.offset + j)) (fun j y hy => h1' (f.offset + j) y (by rw [List.getElem?_drop] at hy; exact hy)) (fun j y hy => ?_) (fun j y hy => hr' (f.offset + j) y (by rw [List.getElem?_drop] at hy; exact hy))) h
    have := hc (f.offset + j) y (by rw [List.getElem?_drop] at hy; exact hy)
    rwa [← Nat.add_assoc] at this
  · exact h.elim

theorem run_part {t : TypeId} {g : Bool} {i : TypeInfo} (hg : aggB P t = some g) (hi : P.info? t = some i) (hs : 0 < i.size) {vs : Array Value} {off : Nat} (hle : off + i.size ≤ vs.size) :
    (part t vs off).run P w = .ok (if g then .agg ((vs.toList.drop off).take i.size).toArray else ((vs.toList.drop off).take i.size).headD undef) w := by
  unfold part
  simp only [Sem.run_bind, aggB_sound hg, Result.andThen_ok]
  cases g with
  | true =>
    simp [sizeOf, typeInfo, hi]
    apply Array.ext'
    simp [Array.toList_extract, List.extract_eq_take_drop]
  | false =>
    have hlt : off < vs.size := by omega
    simp [hlt]
    rw [List.drop_eq_getElem_cons (by simpa using hlt)]
    cases hz : i.size with
    | zero => omega
    | succ m => simp

theorem part_sound {B : Nat} {γ : Gh} {w' : World} {cs : List V} {vs : Array Value} {g : Bool} {m off : Nat} {v : V} (hl : cs.length = vs.size) (h1 : ∀ (j : Nat) (x : V), cs[j]? = some x → x.one = true) (hr : ∀ (i : Nat) (x : V) (y : Value), cs[i]? = some x → vs[i]? = some y → R B γ w' x y) (hv : mkv g ((cs.drop off).take m) = some v) :
    R B γ w' v (if g then .agg ((vs.toList.drop off).take m).toArray else ((vs.toList.drop off).take m).headD undef) := by
  have hRL : RL B γ w' cs vs.toList := ⟨by simpa using hl, fun i x y hx hy => hr i x y hx (by simpa using hy)⟩
  refine mkv_sound ((hRL.drop off).take m) (fun j x hx => ?_) hv
  rw [List.getElem?_take] at hx
  split at hx
  · rw [List.getElem?_drop] at hx; exact h1 _ x hx
  · cases hx

theorem do_field (hr : Rel G w0 γ σ w n ds sl a) {t : TypeId} {fs : Array Field} {f : Field} {i : TypeInfo} {g : Bool} {k : Nat} {x : Operand} {ox : Opd} (ho : o.op = .field t x k) (ht : P.underlying t = some (.struct fs)) (hf : fs[k]? = some f) (hi : P.info? f.type = some i) (hg : aggB P f.type = some g) (hs : 0 < i.size) (hx : trOpd x = some ox) (h : sOp P G (.field g i.size f.offset ox) sl σ K Kp) : Does P G o a w w0 γ K Kp := by
  simp only [sOp] at h
  split at h
  · rename_i cs h1
    obtain ⟨hle, h⟩ := h
    split at h
    · rename_i v hv
      have e1 := ev_sound hr hx h1
      generalize hxe : a.eval x = xe at e1
      cases e1 with | agg _ vs hl h1' hr' =>
      refine .same hr.inv ?_ (part_sound hl h1' hr' hv) h
      simp [execOp, ho, hxe, Instr.field, run_underlying ht, hf, asAgg, run_part (w := w) hg hi hs (vs := vs) (off := f.offset) (by omega)]
    · exact h.elim
  · exact h.elim

theorem do_iaddr (hr : Rel G w0 γ σ w n ds sl a) {t e : TypeId} {i : TypeInfo} {x y : Operand} {ox oy : Opd} (ho : o.op = .indexAddr t x y) (ht : P.underlying t = some (.slice e)) (hi : P.info? e = some i) (hx : trOpd x = some ox) (hy : trOpd y = some oy) (h : sOp P G (.iaddr i.size ox oy) sl σ K Kp) : Does P G o a w w0 γ K Kp := by
  simp only [sOp] at h
  split at h
  · rename_i tag s es k q h1 h2
    obtain ⟨hs, h0, h⟩ := h
    split at h
    · rename_i el hel
      have e1 := ev_sound hr hx h1
      have e2 := ev_sound hr hy h2
      generalize hxe : a.eval x = xe at e1
      generalize hye : a.eval y = ye at e2
      cases e2
      cases e1 with | slice _ _ _ ad cap b off vs hes hl ha htg h1' hc hr' =>
      have hlt : q.toNat < es.length := (List.getElem?_eq_some_iff.1 hel).1
      have hss : s = i.size := by
        rcases hs with hs | rfl
        · exact hs
        · simp at hlt
      subst hss
      rcases ha with rfl | ⟨_, rfl⟩
      · have hq : q < (es.length : Int) := by omega
        have hflat : ∀ (j : Nat) (z : V), el[j]? = some z → es.flatten[q.toNat * i.size + j]? = some z := fun j z hz => flatten_get hes hel hz
        refine .same hr.inv (x := .pointer (some ⟨b, off + q.toNat * i.size, none⟩)) ?_ (.ref el b _ (fun j => vs (q.toNat * i.size + j)) (fun j z hz => h1' _ z (hflat j z hz)) (fun j z hz => ?_) (fun j z hz => hr' _ z (hflat j z hz))) h
        · simp [execOp, ho, hxe, hye, Instr.indexAt, asIntOf, run_underlying ht, h0, hq, sizeOf, typeInfo, hi, add_lit]
        · have := hc _ z (hflat j z hz)
          rwa [← Nat.add_assoc] at this
      · simp at hlt
    · exact h.elim
  · exact h.elim

theorem do_iaddrA (hr : Rel G w0 γ σ w n ds sl a) {t e : TypeId} {i : TypeInfo} {len : Nat} {x y : Operand} {ox oy : Opd} (ho : o.op = .indexAddr t x y) (ht : P.underlying t = some (.array len e)) (hi : P.info? e = some i) (hx : trOpd x = some ox) (hy : trOpd y = some oy) (h : sOp P G (.iaddrA i.size len ox oy) sl σ K Kp) : Does P G o a w w0 γ K Kp := by
  have hrun : ∀ b off k (q : Int), a.eval x = .pointer (some ⟨b, off, none⟩) → a.eval y = .int k q → 0 ≤ q → q < len → (execOp a.eval o).run P w = .ok (.value (.pointer (some ⟨b, off + q.toNat * i.size, none⟩))) w := by
    intro b off k q hxe hye h0 hq
    simp [execOp, ho, hxe, hye, Instr.indexAt, asIntOf, Instr.sureAddr, run_underlying ht, h0, hq, sizeOf, typeInfo, hi, add_lit]
  simp only [sOp] at h
  split at h
  · rename_i b off k q h1 h2
    obtain ⟨h0, hq, h⟩ := h
    have e1 := ev_sound hr hx h1
    have e2 := ev_sound hr hy h2
    generalize hxe : a.eval x = xe at e1
    generalize hye : a.eval y = ye at e2
    cases e2; cases e1
    exact .same hr.inv (hrun _ _ _ _ hxe hye h0 hq) (.loc _ _) h
  · rename_i cs k q h1 h2
    obtain ⟨h0, hq, h⟩ := h
    have e1 := ev_sound hr hx h1
    have e2 := ev_sound hr hy h2
    generalize hxe : a.eval x = xe at e1
    generalize hye : a.eval y = ye at e2
    cases e2
    cases e1 with | ref _ b off vs h1' hc hr' =>
    generalize hm : q.toNat * i.size = m at h hrun
    refine .same hr.inv (hrun _ _ _ _ hxe hye h0 hq) ?_ h
    rw [hm]
    refine .ref (cs.drop m) b (off + m) (fun j => vs (m + j)) (fun j z hz => h1' (m + j) z (by rw [List.getElem?_drop] at hz; exact hz)) (fun j z hz => ?_) (fun j z hz => hr' (m + j) z (by rw [List.getElem?_drop] at hz; exact hz))
    have := hc (m + j) z (by rw [List.getElem?_drop] at hz; exact hz)
    rwa [← Nat.add_assoc] at this
  · exact h.elim

theorem do_idxs (hr : Rel G w0 γ σ w n ds sl a) {t : TypeId} {x y : Operand} {ox oy : Opd} (ho : o.op = .index t x y) (ht : P.underlying t = some .string) (hx : trOpd x = some ox) (hy : trOpd y = some oy) (h : sOp P G (.idxs ox oy) sl σ K Kp) : Does P G o a w w0 γ K Kp := by
  simp only [sOp] at h
  split at h
  · rename_i l k q h1 h2
    obtain ⟨h0, h⟩ := h
    split at h
    · rename_i b hb
      have e1 := ev_sound hr hx h1
      have e2 := ev_sound hr hy h2
      generalize hxe : a.eval x = xe at e1
      generalize hye : a.eval y = ye at e2
      cases e2
      cases e1 with | str _ s1 q1 =>
      refine .same hr.inv (x := .int .u8 b.toNat) ?_ (.int _ _) h
      have hs : s1[q.toNat]? = some b := by
        have hlt : q.toNat < s1.size := by
          have := (List.getElem?_eq_some_iff.1 hb).1
          rw [← q1] at this; simpa using this
        have hg : s1[q.toNat]? = some s1[q.toNat] := by rw [getElem?_pos s1 q.toNat hlt]
        rw [hg, ← hb, ← q1]
        simp only [Array.getElem?_toList]
        rw [Array.getElem?_eq_getElem (by exact hlt)]; rfl
      simp [execOp, ho, hxe, hye, Instr.index, asIntOf, run_underlying ht, h0, hs]
    · exact h.elim
  · exact h.elim

theorem do_idxa (hr : Rel G w0 γ σ w n ds sl a) {t e : TypeId} {i : TypeInfo} {g : Bool} {len : Nat} {x y : Operand} {ox oy : Opd} (ho : o.op = .index t x y) (ht : P.underlying t = some (.array len e)) (hi : P.info? e = some i) (hg : aggB P e = some g) (hs : 0 < i.size) (hx : trOpd x = some ox) (hy : trOpd y = some oy) (h : sOp P G (.idxa g i.size len ox oy) sl σ K Kp) : Does P G o a w w0 γ K Kp := by
  simp only [sOp] at h
  split at h
  · rename_i cs k q h1 h2
    obtain ⟨h0, hq, hle, h⟩ := h
    split at h
    · rename_i v hv
      have e1 := ev_sound hr hx h1
      have e2 := ev_sound hr hy h2
      generalize hxe : a.eval x = xe at e1
      generalize hye : a.eval y = ye at e2
      cases e2
      cases e1 with | agg _ vs hl h1' hr' =>
      refine .same hr.inv ?_ (part_sound hl h1' hr' hv) h
      simp [execOp, ho, hxe, hye, Instr.index, asIntOf, run_underlying ht, h0, hq, sizeOf, typeInfo, hi, run_part (w := w) hg hi hs (vs := vs) (off := q.toNat * i.size) (by omega)]
    · exact h.elim
  · exact h.elim

theorem do_extract (hr : Rel G w0 γ σ w n ds sl a) {k : Nat} {x : Operand} {ox : Opd} (ho : o.op = .extract x k) (hx : trOpd x = some ox) (h : sOp P G (.extract k ox) sl σ K Kp) : Does P G o a w w0 γ K Kp := by
  simp only [sOp] at h
  split at h
  · rename_i cs h1
    split at h
    · rename_i v hv
      have e1 := ev_sound hr hx h1
      generalize hxe : a.eval x = xe at e1
      cases e1 with | tup _ vs hl hr' =>
      have hlt : k < vs.size := by rw [← hl]; exact (List.getElem?_eq_some_iff.1 hv).1
      exact .same hr.inv (x := vs[k]) (by simp [execOp, ho, hxe, Instr.extract, hlt]) (hr' k v _ hv (by simp [hlt])) h
    · exact h.elim
  · exact h.elim

theorem do_len (hr : Rel G w0 γ σ w n ds sl a) {t : TypeId} {str : Bool} {x : Operand} {ox : Opd} (ho : o.op = .call { callee := .builtin .len, args := #[x], argTypes := #[t] }) (ht : (str = true ∧ P.underlying t = some .string) ∨ (str = false ∧ ∃ e, P.underlying t = some (.slice e))) (hx : trOpd x = some ox)
    (h : sOp P G (.len str ox) sl σ K Kp) : Does P G o a w w0 γ K Kp := by
  simp only [sOp] at h
  split at h
  · rename_i tag s es h1
    have e1 := ev_sound hr hx h1
    generalize hxe : a.eval x = xe at e1
    cases e1
    rcases ht with ⟨ht, _⟩ | ⟨_, e, ht⟩
    · cases ht
    · exact .same hr.inv (x := .int .i64 es.length) (by simp [execOp, ho, hxe, resolve, invoke, builtin, Builtin.len_, run_underlying ht, goInt]) (.int _ _) h
  · rename_i l h1
    have e1 := ev_sound hr hx h1
    generalize hxe : a.eval x = xe at e1
    cases e1 with | str _ s1 q1 =>
    have hs : s1.size = l.length := by rw [← q1]; rfl
    rcases ht with ⟨_, ht⟩ | ⟨ht, _⟩
    · exact .same hr.inv (x := .int .i64 l.length) (by simp [execOp, ho, hxe, resolve, invoke, builtin, Builtin.len_, run_underlying ht, goInt, hs]) (.int _ _) h
    · cases ht
  · exact h.elim

theorem do_panic (hr : Rel G w0 γ σ w n ds sl a) {x : Operand} {ox : Opd} (ho : o.op = .panic x ∨ ∃ ts, o.op = .call { callee := .builtin .panic, args := #[x], argTypes := ts }) (hx : trOpd x = some ox) (h : sOp P G (.panic ox) sl σ K Kp) : Does P G o a w w0 γ K Kp := by
  simp only [sOp] at h
  split at h
  · rename_i t v h1
    have e1 := ev_sound hr hx h1
    generalize hxe : a.eval x = xe at e1
    cases e1 with | iface _ _ y hy =>
    intro next Q _ hKp
    have hrun : (execOp a.eval o).run P w = .halt (.panic (.iface t y)) w := by
      rcases ho with ho | ⟨ts, ho⟩ <;> simp [execOp, ho, hxe, resolve, invoke, builtin, Instr.panic]
    rw [hrun]
    exact hKp γ σ w _ _ (Ext.refl _ _ _) hr.inv (.iface t v y hy) h
  · exact h.elim

theorem do_tassert (hr : Rel G w0 γ σ w n ds sl a) {t t2 : TypeId} {d : TypeDesc} {z : List V} {g ok : Bool} {x : Operand} {ox : Opd} (ho : o.op = .typeAssert x t2 t ok) (hd : P.underlying t = some d) (hni : (match d with | .interface _ => false | _ => true) = true) (hz : zeroL P t = some z) (hg : aggB P t = some g) (hzv : ∀ i v, P.info? t = some i → i.zero = some v → ((∃ cs, v = .agg cs) ↔ g = true)) (hx : trOpd x = some ox) (h : sOp P G (.tassert t z g ok ox) sl σ K Kp) : Does P G o a w w0 γ K Kp := by
  obtain ⟨i, zv, hi, hzv', hzs, hzt⟩ := zeroL_sound hz
  have hzero : ∀ u, mkv g z = some u → ∀ B γ, ∀ w : World, R B γ w u zv := by
    intro u hu B γ w
    have hRL := trVs_sound (B := B) (γ := γ) (w := w) hzt
    have := mkv_sound hRL (trVs_one hzt) hu
    cases g with
    | true =>
      obtain ⟨cs, rfl⟩ := (hzv i zv hi hzv').2 rfl
      simpa [Value.cells] using this
    | false =>
      have hna : ¬ ∃ cs, zv = .agg cs := fun h => by have := (hzv i zv hi hzv').1 h; cases this
      have hc : zv.cells = #[zv] := by cases zv <;> first | rfl | exact absurd ⟨_, rfl⟩ hna
      simpa [hc] using this
  have hassert : ∀ (t' : TypeId) (y : Value), (∀ hok : ok = true, t' ≠ t → (Instr.typeAssert (.iface t' y) t2 t ok).run P w = .ok (.tuple #[zv, .bool false]) w) ∧ (Instr.typeAssert (.iface t y) t2 t ok).run P w = .ok (if ok then .tuple #[y, .bool true] else y) w ∧ (ok = true → (Instr.typeAssert .nilIface t2 t ok).run P w = .ok (.tuple #[zv, .bool false]) w) := by
    intro t' y
    cases d <;> simp at hni <;> refine ⟨fun hok hne => ?_, ?_, fun hok => ?_⟩ <;>
      simp [Instr.typeAssert, run_underlying hd, zeroValue, typeInfo, hi, hzv', *]
  simp only [sOp] at h
  split at h
  · rename_i t' v h1
    have e1 := ev_sound hr hx h1
    generalize hxe : a.eval x = xe at e1
    cases e1 with | iface _ _ y hy =>
    split at h
    · rename_i htt; subst htt
      refine .same hr.inv (x := if ok then .tuple #[y, .bool true] else y) (by simp [execOp, ho, hxe, (hassert t' y).2.1]) ?_ h
      cases ok
      · exact hy
      · exact .tup _ _ rfl (fun k p q hp hq => by
          cases k with
          | zero => simp at hp hq; subst hp; subst hq; exact hy
          | succ k => cases k with
            | zero => simp at hp hq; subst hp; subst hq; exact .bool _
            | succ k => simp at hp)
    · rename_i htt
      obtain ⟨hok, h⟩ := h
      split at h
      · rename_i u hu
        refine .same hr.inv (x := .tuple #[zv, .bool false]) (by simp [execOp, ho, hxe, (hassert t' y).1 hok htt]) ?_ h
        exact .tup _ _ rfl (fun k p q hp hq => by
          cases k with
          | zero => simp at hp hq; subst hp; subst hq; exact hzero u hu _ _ _
          | succ k => cases k with
            | zero => simp at hp hq; subst hp; subst hq; exact .bool _
            | succ k => simp at hp)
      · exact h.elim
  · rename_i h1
    have e1 := ev_sound hr hx h1
    generalize hxe : a.eval x = xe at e1
    cases e1
    obtain ⟨hok, h⟩ := h
    split at h
    · rename_i u hu
      refine .same hr.inv (x := .tuple #[zv, .bool false]) (by simp [execOp, ho, hxe, (hassert t .nilIface).2.2 hok]) ?_ h
      exact .tup _ _ rfl (fun k p q hp hq => by
        cases k with
        | zero => simp at hp hq; subst hp; subst hq; exact hzero u hu _ _ _
        | succ k => cases k with
          | zero => simp at hp hq; subst hp; subst hq; exact .bool _
          | succ k => simp at hp)
    · exact h.elim
  · exact h.elim

end
end Go.Shadow
