/- Proved: parts of the proof: THE SHADOW LOGIC, part 10a: calls through interfaces, slices that are written, copy, unsafe pointers; THE SHADOW LOGIC, part 10b: maps; THE SHADOW LOGIC, part 11: the translation of operations is sound; THE SHADOW LOGIC, part 12: regions, in the text's order and in whatever order is drawn; THE SHADOW LOGIC, part 13: operations that may change places; regions that draw their order; THE SHADOW LOGIC, part 14: a region whose order is drawn: one order serves all; THE SHADOW LOGIC, part C: 'x = append(x, f())' of a variable in memory: append of a zero element, then the element and the slice are sto. Conditions: as each theorem says. -/
import Derived.Test.YtaefelmojpkpaaaGreatDoorBb0
import Derived.Laws.LoneSync
import Derived.Laws.IdiomCopy
import Derived.MapKept

/- THE SHADOW LOGIC, part 10a: calls through interfaces, slices that are written, copy, unsafe pointers. -/
namespace Go.Shadow
open Go Go.RowKit

/-- The functions that a method of a name stands for, by the dynamic type. -/
def methOf (P : Program) (name : String) (t : TypeId) : Option FuncId := match P.info? t with
  | some i => match i.methods.find? (·.name == name) with
    | some m => if m.path.toList.isEmpty then match m.func with
      | some (f, true) => match P.underlying t with
        | some (.pointer _) => some f
        | _ => none
      | some (f, false) => match P.underlying t with
        | some (.pointer _) => none
        | some _ => some f
        | none => none
      | none => none
      else none
    | none => none
  | none => none
def methTab (P : Program) (name : String) : Nat → List (TypeId × FuncId)
  | 0 => []
  | n + 1 => match methOf P name n with
    | some f => (n, f) :: methTab P name n
    | none => methTab P name n
theorem methTab_spec {P : Program} {name : String} : ∀ {n : Nat} {t : TypeId} {f : FuncId}, (methTab P name n).lookup t = some f → methOf P name t = some f
  | 0, t, f, h => by simp [methTab] at h
  | n + 1, t, f, h => by
    simp only [methTab] at h
    split at h
    · rename_i g hg
      simp only [List.lookup_cons] at h
      split at h
      · rename_i e; simp at e; subst e; rw [hg]; exact h
      · exact methTab_spec h
    · exact methTab_spec h

section
variable {P : Program} {G : Globs} {w0 w : World} {γ : Gh} {σ : St} {n : Nat} {ds : List Deferred} {sl : Slots} {a : Act} {o : Oper} {K Kp : V → St → Prop}

theorem run_method {name : String} {t : TypeId} {f : FuncId} (h : methOf P name t = some f) (v : Value) (fuel : Nat) : (method (fuel + 1) t v name).run P w = .ok (f, v) w := by
  unfold methOf at h
  split at h
  · rename_i i hi
    split at h
    · rename_i m hm
      split at h
      · rename_i hp
        have hp' : m.path.toList = [] := by simpa using hp
        split at h
        · rename_i g hg
          split at h
          · rename_i e he
            injection h with h; subst h
            simp [method, typeInfo, hi, hm, hp', follow, hg, receiverAt, run_underlying he, Place.get]
          · cases h
        · rename_i g hg
          split at h
          · cases h
          · rename_i d hd hne
            injection h with h; subst h
            simp only [method, typeInfo, Sem.run_bind]
            cases d <;> first | (exfalso; exact hd _ rfl) | simp [hi, hm, hp', follow, hg, receiverAt, run_underlying hne, Place.get]
          · cases h
        · cases h
      · cases h
    · cases h
  · cases h

theorem do_calli (hr : Rel G w0 γ σ w n ds sl a) {x : Operand} {name : String} {ox : Opd} {xs : Array Operand} {ts : Array TypeId} {oxs : List Opd} (ho : o.op = .call { callee := .invoke x name, args := xs, argTypes := ts }) (hx0 : trOpd x = some ox) (hx : trOpds xs.toList = some oxs) (h : sOp P G (.calli (methTab P name P.types.size) ox oxs) sl σ K Kp) : Does P G o a w w0 γ K Kp := by
  simp only [sOp] at h
  split at h
  · rename_i t v vs h1 hv
    split at h
    · rename_i f hf
      have hm := methTab_spec hf
      have hRL := evs_sound hr hx hv
      have e1 := ev_sound hr hx0 h1
      generalize hxe : a.eval x = xe at e1
      cases e1 with | iface _ _ y hy =>
      refine scall_does hr.inv (xs := #[y] ++ xs.map a.eval) (by simpa using RL.cons hy hRL) ?_ h
      have hpos : ∃ k, P.types.size + Made.depth = k + 1 := ⟨P.types.size + Made.depth - 1, by
        have : 0 < P.types.size := by
          rcases Nat.eq_zero_or_pos P.types.size with h0 | h0
          · rw [h0] at hf; simp [methTab] at hf
          · exact h0
        omega⟩
      obtain ⟨k, hk⟩ := hpos
      have := run_method (w := w) hm y k
      have hget : (#[Value.iface t y] ++ Array.map a.eval xs)[0]? = some (Value.iface t y) := by
        rw [Array.getElem?_append_left (by simp)]; rfl
      have hext : (Array.map a.eval xs).extract 0 xs.size = Array.map a.eval xs := by
        simp
      simp [execOp, ho, resolve, hxe, Deferred.ofValue, invoke, callMethod, hget, hext, hk, this]
    · exact h.elim
  · exact h.elim

theorem do_conv2u (hr : Rel G w0 γ σ w n ds sl a) {s t e : TypeId} {i : TypeInfo} {x : Operand} {ox : Opd} (ho : o.op = .convert s t x) (hs : P.underlying s = some (.pointer e)) (ht : P.underlying t = some .unsafePointer) (hi : P.info? e = some i) (hz : i.size ≠ 0) (hx : trOpd x = some ox)
    (h : sOp P G (.conv2u ox) sl σ K Kp) : Does P G o a w w0 γ K Kp := by
  simp only [sOp] at h
  split at h
  · rename_i b off h1
    split at h
    · rename_i cs hcs
      obtain ⟨hlt, h⟩ := h
      have e1 := ev_sound hr hx h1
      generalize hxe : a.eval x = xe at e1
      cases e1
      obtain ⟨_, _, _, vs, ty, hh, hRL⟩ := hr.inv.box b cs hcs
      have hvl : off < vs.size := by have := hRL.1; simp at this; omega
      have hcell : w.cell? ⟨b, off, none⟩ = some vs[off] := by simp [World.cell?, hh, hvl]
      have := run_convert_to_unsafe (P := P) hs ht (by simp [hi, hz]) hcell
      refine .same hr.inv (x := .pointer (some ⟨b, off, none⟩)) ?_ (.loc _ _) h
      simp only [execOp, ho, hxe, Sem.run_bind, this, Result.andThen_ok]; rfl
    · exact h.elim
  · exact h.elim

theorem Inv.row_tip0 (hI : Inv G w0 γ σ w) (ty : TypeId) (vs : Array Value) :
    ∃ γ', σ.live γ.nt = false ∧ Inv G w0 γ' (σ.on γ.nt) (w.alloc (.cells vs ty)) ∧ Ext w0.heap.size γ w γ' (w.alloc (.cells vs ty)) ∧ γ'.row w.heap.size = some 0 ∧ γ'.tip γ.nt = some w.heap.size ∧ γ'.nt = γ.nt + 1 := by
  have hfresh : σ.live γ.nt = false := by
    cases hlv : σ.live γ.nt with
    | false => rfl
    | true => obtain ⟨g, hg⟩ := hI.live _ hlv; have := (hI.tip _ _ hg).1; omega
  obtain ⟨hI', he⟩ := hI.alloc (.cells vs ty)
  have hfr := hI.row_fresh (Nat.le_refl _)
  have htl : ∀ t g, γ.tip t = some g → t ≠ γ.nt ∧ g ≠ w.heap.size := by
    intro t g hg
    obtain ⟨h1, h2, u, _, _, hu, hh, _⟩ := hI.tip t g hg
    exact ⟨by omega, by rintro rfl; rw [hfr] at hu; cases hu⟩
  have he2 : Ext w0.heap.size γ w { row := fun b => if b = w.heap.size then some 0 else γ.row b, tip := fun k => if k = γ.nt then some w.heap.size else γ.tip k, nt := γ.nt + 1 } (w.alloc (.cells vs ty)) := by
    refine ⟨he.hsz, he.cell, fun b u hu => ⟨u, ?_, Nat.le_refl _⟩, Nat.le_succ _, fun t g ht hg => ?_, he.shape⟩
    · have : b ≠ w.heap.size := by rintro rfl; rw [hfr] at hu; cases hu
      simp [this, hu]
    · simp only [show t ≠ γ.nt by omega, if_false] at hg
      refine ⟨hg, ?_⟩
      simp [(htl t g hg).2]
  refine ⟨_, hfresh, hI.ext he2 hI'.bel (fun b cs h => ?_) (fun t ht => ?_) (fun t g h => ?_) (fun t t' g h1 h2 => ?_) (fun b u h => ?_) (fun r es c h => (heap_alloc_old w _ r (lt_of_heap h)).trans h), he2, by simp, by simp, rfl⟩
  · obtain ⟨h1, h2, h3, us, ty', h4, h5⟩ := hI.box b cs h
    have hlt := lt_of_heap h4
    exact ⟨h1, by simp [show b ≠ w.heap.size by omega, h2], h3, us, ty', (heap_alloc_old w _ b hlt).trans h4, h5.ext he2⟩
  · simp only [St.on, Bool.or_eq_true, beq_iff_eq] at ht
    by_cases htn : t = γ.nt
    · exact ⟨w.heap.size, by simp [htn]⟩
    · obtain ⟨g, hg⟩ := hI.live t (ht.resolve_left htn)
      exact ⟨g, by simp [htn, hg]⟩
  · by_cases htn : t = γ.nt
    · simp only [htn, if_true, Option.some.injEq] at h
      subst h
      exact ⟨by simp [htn], hI.size, 0, vs, ty, by simp, heap_alloc_new w _, by simp⟩
    · simp only [htn, if_false] at h
      obtain ⟨h1, h2, u, us, ty', h3, h4, h5⟩ := hI.tip t g h
      have hlt := lt_of_heap h4
      exact ⟨by simp; omega, h2, u, us, ty', by simp [show g ≠ w.heap.size by omega, h3], (heap_alloc_old w _ g hlt).trans h4, h5⟩
  · by_cases h3 : t = γ.nt <;> by_cases h4 : t' = γ.nt
    · rw [h3, h4]
    · simp only [h3, h4, if_true, if_false, Option.some.injEq] at h1 h2
      exact absurd h1.symm (htl t' g h2).2
    · simp only [h3, h4, if_true, if_false, Option.some.injEq] at h1 h2
      exact absurd h2.symm (htl t g h1).2
    · simp only [h3, h4, if_false] at h1 h2
      exact hI.inj t t' g h1 h2
  · by_cases hb : b = w.heap.size
    · subst hb; exact ⟨hI.size, by simp⟩
    · simp only [if_neg hb] at h
      have := hI.rowlt b u h
      exact ⟨this.1, by simp; omega⟩

theorem made_get (z : Value) (c : Nat) : (madeCells #[z] c).toList = List.replicate c z := by
  apply List.ext_getElem?
  intro i
  simp only [madeCells, Array.toList_map, List.getElem?_map, List.getElem?_replicate]
  by_cases h : i < c
  · simp [h, Nat.mod_one]
  · simp [h]

theorem do_mkmsl (hr : Rel G w0 γ σ w n ds sl a) {t e : TypeId} {i : TypeInfo} {z : List V} {x y : Operand} {ox oy : Opd} (ho : o.op = .makeSlice t x y) (ht : P.underlying t = some (.slice e)) (hi : P.info? e = some i) (hs : 0 < i.size) (hz : zeroL P e = some z) (hx : trOpd x = some ox) (hy : trOpd y = some oy)
    (h : sOp P G (.mkmsl i.size i.bytes z ox oy) sl σ K Kp) : Does P G o a w w0 γ K Kp := by
  simp only [sOp] at h
  split at h
  · rename_i kl l kc c h1 h2
    obtain ⟨g1, g2, g3, g4, g5, h⟩ := h
    have e1 := ev_sound hr hx h1
    have e2 := ev_sound hr hy h2
    generalize hxe : a.eval x = xe at e1
    generalize hye : a.eval y = ye at e2
    cases e1; cases e2
    obtain ⟨i', v, hi', hzv, hsz, htr⟩ := zeroL_sound hz
    rw [hi] at hi'; injection hi' with hi'; subst hi'
    have hrun := run_makeSlice (P := P) (w := w) t e i v ht hi hzv kl kc l c g1 g2 g5 (Int.le_trans g3 (by decide)) (by simpa using g4)
    have hex : (execOp a.eval o).run P w = .ok (.value (.slice (some ⟨w.heap.size, 0, none⟩) l.toNat c.toNat)) (w.alloc (.cells (madeCells v.cells (c.toNat * i.size)) e)) := by
      simp only [execOp, ho, hxe, hye, Sem.run_bind, hrun, Result.andThen_ok]; rfl
    have hmsz : (madeCells v.cells (c.toNat * i.size)).size = c.toNat * i.size := size_madeCells _ _
    split at h
    · -- empty: the first of a row
      obtain ⟨γ', hfr, hI', hE', hrow, htip, hnt⟩ := hr.inv.row_tip0 e (madeCells v.cells (c.toNat * i.size))
      refine .value hex hE' hI' (v := .slice (.tip γ.nt) i.size []) ?_ (h _ hfr)
      refine .slice (.tip γ.nt) i.size [] _ _ w.heap.size 0 (fun _ => undef) (fun i e h => by simp at h) (by simp) (.inl rfl) ⟨by omega, fun g hg => ?_⟩ (fun k x h => by simp at h) (fun k x h => by simp at h) (fun k x h => by simp at h)
      rw [htip] at hg; injection hg with hg; subst hg
      refine ⟨rfl, by rw [hrow]; simp, e, (madeCells v.cells (c.toNat * i.size)).size, ?_, by rw [hmsz]; exact Nat.le_refl _⟩
      unfold World.shape?
      rw [heap_alloc_new]
    · rename_i m
      obtain ⟨hlc, hs1, h⟩ := h
      subst hlc
      have hz1 : v.cells.size = 1 := by omega
      obtain ⟨u, hu⟩ : ∃ u, v.cells = #[u] := ⟨v.cells[0], by
        apply Array.ext
        · simp [hz1]
        · intro k h1 h2; simp at h2; subst h2; rfl⟩
      have hz' : ∃ zv, z = [zv] ∧ trV u = some zv := by
        rw [hu] at htr
        simp only [trVs] at htr
        split at htr
        · rename_i a b ha hb; injection htr with htr; injection hb with hb; subst hb; exact ⟨a, htr.symm, ha⟩
        · cases htr
      obtain ⟨zv, rfl, hzv'⟩ := hz'
      have hflat : ∀ k : Nat, (List.replicate k [zv]).flatten = List.replicate k zv := by
        intro k
        induction k with
        | zero => rfl
        | succ k ih => rw [List.replicate_succ, List.flatten_cons, ih]; rfl
      rw [hflat] at h
      have hcn : (Int.ofNat (m + 1)).toNat = m + 1 := rfl
      obtain ⟨hI', hE'⟩ := hr.inv.box_new e (cs := List.replicate (m + 1) zv) (vs := madeCells v.cells ((Int.ofNat (m + 1)).toNat * i.size)) (by
        rw [hu, hs1, hcn, made_get]
        simp only [Nat.mul_one]
        refine ⟨by simp, fun j x y hx hy => ?_⟩
        rw [List.getElem?_replicate] at hx hy
        split at hx
        · rename_i hj
          rw [if_pos hj] at hy
          injection hx with hx; injection hy with hy; subst hx; subst hy
          exact trV_sound hzv'
        · cases hx) (by
        intro j x hx
        rw [List.getElem?_replicate] at hx
        split at hx
        · injection hx with hx; subst hx; exact trV_one hzv'
        · cases hx)
      exact .value hex hE' hI' (.mslice _ _ _ _) (h _ (hr.inv.box_fresh (Nat.le_refl _)))
    · exact h.elim
  · exact h.elim

theorem do_copy (hr : Rel G w0 γ σ w n ds sl a) {t t2 e e2 : TypeId} {i : TypeInfo} {x y : Operand} {ox oy : Opd} (ho : o.op = .call { callee := .builtin .copy, args := #[x, y], argTypes := #[t, t2] }) (ht : P.underlying t = some (.slice e)) (ht2 : P.underlying t2 = some (.slice e2)) (hi : P.info? e = some i) (hs : i.size = 1) (hx : trOpd x = some ox) (hy : trOpd y = some oy)
    (h : sOp P G (.copy ox oy) sl σ K Kp) : Does P G o a w w0 γ K Kp := by
  simp only [sOp] at h
  split at h
  · rename_i b off len cap tag s es h1 h2
    split at h
    · rename_i cs hcs
      obtain ⟨hs1, hle, hel, hpos, h⟩ := h
      subst hs1
      have e1 := ev_sound hr hx h1
      have e2 := ev_sound hr hy h2
      generalize hxe : a.eval x = xe at e1
      generalize hye : a.eval y = ye at e2
      cases e1
      cases e2 with | slice _ _ _ ad cap' b' off' vs hes hl ha htg h1' hc hr' =>
      rcases ha with rfl | ⟨_, rfl⟩
      · obtain ⟨us, hRL, hcell⟩ := cells_of hc hr'
        have hfl : es.flatten.length = es.length := by rw [flatten_length hes]; omega
        have hul : us.length = es.length := by rw [← hRL.1]; exact hfl
        have hone : ∀ (j : Nat) (x : V), es.flatten[j]? = some x → x.one = true := h1'
        obtain ⟨w', hst, hI', hE'⟩ := setL_store (P := P) hr.inv hcs (off := off) (i := 0) hRL hone (by omega)
        have hld := run_loadCells_list (P := P) w ⟨b', off', none⟩ us (fun j v hj => by rw [add_lit]; exact (hcell j v hj).2)
        rw [Nat.add_zero] at hI'
        refine .value (x := .int .i64 es.length) ?_ hE' hI' (.int _ _) h
        have hld2 : (loadCells ⟨b', off', none⟩ es.length).run P w = .ok us.toArray w := by rw [← hul]; exact hld
        have hmin : Nat.min es.length len = us.length := by rw [hul]; exact Nat.min_eq_left hel
        simp [execOp, ho, hxe, hye, resolve, invoke, builtin, Builtin.copy_, run_underlying ht, run_underlying ht2, Builtin.lenOf, Builtin.firstCells, sizeOf, typeInfo, hi, hs, hmin, hul, hld2, hst, goInt]
      · simp at hpos
    · exact h.elim
  · exact h.elim
end
end Go.Shadow

/- THE SHADOW LOGIC, part 10b: maps. -/
namespace Go.Shadow
open Go Go.RowKit

def kdOf : TypeDesc → Option Nat
  | .int _ => some 0
  | .bool => some 1
  | .string => some 2
  | _ => none

section
variable {P : Program} {G : Globs} {w0 w : World} {γ : Gh} {σ : St} {n : Nat} {ds : List Deferred} {sl : Slots} {a : Act} {K : V → St → Prop} {Kp : V → St → Prop} {o : Oper}

theorem same_sound {B : Nat} {d : TypeDesc} {kd : Nat} (hd : kdOf d = some kd) {k k' : V} {x x' : Value} (hl : leafS kd k = true) (hx : R B γ w k x) (hx' : R B γ w k' x') {b : Bool} (h : eqV k k' = some b) : Instr.sameNow d x x' = some b := by
  cases k <;> cases k' <;> simp only [eqV] at h <;> first | cases h | skip
  · cases hx; cases hx'
    cases d <;> simp [kdOf] at hd <;> subst hd <;> simp [leafS] at hl
    simp [Instr.sameNow]
  · rename_i q u q' u'
    cases hx; cases hx'
    split at h
    · rename_i e; subst e
      cases d <;> simp [kdOf] at hd <;> subst hd <;> simp [leafS] at hl
      simpa [Instr.sameNow] using h
    · cases h
  · rename_i l l'
    cases hx with | str _ s hs =>
    cases hx' with | str _ s' hs' =>
    cases d <;> simp [kdOf] at hd <;> subst hd <;> simp [leafS] at hl
    simp only [Instr.sameNow, Option.some.injEq]
    subst hs; subst hs'
    show (s.data == s'.data) = (s.data.toList == s'.data.toList)
    by_cases e : s.data = s'.data
    · rw [e]; simp
    · have : s.data.toList ≠ s'.data.toList := fun he => e (Array.toList_inj.1 he)
      rw [beq_eq_false_iff_ne.2 e, beq_eq_false_iff_ne.2 this]

theorem find_sound {B : Nat} {d : TypeDesc} {kd : Nat} (hd : kdOf d = some kd) {k : V} {x : Value} (hl : leafS kd k = true) (hx : R B γ w k x) : ∀ (m : List (V × V)) (es : List MapEntry) (i : Nat) (r : Option V), m.length = es.length →
    (∀ (i : Nat) (p : V × V) (e : MapEntry), m[i]? = some p → es[i]? = some e → R B γ w p.1 e.key ∧ R B γ w p.2 e.val) → findV k m = some r →
    match r with
    | none => Instr.findNow d x es i = some none
    | some v => ∃ j y, Instr.findNow d x es i = some (some (j, y)) ∧ R B γ w v y
  | [], es, i, r, hlen, _, h => by
    have : es = [] := List.eq_nil_of_length_eq_zero hlen.symm
    subst this
    simp only [findV, Option.some.injEq] at h; subst h
    rfl
  | (k', v) :: m, [], i, r, hlen, _, h => by simp at hlen
  | (k', v) :: m, e :: es, i, r, hlen, hk, h => by
    have h0 := hk 0 _ _ rfl rfl
    simp only [findV] at h
    split at h
    · rename_i he
      injection h with h; subst h
      have := same_sound hd hl hx h0.1 he
      exact ⟨i, e.val, by simp [Instr.findNow, this], h0.2⟩
    · rename_i he
      have hs := same_sound hd hl hx h0.1 he
      have ih := find_sound hd hl hx m es (i + 1) r (by simpa using hlen) (fun j p e hp he => hk (j + 1) p e (by simpa using hp) (by simpa using he)) h
      cases r with
      | none => simpa [Instr.findNow, hs] using ih
      | some v => obtain ⟨j, y, h1, h2⟩ := ih; exact ⟨j, y, by simpa [Instr.findNow, hs] using h1, h2⟩
    · cases h

theorem check_key {P : Program} {w : World} {kt : TypeId} {d : TypeDesc} {kd : Nat} (hu : P.underlying kt = some d) (hd : kdOf d = some kd) (b : Bool) (m : Nat) (x : Value) : (Instr.checkKey b (m + 1) kt x).run P w = .ok () w := by
  cases d <;> simp [kdOf] at hd <;> simp [Instr.checkKey, run_underlying hu]

theorem Inv.map_new (hI : Inv G w0 γ σ w) : Inv G w0 γ (σ.putm w.heap.size []) (w.alloc (.map #[] 0)) ∧ Ext w0.heap.size γ w γ (w.alloc (.map #[] 0)) := by
  obtain ⟨hI', he⟩ := hI.alloc (.map #[] 0)
  refine ⟨⟨hI'.bel, hI'.box, hI'.live, hI'.tip, hI'.inj, hI'.rowlt, hI'.glob, hI'.pre, fun r m h => ?_⟩, he⟩
  simp only [St.putm] at h
  split at h
  · rename_i e; subst e
    injection h with h; subst h
    exact ⟨hI.size, #[], heap_alloc_new w _, ⟨rfl, fun i p e hp => by simp at hp⟩⟩
  · exact hI'.map r m h
theorem Inv.map_fresh (hI : Inv G w0 γ σ w) {r : Nat} (h : w.heap.size ≤ r) : σ.map r = none := by
  cases hr : σ.map r with
  | none => rfl
  | some m => obtain ⟨_, es, h2, _⟩ := hI.map r m hr; have := lt_of_heap h2; omega

theorem do_mkmap (hr : Rel G w0 γ σ w n ds sl a) {t : TypeId} (ho : o.op = .makeMap t none) (h : sOp P G .mkmap sl σ K Kp) : Does P G o a w w0 γ K Kp := by
  simp only [sOp] at h
  obtain ⟨hI, he⟩ := hr.inv.map_new
  have hmm : (Instr.makeMap t none).run P w = .ok (.map (some w.heap.size)) (w.alloc (.map #[] 0)) := rfl
  exact .value (w' := w.alloc (.map #[] 0)) (by simp [execOp, ho, hmm]) he hI (.map _) (h _ (hr.inv.map_fresh (Nat.le_refl _)))

theorem Inv.map_put (hI : Inv G w0 γ σ w) {r : Nat} {m : List (V × V)} {es : Array MapEntry} (hm : σ.map r = some m) (hh : w.heap[r]? = some (.map es es.size)) (hM : MapRel w0.heap.size γ w m es.toList) {k v : V} {x y : Value} (hx : R w0.heap.size γ w k x) (hy : R w0.heap.size γ w v y) (hv : v.notTup' = true)
    {w' : World} (hw : w' = { w with heap := w.heap.setIfInBounds r (.map (es.push { key := x, val := y, born := es.size }) (es.size + 1)) }) : Inv G w0 γ (σ.putm r (m ++ [(k, v)])) w' ∧ Ext w0.heap.size γ w γ w' := by
  have hlt := lt_of_heap hh
  obtain ⟨hB, _⟩ := hI.map r m hm
  have hsame : w'.heap[r]? = some (.map (es.push { key := x, val := y, born := es.size }) (es.size + 1)) := by subst hw; simp [Array.getElem?_setIfInBounds, hlt]
  have hne : ∀ c, c ≠ r → w'.heap[c]? = w.heap[c]? := fun c hc => by subst hw; simp [Array.getElem?_setIfInBounds, Ne.symm hc]
  have hsz : w'.heap.size = w.heap.size := by subst hw; simp
  have hcells : ∀ (c : Nat) {vs : Array Value} {ty : TypeId} {f : Nat × Nat}, w.heap[c]? = some (.cells vs ty f) → w'.heap[c]? = some (.cells vs ty f) := fun c vs ty f h => (hne c (by rintro rfl; rw [hh] at h; cases h)).trans h
  have he : Ext w0.heap.size γ w γ w' := by
    refine ⟨by omega, fun b o v _ hc => ?_, fun _ u hu => ⟨u, hu, Nat.le_refl _⟩, Nat.le_refl _, fun _ _ _ hg => ⟨hg, rfl⟩, fun b x hx => ?_⟩
    · by_cases hb : b = r
      · subst hb; simp [World.cell?, hh] at hc
      · exact (World.cell?_of_block (w := w) (hne b hb)).trans hc
    · by_cases hb : b = r
      · subst hb; simp [World.shape?, hh] at hx
      · exact (shape_of_heap (hne b hb)).trans hx
  refine ⟨⟨hI.bel.trans ⟨by subst hw; rfl, by subst hw; rfl, by subst hw; rfl, by omega, fun c hc => hne c (by omega)⟩, fun b cs h => ?_, hI.live, fun t g h => ?_, hI.inj, fun b u h => ?_, fun g cs h => (hI.glob g cs h).ext he, hI.pre, fun r' m' h => ?_⟩, he⟩
  · obtain ⟨h1, h2, h3, vs, ty, h4, h5⟩ := hI.box b cs h
    exact ⟨h1, h2, h3, vs, ty, hcells b h4, h5.ext he⟩
  · obtain ⟨h1, h2, u, vs, ty, h3, h4, h5⟩ := hI.tip t g h
    exact ⟨h1, h2, u, vs, ty, h3, hcells g h4, h5⟩
  · have := hI.rowlt b u h; exact ⟨this.1, by omega⟩
  · simp only [St.putm] at h
    split at h
    · rename_i e; subst e
      injection h with h; subst h
      refine ⟨hB, es.push { key := x, val := y, born := es.size }, by rw [hsame, Array.size_push], ⟨by simp [hM.len], fun i p e hp hq => ?_⟩⟩
      simp only [Array.toList_push] at hq
      by_cases hi : i < m.length
      · rw [List.getElem?_append_left hi] at hp
        rw [List.getElem?_append_left (by rw [← hM.len]; exact hi)] at hq
        obtain ⟨g1, g2, g3, g4⟩ := hM.key i p e hp hq
        exact ⟨g1.ext he, g2.ext he, g3, g4⟩
      · have hi2 : i = m.length := by
          have := (List.getElem?_eq_some_iff.1 hp).1
          simp at this; omega
        subst hi2
        simp at hp
        rw [hM.len] at hq ⊢
        simp at hq
        subst hp; subst hq
        exact ⟨hx.ext he, hy.ext he, hv, by simp⟩
    · rename_i e
      obtain ⟨h1, es', h2, h3⟩ := hI.map r' m' h
      exact ⟨h1, es', (hne r' e).trans h2, h3.ext he⟩

theorem do_minsert (hr : Rel G w0 γ σ w n ds sl a) {t kt et : TypeId} {d : TypeDesc} {kd : Nat} {m k v : Operand} {om ok ov : Opd} (ho : o.op = .insert t m k v ∨ o.op = .mapUpdate t m k v) (ht : P.underlying t = some (.map kt et)) (hu : P.underlying kt = some d) (hd : kdOf d = some kd)
    (hm : trOpd m = some om) (hk : trOpd k = some ok) (hv : trOpd v = some ov) (h : sOp P G (.minsert kd om ok ov) sl σ K Kp) : Does P G o a w w0 γ K Kp := by
  simp only [sOp] at h
  split at h
  · rename_i r kv vv h1 h2 h3
    split at h
    · rename_i es hes
      obtain ⟨hl, hnt, hf, h⟩ := h
      have e1 := ev_sound hr hm h1
      have e2 := ev_sound hr hk h2
      have e3 := ev_sound hr hv h3
      generalize hme : a.eval m = me at e1
      cases e1
      obtain ⟨_, ens, hh, hM⟩ := hr.inv.map r es hes
      have hfind := find_sound hd hl e2 es ens.toList 0 none hM.len (fun i p e hp he => ⟨(hM.key i p e hp he).1, (hM.key i p e hp he).2.1⟩) hf
      simp only at hfind
      obtain ⟨hI, he⟩ := hr.inv.map_put hes hh hM e2 e3 hnt rfl
      refine .skip ?_ he hI h
      have hck : ∀ x, (Instr.checkKey false 10000 kt x).run P w = .ok () w := fun x => check_key hu hd false 9999 x
      rcases ho with ho | ho <;> simp [execOp, ho, hme, Instr.mapUpdate, run_underlying ht, getObj, Sem.run, hh, hck, Instr.findKey, run_underlying hu, hfind, MapKept.run_setObj_map _ hh, Result.andThen]
    · exact h.elim
  · exact h.elim

theorem do_mlook (hr : Rel G w0 γ σ w n ds sl a) {t kt et : TypeId} {d : TypeDesc} {kd : Nat} {m k : Operand} {om okk : Opd} {z : List V} {g ok : Bool} (ho : o.op = .lookup t m k ok) (ht : P.underlying t = some (.map kt et)) (hu : P.underlying kt = some d) (hd : kdOf d = some kd)
    (hz : zeroL P et = some z) (hzv : ∀ i v, P.info? et = some i → i.zero = some v → ((∃ cs, v = .agg cs) ↔ g = true)) (hm : trOpd m = some om) (hk : trOpd k = some okk) (h : sOp P G (.mlook kd z g ok om okk) sl σ K Kp) : Does P G o a w w0 γ K Kp := by
  obtain ⟨i, zv, hi, hzv', hzs, hzt⟩ := zeroL_sound hz
  have hzero : ∀ u, mkv g z = some u → ∀ B γ, ∀ w : World, R B γ w u zv := by
    intro u hu B γ w
    have hRL := trVs_sound (B := B) (γ := γ) (w := w) hzt
    have := mkv_sound hRL (trVs_one hzt) hu
    cases g with
    | true =>
      obtain ⟨cs, rfl⟩ := (hzv i zv hi hzv').2 rfl
      simpa [Value.cells] using this
    | false =>
      have hna : ¬ ∃ cs, zv = .agg cs := fun h => by have := (hzv i zv hi hzv').1 h; cases this
      have hc : zv.cells = #[zv] := by cases zv <;> first | rfl | exact absurd ⟨_, rfl⟩ hna
      simpa [hc] using this
  simp only [sOp] at h
  split at h
  · rename_i r kv h1 h2
    split at h
    · rename_i es hes
      obtain ⟨hl, h⟩ := h
      have e1 := ev_sound hr hm h1
      have e2 := ev_sound hr hk h2
      generalize hme : a.eval m = me at e1
      cases e1
      obtain ⟨_, ens, hh, hM⟩ := hr.inv.map r es hes
      have hck : ∀ b x, (Instr.checkKey b 10000 kt x).run P w = .ok () w := fun b x => check_key hu hd b 9999 x
      have hfs := fun r => find_sound hd hl e2 es ens.toList 0 r hM.len (fun i p e hp he => ⟨(hM.key i p e hp he).1, (hM.key i p e hp he).2.1⟩)
      have two : ∀ {v : V} {y : Value} (b : Bool), R w0.heap.size γ w v y → R w0.heap.size γ w (if ok = true then .tup [v, .bool b] else v) (if ok = true then .tuple #[y, .bool b] else y) := by
        intro v y b hy
        cases ok
        · exact hy
        · exact .tup _ _ rfl (fun k p q hp hq => by
            cases k with
            | zero => simp at hp hq; subst hp; subst hq; exact hy
            | succ k => cases k with
              | zero => simp at hp hq; subst hp; subst hq; exact .bool _
              | succ k => simp at hp)
      split at h
      · rename_i v hf
        obtain ⟨j, y, hfind, hy⟩ := hfs _ hf
        refine .same hr.inv (x := if ok = true then .tuple #[y, .bool true] else y) ?_ (two true hy) h
        simp [execOp, ho, hme, Instr.lookup, run_underlying ht, getObj, Sem.run, hh, hck, Instr.findKey, run_underlying hu, hfind, Result.andThen]
      · rename_i hf
        have hfind := hfs _ hf
        simp only at hfind
        split at h
        · rename_i u hu'
          refine .same hr.inv (x := if ok = true then .tuple #[zv, .bool false] else zv) ?_ (two false (hzero u hu' _ _ _)) h
          simp [execOp, ho, hme, Instr.lookup, run_underlying ht, getObj, Sem.run, hh, hck, Instr.findKey, run_underlying hu, hfind, Result.andThen, zeroValue, typeInfo, hi, hzv']
        · exact h.elim
      · exact h.elim
    · exact h.elim
  · exact h.elim
end
end Go.Shadow

/- THE SHADOW LOGIC, part 11: the translation of operations is sound. -/
namespace Go.Shadow
open Go Go.RowKit

def placesOK (P : Program) (t : TypeId) : Bool := match P.underlying t with
  | some (.struct fs) => (fs.toList.mapM (fun (f : Field) => (P.info? f.type).map fun (i : TypeInfo) => (f.offset, i.size))).isSome
  | some (.array _ e) => (P.info? e).isSome
  | _ => false
def zeroAgg (P : Program) (t : TypeId) : Bool := match P.info? t with
  | some i => match i.zero with
    | some (.agg _) => true
    | _ => false
  | none => false
def trOpt : Option Operand → Option (Option Opd)
  | none => some none
  | some x => match trOpd x with
    | some y => some (some y)
    | none => none
def negOf : BinOp → Option Bool
  | .eql => some false
  | .neq => some true
  | _ => none

def trBin (P : Program) (op : BinOp) (t : TypeId) (x y : Operand) : Option SOp :=
  match trOpd x, trOpd y with
  | some ox, some oy => match P.underlying t with
    | some (.int _) => some (.bin op ox oy)
    | some .string => some (.bins op ox oy)
    | some .bool => match negOf op with
      | some neg => some (.binb neg ox oy)
      | none => none
    | some (.struct fs) => match negOf op, shF P fs.toList with
      | some neg, some sh => if P.stoodInHeld t = false ∧ P.eqGuardType P.depth t = false ∧ flatF P fs.toList 0 = true then some (.eqs neg sh ox oy) else none
      | _, _ => none
    | some _ => match negOf op, y with
      | some neg, .const c => match trV c with
        | some cv => if nilFits P t c = true then some (.eqn neg ox (.c cv)) else none
        | none => none
      | _, _ => none
    | none => none
  | _, _ => none

def trConv (P : Program) (s t : TypeId) (x : Operand) : Option SOp :=
  match trOpd x with
  | some ox => match P.underlying s, P.underlying t with
    | some (.int _), some (.int k) => some (.i2i k ox)
    | some .string, some .string => some (.s2s ox)
    | some (.slice e), some .string => match P.underlying e with
      | some (.int .u8) => some (.b2s ox)
      | _ => none
    | some .string, some (.slice e) => match P.underlying e with
      | some (.int .u8) => some (.s2b ox)
      | _ => none
    | some (.pointer e), some .unsafePointer => match P.info? e with
      | some i => if i.size ≠ 0 then some (.conv2u ox) else none
      | none => none
    | _, _ => none
  | none => none

def trCall (P : Program) (c : Call) : Option SOp :=
  match c with
  | { callee := .value (.func f), args, argTypes := _ } => match trOpds args.toList with
    | some xs => some (.call f xs)
    | none => none
  | { callee := .value x, args, argTypes := _ } => match trOpd x, trOpds args.toList with
    | some y, some xs => some (.callv y xs)
    | _, _ => none
  | { callee := .invoke x name, args, argTypes := _ } => match trOpd x, trOpds args.toList with
    | some y, some xs => some (.calli (methTab P name P.types.size) y xs)
    | _, _ => none
  | { callee := .builtin b, args := ⟨args⟩, argTypes := ⟨ts⟩ } => match b, args, ts with
    | .len, [x], [t] => match trOpd x, P.underlying t with
      | some ox, some .string => some (.len true ox)
      | some ox, some (.slice _) => some (.len false ox)
      | _, _ => none
    | .max, xs, _ => match trOpds xs with
      | some ys => some (.mm true ys)
      | none => none
    | .min, xs, _ => match trOpds xs with
      | some ys => some (.mm false ys)
      | none => none
    | .append, [x, y], [t, t2] => match trOpd x, trOpd y, P.underlying t with
      | some ox, some oy, some (.slice e) => match P.info? e with
        | some i => match i.zero with
          | some z => if z.cells.size = i.size ∧ 0 < i.size then match P.underlying t2 with
            | some (.slice _) => some (.append i.size i.bytes ox oy)
            | some .string => if i.size = 1 then some (.appends i.bytes ox oy) else none
            | _ => none
            else none
          | none => none
        | none => none
      | _, _, _ => none
    | .copy, [x, y], [t, t2] => match trOpd x, trOpd y, P.underlying t, P.underlying t2 with
      | some ox, some oy, some (.slice e), some (.slice _) => match P.info? e with
        | some i => if i.size = 1 then some (.copy ox oy) else none
        | none => none
      | _, _, _, _ => none
    | .panic, [x], _ => match trOpd x with
      | some ox => some (.panic ox)
      | none => none
    | _, _, _ => none

def trIns (P : Program) (t : TypeId) (m k v : Operand) : Option SOp := match P.underlying t with
  | some (.map kt _) => match P.underlying kt with
    | some d => match kdOf d, trOpd m, trOpd k, trOpd v with
      | some kd, some om, some ok, some ov => some (.minsert kd om ok ov)
      | _, _, _, _ => none
    | none => none
  | _ => none
def trLook (P : Program) (t : TypeId) (m k : Operand) (ok : Bool) : Option SOp := match P.underlying t with
  | some (.map kt et) => match P.underlying kt with
    | some d => match kdOf d, trOpd m, trOpd k, zeroL P et, aggB P et with
      | some kd, some om, some okk, some z, some g => if zeroAgg P et = g then some (.mlook kd z g ok om okk) else none
      | _, _, _, _, _ => none
    | none => none
  | _ => none
def trOp (P : Program) (op : Op) : Option SOp :=
  match op with
  | .move x => match trOpd x with
    | some y => some (.mv y)
    | none => none
  | .assign x => match trOpd x with
    | some y => some (.mv y)
    | none => none
  | .pick c x y => match trOpd c, trOpd x, trOpd y with
    | some oc, some ox, some oy => some (.pick oc ox oy)
    | _, _, _ => none
  | .alloc t => match zeroL P t with
    | some z => some (.alloc z)
    | none => none
  | .box _ x => match trOpd x with
    | some y => some (.box y)
    | none => none
  | .build t parts => match zeroL P t with
    | some z => match trParts P t z.length parts.toList with
      | some ps => if placesOK P t = true then some (.build z ps) else none
      | none => none
    | none => none
  | .buildSlice t len parts => match P.underlying t with
    | some (.slice e) => match P.info? e, zeroL P e, trEls 0 parts.toList with
      | some i, some _, some ps => if 0 < i.size ∧ parts.size = len ∧ len * i.size ≤ 16777216 then some (.mkslice i.size ps) else none
      | _, _, _ => none
    | _ => none
  | .load t x => match trOpd x, aggB P t, P.info? t with
    | some ox, some g, some i => if 0 < i.size then some (.load g i.size ox) else none
    | _, _, _ => none
  | .store t x y => match trOpd x, trOpd y, P.info? t with
    | some ox, some oy, some i => some (.store i.size ox oy)
    | _, _, _ => none
  | .nilCheck x => match trOpd x with
    | some y => some (.nilchk y)
    | none => none
  | .binOp op t x y _ => trBin P op t x y
  | .unOp op _ x => match trOpd x with
    | some y => some (.un op y)
    | none => none
  | .convert s t x => trConv P s t x
  | .makeInterface t x => match trOpd x, P.underlying t with
    | some _, some (.interface _) => none
    | some ox, some _ => some (.mkif t ox)
    | _, _ => none
  | .makeFunc (.func f) fi ca => match trOpds fi.toList, trOpds ca.toList with
    | some a, some b => some (.mkfn f a b)
    | _, _ => none
  | .slice t x lo hi none => match trOpd x, trOpt lo, trOpt hi with
    | some ox, some olo, some ohi => match P.underlying t with
      | some .string => some (.cuts ox olo ohi)
      | some (.slice e) => match P.info? e with
        | some i => some (.slice i.size ox olo ohi)
        | none => none
      | _ => none
    | _, _, _ => none
  | .fieldAddr t x k => match trOpd x, P.underlying t with
    | some ox, some (.struct fs) => match fs[k]? with
      | some f => match P.info? f.type with
        | some i => if i.size ≠ 0 then some (.faddr f.offset ox) else none
        | none => none
      | none => none
    | _, _ => none
  | .field t x k => match trOpd x, P.underlying t with
    | some ox, some (.struct fs) => match fs[k]? with
      | some f => match P.info? f.type, aggB P f.type with
        | some i, some g => if 0 < i.size then some (.field g i.size f.offset ox) else none
        | _, _ => none
      | none => none
    | _, _ => none
  | .indexAddr t x y => match trOpd x, trOpd y, P.underlying t with
    | some ox, some oy, some (.slice e) => match P.info? e with
      | some i => some (.iaddr i.size ox oy)
      | none => none
    | some ox, some oy, some (.array m e) => match P.info? e with
      | some i => some (.iaddrA i.size m ox oy)
      | none => none
    | _, _, _ => none
  | .index t x y => match trOpd x, trOpd y, P.underlying t with
    | some ox, some oy, some .string => some (.idxs ox oy)
    | some ox, some oy, some (.array m e) => match P.info? e, aggB P e with
      | some i, some g => if 0 < i.size then some (.idxa g i.size m ox oy) else none
      | _, _ => none
    | _, _, _ => none
  | .makeSlice t x y => match trOpd x, trOpd y, P.underlying t with
    | some ox, some oy, some (.slice e) => match P.info? e, zeroL P e with
      | some i, some z => if 0 < i.size then some (.mkmsl i.size i.bytes z ox oy) else none
      | _, _ => none
    | _, _, _ => none
  | .extract x k => match trOpd x with
    | some y => some (.extract k y)
    | none => none
  | .call c => trCall P c
  | .panic x => match trOpd x with
    | some y => some (.panic y)
    | none => none
  | .typeAssert x _ t ok => match trOpd x, P.underlying t with
    | some _, some (.interface _) => none
    | some ox, some _ => match zeroL P t, aggB P t with
      | some z, some g => if zeroAgg P t = g then some (.tassert t z g ok ox) else none
      | _, _ => none
    | _, _ => none
  | .makeMap _ none => some .mkmap
  | .insert t m k v => trIns P t m k v
  | .mapUpdate t m k v => trIns P t m k v
  | .lookup t m k ok => trLook P t m k ok
  | _ => none

section
variable {P : Program} {G : Globs} {w0 w : World} {γ : Gh} {σ : St} {n : Nat} {ds : List Deferred} {sl : Slots} {a : Act} {o : Oper} {K Kp : V → St → Prop}

theorem trOpt_eq {x : Option Operand} {y : Option Opd} (h : trOpt x = some y) : x.map trOpd = y.map some := by
  cases x with
  | none => simp [trOpt] at h; subst h; rfl
  | some x =>
    simp only [trOpt] at h
    split at h
    · rename_i z hz; injection h with h; subst h; simp [hz]
    · cases h

theorem negOf_eq {op : BinOp} {neg : Bool} (h : negOf op = some neg) : op = if neg then .neq else .eql := by
  cases op <;> simp [negOf] at h <;> subst h <;> rfl

theorem trBin_sound (hr : Rel G w0 γ σ w n ds sl a) {op : BinOp} {t t2 : TypeId} {x y : Operand} {so : SOp} (ho : o.op = .binOp op t x y t2) (ht : trBin P op t x y = some so) (h : sOp P G so sl σ K Kp) : Does P G o a w w0 γ K Kp := by
  unfold trBin at ht
  split at ht
  · rename_i ox oy hx hy
    split at ht
    · injection ht with ht; subst ht; exact do_bin hr ho hx hy h
    · injection ht with ht; subst ht; exact do_bins hr ho hx hy h
    · rename_i hu
      split at ht
      · rename_i neg hn; injection ht with ht; subst ht; exact do_binb hr (negOf_eq hn) ho hu hx hy h
      · cases ht
    · rename_i fs hu
      split at ht
      · rename_i neg sh hn hsh
        split at ht
        · rename_i hc; injection ht with ht; subst ht
          exact do_eqs hr (negOf_eq hn) ho hu hc.1 hc.2.1 hc.2.2 hsh hx hy h
        · cases ht
      · cases ht
    · split at ht
      · rename_i neg c hn
        split at ht
        · rename_i cv hc
          split at ht
          · rename_i hf; injection ht with ht; subst ht
            exact do_eqn hr (negOf_eq hn) ho hf hx hc h
          · cases ht
        · cases ht
      · cases ht
    · cases ht
  · cases ht

theorem trConv_sound (hr : Rel G w0 γ σ w n ds sl a) {s t : TypeId} {x : Operand} {so : SOp} (ho : o.op = .convert s t x) (ht : trConv P s t x = some so) (h : sOp P G so sl σ K Kp) : Does P G o a w w0 γ K Kp := by
  unfold trConv at ht
  split at ht
  · rename_i ox hx
    split at ht
    · rename_i hs hd; injection ht with ht; subst ht; exact do_i2i hr ho hs hd hx h
    · rename_i hs hd; injection ht with ht; subst ht; exact do_s2s hr ho hs hd hx h
    · rename_i e hs hd
      split at ht
      · rename_i he; injection ht with ht; subst ht; exact do_b2s hr ho hs he hd hx h
      · cases ht
    · rename_i e hs hd
      split at ht
      · rename_i he; injection ht with ht; subst ht; exact do_s2b hr ho hs hd he hx h
      · cases ht
    · rename_i e hs hd
      split at ht
      · rename_i i hi
        split at ht
        · rename_i hz; injection ht with ht; subst ht; exact do_conv2u hr ho hs hd hi hz hx h
        · cases ht
      · cases ht
    · cases ht
  · cases ht

theorem trCall_sound (hr : Rel G w0 γ σ w n ds sl a) {c : Call} {so : SOp} (ho : o.op = .call c) (ht : trCall P c = some so) (h : sOp P G so sl σ K Kp) : Does P G o a w w0 γ K Kp := by
  unfold trCall at ht
  split at ht
  · split at ht
    · rename_i xs hx; injection ht with ht; subst ht; exact do_call hr ho hx h
    · cases ht
  · split at ht
    · rename_i y xs hy hx; injection ht with ht; subst ht; exact do_callv hr ho hy hx h
    · cases ht
  · split at ht
    · rename_i y xs hy hx; injection ht with ht; subst ht; exact do_calli hr ho hy hx h
    · cases ht
  · split at ht
    · split at ht
      · rename_i ox hx hu; injection ht with ht; subst ht; exact do_len hr ho (.inl ⟨rfl, hu⟩) hx h
      · rename_i ox e hx hu; injection ht with ht; subst ht; exact do_len hr ho (.inr ⟨rfl, _, hu⟩) hx h
      · cases ht
    · split at ht
      · rename_i xs _ ys hx; injection ht with ht; subst ht; exact do_mm (mx := true) hr ho hx h
      · cases ht
    · split at ht
      · rename_i xs _ ys hx; injection ht with ht; subst ht; exact do_mm (mx := false) hr ho hx h
      · cases ht
    · split at ht
      · rename_i ox oy e hx hy hu
        split at ht
        · rename_i i hi
          split at ht
          · rename_i z hz
            split at ht
            · rename_i hc
              split at ht
              · rename_i e2 hu2; injection ht with ht; subst ht
                exact do_append hr ho hu hi hz hc.1 hc.2 hu2 hx hy h
              · rename_i hu2
                split at ht
                · rename_i h1; injection ht with ht; subst ht
                  exact do_append_str hr ho hu hi hz hc.1 h1 hu2 hx hy h
                · cases ht
              · cases ht
            · cases ht
          · cases ht
        · cases ht
      · cases ht
    · split at ht
      · rename_i ox oy e e2 hx hy hu hu2
        split at ht
        · rename_i i hi
          split at ht
          · rename_i hs; injection ht with ht; subst ht
            exact do_copy hr ho hu hu2 hi hs hx hy h
          · cases ht
        · cases ht
      · cases ht
    · split at ht
      · rename_i ox hx; injection ht with ht; subst ht; exact do_panic hr (.inr ⟨_, ho⟩) hx h
      · cases ht
    · cases ht

theorem trIns_sound (hr : Rel G w0 γ σ w n ds sl a) {o : Oper} {so : SOp} {t : TypeId} {m k v : Operand} {K : V → St → Prop} (hop : o.op = .insert t m k v ∨ o.op = .mapUpdate t m k v) (ht : trIns P t m k v = some so) (h : sOp P G so sl σ K Kp) : Does P G o a w w0 γ K Kp := by
  unfold trIns at ht
  split at ht
  · rename_i hm
    split at ht
    · rename_i d hu
      split at ht
      · rename_i kd om ok ov hd hx hy hz
        injection ht with ht; subst ht
        exact do_minsert hr hop hm hu hd hx hy hz h
      · cases ht
    · cases ht
  · cases ht

theorem sOp_sound (hr : Rel G w0 γ σ w n ds sl a) {so : SOp} (ht : trOp P o.op = some so) (h : sOp P G so sl σ K Kp) : Does P G o a w w0 γ K Kp := by
  generalize hop : o.op = op at ht
  unfold trOp at ht
  split at ht
  · split at ht
    · rename_i y hx; injection ht with ht; subst ht; exact do_mv hr (.inl hop) hx h
    · cases ht
  · split at ht
    · rename_i y hx; injection ht with ht; subst ht; exact do_mv hr (.inr hop) hx h
    · cases ht
  · split at ht
    · rename_i oc ox oy hc hx hy; injection ht with ht; subst ht; exact do_pick hr hop hc hx hy h
    · cases ht
  · split at ht
    · rename_i z hz; injection ht with ht; subst ht; exact do_alloc hr hop hz h
    · cases ht
  · split at ht
    · rename_i y hx; injection ht with ht; subst ht; exact do_box hr hop hx h
    · cases ht
  · split at ht
    · rename_i z hz
      split at ht
      · rename_i ps hp
        split at ht
        · rename_i hpl; injection ht with ht; subst ht
          refine do_build hr hop hz hp ?_ h
          unfold placesOK at hpl
          split at hpl
          · rename_i fs hf; exact .inl ⟨fs, hf, hpl⟩
          · rename_i m e he
            obtain ⟨i, hi⟩ := Option.isSome_iff_exists.1 hpl
            exact .inr ⟨m, e, i, he, hi⟩
          · cases hpl
        · cases ht
      · cases ht
    · cases ht
  · split at ht
    · rename_i e hu
      split at ht
      · rename_i i z ps hi hz hp
        split at ht
        · rename_i hc; injection ht with ht; subst ht
          exact do_mkslice hr hop hu hi hz hc.1 hp hc.2.1 hc.2.2 h
        · cases ht
      · cases ht
    · cases ht
  · split at ht
    · rename_i ox g i hx hg hi
      split at ht
      · rename_i hs; injection ht with ht; subst ht; exact do_load hr hop hx hg hi hs h
      · cases ht
    · cases ht
  · split at ht
    · rename_i ox oy i hx hy hi; injection ht with ht; subst ht; exact do_store hr hop hx hy hi h
    · cases ht
  · split at ht
    · rename_i y hx; injection ht with ht; subst ht; exact do_nilchk hr hop hx h
    · cases ht
  · exact trBin_sound hr hop ht h
  · split at ht
    · rename_i y hx; injection ht with ht; subst ht; exact do_un hr hop hx h
    · cases ht
  · exact trConv_sound hr hop ht h
  · split at ht
    · cases ht
    · rename_i ox d hni hx hd; injection ht with ht; subst ht
      refine do_mkif hr hop hd ?_ hx h
      cases d <;> first | rfl | (exact absurd rfl (hni _))
    · cases ht
  · split at ht
    · rename_i u v hf hc; injection ht with ht; subst ht; exact do_mkfn hr hop hf hc h
    · cases ht
  · split at ht
    · rename_i ox olo ohi hx hlo hhi
      split at ht
      · rename_i hu; injection ht with ht; subst ht; exact do_cuts hr hop hu hx (trOpt_eq hlo) (trOpt_eq hhi) h
      · rename_i e hu
        split at ht
        · rename_i i hi; injection ht with ht; subst ht; exact do_slice hr hop hu hi hx (trOpt_eq hlo) (trOpt_eq hhi) h
        · cases ht
      · cases ht
    · cases ht
  · split at ht
    · rename_i ox fs hx hu
      split at ht
      · rename_i f hf
        split at ht
        · rename_i i hi
          split at ht
          · rename_i hs; injection ht with ht; subst ht; exact do_faddr hr hop hu hf hi hs hx h
          · cases ht
        · cases ht
      · cases ht
    · cases ht
  · split at ht
    · rename_i ox fs hx hu
      split at ht
      · rename_i f hf
        split at ht
        · rename_i i g hi hg
          split at ht
          · rename_i hs; injection ht with ht; subst ht; exact do_field hr hop hu hf hi hg hs hx h
          · cases ht
        · cases ht
      · cases ht
    · cases ht
  · split at ht
    · rename_i ox oy e hx hy hu
      split at ht
      · rename_i i hi; injection ht with ht; subst ht; exact do_iaddr hr hop hu hi hx hy h
      · cases ht
    · rename_i ox oy m e hx hy hu
      split at ht
      · rename_i i hi; injection ht with ht; subst ht; exact do_iaddrA hr hop hu hi hx hy h
      · cases ht
    · cases ht
  · split at ht
    · rename_i ox oy hx hy hu; injection ht with ht; subst ht; exact do_idxs hr hop hu hx hy h
    · rename_i ox oy m e hx hy hu
      split at ht
      · rename_i i g hi hg
        split at ht
        · rename_i hs; injection ht with ht; subst ht; exact do_idxa hr hop hu hi hg hs hx hy h
        · cases ht
      · cases ht
    · cases ht
  · split at ht
    · rename_i ox oy e hx hy hu
      split at ht
      · rename_i i z hi hz
        split at ht
        · rename_i hs; injection ht with ht; subst ht; exact do_mkmsl hr hop hu hi hs hz hx hy h
        · cases ht
      · cases ht
    · cases ht
  · split at ht
    · rename_i y hx; injection ht with ht; subst ht; exact do_extract hr hop hx h
    · cases ht
  · exact trCall_sound hr hop ht h
  · split at ht
    · rename_i y hx; injection ht with ht; subst ht; exact do_panic hr (.inl hop) hx h
    · cases ht
  · split at ht
    · cases ht
    · rename_i ox d hni hx hd
      split at ht
      · rename_i z g hz hg
        split at ht
        · rename_i hzg; injection ht with ht; subst ht
          refine do_tassert hr hop hd ?_ hz hg ?_ hx h
          · cases d <;> first | rfl | (exact absurd rfl (hni _))
          · intro i v hi hv
            unfold zeroAgg at hzg
            simp only [hi, hv] at hzg
            cases v <;> simp_all
        · cases ht
      · cases ht
    · cases ht
  · injection ht with ht; subst ht; exact do_mkmap hr hop h
  · exact trIns_sound hr (.inl hop) ht h
  · exact trIns_sound hr (.inr hop) ht h
  · unfold trLook at ht
    split at ht
    · rename_i hm
      split at ht
      · rename_i d hu
        split at ht
        · rename_i kd om okk z g hd hx hy hz hg
          split at ht
          · rename_i hzg; injection ht with ht; subst ht
            refine do_mlook hr hop hm hu hd hz ?_ hx hy h
            intro i v hi hv
            unfold zeroAgg at hzg
            simp only [hi, hv] at hzg
            cases v <;> simp_all
          · cases ht
        · cases ht
      · cases ht
    · cases ht
  · cases ht

end
end Go.Shadow

/- THE SHADOW LOGIC, part 12: regions, in the text's order and in whatever order is drawn. -/
namespace Go.Shadow
open Go Go.RowKit

def dstOK (n : Nat) : Option Nat → Bool
  | some d => decide (d < n)
  | none => true
def trOper (P : Program) (n : Nat) (ops : Array Oper) (o : Oper) : Option SOper :=
  match trOp P o.op with
  | some so => if dstOK n o.dst = true then match o.guard with
    | none => some ⟨o.dst, so, none⟩
    | some (j, want) => match (ops[j]?).bind (·.dst) with
      | some g => some ⟨o.dst, so, some (g, want)⟩
      | none => none
    else none
  | none => none
def trOpers (P : Program) (n : Nat) (ops : Array Oper) : List Oper → Option (List SOper)
  | [] => some []
  | o :: r => match trOper P n ops o, trOpers P n ops r with
    | some s, some ss => some (s :: ss)
    | _, _ => none

section
variable {P : Program} {G : Globs} {w0 w : World} {γ : Gh} {σ : St} {n : Nat} {ds : List Deferred} {sl : Slots} {a : Act} {Kp : V → St → Prop}

theorem Rel.ext (hr : Rel G w0 γ σ w n ds sl a) {γ' : Gh} {σ' : St} {w' : World} (he : Ext w0.heap.size γ w γ' w') (hi : Inv G w0 γ' σ' w') : Rel G w0 γ' σ' w' n ds sl a :=
  ⟨hi, fun t v h => (hr.slots t v h).ext he, hr.size, hr.defs⟩

theorem Rel.put (hr : Rel G w0 γ σ w n ds sl a) {d : Option Nat} (hd : ∀ k, d = some k → k < n) {v : V} {x : Value} (hv : R w0.heap.size γ w v x) : Rel G w0 γ σ w n ds (putD sl d v) (a.put d x) := by
  cases d with
  | none => exact hr
  | some k =>
    refine ⟨hr.inv, fun t u h => ?_, by simp [Act.put, hr.size], by simp [Act.put, hr.defs]⟩
    simp only [putD, Slots.upd] at h
    have hk := hd k rfl
    split at h
    · rename_i htk; subst htk
      injection h with h; subst h
      have hlt : t < a.tmps.size := by rw [hr.size]; exact hk
      simp only [Act.put, Array.getD_eq_getD_getElem?, Array.getElem?_setIfInBounds, if_true, if_pos hlt, Option.getD_some]
      exact hv
    · rename_i htk
      have := hr.slots t u h
      simp only [Act.put, Array.getD_eq_getD_getElem?, Array.getElem?_setIfInBounds, if_neg (Ne.symm htk)] at this ⊢
      exact this

/-- Nothing but these slots has changed. -/
def Same (D : List Nat) (a a' : Act) : Prop := ∀ t, t ∉ D → a'.tmps.getD t undef = a.tmps.getD t undef
theorem Same.refl (D : List Nat) (a : Act) : Same D a a := fun _ _ => rfl
theorem Same.trans {D : List Nat} {a b c : Act} (h : Same D a b) (k : Same D b c) : Same D a c := fun t ht => (k t ht).trans (h t ht)
theorem Same.put {D : List Nat} {a : Act} {d : Option Nat} (h : ∀ k, d = some k → k ∈ D) (x : Value) : Same D a (a.put d x) := by
  intro t ht
  cases d with
  | none => rfl
  | some k =>
    have hne : k ≠ t := fun e => ht (e ▸ h k rfl)
    simp only [Act.put, Array.getD_eq_getD_getElem?, Array.getElem?_setIfInBounds, if_neg hne]
/-- The slots that an operation of a list writes. -/
def dsts : List SOper → List Nat
  | [] => []
  | o :: r => o.dst.toList ++ dsts r
theorem mem_dsts {l : List SOper} {o : SOper} (h : o ∈ l) {d : Nat} (hd : o.dst = some d) : d ∈ dsts l := by
  induction l with
  | nil => cases h
  | cons x r ih =>
    simp only [dsts, List.mem_append]
    rcases List.mem_cons.1 h with rfl | h
    · exact .inl (by simp [hd])
    · exact .inr (ih h)
def dropS (D : List Nat) (sl : Slots) : Slots := fun t => if D.contains t = true then none else sl t
theorem Rel.drop {D : List Nat} {γ' : Gh} {σ' : St} {w' : World} {a' : Act} (hr : Rel G w0 γ σ w n ds sl a) (he : Ext w0.heap.size γ w γ' w') (h : Rel G w0 γ' σ' w' n ds (fun _ => none) a') (hs : Same D a a') : Rel G w0 γ' σ' w' n ds (dropS D sl) a' := by
  refine ⟨h.inv, fun t v hv => ?_, h.size, h.defs⟩
  unfold dropS at hv
  split at hv
  · cases hv
  · rename_i hc
    rw [hs t (fun hm => hc (by simpa using hm))]
    exact (hr.slots t v hv).ext he

theorem sOper_sound (hr : Rel G w0 γ σ w n ds sl a) {ops : Array Oper} {i : Nat} {o : Oper} {so : SOper} (ho : ops[i]? = some o) (ht : trOper P n ops o = some so) {K : Slots → St → Prop} (h : sOper P G so sl σ K Kp)
    {K' : Act → World → Prop} {Q : Exit → Act → World → Prop} (hK : ∀ γ' σ' w' sl' a', Ext w0.heap.size γ w γ' w' → Rel G w0 γ' σ' w' n ds sl' a' → K sl' σ' → (∀ D, (∀ k, so.dst = some k → k ∈ D) → Same D a a') → K' a' w')
    (hKp : ∀ γ' σ' w' v x, Ext w0.heap.size γ w γ' w' → Inv G w0 γ' σ' w' → R w0.heap.size γ' w' v x → Kp v σ' → Q (.panic [{ v := x, recovered := false }]) a w') : wpOp P ops Q i K' a w := by
  unfold wpOp
  simp only [ho]
  unfold trOper at ht
  split at ht
  · rename_i s hs
    split at ht
    · rename_i hd
      have hd' : ∀ k, o.dst = some k → k < n := by intro k hk; simpa [hk, dstOK] using hd
      have hdst : so.dst = o.dst := by
        split at ht
        · injection ht with ht; subst ht; rfl
        · split at ht
          · injection ht with ht; subst ht; rfl
          · cases ht
      have exec : sOp P G s sl σ (fun v σ' => K (putD sl o.dst v) σ') Kp → o.wp P a w K' Q := fun hx =>
        sOp_sound hr hs hx K' Q (fun γ' σ' w' v x he hi hv hk => hK γ' σ' w' _ _ he ((hr.ext he hi).put hd' hv) hk (fun D hD => Same.put (fun k hk => hD k (hdst.trans hk)) _)) hKp
      have skip : K (putD sl o.dst (.tup [])) σ → K' (a.put o.dst undef) w := fun hx => hK γ σ w _ _ (.refl _ _ _) (hr.put hd' .undef) hx (fun D hD => Same.put (fun k hk => hD k (hdst.trans hk)) _)
      split at ht
      · rename_i hg
        injection ht with ht; subst ht
        simp only [sOper] at h
        simp only [Region.wanted, hg, if_true]
        exact .inl (exec h)
      · rename_i j want hg
        split at ht
        · rename_i g hgd
          injection ht with ht; subst ht
          simp only [sOper] at h
          have hy : ∀ u, sl g = some u → ∃ x, a.tmps.getD g undef = x ∧ R w0.heap.size γ w u x := fun u hu => ⟨_, rfl, hr.slots g u hu⟩
          split at h
          · rename_i b hb
            obtain ⟨x, hx, hRx⟩ := hy _ hb
            cases hRx
            have hget : a.tmps[g]? = some (.bool b) := by
              rw [Array.getD_eq_getD_getElem?] at hx
              cases hq : a.tmps[g]? with
              | none => rw [hq] at hx; simp [undef] at hx
              | some z => rw [hq] at hx; simp at hx; rw [hx]
            have hw : Region.wanted o (yielded ops a.tmps) = (b == want) := by
              simp only [Region.wanted, hg, yielded, hgd, Option.bind_some, hget]
              cases b <;> cases want <;> rfl
            rw [hw]
            cases hbw : b == want with
            | true => simp only [if_true]; exact .inl (exec (h.1 hbw))
            | false => simp only [Bool.false_eq_true, if_false]; exact skip (h.2 hbw)
          · rename_i hb
            obtain ⟨x, hx, hRx⟩ := hy _ hb
            cases hRx with | tup _ vs hl _ =>
            have hw : Region.wanted o (yielded ops a.tmps) = false := by
              simp only [Region.wanted, hg, yielded, hgd, Option.bind_some]
              rw [Array.getD_eq_getD_getElem?] at hx
              cases hq : a.tmps[g]? with
              | none => rfl
              | some z => rw [hq] at hx; simp at hx; subst hx; rfl
            rw [hw]
            simp only [Bool.false_eq_true, if_false]
            exact skip h
          · exact h.elim
        · cases ht
    · cases ht
  · cases ht

theorem sOps_sound {ops : Array Oper} {Q : Exit → Act → World → Prop} {K : Slots → St → Prop} : ∀ (l : List Nat) (sos : List SOper) {γ : Gh} {σ : St} {w : World} {sl : Slots} {a : Act}, Rel G w0 γ σ w n ds sl a → l.length = sos.length →
    (∀ (k i : Nat) (so : SOper), l[k]? = some i → sos[k]? = some so → ∃ o, ops[i]? = some o ∧ trOper P n ops o = some so) → sOps P G Kp K sos sl σ →
    (∀ γ' σ' w' sl' a', Ext w0.heap.size γ w γ' w' → Rel G w0 γ' σ' w' n ds sl' a' → K sl' σ' → Q .normal a' w') →
    (∀ γ' σ' w' v x a', Ext w0.heap.size γ w γ' w' → Rel G w0 γ' σ' w' n ds (fun _ => none) a' → R w0.heap.size γ' w' v x → Kp v σ' → Same (dsts sos) a a' → Q (.panic [{ v := x, recovered := false }]) a' w') → wpOps P ops Q l a w
  | [], [], γ, σ, w, sl, a, hr, _, _, h, hK, _ => hK γ σ w sl a (.refl _ _ _) hr h
  | i :: l, so :: sos, γ, σ, w, sl, a, hr, hl, hm, h, hK, hKp => by
    obtain ⟨o, ho, ht⟩ := hm 0 i so rfl rfl
    rw [wpOps_cons]
    refine sOper_sound hr ho ht (K := sOps P G Kp K sos) h (fun γ' σ' w' sl' a' he hr' hk hs => ?_) (fun γ' σ' w' v x he hi hv hk => hKp γ' σ' w' v x a he ⟨hi, fun _ _ h => (by cases h), hr.size, hr.defs⟩ hv hk (.refl _ _))
    exact sOps_sound l sos hr' (by simpa using hl) (fun k i so hk hs => hm (k + 1) i so (by simpa using hk) (by simpa using hs)) hk
      (fun γ2 σ2 w2 sl2 a2 he2 hr2 hk2 => hK γ2 σ2 w2 sl2 a2 (he.trans he2) hr2 hk2) (fun γ2 σ2 w2 v x a2 he2 hr2 hv hk2 hs2 => hKp γ2 σ2 w2 v x a2 (he.trans he2) hr2 hv hk2 ((hs _ (fun k hk => mem_dsts (by simp) hk)).trans (fun t ht => hs2 t (fun hm => ht (by simp only [dsts, List.mem_append]; exact .inr hm)))))
  | [], _ :: _, _, _, _, _, _, _, hl, _, _, _, _ => by simp at hl
  | _ :: _, [], _, _, _, _, _, _, hl, _, _, _, _ => by simp at hl

/-! ### what an operation looks at, and its class -/
def Opd.slot : Opd → List Nat
  | .t k => [k]
  | _ => []
def optSlot : Option Opd → List Nat
  | some x => x.slot
  | none => []
def SOp.reads : SOp → List Nat
  | .mv x | .box x | .nilchk x | .un _ x | .i2i _ x | .b2s x | .s2b x | .s2s x | .mkif _ x | .faddr _ x | .field _ _ _ x | .extract _ x | .len _ x | .panic x | .tassert _ _ _ _ x | .load _ _ x | .conv2u x => x.slot
  | .pick c x y => c.slot ++ x.slot ++ y.slot
  | .alloc _ | .mkmap => []
  | .minsert _ x y z => x.slot ++ y.slot ++ z.slot
  | .build _ ps => (ps.map (·.2.2.slot)).flatten
  | .mkslice _ xs | .mm _ xs | .call _ xs | .callk _ xs => (xs.map Opd.slot).flatten
  | .store _ x y | .bin _ x y | .bins _ x y | .binb _ x y | .eqs _ _ x y | .eqn _ x y | .iaddr _ x y | .iaddrA _ _ x y | .idxs x y | .idxa _ _ _ x y | .append _ _ x y | .appends _ x y | .mkmsl _ _ _ x y | .copy x y | .mlook _ _ _ _ x y => x.slot ++ y.slot
  | .mkfn _ a b => (a.map Opd.slot).flatten ++ (b.map Opd.slot).flatten
  | .slice _ x lo hi => x.slot ++ optSlot lo ++ optSlot hi
  | .cuts x lo hi => x.slot ++ optSlot lo ++ optSlot hi
  | .stored os _ x y => os ++ (x.slot ++ y.slot)
  | .loadr root _ _ x => root.toList ++ x.slot
  | .callr ls _ xs => ls ++ (xs.map Opd.slot).flatten
  | .callvr ls x xs => ls ++ (x.slot ++ (xs.map Opd.slot).flatten)
  | .callv x xs | .callvk x xs | .calli _ x xs => x.slot ++ (xs.map Opd.slot).flatten
def SOp.cls : SOp → Nat
  | .load _ _ _ | .loadr _ _ _ _ | .b2s _ => 1
  | .alloc _ | .box _ | .append _ _ _ _ | .appends _ _ _ | .callk _ _ | .callvk _ _ | .mkmap | .minsert _ _ _ _ | .mlook _ _ _ _ _ _ => 2
  | .store _ _ _ | .stored _ _ _ _ | .call _ _ | .callv _ _ | .callr _ _ _ | .callvr _ _ _ | .panic _ | .calli _ _ _ | .mkmsl _ _ _ _ _ | .copy _ _ | .conv2u _ => 3
  | _ => 0
def SOper.reads (o : SOper) : List Nat := o.op.reads ++ (match o.guard with | some (g, _) => [g] | none => [])

def Alike (rs : List Nat) (sl sl' : Slots) : Prop := ∀ k ∈ rs, sl' k = sl k

theorem Opd.ev_alike {x : Opd} {sl sl' : Slots} (h : Alike x.slot sl sl') : x.ev sl' G = x.ev sl G := by
  cases x <;> simp only [Opd.ev]
  exact h _ (by simp [Opd.slot])
theorem Alike.left {r s : List Nat} {sl sl' : Slots} (h : Alike (r ++ s) sl sl') : Alike r sl sl' := fun k hk => h k (by simp [hk])
theorem Alike.right {r s : List Nat} {sl sl' : Slots} (h : Alike (r ++ s) sl sl') : Alike s sl sl' := fun k hk => h k (by simp [hk])
theorem evs_alike {sl sl' : Slots} : ∀ {xs : List Opd}, Alike (xs.map Opd.slot).flatten sl sl' → evs sl' G xs = evs sl G xs
  | [], _ => rfl
  | x :: xs, h => by
    simp only [List.map_cons, List.flatten_cons] at h
    simp only [evs, Opd.ev_alike h.left, evs_alike h.right]
theorem optSlot_alike {sl sl' : Slots} {x : Option Opd} (h : Alike (optSlot x) sl sl') : x.map (fun y : Opd => y.ev sl' G) = x.map (fun y : Opd => y.ev sl G) := by
  cases x with
  | none => rfl
  | some x => simp only [Option.map_some, Opd.ev_alike (x := x) h]

theorem farL_alike {sl sl' : Slots} {b : Nat} : ∀ {os : List Nat}, Alike os sl sl' → farL sl' b os = farL sl b os
  | [], _ => rfl
  | k :: r, h => by simp only [farL, h k (by simp), farL_alike (os := r) (fun j hj => h j (by simp [hj]))]
theorem keptL_alike {sl sl' : Slots} {σ σ' : St} {p : Prop} : ∀ {ls : List Nat}, Alike ls sl sl' → KeptL sl' σ σ' p ls = KeptL sl σ σ' p ls
  | [], _ => rfl
  | k :: r, h => by simp only [KeptL, h k (by simp), keptL_alike (ls := r) (fun j hj => h j (by simp [hj]))]
theorem rootOK_alike {sl sl' : Slots} {root : Option Nat} {v : Option V} (h : Alike root.toList sl sl') : RootOK sl' root v = RootOK sl root v := by
  cases root with
  | none => cases v with
    | none => rfl
    | some v => cases v <;> rfl
  | some r => cases v with
    | none => rfl
    | some v => cases v <;> simp only [RootOK, h r (by simp)]
theorem sOp_alike {o : SOp} {sl sl' : Slots} (h : Alike o.reads sl sl') (σ : St) (K Kp : V → St → Prop) : sOp P G o sl' σ K Kp = sOp P G o sl σ K Kp := by
  cases o <;> simp only [SOp.reads] at h <;> simp only [sOp] <;>
    first
      | rw [Opd.ev_alike h]
      | rw [Opd.ev_alike h.left, Opd.ev_alike h.right]
      | rw [Opd.ev_alike h.left.left, Opd.ev_alike h.left.right, Opd.ev_alike h.right]
      | rw [evs_alike h]
      | rw [evs_alike h.left, evs_alike h.right]
      | rw [Opd.ev_alike h.left, evs_alike h.right]
      | rw [Opd.ev_alike h.left.left, optSlot_alike h.left.right, optSlot_alike h.right]
      | (rw [Opd.ev_alike h.right.left, Opd.ev_alike h.right.right]; simp only [farL_alike h.left]; done)
      | (rw [Opd.ev_alike h.right]; simp only [rootOK_alike h.left]; done)
      | (rw [evs_alike h.right]; simp only [keptL_alike h.left]; done)
      | (rw [Opd.ev_alike h.right.left, evs_alike h.right.right]; simp only [keptL_alike h.left]; done)
      | (rw [evs_alike (by simpa [List.map_map, Function.comp_def] using h)])
      | rfl

end
end Go.Shadow

/- THE SHADOW LOGIC, part 13: operations that may change places; regions that draw their order. -/
namespace Go.Shadow
open Go Go.RowKit

section
variable {P : Program} {G : Globs} {w0 w : World} {γ : Gh} {σ : St} {n : Nat} {ds : List Deferred} {sl : Slots} {a : Act}

theorem sBin_char {op : BinOp} {k : IntKind} {x y : Int} {K : V → Prop} (h : sBin op k x y K) : ∃ v, K v ∧ ∀ K' : V → Prop, K' v → sBin op k x y K' := by
  cases op <;> simp only [sBin] at h ⊢ <;> first | exact ⟨_, h, fun _ h => h⟩ | exact ⟨_, h.2, fun _ h' => ⟨h.1, h'⟩⟩
theorem sBinS_char {op : BinOp} {x y : List UInt8} {K : V → Prop} (h : sBinS op x y K) : ∃ v, K v ∧ ∀ K' : V → Prop, K' v → sBinS op x y K' := by
  cases op <;> simp only [sBinS] at h ⊢ <;> first | exact h.elim | exact ⟨_, h, fun _ h => h⟩ | exact ⟨_, h.2, fun _ h' => ⟨h.1, h'⟩⟩

def Char (P : Program) (G : Globs) (o : SOp) (sl : Slots) (σ : St) (K : V → St → Prop) (fits : St → Prop) : Prop :=
  ∃ v, K v σ ∧ ∀ (sl' : Slots) (σ' : St) (K' Kp' : V → St → Prop), Alike o.reads sl sl' → fits σ' → K' v σ' → sOp P G o sl' σ' K' Kp'

theorem pure_char {o : SOp} {K Kp : V → St → Prop} (hc : o.cls = 0) (h : sOp P G o sl σ K Kp) : Char P G o sl σ K fun _ => True := by
  cases o <;> first | (simp [SOp.cls] at hc; done) | skip
  case bin op x y =>
    simp only [sOp] at h
    split at h
    · rename_i k u k' v h1 h2
      obtain ⟨r, hr, hk⟩ := sBin_char h.2
      exact ⟨r, hr, fun sl' σ' K' Kp' ha _ hk' => by rw [sOp_alike ha]; simp only [sOp, h1, h2]; exact ⟨h.1, hk _ hk'⟩⟩
    · exact h.elim
  case bins op x y =>
    simp only [sOp] at h
    split at h
    · rename_i u v h1 h2
      obtain ⟨r, hr, hk⟩ := sBinS_char h
      exact ⟨r, hr, fun sl' σ' K' Kp' ha _ hk' => by rw [sOp_alike ha]; simp only [sOp, h1, h2]; exact hk _ hk'⟩
    · exact h.elim
  case pick c x y =>
    simp only [sOp] at h
    split at h
    · rename_i b u v h1 h2 h3
      cases b
      · exact ⟨v, h.2 rfl, fun sl' σ' K' Kp' ha _ hk' => by rw [sOp_alike ha]; simp only [sOp, h1, h2, h3]; exact ⟨fun h => (by cases h), fun _ => hk'⟩⟩
      · exact ⟨u, h.1 rfl, fun sl' σ' K' Kp' ha _ hk' => by rw [sOp_alike ha]; simp only [sOp, h1, h2, h3]; exact ⟨fun _ => hk', fun h => (by cases h)⟩⟩
    · exact h.elim
  case slice z x lo hi =>
    simp only [sOp] at h
    split at h
    · rename_i h1 h2 h3
      exact ⟨_, h.2.2.2.2, fun sl' σ' K' Kp' ha _ hk' => by rw [sOp_alike ha]; simp only [sOp, h1, h2, h3]; exact ⟨h.1, h.2.1, h.2.2.1, h.2.2.2.1, hk'⟩⟩
    · rename_i h1 h2 h3
      exact ⟨_, h.2.2.2, fun sl' σ' K' Kp' ha _ hk' => by rw [sOp_alike ha]; simp only [sOp, h1, h2, h3]; exact ⟨h.1, h.2.1, h.2.2.1, hk'⟩⟩
    · rename_i h1 h2 h3
      exact ⟨_, h.2.2.2, fun sl' σ' K' Kp' ha _ hk' => by rw [sOp_alike ha]; simp only [sOp, h1, h2, h3]; exact ⟨h.1, h.2.1, h.2.2.1, hk'⟩⟩
    · rename_i h1 h2 h3
      exact ⟨_, h.2.2.2, fun sl' σ' K' Kp' ha _ hk' => by rw [sOp_alike ha]; simp only [sOp, h1, h2, h3]; exact ⟨h.1, h.2.1, h.2.2.1, hk'⟩⟩
    · rename_i h1 h2 h3
      exact ⟨_, h.2, fun sl' σ' K' Kp' ha _ hk' => by rw [sOp_alike ha]; simp only [sOp, h1, h2, h3]; exact ⟨h.1, hk'⟩⟩
    · exact h.elim
  case cuts x lo hi =>
    simp only [sOp] at h
    split at h
    · rename_i h1 h2 h3
      exact ⟨_, h.2.2.2, fun sl' σ' K' Kp' ha _ hk' => by rw [sOp_alike ha]; simp only [sOp, h1, h2, h3]; exact ⟨h.1, h.2.1, h.2.2.1, hk'⟩⟩
    · rename_i h1 h2 h3
      exact ⟨_, h.2.2, fun sl' σ' K' Kp' ha _ hk' => by rw [sOp_alike ha]; simp only [sOp, h1, h2, h3]; exact ⟨h.1, h.2.1, hk'⟩⟩
    · rename_i h1 h2 h3
      exact ⟨_, h.2.2, fun sl' σ' K' Kp' ha _ hk' => by rw [sOp_alike ha]; simp only [sOp, h1, h2, h3]; exact ⟨h.1, h.2.1, hk'⟩⟩
    · rename_i h1 h2 h3
      exact ⟨_, h, fun sl' σ' K' Kp' ha _ hk' => by rw [sOp_alike ha]; simp only [sOp, h1, h2, h3]; exact hk'⟩
    · exact h.elim
  all_goals
    simp only [sOp] at h
    (repeat' split at h)
    all_goals first
      | exact h.elim
      | exact False.elim h.2
      | exact False.elim h.2.2
      | exact False.elim h.2.2.2
      | (exact ⟨_, by first | exact h | exact h.2 | exact h.2.2 | exact h.2.2.2 | exact h.2.2.2.2, fun sl' σ' K' Kp' ha _ hk' => by
          rw [sOp_alike ha]; simp only [sOp]; first | (simp [*]; done) | (simp_all; done)⟩)

theorem load_char {g : Bool} {m : Nat} {x : Opd} {K Kp : V → St → Prop} (h : sOp P G (.load g m x) sl σ K Kp) : Char P G (.load g m x) sl σ K fun σ' => ∀ b cs, σ.box b = some cs → σ'.box b = some cs := by
  simp only [sOp] at h
  split at h
  · rename_i cs hcs
    rw [Option.bind_eq_some_iff] at hcs
    obtain ⟨u, hu, hat⟩ := hcs
    split at h
    · rename_i v hv
      refine ⟨v, h.2, fun sl' σ' K' Kp' ha hf hk' => ?_⟩
      rw [sOp_alike ha]
      have hat' : σ'.at u = some cs := by
        cases u <;> simp only [St.at] at hat ⊢ <;> first | exact hat | cases hat | skip
        rename_i b off
        rw [Option.map_eq_some_iff] at hat ⊢
        obtain ⟨c, hc, he⟩ := hat
        exact ⟨c, hf b c hc, he⟩
      simp only [sOp, hu, Option.bind_some, hat', hv]
      exact ⟨h.1, hk'⟩
    · exact h.2.elim
  · exact h.elim

/-- What an operation that reads a variable must find as it was. -/
def Sees (G : Globs) (sl : Slots) (σ σ' : St) : SOp → Prop
  | .loadr root _ _ _ => ∀ r, root = some r → ∀ b off, sl r = some (.loc b off) → ∀ cs, σ.box b = some cs → σ'.box b = some cs
  | .load _ _ a => ∀ b off, a.ev sl G = some (.loc b off) → ∀ cs, σ.box b = some cs → σ'.box b = some cs
  | _ => ∀ b cs, σ.box b = some cs → σ'.box b = some cs
theorem Sees.all {o : SOp} {σ' : St} (h : ∀ b cs, σ.box b = some cs → σ'.box b = some cs) : Sees G sl σ σ' o := by
  cases o <;> first | exact h | exact fun b _ _ => h b | exact fun _ _ b _ _ => h b
theorem load_char' {g : Bool} {m : Nat} {x : Opd} {K Kp : V → St → Prop} (h : sOp P G (.load g m x) sl σ K Kp) : Char P G (.load g m x) sl σ K fun σ' => Sees G sl σ σ' (.load g m x) := by
  simp only [sOp] at h
  split at h
  · rename_i cs hcs
    rw [Option.bind_eq_some_iff] at hcs
    obtain ⟨u, hu, hat⟩ := hcs
    split at h
    · rename_i v hv
      refine ⟨v, h.2, fun sl' σ' K' Kp' ha hf hk' => ?_⟩
      rw [sOp_alike ha]
      have hat' : σ'.at u = some cs := by
        cases u <;> simp only [St.at] at hat ⊢ <;> first | exact hat | cases hat | skip
        rename_i b off
        rw [Option.map_eq_some_iff] at hat ⊢
        obtain ⟨c, hc, he⟩ := hat
        exact ⟨c, hf b off hu c hc, he⟩
      simp only [sOp, hu, Option.bind_some, hat', hv]
      exact ⟨h.1, hk'⟩
    · exact h.2.elim
  · exact h.elim
theorem loadr_char' {root : Option Nat} {g : Bool} {m : Nat} {x : Opd} {K Kp : V → St → Prop} (h : sOp P G (.loadr root g m x) sl σ K Kp) : Char P G (.loadr root g m x) sl σ K fun σ' => Sees G sl σ σ' (.loadr root g m x) := by
  simp only [sOp] at h
  obtain ⟨h0, h⟩ := h
  split at h
  · rename_i cs hcs
    rw [Option.bind_eq_some_iff] at hcs
    obtain ⟨u, hu, hat⟩ := hcs
    split at h
    · rename_i v hv
      refine ⟨v, h.2, fun sl' σ' K' Kp' ha hf hk' => ?_⟩
      rw [sOp_alike ha]
      rw [hu] at h0
      have hat' : σ'.at u = some cs := by
        cases u <;> simp only [St.at] at hat ⊢ <;> first | exact hat | cases hat | skip
        rename_i b off
        rw [Option.map_eq_some_iff] at hat ⊢
        obtain ⟨c, hc, he⟩ := hat
        cases root with
        | none => exact h0.elim
        | some r =>
          simp only [RootOK] at h0
          split at h0
          · rename_i b' off' hr
            subst h0
            exact ⟨c, hf r rfl _ _ hr c hc, he⟩
          · exact h0.elim
      simp only [sOp, hu, Option.bind_some, hat', hv]
      exact ⟨h0, h.1, hk'⟩
    · exact h.2.elim
  · exact h.elim
theorem callr_keeps {ls : List Nat} {f : FuncId} {xs : List Opd} {r : Nat} (hr : r ∈ ls) {K Kp : V → St → Prop} (h : sOp P G (.callr ls f xs) sl σ K Kp) :
    sOp P G (.callr ls f xs) sl σ (fun v σ' => K v σ' ∧ ∀ b off, sl r = some (.loc b off) → ∀ cs, σ.box b = some cs → σ'.box b = some cs) Kp := by
  simp only [sOp] at h ⊢
  split
  · rename_i vs hv; simp only [hv] at h
    exact h.mono fun e σ' he => by
      cases e
      · have := he.get.2 r hr
        exact KeptL.mono (fun hk => ⟨hk, this⟩) he
      · exact he
  · rename_i hv; simp only [hv] at h
theorem callvr_keeps {ls : List Nat} {x : Opd} {xs : List Opd} {r : Nat} (hr : r ∈ ls) {K Kp : V → St → Prop} (h : sOp P G (.callvr ls x xs) sl σ K Kp) :
    sOp P G (.callvr ls x xs) sl σ (fun v σ' => K v σ' ∧ ∀ b off, sl r = some (.loc b off) → ∀ cs, σ.box b = some cs → σ'.box b = some cs) Kp := by
  simp only [sOp] at h ⊢
  split
  · rename_i f u1 u2 vs h1 hv; simp only [h1, hv] at h
    exact h.mono fun e σ' he => by
      cases e
      · have := he.get.2 r hr
        exact KeptL.mono (fun hk => ⟨hk, this⟩) he
      · exact he
  · rename_i hne
    split at h
    · rename_i h1 h2; exact (hne _ _ _ _ h1 h2).elim
    · exact h.elim
theorem stored_keeps {os : List Nat} {m : Nat} {x y : Opd} {k : Nat} (hk : k ∈ os) {K Kp : V → St → Prop} (h : sOp P G (.stored os m x y) sl σ K Kp) :
    sOp P G (.stored os m x y) sl σ (fun v σ' => K v σ' ∧ ∀ b off, sl k = some (.loc b off) → ∀ cs, σ.box b = some cs → σ'.box b = some cs) Kp := by
  simp only [sOp] at h ⊢
  split
  · rename_i b off v h1 h2
    simp only [h1, h2] at h
    split
    · rename_i cs hcs
      simp only [hcs] at h
      refine ⟨h.1, h.2.1, h.2.2.1, h.2.2.2.1, h.2.2.2.2, fun b' off' hb' cs' hcs' => ?_⟩
      have hne : ∀ {os : List Nat}, farL sl b os → k ∈ os → b' ≠ b := by
        intro os
        induction os with
        | nil => intro _ hm; cases hm
        | cons j r ih =>
          intro hf hm
          rcases List.mem_cons.1 hm with rfl | hm
          · have := hf.1; simp only [hb'] at this; exact this
          · exact ih hf.2 hm
      simp [St.put, hne h.1 hk, hcs']
    · rename_i hcs; simp only [hcs] at h
  · rename_i hne
    split at h
    · rename_i h1 h2; exact (hne _ _ _ h1 h2).elim
    · exact h.elim

theorem b2s_char {x : Opd} {K Kp : V → St → Prop} (h : sOp P G (.b2s x) sl σ K Kp) : Char P G (.b2s x) sl σ K fun σ' => ∀ b cs, σ.box b = some cs → σ'.box b = some cs := by
  simp only [sOp] at h
  split at h
  · rename_i h1
    split at h
    · rename_i l hl
      exact ⟨_, h.2, fun sl' σ' K' Kp' ha hf hk' => by rw [sOp_alike ha]; simp only [sOp, h1, hl]; exact ⟨h.1, hk'⟩⟩
    · exact h.2.elim
  · rename_i h1
    split at h
    · rename_i cs hcs
      split at h
      · rename_i l hl
        exact ⟨_, h.2, fun sl' σ' K' Kp' ha hf hk' => by rw [sOp_alike ha]; simp only [sOp, h1, hf _ _ hcs, hl]; exact ⟨h.1, hk'⟩⟩
      · exact h.2.elim
    · exact h.elim
  · exact h.elim

/-- An operation that makes memory leaves what is known of variables. -/
theorem alloc_keeps {o : SOp} {K Kp : V → St → Prop} (hc : o.cls ≤ 2) (h : sOp P G o sl σ K Kp) : sOp P G o sl σ (fun v σ' => K v σ' ∧ ∀ b cs, σ.box b = some cs → σ'.box b = some cs) Kp := by
  by_cases h0 : o.cls = 0
  · obtain ⟨v, hv, hk⟩ := pure_char h0 h
    exact hk sl σ _ _ (fun _ _ => rfl) trivial ⟨hv, fun _ _ h => h⟩
  · cases o <;> first | (simp [SOp.cls] at h0; done) | (simp [SOp.cls] at hc; done) | skip
    case load =>
      obtain ⟨v, hv, hk⟩ := load_char h
      exact hk sl σ _ _ (fun _ _ => rfl) (fun _ _ h => h) ⟨hv, fun _ _ h => h⟩
    case b2s =>
      obtain ⟨v, hv, hk⟩ := b2s_char h
      exact hk sl σ _ _ (fun _ _ => rfl) (fun _ _ h => h) ⟨hv, fun _ _ h => h⟩
    case loadr =>
      obtain ⟨v, hv, hk⟩ := loadr_char' h
      exact hk sl σ _ _ (fun _ _ => rfl) (fun _ _ _ _ _ _ h => h) ⟨hv, fun _ _ h => h⟩
    case callk f xs =>
      simp only [sOp] at h ⊢
      split
      · rename_i vs hv; simp only [hv] at h
        exact h.mono fun e σ' he => by
          cases e
          · exact .mk' he.h.1 ⟨he.h.2, he.h.1⟩
          · exact he
      · rename_i hv; simp only [hv] at h
    case callvk x xs =>
      simp only [sOp] at h ⊢
      split
      · rename_i f u1 u2 vs h1 hv; simp only [h1, hv] at h
        exact h.mono fun e σ' he => by
          cases e
          · exact .mk' he.h.1 ⟨he.h.2, he.h.1⟩
          · exact he
      · rename_i hne
        split at h
        · rename_i h1 h2; exact (hne _ _ _ _ h1 h2).elim
        · exact h.elim
    case mkmap => exact fun r hr => ⟨h r hr, fun _ _ h => h⟩
    case minsert kd m k v =>
      simp only [sOp] at h ⊢
      split
      · rename_i h1 h2 h3
        simp only [h1, h2, h3] at h
        split
        · rename_i hes; simp only [hes] at h; exact ⟨h.1, h.2.1, h.2.2.1, h.2.2.2, fun _ _ h => h⟩
        · rename_i hes; simp only [hes] at h
      · rename_i hne
        split at h
        · rename_i h1 h2 h3; exact (hne _ _ _ h1 h2 h3).elim
        · exact h.elim
    case mlook kd z g ok m k =>
      simp only [sOp] at h ⊢
      split
      · rename_i h1 h2
        simp only [h1, h2] at h
        split
        · rename_i hes
          simp only [hes] at h
          refine ⟨h.1, ?_⟩
          have h := h.2
          split
          · rename_i hf; simp only [hf] at h; exact ⟨h, fun _ _ h => h⟩
          · rename_i hf
            simp only [hf] at h
            split
            · rename_i hz; simp only [hz] at h; exact ⟨h, fun _ _ h => h⟩
            · rename_i hz; simp only [hz] at h
          · rename_i hf; simp only [hf] at h
        · rename_i hes; simp only [hes] at h
      · rename_i hne
        split at h
        · rename_i h1 h2; exact (hne _ _ h1 h2).elim
        · exact h.elim
    case alloc z =>
      simp only [sOp] at h ⊢
      intro b hb
      refine ⟨h b hb, fun b' cs hbx => ?_⟩
      have : b' ≠ b := by rintro rfl; rw [hb] at hbx; cases hbx
      simp [St.put, this, hbx]
    case box x =>
      simp only [sOp] at h ⊢
      split
      · rename_i v hv
        simp only [hv] at h
        refine ⟨h.1, fun b hb => ⟨h.2 b hb, fun b' cs hbx => ?_⟩⟩
        have : b' ≠ b := by rintro rfl; rw [hb] at hbx; cases hbx
        simp [St.put, this, hbx]
      · rename_i hv; simp only [hv] at h
    case append s bytes x y =>
      simp only [sOp] at h ⊢
      split
      · rename_i tag s' es tg s2 ns h1 h2
        simp only [h1, h2] at h
        obtain ⟨g1, g2, g3, g4, h⟩ := h
        refine ⟨g1, g2, g3, g4, ?_⟩
        cases ns <;> cases tag <;> simp only at h ⊢ <;> first
          | exact ⟨h, fun _ _ h => h⟩
          | exact fun t' ht => ⟨h t' ht, fun _ _ h => h⟩
          | exact ⟨h.1, fun t' ht => ⟨h.2 t' ht, fun _ _ h => h⟩⟩
      · rename_i hne
        split at h
        · rename_i h1 h2; exact (hne _ _ _ _ _ _ h1 h2).elim
        · exact h.elim
    case appends bytes x y =>
      simp only [sOp] at h ⊢
      split
      · rename_i tag s' es l h1 h2
        simp only [h1, h2] at h
        obtain ⟨g1, g3, g4, h⟩ := h
        refine ⟨g1, g3, g4, ?_⟩
        cases l <;> cases tag <;> simp only at h ⊢ <;> first
          | exact ⟨h, fun _ _ h => h⟩
          | exact fun t' ht => ⟨h t' ht, fun _ _ h => h⟩
          | exact ⟨h.1, fun t' ht => ⟨h.2 t' ht, fun _ _ h => h⟩⟩
      · rename_i hne
        split at h
        · rename_i h1 h2; exact (hne _ _ _ _ h1 h2).elim
        · exact h.elim

theorem sOp_mono {o : SOp} {K K' Kp : V → St → Prop} (hk : ∀ v σ', K v σ' → K' v σ') (h : sOp P G o sl σ K Kp) : sOp P G o sl σ K' Kp := by
  by_cases h0 : o.cls = 0
  · obtain ⟨v, hv, hc⟩ := pure_char h0 h
    exact hc sl σ _ _ (fun _ _ => rfl) trivial (hk _ _ hv)
  · cases o <;> first | (simp [SOp.cls] at h0; done) | skip
    case load => 
      obtain ⟨v, hv, hc⟩ := load_char h
      exact hc sl σ _ _ (fun _ _ => rfl) (fun _ _ h => h) (hk _ _ hv)
    case b2s =>
      obtain ⟨v, hv, hc⟩ := b2s_char h
      exact hc sl σ _ _ (fun _ _ => rfl) (fun _ _ h => h) (hk _ _ hv)
    case loadr =>
      obtain ⟨v, hv, hc⟩ := loadr_char' h
      exact hc sl σ _ _ (fun _ _ => rfl) (fun _ _ _ _ _ _ h => h) (hk _ _ hv)
    case callr ls f xs =>
      simp only [sOp] at h ⊢
      split
      · rename_i vs hv; simp only [hv] at h
        exact h.mono fun e σ' he => by
          cases e
          · exact KeptL.mono (hk _ _) he
          · exact he
      · rename_i hv; simp only [hv] at h
    case callvr ls x xs =>
      simp only [sOp] at h ⊢
      split
      · rename_i f u1 u2 vs h1 hv; simp only [h1, hv] at h
        exact h.mono fun e σ' he => by
          cases e
          · exact KeptL.mono (hk _ _) he
          · exact he
      · rename_i hne
        split at h
        · rename_i h1 h2; exact (hne _ _ _ _ h1 h2).elim
        · exact h.elim
    case callk f xs =>
      simp only [sOp] at h ⊢
      split
      · rename_i vs hv; simp only [hv] at h
        exact h.mono fun e σ' he => by
          cases e
          · exact .mk' he.h.1 (hk _ _ he.h.2)
          · exact he
      · rename_i hv; simp only [hv] at h
    case callvk x xs =>
      simp only [sOp] at h ⊢
      split
      · rename_i f u1 u2 vs h1 hv; simp only [h1, hv] at h
        exact h.mono fun e σ' he => by
          cases e
          · exact .mk' he.h.1 (hk _ _ he.h.2)
          · exact he
      · rename_i hne
        split at h
        · rename_i h1 h2; exact (hne _ _ _ _ h1 h2).elim
        · exact h.elim
    case stored os m x y =>
      simp only [sOp] at h ⊢
      split
      · rename_i b off v h1 h2
        simp only [h1, h2] at h
        split
        · rename_i cs hcs; simp only [hcs] at h; exact ⟨h.1, h.2.1, h.2.2.1, h.2.2.2.1, hk _ _ h.2.2.2.2⟩
        · rename_i hcs; simp only [hcs] at h
      · rename_i hne
        split at h
        · rename_i h1 h2; exact (hne _ _ _ h1 h2).elim
        · exact h.elim
    case calli tbl x xs =>
      simp only [sOp] at h ⊢
      split
      · rename_i t v vs h1 hv
        simp only [h1, hv] at h
        split
        · rename_i f hf; simp only [hf] at h; exact h.mono fun e σ' he => by cases e; exact hk _ _ he; exact he
        · rename_i hf; simp only [hf] at h
      · rename_i hne
        split at h
        · rename_i h1 h2; exact (hne _ _ _ h1 h2).elim
        · exact h.elim
    case mkmsl s bytes z x y =>
      simp only [sOp] at h ⊢
      split
      · rename_i kl l kc c h1 h2
        simp only [h1, h2] at h
        obtain ⟨g1, g2, g3, g4, g5, h⟩ := h
        refine ⟨g1, g2, g3, g4, g5, ?_⟩
        split
        · exact fun t' ht => hk _ _ (h t' ht)
        · exact ⟨h.1, h.2.1, fun b hb => hk _ _ (h.2.2 b hb)⟩
        · exact h
      · rename_i hne
        split at h
        · rename_i h1 h2; exact (hne _ _ _ _ h1 h2).elim
        · exact h.elim
    case copy x y =>
      simp only [sOp] at h ⊢
      split
      · rename_i b off len cap tag s es h1 h2
        simp only [h1, h2] at h
        split
        · rename_i cs hcs; simp only [hcs] at h; exact ⟨h.1, h.2.1, h.2.2.1, h.2.2.2.1, hk _ _ h.2.2.2.2⟩
        · rename_i hcs; simp only [hcs] at h
      · rename_i hne
        split at h
        · rename_i h1 h2; exact (hne _ _ _ _ _ _ _ h1 h2).elim
        · exact h.elim
    case conv2u x =>
      simp only [sOp] at h ⊢
      split
      · rename_i b off h1
        simp only [h1] at h
        split
        · rename_i cs hcs; simp only [hcs] at h; exact ⟨h.1, hk _ _ h.2⟩
        · rename_i hcs; simp only [hcs] at h
      · rename_i hne
        split at h
        · rename_i h1; exact (hne _ _ h1).elim
        · exact h.elim
    case alloc z => exact fun b hb => hk _ _ (h b hb)
    case mkmap => exact fun r hr => hk _ _ (h r hr)
    case minsert kd m k v =>
      simp only [sOp] at h ⊢
      split
      · rename_i h1 h2 h3
        simp only [h1, h2, h3] at h
        split
        · rename_i hes; simp only [hes] at h; exact ⟨h.1, h.2.1, h.2.2.1, hk _ _ h.2.2.2⟩
        · rename_i hes; simp only [hes] at h
      · rename_i hne
        split at h
        · rename_i h1 h2 h3; exact (hne _ _ _ h1 h2 h3).elim
        · exact h.elim
    case mlook kd z g ok m k =>
      simp only [sOp] at h ⊢
      split
      · rename_i h1 h2
        simp only [h1, h2] at h
        split
        · rename_i hes
          simp only [hes] at h
          refine ⟨h.1, ?_⟩
          have h := h.2
          split
          · rename_i hf; simp only [hf] at h; exact hk _ _ h
          · rename_i hf
            simp only [hf] at h
            split
            · rename_i hz; simp only [hz] at h; exact hk _ _ h
            · rename_i hz; simp only [hz] at h
          · rename_i hf; simp only [hf] at h
        · rename_i hes; simp only [hes] at h
      · rename_i hne
        split at h
        · rename_i h1 h2; exact (hne _ _ h1 h2).elim
        · exact h.elim
    case box x =>
      simp only [sOp] at h ⊢
      split
      · rename_i v hv; simp only [hv] at h; exact ⟨h.1, fun b hb => hk _ _ (h.2 b hb)⟩
      · rename_i hv; simp only [hv] at h
    case store m x y =>
      simp only [sOp] at h ⊢
      split
      · rename_i b off v h1 h2
        simp only [h1, h2] at h
        split
        · rename_i cs hcs; simp only [hcs] at h; exact ⟨h.1, h.2.1, h.2.2.1, hk _ _ h.2.2.2⟩
        · rename_i hcs; simp only [hcs] at h
      · rename_i hne
        split at h
        · rename_i h1 h2; exact (hne _ _ _ h1 h2).elim
        · exact h.elim
    case call f xs =>
      simp only [sOp] at h ⊢
      split
      · rename_i vs hv; simp only [hv] at h; exact h.mono fun e σ' he => by cases e; exact hk _ _ he; exact he
      · rename_i hv; simp only [hv] at h
    case callv x xs =>
      simp only [sOp] at h ⊢
      split
      · rename_i f u1 u2 vs h1 hv; simp only [h1, hv] at h; exact h.mono fun e σ' he => by cases e; exact hk _ _ he; exact he
      · rename_i hne
        split at h
        · rename_i h1 h2; exact (hne _ _ _ _ h1 h2).elim
        · exact h.elim
    case panic x =>
      simp only [sOp] at h ⊢
      exact h
    case append s bytes x y =>
      simp only [sOp] at h ⊢
      split
      · rename_i tag s' es tg s2 ns h1 h2
        simp only [h1, h2] at h
        obtain ⟨g1, g2, g3, g4, h⟩ := h
        refine ⟨g1, g2, g3, g4, ?_⟩
        cases ns <;> cases tag <;> simp only at h ⊢ <;> first
          | exact hk _ _ h
          | exact fun t' ht => hk _ _ (h t' ht)
          | exact ⟨h.1, fun t' ht => hk _ _ (h.2 t' ht)⟩
      · rename_i hne
        split at h
        · rename_i h1 h2; exact (hne _ _ _ _ _ _ h1 h2).elim
        · exact h.elim
    case appends bytes x y =>
      simp only [sOp] at h ⊢
      split
      · rename_i tag s' es l h1 h2
        simp only [h1, h2] at h
        obtain ⟨g1, g3, g4, h⟩ := h
        refine ⟨g1, g3, g4, ?_⟩
        cases l <;> cases tag <;> simp only at h ⊢ <;> first
          | exact hk _ _ h
          | exact fun t' ht => hk _ _ (h t' ht)
          | exact ⟨h.1, fun t' ht => hk _ _ (h.2 t' ht)⟩
      · rename_i hne
        split at h
        · rename_i h1 h2; exact (hne _ _ _ _ h1 h2).elim
        · exact h.elim

end
end Go.Shadow

/- THE SHADOW LOGIC, part 14: a region whose order is drawn: one order serves all. -/
namespace Go.Shadow
open Go Go.RowKit

section
variable {P : Program} {G : Globs} {w0 w : World} {γ : Gh} {σ : St} {n : Nat} {ds : List Deferred} {sl : Slots} {a : Act} {Kp : V → St → Prop}

theorem sOper_mono {o : SOper} {K K' : Slots → St → Prop} (hk : ∀ s σ', K s σ' → K' s σ') (h : sOper P G o sl σ K Kp) : sOper P G o sl σ K' Kp := by
  unfold sOper at h ⊢
  split
  · rename_i hg; simp only [hg] at h; exact sOp_mono (fun _ _ h => hk _ _ h) h
  · rename_i g want hg
    simp only [hg] at h
    split
    · rename_i b hb; simp only [hb] at h
      exact ⟨fun e => sOp_mono (fun _ _ h => hk _ _ h) (h.1 e), fun e => hk _ _ (h.2 e)⟩
    · rename_i hb; simp only [hb] at h; exact hk _ _ h
    · rename_i h1 h2
      split at h
      · rename_i hb; exact (h1 _ hb).elim
      · rename_i hb; exact (h2 hb).elim
      · exact h

theorem putD_comm {d e : Option Nat} {v u : V} (h : ∀ k, d = some k → e ≠ some k) : putD (putD sl d v) e u = putD (putD sl e u) d v := by
  cases d with
  | none => rfl
  | some d => cases e with
    | none => rfl
    | some e =>
      have hne : e ≠ d := fun he => h d rfl (by rw [he])
      funext t
      simp only [putD, Slots.upd]
      by_cases h1 : t = e
      · subst h1; simp [hne]
      · simp [h1]
theorem putD_other {d : Option Nat} {v : V} {k : Nat} (h : d ≠ some k) : putD sl d v k = sl k := by
  cases d with
  | none => rfl
  | some d => simp only [putD, Slots.upd]; rw [if_neg (fun e => h (by rw [e]))]

def farOK : SOp → SOp → Bool
  | .load _ _ (.t k), .stored os _ _ _ => os.contains k
  | _, _ => false
theorem farOK_spec {x y : SOp} (h : farOK x y = true) : ∃ g m k os n a v, x = .load g m (.t k) ∧ y = .stored os n a v ∧ k ∈ os := by
  unfold farOK at h
  split at h
  · exact ⟨_, _, _, _, _, _, _, rfl, rfl, by simpa using h⟩
  · cases h
def rootPair : SOp → SOp → Bool
  | .loadr none _ _ _, .callr _ _ _ | .loadr none _ _ _, .callvr _ _ _ => true
  | .loadr (some r) _ _ _, .callr ls _ _ | .loadr (some r) _ _ _, .callvr ls _ _ => ls.contains r
  | _, _ => false
theorem rootPair_spec {x y : SOp} (h : rootPair x y = true) : ∃ root g m a, x = .loadr root g m a ∧ ∃ ls, ((∃ f xs, y = .callr ls f xs) ∨ (∃ z xs, y = .callvr ls z xs)) ∧ ∀ r, root = some r → r ∈ ls := by
  unfold rootPair at h
  split at h
  · exact ⟨_, _, _, _, rfl, _, .inl ⟨_, _, rfl⟩, fun r hr => by cases hr⟩
  · exact ⟨_, _, _, _, rfl, _, .inr ⟨_, _, rfl⟩, fun r hr => by cases hr⟩
  · exact ⟨_, _, _, _, rfl, _, .inl ⟨_, _, rfl⟩, fun r hr => by injection hr with hr; subst hr; simpa using h⟩
  · exact ⟨_, _, _, _, rfl, _, .inr ⟨_, _, rfl⟩, fun r hr => by injection hr with hr; subst hr; simpa using h⟩
  · cases h
/-- x may come behind y, too. -/
def swapOK (x y : SOper) : Bool :=
  (match x.dst with | some d => !y.reads.contains d && y.dst != some d | none => true) &&
  (match y.dst with | some d => !x.reads.contains d | none => true) &&
  (x.op.cls == 0 || (x.op.cls == 1 && decide (y.op.cls ≤ 2)) || farOK x.op y.op || rootPair x.op y.op)

theorem swapOK_spec {x y : SOper} (h : swapOK x y = true) : (∀ d, x.dst = some d → d ∉ y.reads ∧ y.dst ≠ some d) ∧ (∀ d, y.dst = some d → d ∉ x.reads) ∧ (x.op.cls = 0 ∨ (x.op.cls = 1 ∧ y.op.cls ≤ 2) ∨ farOK x.op y.op = true ∨ rootPair x.op y.op = true) := by
  simp only [swapOK, Bool.and_eq_true, Bool.or_eq_true, beq_iff_eq, decide_eq_true_eq] at h
  obtain ⟨⟨h1, h2⟩, h3⟩ := h
  refine ⟨fun d hd => ?_, fun d hd => ?_, by rcases h3 with ((h3 | h3) | h3) | h3; exact .inl h3; exact .inr (.inl h3); exact .inr (.inr (.inl h3)); exact .inr (.inr (.inr h3))⟩
  · simp [hd] at h1; exact h1
  · simp [hd] at h2; exact h2

/-- A pure operation, or one that reads a variable, as it stands. -/
theorem sOper_char {x : SOper} {K : Slots → St → Prop} (hc : x.op.cls ≤ 1) (h : sOper P G x sl σ K Kp) :
    ∃ v, K (putD sl x.dst v) σ ∧ ∀ (sl' : Slots) (σ' : St) (K' : Slots → St → Prop) (Kp' : V → St → Prop), Alike x.reads sl sl' → (x.op.cls = 0 ∨ Sees G sl σ σ' x.op) → K' (putD sl' x.dst v) σ' → sOper P G x sl' σ' K' Kp' := by
  have hop : ∀ {K : V → St → Prop}, sOp P G x.op sl σ K Kp → ∃ v, K v σ ∧ ∀ (sl' : Slots) (σ' : St) (K' Kp' : V → St → Prop), Alike x.op.reads sl sl' → (x.op.cls = 0 ∨ Sees G sl σ σ' x.op) → K' v σ' → sOp P G x.op sl' σ' K' Kp' := by
    intro K h
    by_cases h0 : x.op.cls = 0
    · obtain ⟨v, hv, hk⟩ := pure_char h0 h
      exact ⟨v, hv, fun sl' σ' K' Kp' ha _ hk' => hk sl' σ' K' Kp' ha trivial hk'⟩
    · generalize x.op = op at h h0 hc ⊢
      cases op <;> first | (simp [SOp.cls] at h0; done) | (simp [SOp.cls] at hc; done) | skip
      all_goals first
        | (obtain ⟨v, hv, hk⟩ := loadr_char' h
           exact ⟨v, hv, fun sl' σ' K' Kp' ha hf hk' => hk sl' σ' K' Kp' ha (hf.resolve_left h0) hk'⟩)
        | (obtain ⟨v, hv, hk⟩ := load_char' h
           exact ⟨v, hv, fun sl' σ' K' Kp' ha hf hk' => hk sl' σ' K' Kp' ha (hf.resolve_left h0) hk'⟩)
        | (obtain ⟨v, hv, hk⟩ := b2s_char h
           exact ⟨v, hv, fun sl' σ' K' Kp' ha hf hk' => hk sl' σ' K' Kp' ha (hf.resolve_left h0) hk'⟩)
  unfold sOper at h
  split at h
  · rename_i hg
    obtain ⟨v, hv, hk⟩ := hop h
    refine ⟨v, hv, fun sl' σ' K' Kp' ha hf hk' => ?_⟩
    unfold sOper
    simp only [hg]
    exact hk sl' σ' _ _ (by simp only [SOper.reads] at ha; exact ha.left) hf hk'
  · rename_i g want hg
    have hgs : ∀ {sl' : Slots}, Alike x.reads sl sl' → sl' g = sl g := fun ha => ha g (by simp [SOper.reads, hg])
    split at h
    · rename_i b hb
      cases hbw : b == want with
      | true =>
        obtain ⟨v, hv, hk⟩ := hop (h.1 hbw)
        refine ⟨v, hv, fun sl' σ' K' Kp' ha hf hk' => ?_⟩
        unfold sOper
        simp only [hg, hgs ha, hb, hbw, Br_true]
        exact hk sl' σ' _ _ (by simp only [SOper.reads] at ha; exact ha.left) hf hk'
      | false =>
        refine ⟨_, h.2 hbw, fun sl' σ' K' Kp' ha hf hk' => ?_⟩
        unfold sOper
        simp only [hg, hgs ha, hb, hbw, Br_false]
        exact hk'
    · rename_i hb
      refine ⟨_, h, fun sl' σ' K' Kp' ha hf hk' => ?_⟩
      unfold sOper
      simp only [hg, hgs ha, hb]
      exact hk'
    · exact h.elim

theorem sOper_keeps {y : SOper} {K : Slots → St → Prop} (hc : y.op.cls ≤ 2) (h : sOper P G y sl σ K Kp) : sOper P G y sl σ (fun s σ' => K s σ' ∧ ∀ b cs, σ.box b = some cs → σ'.box b = some cs) Kp := by
  unfold sOper at h ⊢
  split
  · rename_i hg; simp only [hg] at h; exact alloc_keeps hc h
  · rename_i g want hg
    simp only [hg] at h
    split
    · rename_i b hb; simp only [hb] at h
      exact ⟨fun e => alloc_keeps hc (h.1 e), fun e => ⟨h.2 e, fun _ _ h => h⟩⟩
    · rename_i hb; simp only [hb] at h; exact ⟨h, fun _ _ h => h⟩
    · rename_i h1 h2
      split at h
      · rename_i hb; exact (h1 _ hb).elim
      · rename_i hb; exact (h2 hb).elim
      · exact h

theorem sOper_far {y : SOper} {os : List Nat} {m : Nat} {p q : Opd} {k : Nat} {K : Slots → St → Prop} (hy : y.op = .stored os m p q) (hk : k ∈ os) (h : sOper P G y sl σ K Kp) :
    sOper P G y sl σ (fun s σ' => K s σ' ∧ ∀ b off, sl k = some (.loc b off) → ∀ cs, σ.box b = some cs → σ'.box b = some cs) Kp := by
  unfold sOper at h ⊢
  rw [hy] at h ⊢
  split
  · rename_i hg; simp only [hg] at h; exact stored_keeps hk h
  · rename_i g want hg
    simp only [hg] at h
    split
    · rename_i b hb; simp only [hb] at h
      exact ⟨fun e => stored_keeps hk (h.1 e), fun e => ⟨h.2 e, fun _ _ _ _ h => h⟩⟩
    · rename_i hb; simp only [hb] at h; exact ⟨h, fun _ _ _ _ h => h⟩
    · rename_i h1 h2
      split at h
      · rename_i hb; exact (h1 _ hb).elim
      · rename_i hb; exact (h2 hb).elim
      · exact h

theorem sOper_root {y : SOper} {ls : List Nat} (hy : (∃ f xs, y.op = .callr ls f xs) ∨ (∃ z xs, y.op = .callvr ls z xs)) {root : Option Nat} (hk : ∀ r, root = some r → r ∈ ls) {K : Slots → St → Prop} (h : sOper P G y sl σ K Kp) :
    sOper P G y sl σ (fun s σ' => K s σ' ∧ ∀ r, root = some r → ∀ b off, sl r = some (.loc b off) → ∀ cs, σ.box b = some cs → σ'.box b = some cs) Kp := by
  cases root with
  | none => exact sOper_mono (fun _ _ h => ⟨h, fun r hr => by cases hr⟩) h
  | some r =>
    have hr := hk r rfl
    have key : ∀ {K : V → St → Prop}, sOp P G y.op sl σ K Kp → sOp P G y.op sl σ (fun v σ' => K v σ' ∧ ∀ r', some r = some r' → ∀ b off, sl r' = some (.loc b off) → ∀ cs, σ.box b = some cs → σ'.box b = some cs) Kp := by
      intro K h
      have fin : ∀ {v : V} {σ' : St}, (K v σ' ∧ ∀ b off, sl r = some (.loc b off) → ∀ cs, σ.box b = some cs → σ'.box b = some cs) → K v σ' ∧ ∀ r', some r = some r' → ∀ b off, sl r' = some (.loc b off) → ∀ cs, σ.box b = some cs → σ'.box b = some cs :=
        fun h => ⟨h.1, fun r' e => by injection e with e; subst e; exact h.2⟩
      rcases hy with ⟨f, xs, e⟩ | ⟨z, xs, e⟩
      · rw [e] at h ⊢; exact sOp_mono (fun _ _ h => fin h) (callr_keeps hr h)
      · rw [e] at h ⊢; exact sOp_mono (fun _ _ h => fin h) (callvr_keeps hr h)
    unfold sOper at h ⊢
    split
    · rename_i hg; simp only [hg] at h; exact key h
    · rename_i g want hg
      simp only [hg] at h
      split
      · rename_i b hb; simp only [hb] at h
        exact ⟨fun e => key (h.1 e), fun e => ⟨h.2 e, fun _ _ _ _ _ _ h => h⟩⟩
      · rename_i hb; simp only [hb] at h; exact ⟨h, fun _ _ _ _ _ _ h => h⟩
      · rename_i h1 h2
        split at h
        · rename_i hb; exact (h1 _ hb).elim
        · rename_i hb; exact (h2 hb).elim
        · exact h

theorem sOper_frame {x y : SOper} {v : V} {K : Slots → St → Prop} (hd : ∀ d, x.dst = some d → d ∉ y.reads ∧ y.dst ≠ some d) (h : sOper P G y (putD sl x.dst v) σ K Kp) :
    sOper P G y sl σ (fun s σ' => (∃ u, s = putD sl y.dst u) ∧ K (putD s x.dst v) σ') Kp := by
  have ha : Alike y.reads sl (putD sl x.dst v) := by
    intro k hk
    cases hx : x.dst with
    | none => rfl
    | some d =>
      have := (hd d hx).1
      simp only [putD, Slots.upd]
      rw [if_neg (fun e : k = d => this (e ▸ hk))]
  have hcomm : ∀ u, putD (putD sl x.dst v) y.dst u = putD (putD sl y.dst u) x.dst v := fun u => putD_comm (fun k hk => (hd k hk).2)
  unfold sOper at h ⊢
  split
  · rename_i hg
    simp only [hg] at h
    have ha' : Alike y.op.reads sl (putD sl x.dst v) := by simp only [SOper.reads] at ha; exact ha.left
    rw [sOp_alike ha'] at h
    exact sOp_mono (fun u σ' hk => ⟨⟨u, rfl⟩, by rw [← hcomm]; exact hk⟩) h
  · rename_i g want hg
    have hgs : putD sl x.dst v g = sl g := ha g (by simp [SOper.reads, hg])
    have ha' : Alike y.op.reads sl (putD sl x.dst v) := by simp only [SOper.reads] at ha; exact ha.left
    simp only [hg, hgs] at h
    split
    · rename_i b hb
      simp only [hb] at h
      rw [sOp_alike ha'] at h
      exact ⟨fun e => sOp_mono (fun u σ' hk => ⟨⟨u, rfl⟩, by rw [← hcomm]; exact hk⟩) (h.1 e), fun e => ⟨⟨_, rfl⟩, by rw [← hcomm]; exact h.2 e⟩⟩
    · rename_i hb
      simp only [hb] at h
      exact ⟨⟨_, rfl⟩, by rw [← hcomm]; exact h⟩
    · rename_i h1 h2
      split at h
      · rename_i hb; exact (h1 _ hb).elim
      · rename_i hb; exact (h2 hb).elim
      · exact h

theorem swap {x y : SOper} (hs : swapOK x y = true) {K : Slots → St → Prop} (h : sOper P G x sl σ (fun s σ' => sOper P G y s σ' K Kp) Kp) : sOper P G y sl σ (fun s σ' => sOper P G x s σ' K Kp) Kp := by
  obtain ⟨h1, h2, h3⟩ := swapOK_spec hs
  obtain ⟨v, hv, hk⟩ := sOper_char (by
    rcases h3 with h | h | h | h
    · omega
    · omega
    · obtain ⟨_, _, _, _, _, _, _, e, _⟩ := farOK_spec h; rw [e]; exact Nat.le_refl _
    · obtain ⟨_, _, _, _, e, _⟩ := rootPair_spec h; rw [e]; exact Nat.le_refl _) h
  have hf := sOper_frame h1 hv
  have hal : ∀ u, Alike x.reads sl (putD sl y.dst u) := by
    intro u k hk
    exact putD_other (fun e => h2 k e hk)
  rcases h3 with h3 | ⟨h3, h4⟩ | h3 | h3
  · exact sOper_mono (fun s σ' ⟨⟨u, hu⟩, hK⟩ => by subst hu; exact hk _ σ' K Kp (hal u) (.inl h3) hK) hf
  · exact sOper_mono (fun s σ' ⟨⟨⟨u, hu⟩, hK⟩, hb⟩ => by subst hu; exact hk _ σ' K Kp (hal u) (.inr (Sees.all hb)) hK) (sOper_keeps h4 hf)
  · obtain ⟨g, m, k, os, n', p, q, ex, ey, hko⟩ := farOK_spec h3
    exact sOper_mono (fun s σ' ⟨⟨⟨u, hu⟩, hK⟩, hb⟩ => by subst hu; exact hk _ σ' K Kp (hal u) (.inr (by rw [ex]; exact hb)) hK) (sOper_far ey hko hf)
  · obtain ⟨root, g, m, q, ex, ls, hy, hr⟩ := rootPair_spec h3
    exact sOper_mono (fun s σ' ⟨⟨⟨u, hu⟩, hK⟩, hb⟩ => by subst hu; exact hk _ σ' K Kp (hal u) (.inr (by rw [ex]; exact hb)) hK) (sOper_root hy hr hf)

theorem move_front {so : SOper} {K : Slots → St → Prop} {post : List SOper} : ∀ (pre : List SOper), (∀ x ∈ pre, swapOK x so = true) → ∀ {sl : Slots} {σ : St}, sOps P G Kp K (pre ++ so :: post) sl σ → sOper P G so sl σ (sOps P G Kp K (pre ++ post)) Kp
  | [], _, sl, σ, h => h
  | x :: pre, hp, sl, σ, h => by
    simp only [List.cons_append, sOps] at h
    have h' : sOper P G x sl σ (fun s σ' => sOper P G so s σ' (sOps P G Kp K (pre ++ post)) Kp) Kp := sOper_mono (fun s σ' hh => move_front pre (fun y hy => hp y (by simp [hy])) hh) h
    exact swap (hp x (by simp)) h'

/-- What is asked of the one serves the other. -/
def Stronger (P : Program) (G : Globs) (x y : SOper) : Prop := (∀ (sl : Slots) (σ : St) (K : Slots → St → Prop) (Kp : V → St → Prop), sOper P G x sl σ K Kp → sOper P G y sl σ K Kp) ∧ x.dst = y.dst
theorem Stronger.refl (x : SOper) : Stronger P G x x := ⟨fun _ _ _ _ h => h, rfl⟩
theorem Stronger.of_op {d : Option Nat} {g : Option (Nat × Bool)} {o o' : SOp} (key : ∀ {sl : Slots} {σ : St} {K Kp : V → St → Prop}, sOp P G o sl σ K Kp → sOp P G o' sl σ K Kp) : Stronger P G ⟨d, o, g⟩ ⟨d, o', g⟩ := by
  refine ⟨?_, rfl⟩
  intro sl σ K Kp h
  simp only [sOper] at h ⊢
  cases g with
  | none => exact key h
  | some gw =>
    obtain ⟨g, want⟩ := gw
    simp only at h ⊢
    split
    · rename_i b hb; simp only [hb] at h; exact ⟨fun e => key (h.1 e), h.2⟩
    · rename_i hb; simp only [hb] at h; exact h
    · rename_i h1 h2
      split at h
      · rename_i hb; exact (h1 _ hb).elim
      · rename_i hb; exact (h2 hb).elim
      · exact h.elim
/-- A call that must keep what is known of variables. -/
def SOper.toK (o : SOper) : SOper := match o.op with
  | .call f xs => { o with op := .callk f xs }
  | .callv x xs => { o with op := .callvk x xs }
  | _ => o
theorem toK_sound (so : SOper) : Stronger P G so.toK so := by
  obtain ⟨dst, op, guard⟩ := so
  cases op <;> first | exact .refl _ | skip
  case call f xs =>
    refine .of_op fun h => ?_
    simp only [sOp] at h ⊢
    split
    · rename_i vs hv; simp only [hv] at h
      exact h.mono fun e σ' he => by
        cases e
        · exact he.h.2
        · exact he
    · rename_i hv; simp only [hv] at h
  case callv x xs =>
    refine .of_op fun h => ?_
    simp only [sOp] at h ⊢
    split
    · rename_i f u1 u2 vs h1 hv; simp only [h1, hv] at h
      exact h.mono fun e σ' he => by
        cases e
        · exact he.h.2
        · exact he
    · rename_i hne
      split at h
      · rename_i h1 h2; exact (hne _ _ _ _ h1 h2).elim
      · exact h.elim
/-- A store that is far from what is loaded beside it. -/
def SOper.toD (os : List Nat) (o : SOper) : SOper := match o.op with
  | .store n a x => { o with op := .stored os n a x }
  | _ => o
theorem toD_sound (os : List Nat) (so : SOper) : Stronger P G (so.toD os) so := by
  obtain ⟨dst, op, guard⟩ := so
  cases op <;> first | exact .refl _ | skip
  case store n x y =>
    refine .of_op fun h => ?_
    simp only [sOp] at h ⊢
    split
    · rename_i b off v h1 h2
      simp only [h1, h2] at h
      split
      · rename_i cs hcs; simp only [hcs] at h; exact h.2
      · rename_i hcs; simp only [hcs] at h
    · rename_i hne
      split at h
      · rename_i h1 h2; exact (hne _ _ _ h1 h2).elim
      · exact h.elim

/-- A load of what never changes, or of a variable that a slot from ahead names; a call that must keep such variables. -/
def SOper.toR (root : Option Nat) (ls : List Nat) (o : SOper) : SOper := match o.op with
  | .load g n a => { o with op := .loadr root g n a }
  | .call f xs => { o with op := .callr ls f xs }
  | .callv x xs => { o with op := .callvr ls x xs }
  | _ => o
theorem toR_sound (root : Option Nat) (ls : List Nat) (so : SOper) : Stronger P G (so.toR root ls) so := by
  obtain ⟨dst, op, guard⟩ := so
  cases op <;> first | exact .refl _ | skip
  case load g n a => exact .of_op fun h => by simp only [sOp] at h ⊢; exact h.2
  case call f xs =>
    refine .of_op fun h => ?_
    simp only [sOp] at h ⊢
    split
    · rename_i vs hv; simp only [hv] at h
      exact h.mono fun e σ' he => by
        cases e
        · exact he.get.1
        · exact he
    · rename_i hv; simp only [hv] at h
  case callv x xs =>
    refine .of_op fun h => ?_
    simp only [sOp] at h ⊢
    split
    · rename_i f u1 u2 vs h1 hv; simp only [h1, hv] at h
      exact h.mono fun e σ' he => by
        cases e
        · exact he.get.1
        · exact he
    · rename_i hne
      split at h
      · rename_i h1 h2; exact (hne _ _ _ _ h1 h2).elim
      · exact h.elim

/-! ### which operations come before which, whatever is drawn -/
def binding (o : Oper) : List Nat := (o.after.toList.filter (Region.binds .any)).map (·.on)
def befTab : List (List Nat) → List (List Nat) → List (List Nat)
  | [], acc => acc
  | d :: r, acc => befTab r (acc ++ [(d.flatMap fun j => j :: acc.getD j []).eraseDups])

def Closed (deps : List (List Nat)) (L : Nat → Prop) : Prop := ∀ i, L i → ∀ j ∈ deps.getD i [], L j

theorem befTab_spec {deps : List (List Nat)} {L : Nat → Prop} (hc : Closed deps L) : ∀ (r acc : List (List Nat)), deps = deps.take acc.length ++ r → acc.length ≤ deps.length →
    (∀ i, i < acc.length → (∀ j ∈ deps.getD i [], L j) → ∀ k ∈ acc.getD i [], L k) → ∀ i, (∀ j ∈ deps.getD i [], L j) → ∀ k ∈ (befTab r acc).getD i [], L k
  | [], acc, hd, hl, h, i, hi, k, hk => by
    simp only [befTab] at hk
    by_cases hil : i < acc.length
    · exact h i hil hi k hk
    · rw [List.getD_eq_getElem?_getD, List.getElem?_eq_none (by omega)] at hk; simp at hk
  | d :: r, acc, hd, hl, h, i, hi, k, hk => by
    simp only [befTab] at hk
    have hlen : acc.length < deps.length := by
      have := congrArg List.length hd
      simp at this; omega
    have hdd : deps.getD acc.length [] = d := by
      rw [hd, List.getD_eq_getElem?_getD, List.getElem?_append_right (by simp; omega)]
      simp [Nat.min_eq_left hl]
    refine befTab_spec hc r (acc ++ [(d.flatMap fun j => j :: acc.getD j []).eraseDups]) ?_ (by simp; omega) (fun i' hi' hj' k' hk' => ?_) i hi k hk
    · conv => lhs; rw [hd]
      rw [List.length_append, List.length_singleton]
      have : deps.take (acc.length + 1) = deps.take acc.length ++ [d] := by
        rw [List.take_succ_eq_append_getElem hlen]
        congr 2
        rw [List.getD_eq_getElem?_getD, List.getElem?_eq_getElem hlen] at hdd
        simpa using hdd
      rw [this]; simp
    · by_cases hia : i' < acc.length
      · rw [List.getD_eq_getElem?_getD, List.getElem?_append_left hia] at hk'
        exact h i' hia hj' k' (by rw [List.getD_eq_getElem?_getD]; exact hk')
      · have : i' = acc.length := by simp at hi'; omega
        subst this
        rw [List.getD_eq_getElem?_getD, List.getElem?_append_right (Nat.le_refl _)] at hk'
        simp only [Nat.sub_self, List.getElem?_cons_zero, Option.getD_some, List.mem_eraseDups, List.mem_flatMap, List.mem_cons] at hk'
        obtain ⟨j, hj, hjk⟩ := hk'
        rw [hdd] at hj'
        rcases hjk with rfl | hjk
        · exact hj' _ hj
        · by_cases hja : j < acc.length
          · exact h j hja (hc j (hj' j hj)) k' hjk
          · rw [List.getD_eq_getElem?_getD, List.getElem?_eq_none (by omega)] at hjk; simp at hjk

/-- The pairs of a list of operations (each with its number) that may come up in either order may change places. -/
def pairsOK (tab : List (List Nat)) : List (Nat × SOper) → Bool
  | [] => true
  | x :: r => (r.all fun y => (tab.getD y.1 []).contains x.1 || swapOK x.2 y.2) && pairsOK tab r

theorem pairsOK_sub {tab : List (List Nat)} : ∀ {l : List (Nat × SOper)}, pairsOK tab l = true → ∀ {pre post : List (Nat × SOper)} {y : Nat × SOper}, l = pre ++ y :: post → pairsOK tab (pre ++ post) = true ∧ ∀ x ∈ pre, (tab.getD y.1 []).contains x.1 = true ∨ swapOK x.2 y.2 = true
  | [], _, pre, post, y, h => by cases pre <;> simp at h
  | z :: l, hp, [], post, y, h => by
    simp at h; obtain ⟨rfl, rfl⟩ := h
    simp only [pairsOK, Bool.and_eq_true] at hp
    exact ⟨hp.2, by simp⟩
  | z :: l, hp, x :: pre, post, y, h => by
    simp at h; obtain ⟨rfl, rfl⟩ := h
    simp only [pairsOK, Bool.and_eq_true, List.all_eq_true] at hp
    obtain ⟨g1, g2⟩ := pairsOK_sub hp.2 (pre := pre) (post := post) (y := y) rfl
    refine ⟨?_, fun x hx => ?_⟩
    · simp only [List.cons_append, pairsOK, Bool.and_eq_true, List.all_eq_true]
      exact ⟨fun q hq => hp.1 q (by simp at hq ⊢; rcases hq with h | h; exact .inl h; exact .inr (.inr h)), g1⟩
    · simp at hx
      rcases hx with rfl | hx
      · have := hp.1 y (by simp)
        simpa using this
      · exact g2 x hx

/-- What is least of what is left may come up. -/
theorem ready_ne {ops : Array Oper} {listed : Array Bool} {deps : List (List Nat)} (hdeps : ∀ i o, ops[i]? = some o → deps.getD i [] = binding o) (hback : ∀ i, ∀ j ∈ deps.getD i [], j < i) (hsz : listed.size = ops.size) {i : Nat} (hi : i < ops.size) (hl : listed.getD i true = false) : Region.ready .any ops listed ≠ [] := by
  intro hre
  have hmin : ∀ m, ∀ i, i ≤ m → i < ops.size → listed.getD i true = false → False := by
    intro m
    induction m using Nat.strongRecOn with
    | _ m ihm =>
      intro i him hi hli'
      have hnr : i ∉ Region.ready .any ops listed := by rw [hre]; simp
      obtain ⟨o, ho⟩ : ∃ o, ops[i]? = some o := ⟨ops[i], Array.getElem?_eq_getElem hi⟩
      have : ∃ e ∈ o.after.toList, Region.binds .any e = true ∧ listed.getD e.on false = false := by
        apply Classical.byContradiction
        intro hno
        refine hnr (mem_ready.2 ⟨hli', o, ho, fun e he hb => ?_⟩)
        cases hld : listed.getD e.on false with
        | true => rfl
        | false => exact (hno ⟨e, by simpa using he, hb, hld⟩).elim
      obtain ⟨e, he, hb, hld⟩ := this
      have hmem : e.on ∈ deps.getD i [] := by
        rw [hdeps i o ho]
        exact List.mem_map.2 ⟨e, List.mem_filter.2 ⟨he, hb⟩, rfl⟩
      have hlt := hback i e.on hmem
      refine ihm e.on (by omega) e.on (Nat.le_refl _) (by omega) ?_
      have hes : e.on < listed.size := by omega
      rw [Array.getD_eq_getD_getElem?, Array.getElem?_eq_getElem hes] at hld ⊢
      simpa using hld
  exact hmin i i (Nat.le_refl _) hi hl

/-- One order of a region's operations serves all, up to those that wait for all of them. -/
theorem any_order_then {ops : Array Oper} {Q : Exit → Act → World → Prop} {K : Slots → St → Prop} (deps : List (List Nat)) (hdeps : ∀ i o, ops[i]? = some o → deps.getD i [] = binding o) (hback : ∀ i, ∀ j ∈ deps.getD i [], j < i) (tab : List (List Nat))
    (htab : ∀ L, Closed deps L → ∀ i, (∀ j ∈ deps.getD i [], L j) → ∀ k ∈ tab.getD i [], L k) (sfx : List Nat) (m : Nat) :
    ∀ (fuel : Nat) (l : List (Nat × SOper)) (listed : Array Bool) {γ : Gh} {σ : St} {w : World} {sl : Slots} {a : Act} (D : List Nat) (_ : ∀ p ∈ l, ∀ d, p.2.dst = some d → d ∈ D), l.length = fuel → listed.size = ops.size →
      (∀ i, i < ops.size → (listed.getD i true = false ↔ i ∈ l.map (·.1) ∨ i ∈ sfx)) → (∀ j ∈ sfx, ∀ p ∈ l, (tab.getD j []).contains p.1 = true ∧ p.1 ∉ sfx) → (l.map (·.1)).Nodup → (∀ p ∈ l, ∃ o so, ops[p.1]? = some o ∧ trOper P n ops o = some so ∧ Stronger P G p.2 so) → Closed deps (fun i => listed.getD i false = true ∨ ops.size ≤ i) → pairsOK tab l = true →
      Rel G w0 γ σ w n ds sl a → sOps P G Kp K (l.map (·.2)) sl σ →
      (∀ γ' σ' w' sl' a' listed', Ext w0.heap.size γ w γ' w' → Rel G w0 γ' σ' w' n ds sl' a' → K sl' σ' → listed'.size = ops.size → (∀ i, i < ops.size → (listed'.getD i true = false ↔ i ∈ sfx)) → wpAny P .any ops Q m listed' a' w') →
      (∀ γ' σ' w' v x a', Ext w0.heap.size γ w γ' w' → Rel G w0 γ' σ' w' n ds (fun _ => none) a' → R w0.heap.size γ' w' v x → Kp v σ' → Same D a a' → Q (.panic [{ v := x, recovered := false }]) a' w') →
      wpAny P .any ops Q (m + fuel) listed a w := by
  intro fuel
  induction fuel with
  | zero =>
    intro l listed γ σ w sl a D hD hlen hsz hli hsf hnd htr hcl hpo hr h hK hKp
    have : l = [] := List.eq_nil_of_length_eq_zero hlen
    subst this
    exact hK γ σ w sl a listed (.refl _ _ _) hr h hsz (fun i hi => by simpa using hli i hi)
  | succ fuel ih =>
    intro l listed γ σ w sl a D hD hlen hsz hli hsf hnd htr hcl hpo hr h hK hKp
    refine ⟨fun hre => ?_, fun i hi => ?_⟩
    · exfalso
      cases l with
      | nil => simp at hlen
      | cons p l =>
        obtain ⟨o, _, ho, _⟩ := htr p (by simp)
        have hlt : p.1 < ops.size := (Array.getElem?_eq_some_iff.1 ho).1
        exact ready_ne hdeps hback hsz hlt ((hli p.1 hlt).2 (.inl (by simp))) hre
    · obtain ⟨hi2, o, ho, hall⟩ := mem_ready.1 hi
      have hi1 : i < ops.size := (Array.getElem?_eq_some_iff.1 ho).1
      have hready : ∀ j ∈ deps.getD i [], listed.getD j false = true ∨ ops.size ≤ j := by
        intro j hj
        rw [hdeps i o ho] at hj
        obtain ⟨e, he, hej⟩ := List.mem_map.1 hj
        obtain ⟨he1, he2⟩ := List.mem_filter.1 he
        exact .inl (by rw [← hej]; exact hall e (by simpa using he1) he2)
      have hun : ∀ x ∈ l, (tab.getD i []).contains x.1 = true → False := by
        intro x hxl hcont
        have hk := htab _ hcl i hready x.1 (by simpa using hcont)
        obtain ⟨ox, _, hox, _⟩ := htr x hxl
        have hxlt : x.1 < ops.size := (Array.getElem?_eq_some_iff.1 hox).1
        have hxf := (hli x.1 hxlt).2 (.inl (List.mem_map.2 ⟨x, hxl, rfl⟩))
        rcases hk with hk | hk
        · have hes : x.1 < listed.size := by omega
          rw [Array.getD_eq_getD_getElem?, Array.getElem?_eq_getElem hes] at hk hxf
          simp at hk hxf; rw [hk] at hxf; cases hxf
        · omega
      have hil : i ∈ l.map (·.1) := by
        rcases (hli i hi1).1 hi2 with hs | hs
        · exact hs
        · exfalso
          cases l with
          | nil => simp at hlen
          | cons p l => exact hun p (by simp) (hsf i hs p (by simp)).1
      obtain ⟨p, hp, hpi⟩ := List.mem_map.1 hil
      obtain ⟨pre, post, hsplit⟩ := List.append_of_mem hp
      obtain ⟨o', so, ho', htro, hso⟩ := htr p hp
      rw [hpi, ho] at ho'; injection ho' with ho'; subst ho'
      obtain ⟨hpo', hpre⟩ := pairsOK_sub hpo hsplit
      have hsw : ∀ x ∈ pre, swapOK x.2 p.2 = true := by
        intro x hx
        exact (hpre x hx).resolve_left fun hcont => hun x (by rw [hsplit]; simp [hx]) (by rw [← hpi]; exact hcont)
      have hmv : sOper P G p.2 sl σ (sOps P G Kp K (pre.map (·.2) ++ post.map (·.2))) Kp := by
        refine move_front (pre.map (·.2)) (fun x hx => ?_) (by rw [hsplit] at h; simpa using h)
        obtain ⟨q, hq, rfl⟩ := List.mem_map.1 hx
        exact hsw q hq
      have hmv2 : sOper P G so sl σ (sOps P G Kp K (pre.map (·.2) ++ post.map (·.2))) Kp := hso.1 _ _ _ _ hmv
      have hsub : ∀ q ∈ pre ++ post, q ∈ l := fun q hq => by rw [hsplit]; simp at hq ⊢; rcases hq with h | h; exact .inl h; exact .inr (.inr h)
      have hnd0 := hnd
      rw [hsplit] at hnd
      have hnd' : ((pre ++ post).map (·.1)).Nodup ∧ i ∉ (pre ++ post).map (·.1) := by
        simp only [List.map_append, List.map_cons] at hnd ⊢
        have hperm : (pre.map (·.1) ++ p.1 :: post.map (·.1)).Perm (p.1 :: (pre.map (·.1) ++ post.map (·.1))) := List.perm_middle
        have := (hperm.nodup_iff).1 hnd
        rw [List.nodup_cons, hpi] at this
        exact ⟨this.2, this.1⟩
      have hins : i ∉ sfx := fun hs => (hsf i hs p hp).2 (by rw [hpi]; exact hs)
      refine sOper_sound hr ho htro (K := sOps P G Kp K (pre.map (·.2) ++ post.map (·.2))) hmv2 (fun γ' σ' w' sl' a' he hr' hk hs => ?_) (fun γ' σ' w' v x he hi hv hk => hKp γ' σ' w' v x a he ⟨hi, fun _ _ h => (by cases h), hr.size, hr.defs⟩ hv hk (.refl _ _))
      refine ih (pre ++ post) (listed.setIfInBounds i true) D (fun q hq => hD q (hsub q hq)) (by rw [hsplit] at hlen; simp at hlen ⊢; omega) (by simpa using hsz) (fun j hj => ?_) (fun j hj q hq => hsf j hj q (hsub q hq)) hnd'.1 (fun q hq => htr q (hsub q hq)) ?_ hpo' hr' (by simpa using hk)
        (fun γ2 σ2 w2 sl2 a2 listed2 he2 hr2 hk2 => hK γ2 σ2 w2 sl2 a2 listed2 (he.trans he2) hr2 hk2) (fun γ2 σ2 w2 v x a2 he2 hr2 hv hk2 hs2 => hKp γ2 σ2 w2 v x a2 (he.trans he2) hr2 hv hk2 ((hs D (fun k hk => hD p hp k (hso.2.trans hk))).trans hs2))
      · by_cases hji : j = i
        · subst hji
          constructor
          · intro hc
            rw [Array.getD_eq_getD_getElem?, Array.getElem?_setIfInBounds] at hc
            simp [show j < listed.size by omega] at hc
          · rintro (hc | hc)
            · exact absurd hc hnd'.2
            · exact absurd hc hins
        · rw [getD_set_ne true (Ne.symm hji), hli j hj, hsplit]
          simp only [List.map_append, List.map_cons, List.mem_append, List.mem_cons, hpi]
          constructor
          · rintro ((h | h | h) | h)
            · exact .inl (.inl h)
            · exact absurd h hji
            · exact .inl (.inr h)
            · exact .inr h
          · rintro ((h | h) | h)
            · exact .inl (.inl h)
            · exact .inl (.inr (.inr h))
            · exact .inr h
      · intro j hj k hk
        by_cases hji : j = i
        · subst hji
          rcases hready k hk with h1 | h1
          · exact .inl (getD_set_true h1)
          · exact .inr h1
        · rcases hj with hj | hj
          · rw [getD_set_ne false (Ne.symm hji)] at hj
            rcases hcl j (.inl hj) k hk with h1 | h1
            · exact .inl (getD_set_true h1)
            · exact .inr h1
          · rcases hcl j (.inr hj) k hk with h1 | h1
            · exact .inl (getD_set_true h1)
            · exact .inr h1

/-- One order of a region's operations serves all. -/
theorem any_order {ops : Array Oper} {Q : Exit → Act → World → Prop} {K : Slots → St → Prop} (deps : List (List Nat)) (hdeps : ∀ i o, ops[i]? = some o → deps.getD i [] = binding o) (hback : ∀ i, ∀ j ∈ deps.getD i [], j < i) (tab : List (List Nat))
    (htab : ∀ L, Closed deps L → ∀ i, (∀ j ∈ deps.getD i [], L j) → ∀ k ∈ tab.getD i [], L k)
    (fuel : Nat) (l : List (Nat × SOper)) (listed : Array Bool) {γ : Gh} {σ : St} {w : World} {sl : Slots} {a : Act} (D : List Nat) (hD : ∀ p ∈ l, ∀ d, p.2.dst = some d → d ∈ D) (hlen : l.length = fuel) (hsz : listed.size = ops.size)
      (hli : ∀ i, i < ops.size → (listed.getD i true = false ↔ i ∈ l.map (·.1))) (hnd : (l.map (·.1)).Nodup) (htr : ∀ p ∈ l, ∃ o so, ops[p.1]? = some o ∧ trOper P n ops o = some so ∧ Stronger P G p.2 so) (hcl : Closed deps (fun i => listed.getD i false = true ∨ ops.size ≤ i)) (hpo : pairsOK tab l = true)
      (hr : Rel G w0 γ σ w n ds sl a) (h : sOps P G Kp K (l.map (·.2)) sl σ)
      (hK : ∀ γ' σ' w' sl' a', Ext w0.heap.size γ w γ' w' → Rel G w0 γ' σ' w' n ds sl' a' → K sl' σ' → Q .normal a' w')
      (hKp : ∀ γ' σ' w' v x a', Ext w0.heap.size γ w γ' w' → Rel G w0 γ' σ' w' n ds (fun _ => none) a' → R w0.heap.size γ' w' v x → Kp v σ' → Same D a a' → Q (.panic [{ v := x, recovered := false }]) a' w') :
      wpAny P .any ops Q fuel listed a w := by
  have := any_order_then (Q := Q) (K := K) deps hdeps hback tab htab [] 0 fuel l listed D hD hlen hsz (fun i hi => by simpa using hli i hi) (fun j hj => by cases hj) hnd htr hcl hpo hr h
    (fun γ' σ' w' sl' a' listed' he hr' hk hsz' hl' => ⟨?_, hK γ' σ' w' sl' a' he hr' hk⟩) hKp
  · rwa [Nat.zero_add] at this
  · apply List.eq_nil_iff_forall_not_mem.2
    intro j hj
    obtain ⟨hj2, o, hj1, _⟩ := mem_ready.1 hj
    have := (hl' j (Array.getElem?_eq_some_iff.1 hj1).1).1 hj2
    simp at this

end
end Go.Shadow

/- THE SHADOW LOGIC, part C: 'x = append(x, f())' of a variable in memory: append of a zero element, then the element and the slice are stored, in either order. -/
namespace Go.Shadow
open Go Go.RowKit

structure AppT where
  s : Nat
  bytes : Nat
  d1 : Nat
  d2 : Nat
  a : Opd
  z : Opd
  li : Opd
  x : Opd
  v : Opd

def apart (d1 d2 : Nat) : Opd → Bool
  | .t k => k != d1 && k != d2
  | _ => true
/-- The four operations behind the value. -/
def trTail (P : Program) (n : Nat) (o1 o2 o3 o4 : Oper) : Option AppT := match o1.op, o2.op, o3.op, o4.op with
  | .call { callee := .builtin .append, args := ⟨[x, y]⟩, argTypes := ⟨[t, t2]⟩ }, .indexAddr t3 (.tmp q1) li, .store t4 (.tmp q2) e, .store t5 v (.tmp q3) => match o1.dst, o2.dst with
    | some d1, some d2 => if q1 = d1 ∧ q2 = d2 ∧ q3 = d1 ∧ d1 ≠ d2 ∧ o3.dst = none ∧ o4.dst = none ∧ o1.guard = none ∧ o2.guard = none ∧ o3.guard = none ∧ o4.guard = none ∧ d1 < n ∧ d2 < n then
      match P.underlying t, P.underlying t2, P.underlying t3 with
      | some (.slice el), some (.slice _), some (.slice el3) => match P.info? el, P.info? el3, P.info? t4, P.info? t5 with
        | some i, some i3, some i4, some i5 => match i.zero with
          | some z => if z.cells.size = i.size ∧ 0 < i.size ∧ i3.size = i.size ∧ i4.size = i.size ∧ i5.size = 1 then match trOpd x, trOpd y, trOpd li, trOpd e, trOpd v with
            | some ox, some oy, some ol, some oe, some ov => if (apart d1 d2 ol && apart d1 d2 oe && apart d1 d2 ov) = true then some ⟨i.size, i.bytes, d1, d2, ox, oy, ol, oe, ov⟩ else none
            | _, _, _, _, _ => none
            else none
          | none => none
        | _, _, _, _ => none
      | _, _, _ => none
      else none
    | _, _ => none
  | _, _, _, _ => none

/-- The slots behind. -/
def putT (sl : Slots) (d1 d2 : Nat) (v : V) : Slots := fun t => if t = d2 then none else if t = d1 then some v else sl t
/-- What the four operations mean. -/
def App1 (G : Globs) (T : AppT) (sl : Slots) (σ : St) (K : Slots → St → Prop) : Prop :=
  match T.a.ev sl G, T.z.ev sl G, T.li.ev sl G, T.x.ev sl G, T.v.ev sl G with
  | some (.slice tag s' es), some (.slice _ s2 [_]), some (.int _ q), some xv, some (.loc b off) =>
    (tag = .nil ∨ s' = T.s) ∧ s2 = T.s ∧ q = es.length ∧ xv.notTup = true ∧ xv.cells.length = T.s ∧ (es.length + 1) * T.bytes ≤ 140737488355328 ∧ es.length + 1 ≤ 9223372036854775807 ∧
      (tag = .nil ∨ tag = .full ∨ ∃ k, tag = .tip k ∧ σ.live k = true) ∧ ∃ cs, σ.box b = some cs ∧ off < cs.length ∧
      ∀ t', σ.live t' = false → K (putT sl T.d1 T.d2 (.slice (.tip t') T.s (es ++ [xv.cells]))) (((match tag with | .tip k => σ.off k | _ => σ).on t').put b (cs.set off (.slice (.tip t') T.s (es ++ [xv.cells]))))
  | _, _, _, _, _ => False

section
variable {P : Program} {G : Globs} {w0 w : World} {γ : Gh} {σ : St} {n : Nat} {ds : List Deferred} {sl : Slots} {a : Act} {ops : Array Oper} {Q : Exit → Act → World → Prop}

def Left (ops : Array Oper) (listed : Array Bool) (S : List Nat) : Prop := listed.size = ops.size ∧ ∀ i, i < ops.size → (listed.getD i true = false ↔ i ∈ S)
theorem Left.set {listed : Array Bool} {S : List Nat} (h : Left ops listed S) {i : Nat} (S' : List Nat) (hS : ∀ j, j ∈ S' ↔ j ∈ S ∧ j ≠ i) : Left ops (listed.setIfInBounds i true) S' := by
  refine ⟨by simpa using h.1, fun j hj => ?_⟩
  by_cases hji : j = i
  · subst hji
    rw [hS]
    constructor
    · intro hc
      rw [Array.getD_eq_getD_getElem?, Array.getElem?_setIfInBounds] at hc
      simp [show j < listed.size by have := h.1; omega] at hc
    · intro hc; exact absurd rfl hc.2
  · rw [getD_set_ne true (Ne.symm hji), h.2 j hj, hS]
    exact ⟨fun h => ⟨h, hji⟩, fun h => h.1⟩
theorem Left.not {listed : Array Bool} {S : List Nat} (h : Left ops listed S) {j : Nat} (hj : j < ops.size) (hS : j ∈ S) : ¬ listed.getD j false = true := by
  intro hc
  have h1 := (h.2 j hj).2 hS
  have hs : j < listed.size := by rw [h.1]; exact hj
  rw [Array.getD_eq_getD_getElem?, Array.getElem?_eq_getElem hs] at hc h1
  simp at hc h1; rw [hc] at h1; cases h1
theorem any_step {deps : List (List Nat)} (hdeps : ∀ i o, ops[i]? = some o → deps.getD i [] = binding o) (hback : ∀ i, ∀ j ∈ deps.getD i [], j < i) {fuel : Nat} {listed : Array Bool} {S : List Nat} (hL : Left ops listed S) {i0 : Nat} (h0 : i0 < ops.size) (hS : i0 ∈ S)
    (h : ∀ i, i ∈ S → i < ops.size → (∀ j ∈ deps.getD i [], j < ops.size → j ∉ S) → wpOp P ops Q i (wpAny P .any ops Q fuel (listed.setIfInBounds i true)) a w) : wpAny P .any ops Q (fuel + 1) listed a w := by
  refine ⟨fun hre => absurd hre (ready_ne hdeps hback hL.1 h0 ((hL.2 i0 h0).2 hS)), fun i hi => ?_⟩
  obtain ⟨hi2, o, ho, hall⟩ := mem_ready.1 hi
  have hi1 : i < ops.size := (Array.getElem?_eq_some_iff.1 ho).1
  refine h i ((hL.2 i hi1).1 hi2) hi1 (fun j hj hjs hjS => ?_)
  rw [hdeps i o ho] at hj
  obtain ⟨e, he, hej⟩ := List.mem_map.1 hj
  obtain ⟨he1, he2⟩ := List.mem_filter.1 he
  exact hL.not hjs hjS (by rw [← hej]; exact hall e (by simpa using he1) he2)
theorem any_end {listed : Array Bool} (hL : Left ops listed []) (h : Q .normal a w) : wpAny P .any ops Q 0 listed a w := by
  refine ⟨?_, h⟩
  apply List.eq_nil_iff_forall_not_mem.2
  intro j hj
  obtain ⟨hj2, o, hj1, _⟩ := mem_ready.1 hj
  have := (hL.2 j (Array.getElem?_eq_some_iff.1 hj1).1).1 hj2
  cases this
theorem wpOp_value {i : Nat} {o : Oper} (ho : ops[i]? = some o) (hg : o.guard = none) {x : Value} {w' : World} (hrun : (execOp a.eval o).run P w = .ok (.value x) w') {K : Act → World → Prop} (h : K (a.put o.dst x) w') : wpOp P ops Q i K a w := by
  unfold wpOp
  simp only [ho, Region.wanted, hg, if_true]
  refine .inl ?_
  unfold Oper.wp
  rw [hrun]
  exact h
theorem wpOp_skip {i : Nat} {o : Oper} (ho : ops[i]? = some o) (hg : o.guard = none) {w' : World} (hrun : (execOp a.eval o).run P w = .ok .skip w') {K : Act → World → Prop} (h : K (a.put o.dst undef) w') : wpOp P ops Q i K a w := by
  unfold wpOp
  simp only [ho, Region.wanted, hg, if_true]
  refine .inl ?_
  unfold Oper.wp
  rw [hrun]
  exact h

theorem setCell_setRow (w : World) {b g : Nat} (h : b ≠ g) (off : Nat) (x : Value) (cs : Array Value) : (w.setCell ⟨b, off, none⟩ x).setRow g cs = (w.setRow g cs).setCell ⟨b, off, none⟩ x := by
  unfold World.setCell World.setRow
  congr 1
  apply Array.ext
  · simp
  · intro k h1 h2
    simp only [Array.getElem_modify]
    by_cases hg : g = k
    · subst hg; simp [h]
    · simp [hg]

theorem apart_ev {d1 d2 : Nat} {o : Opd} (h : apart d1 d2 o = true) {x : Operand} (hx : trOpd x = some o) {a : Act} {u1 u2 : Value} : (((a.put (some d1) u1).put (some d2) u2).eval x = a.eval x) ∧ ((a.put (some d1) u1).eval x = a.eval x) := by
  cases x with
  | tmp k =>
    simp only [trOpd, Option.some.injEq] at hx; subst hx
    simp only [apart, Bool.and_eq_true, bne_iff_ne, ne_eq] at h
    simp [Act.eval, Act.put, Array.getD_eq_getD_getElem?, Array.getElem?_setIfInBounds, Ne.symm h.1, Ne.symm h.2]
  | const c => exact ⟨rfl, rfl⟩
  | global g => exact ⟨rfl, rfl⟩
  | func f => exact ⟨rfl, rfl⟩

theorem tail_sound {k : Nat} {o1 o2 o3 o4 : Oper} {T : AppT} {deps : List (List Nat)} (hdeps : ∀ i o, ops[i]? = some o → deps.getD i [] = binding o) (hback : ∀ i, ∀ j ∈ deps.getD i [], j < i)
    (h1 : ops[k]? = some o1) (h2 : ops[k + 1]? = some o2) (h3 : ops[k + 2]? = some o3) (h4 : ops[k + 3]? = some o4) (hd2 : k ∈ deps.getD (k + 1) []) (hd3 : k + 1 ∈ deps.getD (k + 2) []) (hd4 : k ∈ deps.getD (k + 3) []) (ht : trTail P n o1 o2 o3 o4 = some T)
    (hr : Rel G w0 γ σ w n ds sl a) {K : Slots → St → Prop} (h : App1 G T sl σ K) {listed : Array Bool} (hL : Left ops listed [k, k + 1, k + 2, k + 3])
    (hK : ∀ γ' σ' w' sl' a', Ext w0.heap.size γ w γ' w' → Rel G w0 γ' σ' w' n ds sl' a' → K sl' σ' → Q .normal a' w') : wpAny P .any ops Q 4 listed a w := by
  unfold trTail at ht
  split at ht
  · rename_i x y t t2 t3 q1 li t4 q2 e t5 v q3 e1 e2 e3 e4
    split at ht
    · rename_i d1 d2 hdst1 hdst2
      split at ht
      · rename_i hc
        obtain ⟨rfl, rfl, rfl, hne, hdst3, hdst4, hg1, hg2, hg3, hg4, hdn1, hdn2⟩ := hc
        split at ht
        · rename_i el el2 el3 hu1 hu2 hu3
          split at ht
          · rename_i i i3 i4 i5 hi1 hi3 hi4 hi5
            split at ht
            · rename_i z hz
              split at ht
              · rename_i hs
                obtain ⟨hzs, hs0, hs3, hs4, hs5⟩ := hs
                split at ht
                · rename_i ox oy ol oe ov hx hy hli he hv
                  split at ht
                  · rename_i hap
                    simp only [Bool.and_eq_true] at hap
                    obtain ⟨⟨hap1, hap2⟩, hap3⟩ := hap
                    injection ht with ht; subst ht
                    unfold App1 at h
                    simp only at h
                    split at h
                    · rename_i tag s' es tg2 s2 z1 kq q xv b off hxe hye hlie hee hve
                      obtain ⟨htag0, rfl, rfl, hnt, hxl, hb1, hb2, htag, cs, hcs, hoff, h⟩ := h
                      have rx := ev_sound hr hx hxe
                      have ry := ev_sound hr hy hye
                      have rl := ev_sound hr hli hlie
                      have re := ev_sound hr he hee
                      have rv := ev_sound hr hv hve
                      have rx' : R w0.heap.size γ w (.slice tag i.size es) (a.eval x) := by
                        rcases htag0 with rfl | rfl
                        · exact rx.retag
                        · exact rx
                      generalize hle : a.eval li = lv at rl
                      generalize hve' : a.eval v = vv at rv
                      cases rl; cases rv
                      obtain ⟨news0, hsrc, hrl0, hone0⟩ := Src.of_slice (w := w) hu2 ry
                      have hone := re.cells_one hnt
                      have hRLx := re.cells hone
                      have hnl : (a.eval e).cells.toList.length = 1 * i.size := by rw [← hRLx.1, hxl]; omega
                      have hfl : ([xv.cells] : List (List V)).flatten = xv.cells := by simp
                      obtain ⟨t', γ', v', w', hto, hlv, hE, hI, hR⟩ := hr.inv.append_core (P := P) (e := el) hzs rx' htag (ns := [xv.cells]) (news := (a.eval e).cells.toList) hnl
                        (fun j u hu => by cases j with | zero => simp at hu; rw [← hu]; exact hxl | succ j => simp at hu) (by rw [hfl]; exact hRLx) (by rw [hfl]; exact hone) (by simp) (by simpa using hb1) (by simpa using hb2)
                      obtain ⟨w1, g, cap', cur, te, hrun, rfl, hg, hfit, hsz, hw'⟩ := hto.run1 (t := t) (xT := t2) (ty := o1.type) hu1 hi1 hz hzs hsrc hone0 hnl
                      generalize hv0 : Value.slice (some ⟨g, 0, none⟩) (es.length + [xv.cells].length) cap' = vS at hrun hR
                      -- the variable is another block
                      have hcs' : ((match tag with | .tip k => σ.off k | _ => σ).on t').box b = some cs := by cases tag <;> exact hcs
                      obtain ⟨_, _, _, us, ty, hbh, _⟩ := hI.box b cs hcs'
                      have hbg : b ≠ g := by
                        rintro rfl
                        obtain ⟨_, _, _, us0, ty0, hbh0, _⟩ := hr.inv.box b cs hcs
                        -- a box is no row
                        obtain ⟨_, hrow, _⟩ := hI.box b cs hcs'
                        have hR' := hR
                        clear hrun
                        cases hR' with | slice _ _ _ ad cp b' o' vs hs hl ha htg h1' hc' hr' =>
                        injection hv0 with hv0 _ _
                        subst hv0
                        have hb' : b' = b ∧ o' = 0 := by
                          rcases ha with ha | ⟨ha, _⟩
                          · injection ha with ha; injection ha with r1 r2 r3; exact ⟨r1.symm, r2.symm⟩
                          · cases ha
                        obtain ⟨rfl, rfl⟩ := hb'
                        have hfl2 : (es ++ [xv.cells]).flatten.length = (es.length + 1) * i.size := by rw [flatten_length hs]; simp
                        have hpos : 0 < (es ++ [xv.cells]).flatten.length := by rw [hfl2]; exact Nat.mul_pos (by omega) hs0
                        have := (hc' 0 _ (List.getElem?_eq_getElem hpos)).1
                        rcases this with hB | ⟨u, hu, _⟩
                        · have := (hI.box b' cs hcs').1; omega
                        · rw [hrow] at hu; cases hu
                      have hb1h : w1.heap[b]? = some (.cells us ty (0, 0)) := by rw [← hbh, hw']; exact (setRow_other w1 g b _ hbg).symm
                      have hRone : (V.slice (.tip t') i.size (es ++ [xv.cells])).one = true := rfl
                      obtain ⟨⟨yc, hyc⟩, hfr, hI3, hE3⟩ := hI.box_set hcs' hoff hR hRone
                      have hE13 := hE.trans hE3
                      have hwf : (w1.setCell ⟨b, off, none⟩ vS).setRow g (cur.toList.take (es.length * i.size) ++ (a.eval e).cells.toList ++ cur.toList.drop (es.length * i.size + (a.eval e).cells.toList.length)).toArray = w'.setCell ⟨b, off, none⟩ vS := by
                        rw [hw', setCell_setRow _ hbg]
                      -- the runs
                      have hvS1 : vS.oneCell' = true := by rw [← hv0]; rfl
                      have hrun1 : (execOp a.eval o1).run P w = .ok (.value vS) w1 := by rw [run_append_call e1, hrun]; rfl
                      have hev1 : ∀ u, ((a.put o1.dst vS).put o2.dst u).eval (.tmp q3) = vS := fun u => by
                        have : q3 < a.tmps.size := by rw [hr.size]; exact hdn1
                        simp [Act.eval, Act.put, hdst1, hdst2, Array.getD_eq_getD_getElem?, Array.getElem?_setIfInBounds, Ne.symm hne, this]
                      have hev1' : (a.put o1.dst vS).eval (.tmp q3) = vS := by
                        have : q3 < a.tmps.size := by rw [hr.size]; exact hdn1
                        simp [Act.eval, Act.put, hdst1, Array.getD_eq_getD_getElem?, Array.getElem?_setIfInBounds, this]
                      have hev2 : ∀ u, ((a.put o1.dst vS).put o2.dst u).eval (.tmp q2) = u := fun u => by
                        have : q2 < a.tmps.size := by rw [hr.size]; exact hdn2
                        simp [Act.eval, Act.put, hdst1, hdst2, Array.getD_eq_getD_getElem?, Array.getElem?_setIfInBounds, this]
                      have hrun2 : ∀ w2 : World, (execOp (a.put o1.dst vS).eval o2).run P w2 = .ok (.value (.pointer (some ⟨g, es.length * i.size, none⟩))) w2 := by
                        intro w2
                        have hl2 : (a.put o1.dst vS).eval li = .int kq (es.length : Int) := by rw [hdst1, (apart_ev hap1 hli (u2 := undef)).2, hle]
                        have hq' : (es.length : Int) < (es.length : Int) + 1 := by omega
                        simp only [execOp, e2, hev1', hl2]
                        rw [← hv0]
                        simp [Instr.indexAt, asIntOf, run_underlying hu3, hq', sizeOf, typeInfo, hi3, add_lit, hs3]
                      have hsz4 : (a.eval e).cells.size = i.size := by have := hnl; simpa using this
                      have hrun3 : ∀ (w2 : World), w2.heap[g]? = some (.cells cur te (0, 0)) → (execOp ((a.put o1.dst vS).put o2.dst (.pointer (some ⟨g, es.length * i.size, none⟩))).eval o3).run P w2 =
                          .ok .skip (w2.setRow g (cur.toList.take (es.length * i.size) ++ (a.eval e).cells.toList ++ cur.toList.drop (es.length * i.size + (a.eval e).cells.toList.length)).toArray) := by
                        intro w2 hw2
                        have hst := run_storeCells_at P g (es.length * i.size) te (a.eval e).cells.toList 0 cur w2 hw2 (by simpa using hfit) (hRLx.ones hone)
                        simp only [Nat.add_zero] at hst
                        have hl2 := hev2 (.pointer (some ⟨g, es.length * i.size, none⟩))
                        have hl3 : ((a.put o1.dst vS).put o2.dst (.pointer (some ⟨g, es.length * i.size, none⟩))).eval e = a.eval e := by rw [hdst1, hdst2, (apart_ev hap2 he).1]
                        simp [execOp, e3, hl2, hl3, Instr.storeAt, Instr.sureAddr, storeVar, sizeOf, typeInfo, hi4, hsz4, hs4, hst]
                      have hcell1 : vS.cells = #[vS] := by rw [← hv0]; rfl
                      have hrun4 : ∀ (w2 : World) (a2 : Act), a2.eval v = .pointer (some ⟨b, off, none⟩) → a2.eval (.tmp q3) = vS → w2.heap[b]? = some (.cells us ty (0, 0)) → (execOp a2.eval o4).run P w2 = .ok .skip (w2.setCell ⟨b, off, none⟩ vS) := by
                        intro w2 a2 hv2 hs2 hw2
                        have hcc : w2.cell? ⟨b, off, none⟩ = some yc := by rw [cell_of_row w2 b off us ty _ hw2]; rw [cell_of_row w' b off us ty _ hbh] at hyc; exact hyc
                        have hff := frozen_of_row w2 b off us ty hw2
                        have hst : (store (⟨b, off, none⟩ : Addr) vS).run P w2 = .ok () (w2.setCell ⟨b, off, none⟩ vS) := by
                          rw [run_store P w2 _ vS _ hvS1, hcc]; simp [hff]
                        have hadd : (⟨b, off, none⟩ : Addr).add 0 = ⟨b, off, none⟩ := by rw [add_lit]; rfl
                        simp [execOp, e4, hv2, hs2, Instr.storeAt, Instr.sureAddr, storeVar, sizeOf, typeInfo, hi5, hs5, hcell1, storeCells, hadd, hst]
                      have hfin : ∀ (w3 : World) (a3 : Act), w3 = w'.setCell ⟨b, off, none⟩ vS → a3 = (a.put o1.dst vS).put o2.dst (.pointer (some ⟨g, es.length * i.size, none⟩)) → Q .normal a3 w3 := by
                        intro w3 a3 hw3 ha3
                        subst hw3; subst ha3
                        refine hK _ _ _ _ _ hE13 ⟨hI3, fun tt u hu => ?_, ?_, ?_⟩ (h t' hlv)
                        · unfold putT at hu
                          split at hu
                          · cases hu
                          · rename_i hn2
                            split at hu
                            · rename_i hn1; subst hn1; injection hu with hu; subst hu
                              have := hev1 (.pointer (some ⟨g, es.length * i.size, none⟩))
                              simp only [Act.eval] at this
                              rw [this]; exact hR.ext hE3
                            · rename_i hn1
                              have := (hr.slots tt u hu).ext hE13
                              simp only [Act.put, hdst1, hdst2, Array.getD_eq_getD_getElem?, Array.getElem?_setIfInBounds, if_neg (Ne.symm hn1), if_neg (Ne.symm hn2)] at this ⊢
                              exact this
                        · simp [Act.put, hdst1, hdst2, hr.size]
                        · simp [Act.put, hdst1, hdst2, hr.defs]
                      have hk0 : k + 3 < ops.size := (Array.getElem?_eq_some_iff.1 h4).1
                      have hput3 : ∀ (a3 : Act) (u : Value), a3.put o3.dst u = a3 := fun a3 u => by rw [hdst3]; rfl
                      have hput4 : ∀ (a3 : Act) (u : Value), a3.put o4.dst u = a3 := fun a3 u => by rw [hdst4]; rfl
                      have hevv : ∀ u, ((a.put o1.dst vS).put o2.dst u).eval v = .pointer (some ⟨b, off, none⟩) ∧ (a.put o1.dst vS).eval v = .pointer (some ⟨b, off, none⟩) := fun u => by
                        rw [hdst1, hdst2]; exact ⟨by rw [(apart_ev hap3 hv).1, hve'], by rw [(apart_ev hap3 hv (u2 := undef)).2, hve']⟩
                      -- the orders
                      refine any_step hdeps hback hL (i0 := k) (by omega) (by simp) (fun i hi his hid => ?_)
                      have : i = k := by
                        simp at hi
                        rcases hi with rfl | rfl | rfl | rfl
                        · rfl
                        · exact absurd (by simp) (hid k hd2 (by omega))
                        · exact absurd (by simp) (hid (k + 1) hd3 (by omega))
                        · exact absurd (by simp) (hid k hd4 (by omega))
                      subst this
                      refine wpOp_value h1 hg1 hrun1 ?_
                      have hL1 := hL.set (i := i) [i + 1, i + 2, i + 3] (fun j => by simp; omega)
                      refine any_step hdeps hback hL1 (i0 := i + 1) (by omega) (by simp) (fun j hj hjs hjd => ?_)
                      have : j = i + 1 ∨ j = i + 3 := by
                        simp at hj
                        rcases hj with rfl | rfl | rfl
                        · exact .inl rfl
                        · exact absurd (by simp) (hjd (i + 1) hd3 (by omega))
                        · exact .inr rfl
                      rcases this with rfl | rfl
                      · refine wpOp_value h2 hg2 (hrun2 _) ?_
                        have hL2 := hL1.set (i := i + 1) [i + 2, i + 3] (fun j => by simp; omega)
                        refine any_step hdeps hback hL2 (i0 := i + 2) (by omega) (by simp) (fun j hj hjs hjd => ?_)
                        simp at hj
                        rcases hj with rfl | rfl
                        · refine wpOp_skip h3 hg3 (hrun3 _ hg) ?_
                          rw [hput3, ← hw']
                          have hL3 := hL2.set (i := i + 2) [i + 3] (fun j => by simp; omega)
                          refine any_step hdeps hback hL3 (i0 := i + 3) (by omega) (by simp) (fun j hj hjs hjd => ?_)
                          simp at hj
                          subst hj
                          refine wpOp_skip h4 hg4 (hrun4 _ _ (hevv _).1 (hev1 _) hbh) ?_
                          rw [hput4]
                          exact any_end (hL3.set [] (fun j => by simp)) (hfin _ _ rfl rfl)
                        · refine wpOp_skip h4 hg4 (hrun4 _ _ (hevv _).1 (hev1 _) hb1h) ?_
                          rw [hput4]
                          have hL3 := hL2.set (i := i + 3) [i + 2] (fun j => by simp; omega)
                          refine any_step hdeps hback hL3 (i0 := i + 2) (by omega) (by simp) (fun j hj hjs hjd => ?_)
                          simp at hj
                          subst hj
                          refine wpOp_skip h3 hg3 (hrun3 _ ((heap_setCell_other w1 ⟨b, off, none⟩ g vS (Ne.symm hbg)).trans hg)) ?_
                          rw [hput3, hwf]
                          exact any_end (hL3.set [] (fun j => by simp)) (hfin _ _ rfl rfl)
                      · refine wpOp_skip h4 hg4 (hrun4 _ _ (hevv undef).2 hev1' hb1h) ?_
                        rw [hput4]
                        have hL2 := hL1.set (i := i + 3) [i + 1, i + 2] (fun j => by simp; omega)
                        refine any_step hdeps hback hL2 (i0 := i + 1) (by omega) (by simp) (fun j hj hjs hjd => ?_)
                        have : j = i + 1 := by
                          simp at hj
                          rcases hj with rfl | rfl
                          · rfl
                          · exact absurd (by simp) (hjd (i + 1) hd3 (by omega))
                        subst this
                        refine wpOp_value h2 hg2 (hrun2 _) ?_
                        have hL3 := hL2.set (i := i + 1) [i + 2] (fun j => by simp; omega)
                        refine any_step hdeps hback hL3 (i0 := i + 2) (by omega) (by simp) (fun j hj hjs hjd => ?_)
                        simp at hj
                        subst hj
                        refine wpOp_skip h3 hg3 (hrun3 _ ((heap_setCell_other w1 ⟨b, off, none⟩ g vS (Ne.symm hbg)).trans hg)) ?_
                        rw [hput3, hwf]
                        exact any_end (hL3.set [] (fun j => by simp)) (hfin _ _ rfl rfl)
                    · exact h.elim
                  · cases ht
                · cases ht
              · cases ht
            · cases ht
          · cases ht
        · cases ht
      · cases ht
    · cases ht
  · cases ht

end
end Go.Shadow

/- THE SHADOW LOGIC, part 15: code, and calls of functions. -/
namespace Go.Shadow
open Go Go.RowKit

inductive SC where
  | skip
  | ret
  | exit (id : Nat)
  | seq (a b : SC)
  | cond (c : Opd) (ks : Option (List Nat)) (a b : SC)
  | block (id : Nat) (c : SC)
  | loop (c : SC)
  | region (ops : List SOper) (ks : Option (List Nat))
  | app1 (T : AppT) (ks : Option (List Nat))
  | stop

inductive SExit where
  | normal
  | exit (id : Nat)
  | ret
  | pan (v : V)

/-- Slots by a list. -/
def ofL : List (Nat × Option V) → Slots
  | [], _ => none
  | (k, v) :: r, t => if t = k then v else ofL r t
def keepS (ks : List Nat) (sl : Slots) : Slots := ofL (ks.map fun k => (k, sl k))
def keepO : Option (List Nat) → Slots → Slots
  | none, sl => sl
  | some ks, sl => keepS ks sl

def Weak (v r : V) : Prop := ∀ B γ w x, R B γ w v x → R B γ w r x
theorem Weak.refl (v : V) : Weak v v := fun _ _ _ _ h => h
/-- Cells of which less is known. -/
structure WeakL (cs ds : List V) : Prop where
  len : cs.length = ds.length
  one : ∀ (j : Nat) (y : V), ds[j]? = some y → y.one = true
  weak : ∀ (j : Nat) (x y : V), cs[j]? = some x → ds[j]? = some y → Weak x y
theorem WeakL.rl {cs ds : List V} (h : WeakL cs ds) {B : Nat} {γ : Gh} {w : World} {vs : List Value} (hr : RL B γ w cs vs) : RL B γ w ds vs := by
  refine ⟨h.len.symm.trans hr.1, fun i y z hy hz => ?_⟩
  have hi : i < cs.length := by rw [h.len]; exact (List.getElem?_eq_some_iff.1 hy).1
  exact h.weak i _ y (List.getElem?_eq_getElem hi) hy _ _ _ _ (hr.2 i _ z (List.getElem?_eq_getElem hi) hz)
/-- Less is known. -/
structure Forget (σ σ' : St) : Prop where
  box : ∀ b cs, σ'.box b = some cs → ∃ ds, σ.box b = some ds ∧ (ds = cs ∨ WeakL ds cs)
  live : ∀ t, σ'.live t = true → σ.live t = true
  map : ∀ r m, σ'.map r = some m → σ.map r = some m
theorem Forget.refl (σ : St) : Forget σ σ := ⟨fun _ cs h => ⟨cs, h, .inl rfl⟩, fun _ h => h, fun _ _ h => h⟩
theorem Forget.put {σ : St} {b : Nat} {cs ds : List V} (hb : σ.box b = some cs) (h : WeakL cs ds) : Forget σ (σ.put b ds) := by
  refine ⟨fun b' es hb' => ?_, fun _ h => h, fun _ _ h => h⟩
  simp only [St.put] at hb'
  split at hb'
  · rename_i e; subst e; injection hb' with hb'; subst hb'; exact ⟨cs, hb, .inr h⟩
  · exact ⟨es, hb', .inl rfl⟩
/-- What is known behind has all that is known ahead. -/
structure Over (σ1 σ : St) : Prop where
  box : ∀ b cs, σ1.box b = some cs → σ.box b = some cs
  live : ∀ t, σ1.live t = true → σ.live t = true
  map : ∀ r m, σ1.map r = some m → σ.map r = some m
theorem Over.refl (σ : St) : Over σ σ := ⟨fun _ _ h => h, fun _ h => h, fun _ _ h => h⟩
theorem Over.forget {σ1 σ : St} (h : Over σ1 σ) : Forget σ σ1 := ⟨fun b cs hb => ⟨cs, h.box b cs hb, .inl rfl⟩, h.live, h.map⟩
instance {σ1 σ : St} : Coe (Over σ1 σ) (Forget σ σ1) := ⟨Over.forget⟩

def swp (P : Program) (G : Globs) : SC → (SExit → Slots → St → Prop) → Slots → St → Prop
  | .skip, Q, sl, σ => Q .normal sl σ
  | .ret, Q, sl, σ => Q .ret sl σ
  | .exit id, Q, sl, σ => Q (.exit id) sl σ
  | .seq a b, Q, sl, σ => swp P G a (fun e sl σ => match e with
    | .normal => swp P G b Q sl σ
    | .exit id => Q (.exit id) sl σ
    | .ret => Q .ret sl σ
    | .pan v => Q (.pan v) sl σ) sl σ
  | .cond c ks a b, Q, sl, σ => match c.ev sl G with
    | some (.bool t) => Br t (swp P G a Q (keepO ks sl) σ) (swp P G b Q (keepO ks sl) σ)
    | _ => False
  | .block id c, Q, sl, σ => swp P G c (fun e sl σ => match e with
    | .normal => Q .normal sl σ
    | .exit id' => if id' = id then Q .normal sl σ else Q (.exit id') sl σ
    | .ret => Q .ret sl σ
    | .pan v => Q (.pan v) sl σ) sl σ
  | .loop c, Q, sl, σ => ∃ (I : Nat → Slots → St → Prop) (n : Nat), I n sl σ ∧ ∀ n sl σ, I n sl σ → swp P G c (fun e sl' σ' => match e with
    | .normal => ∃ m σ'', m < n ∧ Forget σ' σ'' ∧ I m sl' σ''
    | .exit id => Q (.exit id) sl' σ'
    | .ret => Q .ret sl' σ'
    | .pan v => Q (.pan v) sl' σ') sl σ
  | .region ops ks, Q, sl, σ => sOps P G (fun v σ' => Q (.pan v) (dropS (dsts ops) sl) σ') (fun sl σ => Q .normal (keepO ks sl) σ) ops sl σ
  | .app1 T ks, Q, sl, σ => App1 G T sl σ (fun sl σ => Q .normal (keepO ks sl) σ)
  | .stop, _, _, _ => False

/-! ### translation of code -/
def firstReady (tab : List (List Nat)) (done : List Nat) (c : Nat) : List (Nat × SOper) → Option (Nat × SOper)
  | [] => none
  | x :: r => if (tab.getD x.1 []).all (done.contains ·) && decide (x.2.op.cls ≤ c) then some x else firstReady tab done c r
def canon (tab : List (List Nat)) : Nat → List (Nat × SOper) → List Nat → List Nat
  | 0, _, acc => acc.reverse
  | fuel + 1, l, acc => match firstReady tab acc 0 l with
    | some x => canon tab fuel (l.filter (·.1 != x.1)) (x.1 :: acc)
    | none => match firstReady tab acc 1 l with
      | some x => canon tab fuel (l.filter (·.1 != x.1)) (x.1 :: acc)
      | none => match firstReady tab acc 3 l with
        | some x => canon tab fuel (l.filter (·.1 != x.1)) (x.1 :: acc)
        | none => acc.reverse
def backOK : Nat → List (List Nat) → Bool
  | _, [] => true
  | i, d :: r => d.all (fun j => decide (j < i)) && backOK (i + 1) r
def numbered : Nat → List SOper → List (Nat × SOper)
  | _, [] => []
  | i, o :: r => (i, o) :: numbered (i + 1) r
def pickL (sos : List SOper) : List Nat → List (Nat × SOper)
  | [] => []
  | i :: r => match sos[i]? with
    | some o => (i, o) :: pickL sos r
    | none => pickL sos r
def orderOK (m : Nat) (l : List Nat) : Bool := (List.range m).all (fun i => l.contains i) && l.all (fun i => decide (i < m)) && decide l.Nodup && l.length == m

def toKAt : Nat → List SOper → List SOper
  | _, [] => []
  | 0, o :: r => o.toK :: r
  | k + 1, o :: r => o :: toKAt k r
theorem toKAt_length : ∀ (k : Nat) (l : List SOper), (toKAt k l).length = l.length
  | _, [] => by cases ‹Nat› <;> rfl
  | 0, o :: r => rfl
  | k + 1, o :: r => by simp [toKAt, toKAt_length k r]
theorem toKAt_get (P : Program) (G : Globs) : ∀ (k : Nat) (l : List SOper) (i : Nat) (sx : SOper), (toKAt k l)[i]? = some sx → ∃ so, l[i]? = some so ∧ Stronger P G sx so
  | k, [], i, sx, h => by cases k <;> simp [toKAt] at h
  | 0, o :: r, i, sx, h => by
    cases i with
    | zero => simp [toKAt] at h; subst h; exact ⟨o, rfl, toK_sound o⟩
    | succ i => exact ⟨sx, by simpa [toKAt] using h, .refl _⟩
  | k + 1, o :: r, i, sx, h => by
    cases i with
    | zero => simp [toKAt] at h; subst h; exact ⟨o, rfl, .refl _⟩
    | succ i => obtain ⟨so, h1, h2⟩ := toKAt_get P G k r i sx (by simpa [toKAt] using h); exact ⟨so, by simpa using h1, h2⟩
/-- Stores that are far from the loads that are not ordered with them. -/
def farOf (tab : List (List Nat)) (sos : List SOper) (i : Nat) : List Nat := (numbered 0 sos).filterMap fun q => match q.2.op with
  | .load _ _ (.t k) => if (tab.getD i []).contains q.1 || (tab.getD q.1 []).contains i then none else some k
  | _ => none
def toDs (tab : List (List Nat)) (sos : List SOper) : List SOper := (numbered 0 sos).map fun p => p.2.toD (farOf tab sos p.1)
theorem numbered_get : ∀ (l : List SOper) (j i : Nat), (numbered j l)[i]? = (l[i]?).map fun o => (j + i, o)
  | [], j, i => by simp [numbered]
  | o :: r, j, i => by
    cases i with
    | zero => simp [numbered]
    | succ i => simp only [numbered, List.getElem?_cons_succ, numbered_get r (j + 1) i]; congr 1; funext x; rw [show j + 1 + i = j + (i + 1) by omega]
theorem numbered_length : ∀ (l : List SOper) (j : Nat), (numbered j l).length = l.length
  | [], _ => rfl
  | o :: r, j => by simp [numbered, numbered_length r]
theorem toDs_get (P : Program) (G : Globs) {tab : List (List Nat)} {l : List SOper} {i : Nat} {sx : SOper} (h : (toDs tab l)[i]? = some sx) : ∃ so, l[i]? = some so ∧ Stronger P G sx so := by
  simp only [toDs, List.getElem?_map, numbered_get, Option.map_map, Option.map_eq_some_iff] at h
  obtain ⟨so, h1, h2⟩ := h
  subst h2
  exact ⟨so, h1, toD_sound _ so⟩
/-- The slot from outside of a region that an address comes from; none: out of a slice, or loaded. -/
def rootOf (sos : List SOper) : Nat → Nat → Option Nat
  | 0, _ => none
  | fuel + 1, k => match sos.find? (fun o => o.dst == some k) with
    | none => some k
    | some o => match o.op with
      | .faddr _ (.t j) | .mv (.t j) | .nilchk (.t j) | .iaddrA _ _ (.t j) _ => rootOf sos fuel j
      | _ => none
def loose (tab : List (List Nat)) (i j : Nat) : Bool := !((tab.getD i []).contains j) && !((tab.getD j []).contains i) && i != j
/-- Calls and loads that are not ordered: the loads' variables are kept. -/
def toRs (tab : List (List Nat)) (sos : List SOper) : List SOper := (numbered 0 sos).map fun p => match p.2.op with
  | .load _ _ (.t k) => if (numbered 0 sos).any (fun q => loose tab p.1 q.1 && (match q.2.op with | .call _ _ | .callv _ _ => true | _ => false)) then p.2.toR (rootOf sos sos.length k) [] else p.2
  | .call _ _ | .callv _ _ => if (numbered 0 sos).any (fun q => loose tab p.1 q.1 && (match q.2.op with | .load _ _ _ => true | _ => false)) then
      p.2.toR none ((numbered 0 sos).filterMap fun q => match q.2.op with
        | .load _ _ (.t k) => if loose tab p.1 q.1 then rootOf sos sos.length k else none
        | _ => none).eraseDups
    else p.2
  | _ => p.2
theorem toRs_get (P : Program) (G : Globs) {tab : List (List Nat)} {l : List SOper} {i : Nat} {sx : SOper} (h : (toRs tab l)[i]? = some sx) : ∃ so, l[i]? = some so ∧ Stronger P G sx so := by
  simp only [toRs, List.getElem?_map, numbered_get, Option.map_map, Option.map_eq_some_iff] at h
  obtain ⟨so, h1, h2⟩ := h
  refine ⟨so, h1, ?_⟩
  subst h2
  simp only [Function.comp_apply]
  split <;> (try split) <;> first | exact .refl _ | exact toR_sound _ _ _
def tryL (tab : List (List Nat)) (m : Nat) : List (List SOper) → Option (List SOper)
  | [] => none
  | c :: r =>
    let ik := canon tab m (numbered 0 c) []
    if pairsOK tab (pickL c ik) = true ∧ orderOK m ik = true then some ((pickL c ik).map (·.2)) else tryL tab m r
/-- One call keeps what is known: does one order serve all then? -/
def tryK (tab : List (List Nat)) (m : Nat) (sos : List SOper) : List Nat → Option (List SOper)
  | [] => none
  | k :: r =>
    let sok := toKAt k sos
    let ik := canon tab m (numbered 0 sok) []
    if pairsOK tab (pickL sok ik) = true ∧ orderOK m ik = true then some ((pickL sok ik).map (·.2)) else tryK tab m sos r

def trRegion (P : Program) (n : Nat) (ops : Array Oper) (draw : Bool) : Option (List SOper) :=
  match trOpers P n ops ops.toList with
  | none => none
  | some sos => if draw = false then some sos else
    let deps := ops.toList.map binding
    let tab := befTab deps []
    if backOK 0 deps = true then
      if pairsOK tab (pickL sos (List.range ops.size)) = true ∧ orderOK ops.size (List.range ops.size) = true then some ((pickL sos (List.range ops.size)).map (·.2))
      else
        let ix := canon tab ops.size (numbered 0 sos) []
        if pairsOK tab (pickL sos ix) = true ∧ orderOK ops.size ix = true then some ((pickL sos ix).map (·.2)) else
        match tryL tab ops.size [toRs tab sos, toDs tab (toRs tab sos)] with
        | some l => some l
        | none => match tryK tab ops.size sos (List.range ops.size) with
          | some l => some l
          | none => tryL tab ops.size [sos.map SOper.toK, toDs tab sos, toDs tab (sos.map SOper.toK)]
    else none

/-- A region that ends in such an append. -/
def trApp (P : Program) (n : Nat) (ops : Array Oper) (draw : Bool) : Option (List SOper × AppT) :=
  let k := ops.size - 4
  match ops[k]?, ops[k + 1]?, ops[k + 2]?, ops[k + 3]? with
  | some o1, some o2, some o3, some o4 => match trTail P n o1 o2 o3 o4, trOpers P n ops (ops.toList.take k) with
    | some T, some sos =>
      let deps := ops.toList.map binding
      let tab := befTab deps []
      let sx := toRs tab sos
      let ix := canon tab k (numbered 0 sx) []
      if (draw && decide (4 ≤ ops.size) && backOK 0 deps && (deps.getD (k + 1) []).contains k && (deps.getD (k + 2) []).contains (k + 1) && (deps.getD (k + 3) []).contains k && (List.range k).all (fun p => (tab.getD k []).contains p && (tab.getD (k + 1) []).contains p && (tab.getD (k + 2) []).contains p && (tab.getD (k + 3) []).contains p) && pairsOK tab (pickL sx ix) && orderOK k ix) = true then some ((pickL sx ix).map (·.2), T) else none
    | _, _ => none
  | _, _, _, _ => none

def trReg (P : Program) (n : Nat) (ops : Array Oper) (draw : Bool) : SC := match trRegion P n ops draw with
  | some l => .region l none
  | none => match trApp P n ops draw with
    | some (l, T) => .seq (.region l none) (.app1 T none)
    | none => .stop
theorem trReg_of {P : Program} {n : Nat} {ops : Array Oper} {draw : Bool} {sc : SC} (h : some (trReg P n ops draw) = some sc) : (∃ l, trRegion P n ops draw = some l ∧ sc = .region l none) ∨
    (∃ l T, trApp P n ops draw = some (l, T) ∧ sc = .seq (.region l none) (.app1 T none)) ∨ sc = .stop := by
  injection h with h; subst h
  unfold trReg
  split
  · rename_i l hl; exact .inl ⟨l, hl, rfl⟩
  · split
    · rename_i l T hl; exact .inr (.inl ⟨l, T, hl, rfl⟩)
    · exact .inr (.inr rfl)

def tr (P : Program) (n : Nat) : Code → Option SC
  | .skip => some .skip
  | .ret => some .ret
  | .exit id => some (.exit id)
  | .seq a b => match tr P n a, tr P n b with
    | some x, some y => some (.seq x y)
    | _, _ => none
  | .cond c a b => match trOpd c, tr P n a, tr P n b with
    | some oc, some x, some y => some (.cond oc none x y)
    | _, _, _ => none
  | .block id c => match tr P n c with
    | some x => some (.block id x)
    | none => none
  | .loop c => match tr P n c with
    | some x => some (.loop x)
    | none => none
  | .region _ ops draw => some (trReg P n ops draw)
  | _ => some .stop
def strip : SC → SC
  | .seq a b => .seq (strip a) (strip b)
  | .cond c _ a b => .cond c none (strip a) (strip b)
  | .block id c => .block id (strip c)
  | .loop c => .loop (strip c)
  | .region ops _ => .region ops none
  | .app1 T _ => .app1 T none
  | c => c

section
variable {P : Program} {G : Globs} {w0 w : World} {γ : Gh} {σ : St} {n : Nat} {ds : List Deferred} {sl : Slots} {a : Act} {Kp : V → St → Prop}

theorem Inv.forget (hI : Inv G w0 γ σ w) {σ' : St} (hf : Forget σ σ') : Inv G w0 γ σ' w :=
  ⟨hI.bel, fun b cs h => by
    obtain ⟨ds, h1, h2⟩ := hf.box b cs h
    obtain ⟨g1, g2, g3, vs, ty, g4, g5⟩ := hI.box b ds h1
    rcases h2 with rfl | h2
    · exact ⟨g1, g2, g3, vs, ty, g4, g5⟩
    · exact ⟨g1, g2, h2.one, vs, ty, g4, h2.rl g5⟩, fun t h => hI.live t (hf.live t h), hI.tip, hI.inj, hI.rowlt, hI.glob, hI.pre, fun r m h => hI.map r m (hf.map r m h)⟩
theorem Rel.forget (hr : Rel G w0 γ σ w n ds sl a) {σ' : St} (hf : Forget σ σ') : Rel G w0 γ σ' w n ds sl a := ⟨hr.inv.forget hf, hr.slots, hr.size, hr.defs⟩
theorem Rel.none (hr : Rel G w0 γ σ w n ds sl a) : Rel G w0 γ σ w n ds (fun _ => none) a := ⟨hr.inv, fun _ _ h => (by cases h), hr.size, hr.defs⟩

theorem ofL_keep (ks : List Nat) (sl : Slots) (t : Nat) (v : V) (h : keepS ks sl t = some v) : sl t = some v := by
  induction ks with
  | nil => cases h
  | cons k ks ih =>
    simp only [keepS, List.map_cons, ofL] at h
    split at h
    · rename_i e; subst e; exact h
    · exact ih h
theorem Rel.keep (hr : Rel G w0 γ σ w n ds sl a) (ks : Option (List Nat)) : Rel G w0 γ σ w n ds (keepO ks sl) a := by
  cases ks with
  | none => exact hr
  | some ks => exact ⟨hr.inv, fun t v h => hr.slots t v (ofL_keep ks sl t v h), hr.size, hr.defs⟩

/-- What holds behind code, in the model's terms. -/
def CQ (G : Globs) (w0 : World) (γ : Gh) (w : World) (n : Nat) (ds : List Deferred) (SQ : SExit → Slots → St → Prop) (e : Exit) (a' : Act) (w' : World) : Prop :=
  ∃ γ' σ' sl', Ext w0.heap.size γ w γ' w' ∧ Rel G w0 γ' σ' w' n ds sl' a' ∧ match e with
    | .normal => SQ .normal sl' σ'
    | .exit id => SQ (.exit id) sl' σ'
    | .ret => SQ .ret sl' σ'
    | .panic chain => ∃ v x, chain = [{ v := x, recovered := false }] ∧ R w0.heap.size γ' w' v x ∧ SQ (.pan v) sl' σ'
    | _ => False

theorem CQ.ext {γ1 : Gh} {w1 : World} (he : Ext w0.heap.size γ w γ1 w1) {SQ : SExit → Slots → St → Prop} {e : Exit} {a' : Act} {w' : World} (h : CQ G w0 γ1 w1 n ds SQ e a' w') : CQ G w0 γ w n ds SQ e a' w' := by
  obtain ⟨γ', σ', sl', h1, h2, h3⟩ := h
  exact ⟨γ', σ', sl', he.trans h1, h2, h3⟩

theorem wp_loop_ex {c : Code} {Q : Exit → Act → World → Prop} (I : Nat → Act → World → Prop) {m : Nat} (h₀ : I m a w)
    (round : ∀ m a w, I m a w → c.wp P (Exit.then (fun a' w' => ∃ m', m' < m ∧ I m' a' w') Q) a w) : (Code.loop c).wp P Q a w := by
  intro b k cs
  have key : ∀ m a w, I m a w → ∃ e a' w', Q e a' w' ∧ Arrives P (lone (b.at a (.code c :: .inLoop c :: k)) cs w) b k cs e a' w' := by
    intro m
    induction m using Nat.strongRecOn with
    | _ m ih =>
      intro a w hI
      obtain ⟨e, a₁, w₁, hq, harr⟩ := round m a w hI b (.inLoop c :: k) cs
      cases e with
      | normal =>
        obtain ⟨m', hlt, hI₁⟩ := hq
        obtain ⟨e₂, a₂, w₂, hq₂, harr₂⟩ := ih m' hlt a₁ w₁ hI₁
        exact ⟨e₂, a₂, w₂, hq₂, .of_steps (Steps.trans harr (.one step_inLoop)) harr₂⟩
      | exit id => exact ⟨_, a₁, w₁, hq, .pass (x := .inLoop c) rfl (fun _ _ => .inl (by simp)) harr⟩
      | goto l => exact ⟨_, a₁, w₁, hq, .pass (x := .inLoop c) rfl (fun _ _ => .inl (by simp)) harr⟩
      | ret => exact ⟨_, a₁, w₁, hq, .pass (x := .inLoop c) rfl (fun _ _ => .inl (by simp)) harr⟩
      | panic ch => exact ⟨_, a₁, w₁, hq, .pass (x := .inLoop c) rfl (fun _ _ => .inl (by simp)) harr⟩
      | outgrown => exact ⟨_, a₁, w₁, hq, .pass (x := .inLoop c) rfl (fun _ _ => .inl (by simp)) harr⟩
  obtain ⟨e, a', w', hq, harr⟩ := key m a w h₀
  exact ⟨e, a', w', hq, .of_steps (.one step_loop) harr⟩

theorem trOpers_get {ops : Array Oper} : ∀ {l : List Oper} {sos : List SOper}, trOpers P n ops l = some sos → l.length = sos.length ∧ ∀ (k : Nat) (so : SOper), sos[k]? = some so → ∃ o, l[k]? = some o ∧ trOper P n ops o = some so
  | [], sos, h => by simp [trOpers] at h; subst h; exact ⟨rfl, fun k so hk => by simp at hk⟩
  | o :: r, sos, h => by
    simp only [trOpers] at h
    split at h
    · rename_i s ss h1 h2
      injection h with h; subst h
      obtain ⟨g1, g2⟩ := trOpers_get h2
      refine ⟨by simp [g1], fun k so hk => ?_⟩
      cases k with
      | zero => simp at hk; subst hk; exact ⟨o, rfl, h1⟩
      | succ k => obtain ⟨o', h3, h4⟩ := g2 k so (by simpa using hk); exact ⟨o', by simpa using h3, h4⟩
    · cases h

theorem backOK_spec : ∀ {l : List (List Nat)} {k : Nat}, backOK k l = true → ∀ i, ∀ j ∈ l.getD i [], j < k + i
  | [], k, _, i, j, hj => by simp at hj
  | d :: r, k, h, i, j, hj => by
    simp only [backOK, Bool.and_eq_true, List.all_eq_true, decide_eq_true_eq] at h
    cases i with
    | zero => simp at hj; have := h.1 j hj; omega
    | succ i =>
      have := backOK_spec h.2 i j (by simpa using hj)
      omega

theorem pickL_spec (sos : List SOper) : ∀ (l : List Nat), (∀ i ∈ l, i < sos.length) → (pickL sos l).map (·.1) = l ∧ ∀ p ∈ pickL sos l, sos[p.1]? = some p.2
  | [], _ => ⟨rfl, fun p hp => by simp [pickL] at hp⟩
  | i :: r, h => by
    have hi := h i (by simp)
    obtain ⟨g1, g2⟩ := pickL_spec sos r (fun j hj => h j (by simp [hj]))
    simp only [pickL, List.getElem?_eq_getElem hi]
    refine ⟨by simp [g1], fun p hp => ?_⟩
    simp at hp
    rcases hp with rfl | hp
    · simp [hi]
    · exact g2 p hp

theorem region_order {ops : Array Oper} {id : Nat} {sos0 sos : List SOper} {ix : List Nat} {SQ : SExit → Slots → St → Prop} {ks : Option (List Nat)} (hm : P.follows .mixedOrders = true) (ht : trOpers P n ops ops.toList = some sos0) (hlen : sos0.length = sos.length) (hX : ∀ (k : Nat) (sx : SOper), sos[k]? = some sx → ∃ so, sos0[k]? = some so ∧ Stronger P G sx so)
    (hb : backOK 0 (ops.toList.map binding) = true) (hp : pairsOK (befTab (ops.toList.map binding) []) (pickL sos ix) = true) (ho : orderOK ops.size ix = true) (hr : Rel G w0 γ σ w n ds sl a)
    (h : swp P G (.region ((pickL sos ix).map (·.2)) ks) SQ sl σ) : (Code.region id ops true).wp P (CQ G w0 γ w n ds SQ) a w := by
  obtain ⟨hl, hget⟩ := trOpers_get ht
  have hl' : sos.length = ops.size := by rw [← hlen, ← hl]; simp
  simp only [orderOK, Bool.and_eq_true, List.all_eq_true, decide_eq_true_eq, beq_iff_eq, List.mem_range] at ho
  obtain ⟨⟨⟨ho1, ho2⟩, ho3⟩, ho4⟩ := ho
  obtain ⟨hp1, hp2⟩ := pickL_spec sos ix (fun i hi => by rw [hl']; exact ho2 i hi)
  refine wp_region_any hm ?_
  obtain ⟨hI1, hE1⟩ := hr.inv.drew
  have hr1 : Rel G w0 γ σ { w with drawn := w.drawn + 1 } n ds sl a := hr.ext hE1 hI1
  have hdep : ∀ i o, ops[i]? = some o → (ops.toList.map binding).getD i [] = binding o := by
    intro i o hi
    rw [List.getD_eq_getElem?_getD, List.getElem?_map]
    have : ops.toList[i]? = some o := by simpa using hi
    rw [this]; rfl
  refine any_order (ops.toList.map binding) hdep (fun i j hj => by have := backOK_spec hb i j hj; omega) _ (fun L hc i hi k hk => befTab_spec hc _ [] (by simp) (Nat.zero_le _) (fun i hi => by simp at hi) i hi k hk)
    ops.size (pickL sos ix) (Array.replicate ops.size false) (dsts ((pickL sos ix).map (·.2))) (fun p hp d hd => mem_dsts (List.mem_map.2 ⟨p, hp, rfl⟩) hd) ?_ (by simp) (fun i hi => ?_) (by rw [hp1]; exact ho3) (fun p hpp => ?_) ?_ hp hr1 h (fun γ' σ' w' sl' a' he hr' hk => ?_) (fun γ' σ' w' v x a' he hr' hv hk hs => ?_)
  · rw [← List.length_map (f := (·.1)), hp1]; exact ho4
  · rw [hp1]
    constructor
    · intro _; simpa using ho1 i hi
    · intro _; simp [hi]
  · obtain ⟨so, h0, h3⟩ := hX p.1 p.2 (hp2 p hpp)
    obtain ⟨o, h1, h2⟩ := hget p.1 so h0
    exact ⟨o, so, by simpa using h1, h2, h3⟩
  · intro i hi j hj
    rcases hi with hi | hi
    · exfalso
      rw [Array.getD_eq_getD_getElem?] at hi
      by_cases hlt : i < ops.size
      · simp [hlt] at hi
      · simp [hlt] at hi
    · rw [List.getD_eq_getElem?_getD, List.getElem?_eq_none (by simpa using hi)] at hj
      simp at hj
  · exact ⟨γ', σ', _, hE1.trans he, hr'.keep ks, hk⟩
  · exact ⟨γ', σ', _, hE1.trans he, hr1.drop he hr' hs, v, x, rfl, hv, hk⟩

theorem region_sound {ops : Array Oper} {id : Nat} {draw : Bool} {l : List SOper} {SQ : SExit → Slots → St → Prop} {ks : Option (List Nat)} (hm : P.follows .mixedOrders = true) (ht : trRegion P n ops draw = some l) (hr : Rel G w0 γ σ w n ds sl a)
    (h : swp P G (.region l ks) SQ sl σ) : (Code.region id ops draw).wp P (CQ G w0 γ w n ds SQ) a w := by
  unfold trRegion at ht
  split at ht
  · cases ht
  · rename_i sos hs
    split at ht
    · rename_i hd; subst hd
      injection ht with ht; subst ht
      obtain ⟨hl, hget⟩ := trOpers_get hs
      refine wp_region (sOps_sound (K := fun sl σ => SQ .normal (keepO ks sl) σ) (Kp := fun v σ' => SQ (.pan v) (dropS (dsts sos) sl) σ') (List.range ops.size) sos hr (by rw [← hl]; simp) (fun k i so hk hso => ?_) h
        (fun γ' σ' w' sl' a' he hr' hk => ⟨γ', σ', _, he, hr'.keep ks, hk⟩) (fun γ' σ' w' v x a' he hr' hv hk hs => ⟨γ', σ', _, he, hr.drop he hr' hs, v, x, rfl, hv, hk⟩))
      obtain ⟨o, h1, h2⟩ := hget k so hso
      have hk' : k < ops.size := by have := (List.getElem?_eq_some_iff.1 hk).1; simpa using this
      have : i = k := by simp [hk'] at hk; exact hk.symm
      subst this
      exact ⟨o, by simpa using h1, h2⟩
    · rename_i hd
      have hdt : draw = true := by cases draw; exact absurd rfl hd; rfl
      subst hdt
      simp only at ht
      split at ht
      · rename_i hb
        split at ht
        · rename_i hc; injection ht with ht; subst ht
          exact region_order hm hs rfl (fun k sx h => ⟨sx, h, .refl _⟩) hb hc.1 hc.2 hr h
        · split at ht
          · rename_i hc; injection ht with ht; subst ht
            exact region_order hm hs rfl (fun k sx h => ⟨sx, h, .refl _⟩) hb hc.1 hc.2 hr h
          · have hK : ∀ (c : List SOper), sos.length = c.length → (∀ (i : Nat) (sx : SOper), c[i]? = some sx → ∃ so, sos[i]? = some so ∧ Stronger P G sx so) → ∀ ix, pairsOK (befTab (ops.toList.map binding) []) (pickL c ix) = true ∧ orderOK ops.size ix = true → (pickL c ix).map (·.2) = l → (Code.region id ops true).wp P (CQ G w0 γ w n ds SQ) a w := by
              intro c hlen hX ix hc he
              subst he
              exact region_order (sos := c) hm hs hlen hX hb hc.1 hc.2 hr h
            have keyL : ∀ (cs : List (List SOper)), (∀ c ∈ cs, sos.length = c.length ∧ ∀ (i : Nat) (sx : SOper), c[i]? = some sx → ∃ so, sos[i]? = some so ∧ Stronger P G sx so) → tryL (befTab (ops.toList.map binding) []) ops.size cs = some l → (Code.region id ops true).wp P (CQ G w0 γ w n ds SQ) a w := by
              intro cs
              induction cs with
              | nil => intro _ h; cases h
              | cons c r ih =>
                intro hx hk
                simp only [tryL] at hk
                split at hk
                · rename_i hc; injection hk with hk
                  exact hK c (hx c (by simp)).1 (hx c (by simp)).2 _ hc hk
                · exact ih (fun c hc => hx c (by simp [hc])) hk
            have keyK : ∀ (ks : List Nat), tryK (befTab (ops.toList.map binding) []) ops.size sos ks = some l → (Code.region id ops true).wp P (CQ G w0 γ w n ds SQ) a w := by
              intro ks
              induction ks with
              | nil => intro h; cases h
              | cons k r ih =>
                intro hk
                simp only [tryK] at hk
                split at hk
                · rename_i hc; injection hk with hk
                  exact hK (toKAt k sos) (toKAt_length k sos).symm (fun i sx h => toKAt_get P G k sos i sx h) _ hc hk
                · exact ih hk
            have hKs : ∀ (i : Nat) (sx : SOper), (sos.map SOper.toK)[i]? = some sx → ∃ so, sos[i]? = some so ∧ Stronger P G sx so := by
              intro i sx h
              rw [List.getElem?_map, Option.map_eq_some_iff] at h
              obtain ⟨so, h1, h2⟩ := h
              subst h2
              exact ⟨so, h1, toK_sound so⟩
            have hDs : ∀ (c : List SOper), (∀ (i : Nat) (sx : SOper), c[i]? = some sx → ∃ so, sos[i]? = some so ∧ Stronger P G sx so) → ∀ (i : Nat) (sx : SOper), (toDs (befTab (ops.toList.map binding) []) c)[i]? = some sx → ∃ so, sos[i]? = some so ∧ Stronger P G sx so := by
              intro c hc i sx h
              obtain ⟨s1, h1, h2⟩ := toDs_get P G h
              obtain ⟨s2, h3, h4⟩ := hc i s1 h1
              exact ⟨s2, h3, fun sl σ K Kp h => h4.1 _ _ _ _ (h2.1 _ _ _ _ h), h2.2.trans h4.2⟩
            split at ht
            · rename_i l' hl
              injection ht with ht; subst ht
              refine keyL _ (fun c hc => ?_) hl
              simp only [List.mem_cons, List.not_mem_nil, or_false] at hc
              rcases hc with rfl | rfl
              · exact ⟨by simp [toRs, numbered_length], fun i sx h => toRs_get P G h⟩
              · exact ⟨by simp [toDs, toRs, numbered_length], hDs _ fun i sx h => toRs_get P G h⟩
            · split at ht
              · rename_i l' hl
                injection ht with ht; subst ht
                exact keyK _ hl
              · refine keyL _ (fun c hc => ?_) ht
                simp only [List.mem_cons, List.not_mem_nil, or_false] at hc
                rcases hc with rfl | rfl | rfl
                · exact ⟨by simp, hKs⟩
                · exact ⟨by simp [toDs, numbered_length], fun i sx h => toDs_get P G h⟩
                · exact ⟨by simp [toDs, numbered_length], hDs _ hKs⟩
      · cases ht

theorem app_sound {ops : Array Oper} {id : Nat} {draw : Bool} {l : List SOper} {T : AppT} {SQ : SExit → Slots → St → Prop} {ks ks2 : Option (List Nat)} (hm : P.follows .mixedOrders = true) (ht : trApp P n ops draw = some (l, T)) (hr : Rel G w0 γ σ w n ds sl a)
    (h : swp P G (.seq (.region l ks) (.app1 T ks2)) SQ sl σ) : (Code.region id ops draw).wp P (CQ G w0 γ w n ds SQ) a w := by
  unfold trApp at ht
  simp only at ht
  split at ht
  · rename_i o1 o2 o3 o4 h1 h2 h3 h4
    split at ht
    · rename_i T' sos htt hs
      split at ht
      · rename_i hc
        injection ht with ht; injection ht with e1 e2; subst e1; subst e2
        simp only [Bool.and_eq_true, List.all_eq_true, decide_eq_true_eq, List.mem_range, List.contains_iff_mem] at hc
        obtain ⟨⟨⟨⟨⟨⟨⟨⟨hdr, h4s⟩, hb⟩, hd2⟩, hd3⟩, hd4⟩, htab⟩, hp⟩, ho⟩ := hc
        subst hdr
        generalize hk : ops.size - 4 = k at h1 h2 h3 h4 hd2 hd3 hd4 htab hp ho hs h
        have hsz : ops.size = 4 + k := by omega
        generalize hsx : toRs (befTab (ops.toList.map binding) []) sos = sx at hp ho h
        generalize hix : canon (befTab (ops.toList.map binding) []) k (numbered 0 sx) [] = ix at hp ho h
        obtain ⟨hl, hget⟩ := trOpers_get hs
        have hl' : sx.length = k := by rw [← hsx]; simp only [toRs, List.length_map, numbered_length]; rw [← hl]; simp; omega
        simp only [orderOK, Bool.and_eq_true, List.all_eq_true, decide_eq_true_eq, beq_iff_eq, List.mem_range] at ho
        obtain ⟨⟨⟨ho1, ho2⟩, ho3⟩, ho4⟩ := ho
        obtain ⟨hp1, hp2⟩ := pickL_spec sx ix (fun i hi => by rw [hl']; exact ho2 i hi)
        refine wp_region_any hm ?_
        obtain ⟨hI1, hE1⟩ := hr.inv.drew
        have hr1 : Rel G w0 γ σ { w with drawn := w.drawn + 1 } n ds sl a := hr.ext hE1 hI1
        have hdep : ∀ i o, ops[i]? = some o → (ops.toList.map binding).getD i [] = binding o := by
          intro i o hi
          rw [List.getD_eq_getElem?_getD, List.getElem?_map]
          have : ops.toList[i]? = some o := by simpa using hi
          rw [this]; rfl
        have hback : ∀ i, ∀ j ∈ (ops.toList.map binding).getD i [], j < i := fun i j hj => by have := backOK_spec hb i j hj; omega
        have key := any_order_then (P := P) (G := G) (Q := CQ G w0 γ w n ds SQ) (K := fun sl σ => App1 G T' (keepO ks sl) σ (fun sl σ => SQ .normal (keepO ks2 sl) σ)) (Kp := fun v σ' => SQ (.pan v) (dropS (dsts ((pickL sx ix).map (·.2))) sl) σ') (ops.toList.map binding) hdep hback _
          (fun L hc i hi k hk => befTab_spec hc _ [] (by simp) (Nat.zero_le _) (fun i hi => by simp at hi) i hi k hk) [k, k + 1, k + 2, k + 3] 4 k (pickL sx ix) (Array.replicate ops.size false) (dsts ((pickL sx ix).map (·.2))) (fun p hp d hd => mem_dsts (List.mem_map.2 ⟨p, hp, rfl⟩) hd) (by rw [← List.length_map (f := (·.1)), hp1]; exact ho4) (by simp) (fun i hi => ?_) (fun j hj p hpp => ?_) (by rw [hp1]; exact ho3) (fun p hpp => ?_) ?_ hp hr1 h
          (fun γ' σ' w' sl' a' listed' he hr' hk' hsz' hl2 => tail_sound hdep hback h1 h2 h3 h4 hd2 hd3 hd4 htt (hr'.keep ks) hk' ⟨hsz', hl2⟩ fun γ2 σ2 w2 sl2 a2 he2 hr2 hk2 => ⟨γ2, σ2, _, hE1.trans (he.trans he2), hr2.keep ks2, hk2⟩)
          (fun γ' σ' w' v x a' he hr' hv hk hs => ⟨γ', σ', _, hE1.trans he, hr1.drop he hr' hs, v, x, rfl, hv, hk⟩)
        · rw [← hsz] at key; exact key
        · rw [hp1]
          constructor
          · intro _
            by_cases hik : i < k
            · exact .inl (by simpa using ho1 i hik)
            · exact .inr (by simp; omega)
          · intro _; simp [hi]
        · have hpk : p.1 < k := by
            have : p.1 ∈ ix := by rw [← hp1]; exact List.mem_map.2 ⟨p, hpp, rfl⟩
            exact ho2 _ this
          have := htab p.1 hpk
          simp at hj
          refine ⟨?_, by simp; omega⟩
          rw [List.contains_iff_mem]
          rcases hj with rfl | rfl | rfl | rfl
          · exact this.1.1.1
          · exact this.1.1.2
          · exact this.1.2
          · exact this.2
        · obtain ⟨so, h0, h3'⟩ := toRs_get P G (by rw [hsx]; exact hp2 p hpp)
          obtain ⟨o, h1', h2'⟩ := hget p.1 so h0
          have hpk : p.1 < k := by
            have : p.1 ∈ ix := by rw [← hp1]; exact List.mem_map.2 ⟨p, hpp, rfl⟩
            exact ho2 _ this
          refine ⟨o, so, ?_, h2', h3'⟩
          rw [List.getElem?_take_of_lt hpk] at h1'
          simpa using h1'
        · intro i hi j hj
          rcases hi with hi | hi
          · exfalso
            rw [Array.getD_eq_getD_getElem?] at hi
            by_cases hlt : i < ops.size
            · simp [hlt] at hi
            · simp [hlt] at hi
          · rw [List.getD_eq_getElem?_getD, List.getElem?_eq_none (by simpa using hi)] at hj
            simp at hj
      · cases ht
    · cases ht
  · cases ht

theorem swp_sound (hm : P.follows .mixedOrders = true) : ∀ (sc : SC) {c : Code} {SQ : SExit → Slots → St → Prop} {γ : Gh} {σ : St} {w : World} {sl : Slots} {a : Act}, tr P n c = some (strip sc) → Rel G w0 γ σ w n ds sl a → swp P G sc SQ sl σ → c.wp P (CQ G w0 γ w n ds SQ) a w
  | .skip, c, SQ, γ, σ, w, sl, a, ht, hr, h => by
    cases c <;> simp only [tr, strip] at ht <;> first | (cases ht; done) | (split at ht <;> cases ht; done) | (rcases trReg_of ht with ⟨_, _, h⟩ | ⟨_, _, _, h⟩ | h <;> cases h; done) | skip
    exact wp_skip ⟨γ, σ, sl, .refl _ _ _, hr, h⟩
  | .ret, c, SQ, γ, σ, w, sl, a, ht, hr, h => by
    cases c <;> simp only [tr, strip] at ht <;> first | (cases ht; done) | (split at ht <;> cases ht; done) | (rcases trReg_of ht with ⟨_, _, h⟩ | ⟨_, _, _, h⟩ | h <;> cases h; done) | skip
    exact wp_ret ⟨γ, σ, sl, .refl _ _ _, hr, h⟩
  | .exit id, c, SQ, γ, σ, w, sl, a, ht, hr, h => by
    cases c <;> simp only [tr, strip] at ht <;> first | (injection ht with ht; injection ht with ht; subst ht; exact wp_exit ⟨γ, σ, sl, .refl _ _ _, hr, h⟩) | (cases ht; done) | (split at ht <;> cases ht; done) | (rcases trReg_of ht with ⟨_, _, h⟩ | ⟨_, _, _, h⟩ | h <;> cases h; done)
  | .seq x y, c, SQ, γ, σ, w, sl, a, ht, hr, h => by
    cases c <;> simp only [tr, strip] at ht <;> first | (cases ht; done) | skip
    case seq c1 c2 =>
      split at ht
      · rename_i x' y' h1 h2
        injection ht with ht; injection ht with e1 e2; subst e1; subst e2
        refine wp_seq (wp_mono (swp_sound hm x h1 hr h) ?_)
        rintro e a1 w1 ⟨γ1, σ1, sl1, he, hr1, hq⟩
        cases e with
        | normal => exact wp_mono (swp_sound hm y h2 hr1 hq) fun e a2 w2 hq2 => hq2.ext he
        | exit id => exact ⟨γ1, σ1, sl1, he, hr1, hq⟩
        | ret => exact ⟨γ1, σ1, sl1, he, hr1, hq⟩
        | panic ch => exact ⟨γ1, σ1, sl1, he, hr1, hq⟩
        | goto l => exact hq.elim
        | outgrown => exact hq.elim
      · cases ht
    case region id ops draw =>
      rcases trReg_of ht with ⟨l, _, e⟩ | ⟨l, T, hl, e⟩ | e
      · cases e
      · injection e with e1 e2
        · cases x <;> simp only [strip] at e1 <;> first | (cases e1; done) | skip
          cases y <;> simp only [strip] at e2 <;> first | (cases e2; done) | skip
          rename_i ops' ks T' ks2
          injection e1 with e1 _; injection e2 with e2 _
          subst e1; subst e2
          exact app_sound hm hl hr h
      · cases e
    all_goals first | (split at ht <;> cases ht; done) | (rcases trReg_of ht with ⟨_, _, h⟩ | ⟨_, _, _, h⟩ | h <;> cases h; done)
  | .cond oc ks x y, c, SQ, γ, σ, w, sl, a, ht, hr, h => by
    cases c <;> simp only [tr, strip] at ht <;> first | (cases ht; done) | skip
    case cond cc c1 c2 =>
      split at ht
      · rename_i oc' x' y' h0 h1 h2
        injection ht with ht; injection ht with e0 _ e1 e2; subst e0; subst e1; subst e2
        simp only [swp] at h
        split at h
        · rename_i t hv
          have hR := ev_sound hr h0 hv
          generalize hce : a.eval cc = cv at hR
          cases hR
          exact wp_cond_split hce (fun e => swp_sound hm x h1 (hr.keep ks) (h.1 e)) (fun e => swp_sound hm y h2 (hr.keep ks) (h.2 e))
        · exact h.elim
      · cases ht
    all_goals first | (split at ht <;> cases ht; done) | (rcases trReg_of ht with ⟨_, _, h⟩ | ⟨_, _, _, h⟩ | h <;> cases h; done)
  | .block id x, c, SQ, γ, σ, w, sl, a, ht, hr, h => by
    cases c <;> simp only [tr, strip] at ht <;> first | (cases ht; done) | skip
    case block id' c1 =>
      split at ht
      · rename_i x' h1
        injection ht with ht; injection ht with e0 e1; subst e0; subst e1
        refine wp_block (wp_mono (swp_sound hm x h1 hr h) ?_)
        rintro e a1 w1 ⟨γ1, σ1, sl1, he, hr1, hq⟩
        cases e with
        | normal => exact ⟨γ1, σ1, sl1, he, hr1, hq⟩
        | exit id2 =>
          simp only at hq
          simp only [Exit.inBlock]
          split
          · rename_i e; rw [if_pos e] at hq; exact ⟨γ1, σ1, sl1, he, hr1, hq⟩
          · rename_i e; rw [if_neg e] at hq; exact ⟨γ1, σ1, sl1, he, hr1, hq⟩
        | ret => exact ⟨γ1, σ1, sl1, he, hr1, hq⟩
        | panic ch => exact ⟨γ1, σ1, sl1, he, hr1, hq⟩
        | goto l => exact hq.elim
        | outgrown => exact hq.elim
      · cases ht
    all_goals first | (split at ht <;> cases ht; done) | (rcases trReg_of ht with ⟨_, _, h⟩ | ⟨_, _, _, h⟩ | h <;> cases h; done)
  | .loop x, c, SQ, γ, σ, w, sl, a, ht, hr, h => by
    cases c <;> simp only [tr, strip] at ht <;> first | (cases ht; done) | skip
    case loop c1 =>
      split at ht
      · rename_i x' h1
        injection ht with ht; injection ht with e1; subst e1
        obtain ⟨I, m, hI, hround⟩ := h
        refine wp_loop_ex (fun m a' w' => ∃ γ' σ' sl', Ext w0.heap.size γ w γ' w' ∧ Rel G w0 γ' σ' w' n ds sl' a' ∧ I m sl' σ') (m := m) ⟨γ, σ, sl, .refl _ _ _, hr, hI⟩ ?_
        rintro m a1 w1 ⟨γ1, σ1, sl1, he, hr1, hI1⟩
        refine wp_mono (swp_sound hm x h1 hr1 (hround m sl1 σ1 hI1)) ?_
        rintro e a2 w2 ⟨γ2, σ2, sl2, he2, hr2, hq⟩
        cases e with
        | normal =>
          obtain ⟨m', σ3, hlt, hf, hI3⟩ := hq
          exact ⟨m', hlt, γ2, σ3, sl2, he.trans he2, hr2.forget hf, hI3⟩
        | exit id => exact ⟨γ2, σ2, sl2, he.trans he2, hr2, hq⟩
        | ret => exact ⟨γ2, σ2, sl2, he.trans he2, hr2, hq⟩
        | panic ch => exact ⟨γ2, σ2, sl2, he.trans he2, hr2, hq⟩
        | goto l => exact hq.elim
        | outgrown => exact hq.elim
      · cases ht
    all_goals first | (split at ht <;> cases ht; done) | (rcases trReg_of ht with ⟨_, _, h⟩ | ⟨_, _, _, h⟩ | h <;> cases h; done)
  | .region ops ks, c, SQ, γ, σ, w, sl, a, ht, hr, h => by
    cases c <;> simp only [tr, strip] at ht <;> first | (cases ht; done) | skip
    case region id ops' draw =>
      rcases trReg_of ht with ⟨l, hl, e⟩ | ⟨l, T, hl, e⟩ | e
      · injection e with e1 e2; subst e1
        exact region_sound hm hl hr h
      · cases e
      · cases e
    all_goals (split at ht <;> cases ht)
  | .app1 T ks, c, SQ, γ, σ, w, sl, a, ht, hr, h => by
    cases c <;> simp only [tr, strip] at ht <;> first | (cases ht; done) | (split at ht <;> cases ht; done) | (rcases trReg_of ht with ⟨_, _, h⟩ | ⟨_, _, _, h⟩ | h <;> cases h; done)
  | .stop, c, SQ, γ, σ, w, sl, a, ht, hr, h => by
    simp only [swp] at h

/-! ### functions -/
def trRes (P : Program) : List ResultVar → Option (List (Nat × Option (Bool × Nat)))
  | [] => some []
  | .tmp t :: r => match trRes P r with
    | some l => some ((t, none) :: l)
    | none => none
  | .cell t ty :: r => match aggB P ty, P.info? ty, trRes P r with
    | some g, some i, some l => if 0 < i.size then some ((t, some (g, i.size)) :: l) else none
    | _, _, _ => none
def sRes1 (sl : Slots) (σ : St) : Nat × Option (Bool × Nat) → Option V
  | (t, none) => sl t
  | (t, some (g, m)) => match (sl t).bind σ.at with
    | some cs => if m ≤ cs.length then mkv g (cs.take m) else none
    | none => none
def sResL (sl : Slots) (σ : St) : List (Nat × Option (Bool × Nat)) → Option (List V)
  | [] => some []
  | x :: r => match sRes1 sl σ x, sResL sl σ r with
    | some v, some vs => some (v :: vs)
    | _, _ => none
def sRes (sl : Slots) (σ : St) (rs : List (Nat × Option (Bool × Nat))) : Option V := match sResL sl σ rs with
  | some [v] => some v
  | some vs => some (.tup vs)
  | none => none

def retQ (rs : List (Nat × Option (Bool × Nat))) (Post : SEnd → St → Prop) : SExit → Slots → St → Prop
  | .normal, sl, σ => match sRes sl σ rs with
    | some v => ∃ r σ', Weak v r ∧ Forget σ σ' ∧ Post (.ret r) σ'
    | none => False
  | .ret, sl, σ => match sRes sl σ rs with
    | some v => ∃ r σ', Weak v r ∧ Forget σ σ' ∧ Post (.ret r) σ'
    | none => False
  | .pan v, _, σ => ∃ r σ', Weak v r ∧ Forget σ σ' ∧ Post (.pan r) σ'
  | .exit _, _, _ => False

def resOne (tmps : Array Value) : ResultVar → Sem Value
  | .tmp t => pure (tmps.getD t undef)
  | .cell b t => do loadVar t (← asAddr (tmps.getD b undef))
theorem results_eq (fn : Func) (tmps : Array Value) : results fn tmps = (do
    let vs ← fn.results.mapM (resOne tmps)
    pure (if h : vs.size = 1 then vs[0] else .tuple vs)) := by
  unfold results
  congr 1

theorem resL_sound (hr : Rel G w0 γ σ w n ds sl a) : ∀ {rv : List ResultVar} {rs : List (Nat × Option (Bool × Nat))} {vs : List V}, trRes P rv = some rs → sResL sl σ rs = some vs →
    ∃ xs : List Value, (rv.mapM (resOne a.tmps)).run P w = .ok xs w ∧ RL w0.heap.size γ w vs xs
  | [], rs, vs, h, hs => by simp [trRes] at h; subst h; simp [sResL] at hs; subst hs; exact ⟨[], rfl, .nil⟩
  | .tmp t :: r, rs, vs, h, hs => by
    simp only [trRes] at h
    split at h
    · rename_i l hl
      injection h with h; subst h
      simp only [sResL] at hs
      split at hs
      · rename_i v us h1 h2
        injection hs with hs; subst hs
        obtain ⟨xs, h3, h4⟩ := resL_sound hr hl h2
        refine ⟨a.tmps.getD t undef :: xs, ?_, .cons (hr.slots t v h1) h4⟩
        rw [List.mapM_cons]
        simp only [resOne, Sem.run_bind, Sem.run_pure, Result.andThen_ok, h3]
      · cases hs
    · cases h
  | .cell t ty :: r, rs, vs, h, hs => by
    simp only [trRes] at h
    split at h
    · rename_i g i l hg hi hl
      split at h
      · rename_i hsz
        injection h with h; subst h
        simp only [sResL] at hs
        split at hs
        · rename_i v us h1 h2
          injection hs with hs; subst hs
          obtain ⟨xs, h3, h4⟩ := resL_sound hr hl h2
          simp only [sRes1] at h1
          split at h1
          · rename_i cs hcs
            split at h1
            · rename_i hle
              rw [Option.bind_eq_some_iff] at hcs
              obtain ⟨u, hu, hat⟩ := hcs
              obtain ⟨b, off, ys, hxe, hRL, h1', hc⟩ := at_sound hr.inv (hr.slots t u hu) hat
              have hlx : i.size ≤ ys.length := by rw [← hRL.1]; exact hle
              have hld := run_loadVar_list (w := w) hg hi (b := b) (o := off) hlx (.inr hsz) hc
              refine ⟨_ :: xs, ?_, .cons (mkv_sound (hRL.take i.size) (fun j y hy => ?_) h1) h4⟩
              · have ha : asAddr (a.tmps.getD t undef) = pure ⟨b, off, none⟩ := by rw [hxe]; rfl
                rw [List.mapM_cons]
                simp only [resOne, ha, Sem.run_bind, Sem.run_pure, Result.andThen_ok, hld, h3]
              · rw [List.getElem?_take] at hy
                split at hy
                · exact h1' j y hy
                · cases hy
            · cases h1
          · cases h1
        · cases hs
      · cases h
    · cases h

theorem res_sound (hr : Rel G w0 γ σ w n ds sl a) {fn : Func} {rs : List (Nat × Option (Bool × Nat))} {v : V} (h : trRes P fn.results.toList = some rs) (hs : sRes sl σ rs = some v) : ∃ x, (results fn a.tmps).run P w = .ok x w ∧ R w0.heap.size γ w v x := by
  unfold sRes at hs
  have key : ∀ vs, sResL sl σ rs = some vs → ∃ xs : List Value, (results fn a.tmps).run P w = .ok (if h : xs.length = 1 then xs[0] else .tuple xs.toArray) w ∧ RL w0.heap.size γ w vs xs := by
    intro vs hvs
    obtain ⟨xs, h1, h2⟩ := resL_sound hr h hvs
    refine ⟨xs, ?_, h2⟩
    rw [results_eq, Array.mapM_eq_mapM_toList]
    simp only [Sem.run_bind, Sem.run_map]
    rw [h1]
    simp only [Result.andThen_ok, Sem.run_pure, List.size_toArray]
    congr 1
  split at hs
  · rename_i u hu
    injection hs with hs; subst hs
    obtain ⟨xs, h1, h2⟩ := key _ hu
    obtain ⟨x, xs', rfl, h3, h4⟩ := h2.inv_cons
    obtain rfl := h4.inv_nil
    exact ⟨x, by simpa using h1, h3⟩
  · rename_i vs hne hu
    injection hs with hs; subst hs
    obtain ⟨xs, h1, h2⟩ := key _ hu
    have hl : ¬ xs.length = 1 := by
      intro he
      rw [← h2.1] at he
      match vs, he with
      | [v], _ => exact hne v rfl
    rw [dif_neg hl] at h1
    exact ⟨_, h1, .tup vs xs.toArray (by simpa using h2.1) (fun i x y hx hy => h2.2 i x y hx (by simpa using hy))⟩
  · cases hs

/-- The slots that a call begins with. -/
def argS : Nat → List V → Slots
  | _, [] => fun _ => none
  | k, v :: r => fun t => if t = k then some v else argS (k + 1) r t

theorem argS_get : ∀ {vs : List V} {k t : Nat} {v : V}, argS k vs t = some v → ∃ j, t = k + j ∧ vs[j]? = some v
  | [], k, t, v, h => by simp [argS] at h
  | u :: vs, k, t, v, h => by
    simp only [argS] at h
    split at h
    · rename_i e; injection h with h; subst h; exact ⟨0, by omega, rfl⟩
    · obtain ⟨j, h1, h2⟩ := argS_get h
      exact ⟨j + 1, by omega, by simpa using h2⟩

theorem SCall.of_code (hm : P.follows .mixedOrders = true) {f : FuncId} {fn : Func} {c : Code} {sc : SC} {rs : List (Nat × Option (Bool × Nat))} {args : List V} {Post : SEnd → St → Prop} (hf : P.funcs[f]? = some fn) (hname : (fn.name == "runtime.NumGoroutine") = false) (hb : fn.body = some c)
    (htr : tr P fn.ntmps c = some (strip sc)) (hres : trRes P fn.results.toList = some rs) (hl : args.length ≤ fn.ntmps) (h : swp P G sc (retQ rs Post) (argS 0 args) σ) : SCall P G f args σ Post := by
  intro w0 γ w xs hI hRL
  have hname' : ¬ fn.name = "runtime.NumGoroutine" := by simpa using hname
  refine .inl ⟨by simp [callFunc, hf, hname', hb], calls_of_wp hf hb ?_⟩
  have hlen : args.length = xs.size := by simpa using hRL.1
  have hrel : Rel G w0 γ σ w fn.ntmps [] (argS 0 args) { tmps := xs ++ Array.replicate (fn.ntmps - xs.size) undef, defers := [] } := by
    refine ⟨hI, fun t v hv => ?_, by simp; omega, rfl⟩
    obtain ⟨j, rfl, hj⟩ := argS_get hv
    have hjl : j < xs.size := by rw [← hlen]; exact (List.getElem?_eq_some_iff.1 hj).1
    have := hRL.2 j v xs[j] hj (by simp [hjl])
    simp only [Nat.zero_add, Array.getD_eq_getD_getElem?]
    rw [Array.getElem?_append_left hjl, Array.getElem?_eq_getElem hjl]
    exact this
  refine wp_mono (swp_sound hm sc htr hrel h) ?_
  rintro e a' w' ⟨γ', σ', sl', he, hr', hq⟩
  have fin : ∀ {v : V}, sRes sl' σ' rs = some v → (∃ r σ'', Weak v r ∧ Forget σ' σ'' ∧ Post (.ret r) σ'') → bodyPost P fn (fun e w' => ∃ γ' σ', Ext w0.heap.size γ w γ' w' ∧ Inv G w0 γ' σ' w' ∧ ∃ r x, R w0.heap.size γ' w' r x ∧
      ((e = .returned x ∧ Post (.ret r) σ') ∨ (e = .panicked [{ v := x, recovered := false }] ∧ Post (.pan r) σ'))) .ret a' w' := by
    rintro v hv ⟨r, σ'', hw, hf, hp⟩
    obtain ⟨x, h1, h2⟩ := res_sound (P := P) hr' hres hv
    exact ⟨hr'.defs, x, h1, γ', σ'', he, hr'.inv.forget hf, r, x, hw _ _ _ _ h2, .inl ⟨rfl, hp⟩⟩
  cases e with
  | normal =>
    simp only [retQ] at hq
    split at hq
    · rename_i v hv; exact fin hv hq
    · exact hq.elim
  | ret =>
    simp only [retQ] at hq
    split at hq
    · rename_i v hv; exact fin hv hq
    · exact hq.elim
  | exit id => exact hq.elim
  | panic ch =>
    obtain ⟨v, x, rfl, hv, r, σ'', hw, hf, hp⟩ := hq
    exact ⟨hr'.defs, γ', σ'', he, hr'.inv.forget hf, r, x, hw _ _ _ _ hv, .inr ⟨rfl, hp⟩⟩
  | goto l => exact hq.elim
  | outgrown => exact hq.elim

end
end Go.Shadow
