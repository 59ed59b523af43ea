/- THE SHADOW LOGIC, part 4: which shadow operation stands for which operation of the model; simple operations are sound. -/
import Derived.Test.YtgebphnfnmeaaaaGreatDoorSh3
import Derived.Laws.Strings
import Derived.Laws.BytesArg
namespace Go.Shadow
open Go Go.RowKit

def trV : Value → Option V
  | .bool b => some (.bool b)
  | .int k n => some (.int k n)
  | .string s => some (.str s.data.toList)
  | .pointer none => some .nilptr
  | .slice none 0 0 => some (.slice .nil 0 [])
  | .nilFunc => some .nilfunc
  | .nilIface => some .nilIface
  | .map none => some .nilmap
  | _ => none
def trVs : List Value → Option (List V)
  | [] => some []
  | v :: r => match trV v, trVs r with
    | some x, some xs => some (x :: xs)
    | _, _ => none
def trOpd : Operand → Option Opd
  | .tmp t => some (.t t)
  | .const v => match trV v with
    | some v => some (.c v)
    | none => none
  | .global g => some (.g g)
  | .func f => some (.f f)
def trOpds : List Operand → Option (List Opd)
  | [] => some []
  | x :: r => match trOpd x, trOpds r with
    | some y, some ys => some (y :: ys)
    | _, _ => none
def aggB (P : Program) (t : TypeId) : Option Bool := match P.underlying t with
  | some (.struct _) => some true
  | some (.array _ _) => some true
  | some _ => some false
  | none => none
def zeroL (P : Program) (t : TypeId) : Option (List V) := match P.info? t with
  | some i => match i.zero with
    | some z => if z.cells.size = i.size then trVs z.cells.toList else none
    | none => none
  | none => none

structure Rel (G : Globs) (w0 : World) (γ : Gh) (σ : St) (w : World) (n : Nat) (ds : List Deferred) (sl : Slots) (a : Act) : Prop where
  inv : Inv G w0 γ σ w
  slots : ∀ t v, sl t = some v → R w0.heap.size γ w v (a.tmps.getD t undef)
  size : a.tmps.size = n
  defs : a.defers = ds

section
variable {P : Program} {G : Globs} {w0 w : World} {γ : Gh} {σ : St} {n : Nat} {ds : List Deferred} {sl : Slots} {a : Act}

theorem trV_sound {B : Nat} {γ : Gh} {w : World} {v : Value} {x : V} (h : trV v = some x) : R B γ w x v := by
  unfold trV at h
  split at h <;> first | (injection h with h; subst h) | cases h
  · exact .bool _
  · exact .int _ _
  · exact .str _ _ rfl
  · exact .nilptr
  · have := R.slice (B := B) (γ := γ) (w := w) .nil 0 [] none 0 0 0 (fun _ => undef) (by simp) (Nat.le_refl _) (.inr ⟨rfl, rfl⟩) ⟨rfl, rfl, rfl⟩ (by simp) (by simp) (by simp)
    exact this
  · exact .nilfunc
  · exact .nilIface
  · exact .nilmap

theorem trVs_sound {B : Nat} {γ : Gh} {w : World} : ∀ {vs : List Value} {xs : List V}, trVs vs = some xs → RL B γ w xs vs
  | [], xs, h => by simp [trVs] at h; subst h; exact .nil
  | v :: r, xs, h => by
    simp only [trVs] at h
    split at h
    · rename_i x ys h1 h2
      injection h with h; subst h
      exact .cons (trV_sound h1) (trVs_sound h2)
    · cases h
theorem trV_one {v : Value} {x : V} (h : trV v = some x) : x.one = true := by
  unfold trV at h
  split at h <;> first | (injection h with h; subst h; rfl) | cases h
theorem trVs_one : ∀ {vs : List Value} {xs : List V}, trVs vs = some xs → ∀ (j : Nat) (x : V), xs[j]? = some x → x.one = true
  | [], xs, h, j, x, hx => by simp [trVs] at h; subst h; simp at hx
  | v :: r, xs, h, j, x, hx => by
    simp only [trVs] at h
    split at h
    · rename_i y ys h1 h2
      injection h with h; subst h
      cases j with
      | zero => simp at hx; subst hx; exact trV_one h1
      | succ j => exact trVs_one h2 j x (by simpa using hx)
    · cases h

theorem ev_sound (hr : Rel G w0 γ σ w n ds sl a) {x : Operand} {ox : Opd} (h : trOpd x = some ox) {v : V} (hv : ox.ev sl G = some v) : R w0.heap.size γ w v (a.eval x) := by
  cases x with
  | tmp t => simp only [trOpd, Option.some.injEq] at h; subst h; exact hr.slots t v hv
  | const c =>
    simp only [trOpd] at h
    split at h
    · rename_i u hu
      injection h with h; subst h
      simp only [Opd.ev, Option.some.injEq] at hv; subst hv
      exact trV_sound hu
    · cases h
  | global g =>
    simp only [trOpd, Option.some.injEq] at h; subst h
    simp only [Opd.ev, Option.map_eq_some_iff] at hv
    obtain ⟨cs, hcs, rfl⟩ := hv
    exact hr.inv.glob g cs hcs
  | func f =>
    simp only [trOpd, Option.some.injEq] at h; subst h
    simp only [Opd.ev, Option.some.injEq] at hv; subst hv
    exact .func f [] [] #[] #[] rfl rfl (by simp) (by simp)

theorem evs_sound (hr : Rel G w0 γ σ w n ds sl a) : ∀ {xs : List Operand} {oxs : List Opd}, trOpds xs = some oxs → ∀ {vs : List V}, evs sl G oxs = some vs → RL w0.heap.size γ w vs (xs.map a.eval)
  | [], oxs, h, vs, hv => by simp [trOpds] at h; subst h; simp [evs] at hv; subst hv; exact .nil
  | x :: r, oxs, h, vs, hv => by
    simp only [trOpds] at h
    split at h
    · rename_i y ys h1 h2
      injection h with h; subst h
      simp only [evs] at hv
      split at hv
      · rename_i u us h3 h4
        injection hv with hv; subst hv
        exact .cons (ev_sound hr h1 h3) (evs_sound hr h2 h4)
      · cases hv
    · cases h

theorem R.cells {B : Nat} {γ : Gh} {w : World} {v : V} {x : Value} (h : R B γ w v x) : (∀ (j : Nat) (y : V), v.cells[j]? = some y → y.one = true) → RL B γ w v.cells x.cells.toList := by
  intro h1
  have h0 := h
  cases h with
  | agg cs vs hl h1' hr => exact ⟨by simpa [V.cells, Value.cells] using hl, fun i x y hx hy => hr i x y hx (by simpa [Value.cells] using hy)⟩
  | tup cs vs hl hr => have := h1 0 (.tup cs) rfl; simp [V.one] at this
  | _ => exact .cons h0 .nil

theorem R.cells_one {B : Nat} {γ : Gh} {w : World} {v : V} {x : Value} (h : R B γ w v x) (hn : v.notTup = true) : ∀ (j : Nat) (y : V), v.cells[j]? = some y → y.one = true := by
  intro j y hy
  cases h with
  | agg cs vs hl h1' hr => exact h1' j y hy
  | tup cs vs hl hr => cases hn
  | _ => (cases j <;> simp [V.cells] at hy; subst hy; rfl)

/-- What operation o does here. -/
def Does (P : Program) (G : Globs) (o : Oper) (a : Act) (w w0 : World) (γ : Gh) (K : V → St → Prop) (Kp : V → St → Prop) : Prop :=
  ∀ (next : Act → World → Prop) (Q : Exit → Act → World → Prop),
    (∀ γ' σ' w' v x, Ext w0.heap.size γ w γ' w' → Inv G w0 γ' σ' w' → R w0.heap.size γ' w' v x → K v σ' → next (a.put o.dst x) w') →
    (∀ γ' σ' w' v x, Ext w0.heap.size γ w γ' w' → Inv G w0 γ' σ' w' → R w0.heap.size γ' w' v x → Kp v σ' → Q (.panic [{ v := x, recovered := false }]) a w') →
    o.upon P a next Q ((execOp a.eval o).run P w)

variable {o : Oper} {K Kp : V → St → Prop}
theorem Does.value {γ' : Gh} {σ' : St} {w' : World} {v : V} {x : Value} (hrun : (execOp a.eval o).run P w = .ok (.value x) w') (he : Ext w0.heap.size γ w γ' w') (hi : Inv G w0 γ' σ' w') (hr : R w0.heap.size γ' w' v x) (hk : K v σ') :
    Does P G o a w w0 γ K Kp := by
  intro next Q hK _
  rw [hrun]
  exact hK γ' σ' w' v x he hi hr hk
theorem Does.same {v : V} {x : Value} (hi : Inv G w0 γ σ w) (hrun : (execOp a.eval o).run P w = .ok (.value x) w) (hr : R w0.heap.size γ w v x) (hk : K v σ) : Does P G o a w w0 γ K Kp :=
  Does.value hrun (Ext.refl _ _ _) hi hr hk
theorem R.undef {B : Nat} {γ : Gh} {w : World} : R B γ w (.tup []) undef := .tup [] #[] rfl (by simp)
theorem Does.skip {γ' : Gh} {σ' : St} {w' : World} (hrun : (execOp a.eval o).run P w = .ok .skip w') (he : Ext w0.heap.size γ w γ' w') (hi : Inv G w0 γ' σ' w') (hk : K (.tup []) σ') :
    Does P G o a w w0 γ K Kp := by
  intro next Q hK _
  rw [hrun]
  exact hK γ' σ' w' _ _ he hi .undef hk

theorem do_mv (hr : Rel G w0 γ σ w n ds sl a) {x : Operand} {ox : Opd} (ho : o.op = .move x ∨ o.op = .assign x) (hx : trOpd x = some ox) (h : sOp P G (.mv ox) sl σ K Kp) : Does P G o a w w0 γ K Kp := by
  simp only [sOp] at h
  split at h
  · rename_i v hv
    exact .same hr.inv (by rcases ho with ho | ho <;> simp [execOp, ho]) (ev_sound hr hx hv) h
  · exact h.elim

theorem do_pick (hr : Rel G w0 γ σ w n ds sl a) {c x y : Operand} {oc ox oy : Opd} (ho : o.op = .pick c x y) (hc : trOpd c = some oc) (hx : trOpd x = some ox) (hy : trOpd y = some oy) (h : sOp P G (.pick oc ox oy) sl σ K Kp) : Does P G o a w w0 γ K Kp := by
  simp only [sOp] at h
  split at h
  · rename_i b u v h1 h2 h3
    have e1 := ev_sound hr hc h1
    generalize hcv : a.eval c = cv at e1
    cases e1
    cases b with
    | true => exact .same hr.inv (by simp [execOp, ho, hcv, asBool]) (ev_sound hr hx h2) (h.1 rfl)
    | false => exact .same hr.inv (by simp [execOp, ho, hcv, asBool]) (ev_sound hr hy h3) (h.2 rfl)
  · exact h.elim

theorem do_box (hr : Rel G w0 γ σ w n ds sl a) {t : TypeId} {x : Operand} {ox : Opd} (ho : o.op = .box t x) (hx : trOpd x = some ox) (h : sOp P G (.box ox) sl σ K Kp) : Does P G o a w w0 γ K Kp := by
  simp only [sOp] at h
  split at h
  · rename_i v hv
    have hR := ev_sound hr hx hv
    have h1 := hR.cells_one h.1
    obtain ⟨hI, hE⟩ := hr.inv.box_new t (hR.cells h1) h1
    replace h := h.2
    exact .value (w' := w.alloc (.cells (a.eval x).cells t)) (by simp [execOp, ho, Instr.box, newVar, newRow]) hE hI (.loc _ _) (h _ (hr.inv.box_fresh (Nat.le_refl _)))
  · exact h.elim

theorem zeroL_sound {t : TypeId} {z : List V} (h : zeroL P t = some z) : ∃ i v, P.info? t = some i ∧ i.zero = some v ∧ v.cells.size = i.size ∧ trVs v.cells.toList = some z := by
  unfold zeroL at h
  split at h
  · rename_i i hi
    split at h
    · rename_i v hv
      split at h
      · rename_i hs
        exact ⟨i, v, hi, hv, hs, h⟩
      · cases h
    · cases h
  · cases h

theorem do_alloc (hr : Rel G w0 γ σ w n ds sl a) {t : TypeId} {z : List V} (ho : o.op = .alloc t) (hz : zeroL P t = some z) (h : sOp P G (.alloc z) sl σ K Kp) : Does P G o a w w0 γ K Kp := by
  simp only [sOp] at h
  obtain ⟨i, v, hi, hv, hs, hz⟩ := zeroL_sound hz
  obtain ⟨hI, hE⟩ := hr.inv.box_new t (trVs_sound hz) (trVs_one hz)
  exact .value (w' := w.alloc (.cells v.cells t)) (by simp [execOp, ho, Instr.alloc, zeroValue, typeInfo, hi, hv, newVar, newRow]) hE hI (.loc _ _) (h _ (hr.inv.box_fresh (Nat.le_refl _)))

/-- The cells at an address, in memory. -/
theorem at_sound (hI : Inv G w0 γ σ w) {v : V} {x : Value} (hR : R w0.heap.size γ w v x) {cs : List V} (h : σ.at v = some cs) :
    ∃ b o xs, x = .pointer (some ⟨b, o, none⟩) ∧ RL w0.heap.size γ w cs xs ∧ (∀ (j : Nat) (x : V), cs[j]? = some x → x.one = true) ∧ ∀ (k : Nat) (u : Value), xs[k]? = some u → w.cell? ⟨b, o + k, none⟩ = some u := by
  cases hR with
  | ref ds b o vs h1 hc hr =>
    simp only [St.at, Option.some.injEq] at h; subst h
    obtain ⟨xs, h2, h3⟩ := cells_of hc hr
    exact ⟨b, o, xs, rfl, h2, h1, fun k u hu => (h3 k u hu).2⟩
  | loc b o =>
    simp only [St.at, Option.map_eq_some_iff] at h
    obtain ⟨ds, hds, rfl⟩ := h
    obtain ⟨_, _, h3, vs, ty, h4, h5⟩ := hI.box b ds hds
    refine ⟨b, o, vs.toList.drop o, rfl, h5.drop o, fun j x hx => h3 (o + j) x (by rw [List.getElem?_drop] at hx; exact hx), fun k u hu => ?_⟩
    rw [List.getElem?_drop] at hu
    rw [cell_of_row w b (o + k) vs ty _ h4]
    simpa using hu
  | _ => simp [St.at] at h

theorem aggB_sound {t : TypeId} {g : Bool} (h : aggB P t = some g) (w : World) : (isAgg t).run P w = .ok g w := by
  unfold aggB at h
  unfold isAgg
  split at h
  · rename_i fs hf; injection h with h; subst h; simp [run_underlying hf]
  · rename_i nn e hf; injection h with h; subst h; simp [run_underlying hf]
  · rename_i d hd1 hd2 hf; injection h with h; subst h
    simp only [Sem.run_bind, run_underlying hf, Result.andThen_ok]
    cases d <;> first | rfl | (exact absurd rfl (hd1 _)) | (exact absurd rfl (hd2 _ _))
  · cases h

theorem mkv_sound {B : Nat} {γ : Gh} {w : World} {g : Bool} {cs : List V} {xs : List Value} (h : RL B γ w cs xs) (h1 : ∀ (j : Nat) (x : V), cs[j]? = some x → x.one = true) {v : V} (hv : mkv g cs = some v) :
    R B γ w v (if g then .agg xs.toArray else xs.headD undef) := by
  unfold mkv at hv
  split at hv
  · rename_i hg; subst hg
    injection hv with hv; subst hv
    exact .agg cs _ (by simpa using h.1) h1 (fun i x y hx hy => h.2 i x y hx (by simpa using hy))
  · rename_i hg
    cases cs with
    | nil => simp at hv
    | cons c cs =>
      simp at hv; subst hv
      obtain ⟨y, ys, rfl, h2, _⟩ := h.inv_cons
      simp [hg]; exact h2

theorem run_loadVar_list {t : TypeId} {g : Bool} {i : TypeInfo} (hg : aggB P t = some g) (hi : P.info? t = some i) {b o : Nat} {xs : List Value} (hl : i.size ≤ xs.length) (hne : g = true ∨ 0 < i.size) (hc : ∀ (k : Nat) (u : Value), xs[k]? = some u → w.cell? ⟨b, o + k, none⟩ = some u) :
    (loadVar t ⟨b, o, none⟩).run P w = .ok (if g then .agg (xs.take i.size).toArray else (xs.take i.size).headD undef) w := by
  unfold loadVar
  simp only [Sem.run_bind, aggB_sound hg, Result.andThen_ok]
  cases g with
  | true =>
    have hlen : (xs.take i.size).length = i.size := by simp; omega
    have hld := run_loadCells_list (P := P) w ⟨b, o, none⟩ (xs.take i.size) (fun j v hj => by
      rw [add_lit]
      rw [List.getElem?_take] at hj
      split at hj
      · exact hc j v hj
      · cases hj)
    rw [hlen] at hld
    simp [sizeOf, typeInfo, hi, hld]
  | false =>
    have h0 : 0 < i.size := by rcases hne with h | h; cases h; exact h
    have hx0 : 0 < xs.length := by omega
    have hcell := hc 0 xs[0] (List.getElem?_eq_getElem hx0)
    simp only [Nat.add_zero] at hcell
    simp [hcell]
    cases xs with
    | nil => simp at hx0
    | cons y ys => cases hz : i.size with
      | zero => omega
      | succ m => simp

theorem do_load (hr : Rel G w0 γ σ w n ds sl a) {t : TypeId} {x : Operand} {ox : Opd} {g : Bool} {i : TypeInfo} (ho : o.op = .load t x) (hx : trOpd x = some ox) (hg : aggB P t = some g) (hi : P.info? t = some i) (hs : 0 < i.size) (h : sOp P G (.load g i.size ox) sl σ K Kp) : Does P G o a w w0 γ K Kp := by
  simp only [sOp] at h
  split at h
  · rename_i cs hcs
    obtain ⟨hle, h⟩ := h
    rw [Option.bind_eq_some_iff] at hcs
    obtain ⟨v, hv, hat⟩ := hcs
    split at h
    · rename_i u hu
      have hR := ev_sound hr hx hv
      obtain ⟨b, off, xs, hxe, hRL, h1, hc⟩ := at_sound hr.inv hR hat
      have hlx : i.size ≤ xs.length := by rw [← hRL.1]; exact hle
      have hld := run_loadVar_list (w := w) hg hi (b := b) (o := off) hlx (.inr hs) hc
      refine .same hr.inv ?_ (mkv_sound (hRL.take i.size) (fun j y hy => ?_) hu) h
      · simp [execOp, ho, hxe, Instr.loadAt, Instr.sureAddr, hld]
      · rw [List.getElem?_take] at hy
        split at hy
        · exact h1 j y hy
        · cases hy
    · exact h.elim
  · exact h.elim

theorem setL_store (hI : Inv G w0 γ σ w) {b : Nat} {cs : List V} (hb : σ.box b = some cs) : ∀ {vs : List V} {xs : List Value} {off i : Nat}, RL w0.heap.size γ w vs xs → (∀ (j : Nat) (x : V), vs[j]? = some x → x.one = true) → off + i + vs.length ≤ cs.length →
    ∃ w', (storeCells ⟨b, off, none⟩ xs i).run P w = .ok () w' ∧ Inv G w0 γ (σ.put b (setL cs (off + i) vs)) w' ∧ Ext w0.heap.size γ w γ w' := by
  intro vs
  induction vs generalizing cs σ w with
  | nil =>
    intro xs off i hrl _ _
    obtain rfl := hrl.inv_nil
    refine ⟨w, rfl, ?_, .refl _ _ _⟩
    have : σ.put b (setL cs (off + i) []) = σ := by
      cases σ with | mk box live =>
      simp only [St.put, setL]
      congr 1
      funext b'
      split
      · rename_i h; subst h; exact hb.symm
      · rfl
    rw [this]; exact hI
  | cons v vs ih =>
    intro xs off i hrl h1 hle
    obtain ⟨x, xs, rfl, hR, hrl⟩ := hrl.inv_cons
    have hv1 := h1 0 v rfl
    have hlt : off + i < cs.length := by simp at hle; omega
    obtain ⟨⟨y, hy⟩, hfr, hI', hE⟩ := hI.box_set hb hlt hR hv1
    obtain ⟨w', hrun, hI2, hE2⟩ := ih (σ := σ.put b (cs.set (off + i) v)) (cs := cs.set (off + i) v) hI' (by simp [St.put]) (xs := xs) (off := off) (i := i + 1) (hrl.ext hE) (fun j y hy => h1 (j + 1) y (by simpa using hy)) (by simp at hle ⊢; omega)
    refine ⟨w', ?_, ?_, hE.trans hE2⟩
    · simp only [storeCells, Sem.run_bind, add_lit]
      rw [run_store P w _ x _ (hR.one hv1), hy]
      simp only [hfr, Bool.false_eq_true, if_false, Result.andThen_ok]
      exact hrun
    · have : (σ.put b (cs.set (off + i) v)).put b (setL (cs.set (off + i) v) (off + (i + 1)) vs) = σ.put b (setL cs (off + i) (v :: vs)) := by
        simp only [St.put, setL]
        congr 1
        funext b'
        split <;> rfl
      rw [← this]; exact hI2

theorem do_store (hr : Rel G w0 γ σ w n ds sl a) {t : TypeId} {x y : Operand} {ox oy : Opd} {i : TypeInfo} (ho : o.op = .store t x y) (hx : trOpd x = some ox) (hy : trOpd y = some oy) (hi : P.info? t = some i) (h : sOp P G (.store i.size ox oy) sl σ K Kp) : Does P G o a w w0 γ K Kp := by
  simp only [sOp] at h
  split at h
  · rename_i b off v h1 h2
    split at h
    · rename_i cs hcs
      obtain ⟨hnt, hl, hle, h⟩ := h
      have hRx := ev_sound hr hx h1
      have hRy := ev_sound hr hy h2
      have hone := hRy.cells_one hnt
      have hRL := hRy.cells hone
      generalize hxe : a.eval x = xe at hRx
      cases hRx
      obtain ⟨w', hrun, hI, hE⟩ := setL_store (P := P) hr.inv hcs (off := off) (i := 0) hRL hone (by omega)
      simp only [Nat.add_zero] at hI
      refine .skip (w' := w') ?_ hE hI h
      have hsz : (a.eval y).cells.size = i.size := by rw [← hl]; have := hRL.1; simpa using this.symm
      simp [execOp, ho, hxe, Instr.storeAt, Instr.sureAddr, storeVar, sizeOf, typeInfo, hi, hsz, hrun]
    · exact h.elim
  · exact h.elim

theorem do_nilchk (hr : Rel G w0 γ σ w n ds sl a) {x : Operand} {ox : Opd} (ho : o.op = .nilCheck x) (hx : trOpd x = some ox) (h : sOp P G (.nilchk ox) sl σ K Kp) : Does P G o a w w0 γ K Kp := by
  simp only [sOp] at h
  split at h <;> first | exact h.elim | skip
  all_goals
    rename_i hv
    have hR := ev_sound hr hx hv
    refine .same hr.inv (x := a.eval x) ?_ hR h
    generalize hxe : a.eval x = xe at hR
    cases hR
    simp [execOp, ho, hxe]

end
end Go.Shadow
