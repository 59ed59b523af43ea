/- THE SHADOW LOGIC, part 15: code, and calls of functions. -/
import Derived.Test.YtgebphnfnmeaaaaGreatDoorSh14
namespace Go.Shadow
open Go Go.RowKit

inductive SC where
  | skip
  | ret
  | exit (id : Nat)
  | seq (a b : SC)
  | cond (c : Opd) (ks : Option (List Nat)) (a b : SC)
  | block (id : Nat) (c : SC)
  | loop (c : SC)
  | region (ops : List SOper) (ks : Option (List Nat))
  | stop

inductive SExit where
  | normal
  | exit (id : Nat)
  | ret
  | pan (v : V)

/-- Slots by a list. -/
def ofL : List (Nat × Option V) → Slots
  | [], _ => none
  | (k, v) :: r, t => if t = k then v else ofL r t
def keepS (ks : List Nat) (sl : Slots) : Slots := ofL (ks.map fun k => (k, sl k))
def keepO : Option (List Nat) → Slots → Slots
  | none, sl => sl
  | some ks, sl => keepS ks sl

structure Forget (σ σ' : St) : Prop where
  box : ∀ b cs, σ'.box b = some cs → σ.box b = some cs
  live : ∀ t, σ'.live t = true → σ.live t = true
theorem Forget.refl (σ : St) : Forget σ σ := ⟨fun _ _ h => h, fun _ h => h⟩
def Weak (v r : V) : Prop := ∀ B γ w x, R B γ w v x → R B γ w r x
theorem Weak.refl (v : V) : Weak v v := fun _ _ _ _ h => h

def swp (P : Program) (G : Globs) : SC → (SExit → Slots → St → Prop) → Slots → St → Prop
  | .skip, Q, sl, σ => Q .normal sl σ
  | .ret, Q, sl, σ => Q .ret sl σ
  | .exit id, Q, sl, σ => Q (.exit id) sl σ
  | .seq a b, Q, sl, σ => swp P G a (fun e sl σ => match e with
    | .normal => swp P G b Q sl σ
    | .exit id => Q (.exit id) sl σ
    | .ret => Q .ret sl σ
    | .pan v => Q (.pan v) sl σ) sl σ
  | .cond c ks a b, Q, sl, σ => match c.ev sl G with
    | some (.bool t) => Br t (swp P G a Q (keepO ks sl) σ) (swp P G b Q (keepO ks sl) σ)
    | _ => False
  | .block id c, Q, sl, σ => swp P G c (fun e sl σ => match e with
    | .normal => Q .normal sl σ
    | .exit id' => if id' = id then Q .normal sl σ else Q (.exit id') sl σ
    | .ret => Q .ret sl σ
    | .pan v => Q (.pan v) sl σ) sl σ
  | .loop c, Q, sl, σ => ∃ (I : Nat → Slots → St → Prop) (n : Nat), I n sl σ ∧ ∀ n sl σ, I n sl σ → swp P G c (fun e sl' σ' => match e with
    | .normal => ∃ m σ'', m < n ∧ Forget σ' σ'' ∧ I m sl' σ''
    | .exit id => Q (.exit id) sl' σ'
    | .ret => Q .ret sl' σ'
    | .pan v => Q (.pan v) sl' σ') sl σ
  | .region ops ks, Q, sl, σ => sOps P G (fun v σ' => Q (.pan v) (fun _ => none) σ') (fun sl σ => Q .normal (keepO ks sl) σ) ops sl σ
  | .stop, _, _, _ => False

/-! ### translation of code -/
def firstReady (tab : List (List Nat)) (done : List Nat) (c : Nat) : List (Nat × SOper) → Option (Nat × SOper)
  | [] => none
  | x :: r => if (tab.getD x.1 []).all (done.contains ·) && decide (x.2.op.cls ≤ c) then some x else firstReady tab done c r
def canon (tab : List (List Nat)) : Nat → List (Nat × SOper) → List Nat → List Nat
  | 0, _, acc => acc.reverse
  | fuel + 1, l, acc => match firstReady tab acc 0 l with
    | some x => canon tab fuel (l.filter (·.1 != x.1)) (x.1 :: acc)
    | none => match firstReady tab acc 1 l with
      | some x => canon tab fuel (l.filter (·.1 != x.1)) (x.1 :: acc)
      | none => match firstReady tab acc 3 l with
        | some x => canon tab fuel (l.filter (·.1 != x.1)) (x.1 :: acc)
        | none => acc.reverse
def backOK : Nat → List (List Nat) → Bool
  | _, [] => true
  | i, d :: r => d.all (fun j => decide (j < i)) && backOK (i + 1) r
def numbered : Nat → List SOper → List (Nat × SOper)
  | _, [] => []
  | i, o :: r => (i, o) :: numbered (i + 1) r
def pickL (sos : List SOper) : List Nat → List (Nat × SOper)
  | [] => []
  | i :: r => match sos[i]? with
    | some o => (i, o) :: pickL sos r
    | none => pickL sos r
def orderOK (m : Nat) (l : List Nat) : Bool := (List.range m).all (fun i => l.contains i) && l.all (fun i => decide (i < m)) && decide l.Nodup && l.length == m

def trRegion (P : Program) (n : Nat) (ops : Array Oper) (draw : Bool) : Option (List SOper) :=
  match trOpers P n ops ops.toList with
  | none => none
  | some sos => if draw = false then some sos else
    let deps := ops.toList.map binding
    let tab := befTab deps []
    if backOK 0 deps = true then
      if pairsOK tab (pickL sos (List.range ops.size)) = true ∧ orderOK ops.size (List.range ops.size) = true then some ((pickL sos (List.range ops.size)).map (·.2))
      else
        let ix := canon tab ops.size (numbered 0 sos) []
        if pairsOK tab (pickL sos ix) = true ∧ orderOK ops.size ix = true then some ((pickL sos ix).map (·.2)) else none
    else none

def tr (P : Program) (n : Nat) : Code → Option SC
  | .skip => some .skip
  | .ret => some .ret
  | .exit id => some (.exit id)
  | .seq a b => match tr P n a, tr P n b with
    | some x, some y => some (.seq x y)
    | _, _ => none
  | .cond c a b => match trOpd c, tr P n a, tr P n b with
    | some oc, some x, some y => some (.cond oc none x y)
    | _, _, _ => none
  | .block id c => match tr P n c with
    | some x => some (.block id x)
    | none => none
  | .loop c => match tr P n c with
    | some x => some (.loop x)
    | none => none
  | .region _ ops draw => match trRegion P n ops draw with
    | some l => some (.region l none)
    | none => some .stop
  | _ => some .stop
def strip : SC → SC
  | .seq a b => .seq (strip a) (strip b)
  | .cond c _ a b => .cond c none (strip a) (strip b)
  | .block id c => .block id (strip c)
  | .loop c => .loop (strip c)
  | .region ops _ => .region ops none
  | c => c

section
variable {P : Program} {G : Globs} {w0 w : World} {γ : Gh} {σ : St} {n : Nat} {ds : List Deferred} {sl : Slots} {a : Act} {Kp : V → St → Prop}

theorem Inv.forget (hI : Inv G w0 γ σ w) {σ' : St} (hf : Forget σ σ') : Inv G w0 γ σ' w :=
  ⟨hI.bel, fun b cs h => hI.box b cs (hf.box b cs h), fun t h => hI.live t (hf.live t h), hI.tip, hI.inj, hI.rowlt, hI.glob, hI.pre⟩
theorem Rel.forget (hr : Rel G w0 γ σ w n ds sl a) {σ' : St} (hf : Forget σ σ') : Rel G w0 γ σ' w n ds sl a := ⟨hr.inv.forget hf, hr.slots, hr.size, hr.defs⟩
theorem Rel.none (hr : Rel G w0 γ σ w n ds sl a) : Rel G w0 γ σ w n ds (fun _ => none) a := ⟨hr.inv, fun _ _ h => (by cases h), hr.size, hr.defs⟩

theorem ofL_keep (ks : List Nat) (sl : Slots) (t : Nat) (v : V) (h : keepS ks sl t = some v) : sl t = some v := by
  induction ks with
  | nil => cases h
  | cons k ks ih =>
    simp only [keepS, List.map_cons, ofL] at h
    split at h
    · rename_i e; subst e; exact h
    · exact ih h
theorem Rel.keep (hr : Rel G w0 γ σ w n ds sl a) (ks : Option (List Nat)) : Rel G w0 γ σ w n ds (keepO ks sl) a := by
  cases ks with
  | none => exact hr
  | some ks => exact ⟨hr.inv, fun t v h => hr.slots t v (ofL_keep ks sl t v h), hr.size, hr.defs⟩

/-- What holds behind code, in the model's terms. -/
def CQ (G : Globs) (w0 : World) (γ : Gh) (w : World) (n : Nat) (ds : List Deferred) (SQ : SExit → Slots → St → Prop) (e : Exit) (a' : Act) (w' : World) : Prop :=
  ∃ γ' σ' sl', Ext w0.heap.size γ w γ' w' ∧ Rel G w0 γ' σ' w' n ds sl' a' ∧ match e with
    | .normal => SQ .normal sl' σ'
    | .exit id => SQ (.exit id) sl' σ'
    | .ret => SQ .ret sl' σ'
    | .panic chain => ∃ v x, chain = [{ v := x, recovered := false }] ∧ R w0.heap.size γ' w' v x ∧ SQ (.pan v) sl' σ'
    | _ => False

theorem CQ.ext {γ1 : Gh} {w1 : World} (he : Ext w0.heap.size γ w γ1 w1) {SQ : SExit → Slots → St → Prop} {e : Exit} {a' : Act} {w' : World} (h : CQ G w0 γ1 w1 n ds SQ e a' w') : CQ G w0 γ w n ds SQ e a' w' := by
  obtain ⟨γ', σ', sl', h1, h2, h3⟩ := h
  exact ⟨γ', σ', sl', he.trans h1, h2, h3⟩

theorem wp_loop_ex {c : Code} {Q : Exit → Act → World → Prop} (I : Nat → Act → World → Prop) {m : Nat} (h₀ : I m a w)
    (round : ∀ m a w, I m a w → c.wp P (Exit.then (fun a' w' => ∃ m', m' < m ∧ I m' a' w') Q) a w) : (Code.loop c).wp P Q a w := by
  intro b k cs
  have key : ∀ m a w, I m a w → ∃ e a' w', Q e a' w' ∧ Arrives P (lone (b.at a (.code c :: .inLoop c :: k)) cs w) b k cs e a' w' := by
    intro m
    induction m using Nat.strongRecOn with
    | _ m ih =>
      intro a w hI
      obtain ⟨e, a₁, w₁, hq, harr⟩ := round m a w hI b (.inLoop c :: k) cs
      cases e with
      | normal =>
        obtain ⟨m', hlt, hI₁⟩ := hq
        obtain ⟨e₂, a₂, w₂, hq₂, harr₂⟩ := ih m' hlt a₁ w₁ hI₁
        exact ⟨e₂, a₂, w₂, hq₂, .of_steps (Steps.trans harr (.one step_inLoop)) harr₂⟩
      | exit id => exact ⟨_, a₁, w₁, hq, .pass (x := .inLoop c) rfl (fun _ _ => .inl (by simp)) harr⟩
      | goto l => exact ⟨_, a₁, w₁, hq, .pass (x := .inLoop c) rfl (fun _ _ => .inl (by simp)) harr⟩
      | ret => exact ⟨_, a₁, w₁, hq, .pass (x := .inLoop c) rfl (fun _ _ => .inl (by simp)) harr⟩
      | panic ch => exact ⟨_, a₁, w₁, hq, .pass (x := .inLoop c) rfl (fun _ _ => .inl (by simp)) harr⟩
      | outgrown => exact ⟨_, a₁, w₁, hq, .pass (x := .inLoop c) rfl (fun _ _ => .inl (by simp)) harr⟩
  obtain ⟨e, a', w', hq, harr⟩ := key m a w h₀
  exact ⟨e, a', w', hq, .of_steps (.one step_loop) harr⟩

theorem trOpers_get {ops : Array Oper} : ∀ {l : List Oper} {sos : List SOper}, trOpers P n ops l = some sos → l.length = sos.length ∧ ∀ (k : Nat) (so : SOper), sos[k]? = some so → ∃ o, l[k]? = some o ∧ trOper P n ops o = some so
  | [], sos, h => by simp [trOpers] at h; subst h; exact ⟨rfl, fun k so hk => by simp at hk⟩
  | o :: r, sos, h => by
    simp only [trOpers] at h
    split at h
    · rename_i s ss h1 h2
      injection h with h; subst h
      obtain ⟨g1, g2⟩ := trOpers_get h2
      refine ⟨by simp [g1], fun k so hk => ?_⟩
      cases k with
      | zero => simp at hk; subst hk; exact ⟨o, rfl, h1⟩
      | succ k => obtain ⟨o', h3, h4⟩ := g2 k so (by simpa using hk); exact ⟨o', by simpa using h3, h4⟩
    · cases h

theorem backOK_spec : ∀ {l : List (List Nat)} {k : Nat}, backOK k l = true → ∀ i, ∀ j ∈ l.getD i [], j < k + i
  | [], k, _, i, j, hj => by simp at hj
  | d :: r, k, h, i, j, hj => by
    simp only [backOK, Bool.and_eq_true, List.all_eq_true, decide_eq_true_eq] at h
    cases i with
    | zero => simp at hj; have := h.1 j hj; omega
    | succ i =>
      have := backOK_spec h.2 i j (by simpa using hj)
      omega

theorem pickL_spec (sos : List SOper) : ∀ (l : List Nat), (∀ i ∈ l, i < sos.length) → (pickL sos l).map (·.1) = l ∧ ∀ p ∈ pickL sos l, sos[p.1]? = some p.2
  | [], _ => ⟨rfl, fun p hp => by simp [pickL] at hp⟩
  | i :: r, h => by
    have hi := h i (by simp)
    obtain ⟨g1, g2⟩ := pickL_spec sos r (fun j hj => h j (by simp [hj]))
    simp only [pickL, List.getElem?_eq_getElem hi]
    refine ⟨by simp [g1], fun p hp => ?_⟩
    simp at hp
    rcases hp with rfl | hp
    · simp [hi]
    · exact g2 p hp

theorem region_order {ops : Array Oper} {id : Nat} {sos : List SOper} {ix : List Nat} {SQ : SExit → Slots → St → Prop} {ks : Option (List Nat)} (hm : P.follows .mixedOrders = true) (ht : trOpers P n ops ops.toList = some sos)
    (hb : backOK 0 (ops.toList.map binding) = true) (hp : pairsOK (befTab (ops.toList.map binding) []) (pickL sos ix) = true) (ho : orderOK ops.size ix = true) (hr : Rel G w0 γ σ w n ds sl a)
    (h : swp P G (.region ((pickL sos ix).map (·.2)) ks) SQ sl σ) : (Code.region id ops true).wp P (CQ G w0 γ w n ds SQ) a w := by
  obtain ⟨hl, hget⟩ := trOpers_get ht
  have hl' : sos.length = ops.size := by rw [← hl]; simp
  simp only [orderOK, Bool.and_eq_true, List.all_eq_true, decide_eq_true_eq, beq_iff_eq, List.mem_range] at ho
  obtain ⟨⟨⟨ho1, ho2⟩, ho3⟩, ho4⟩ := ho
  obtain ⟨hp1, hp2⟩ := pickL_spec sos ix (fun i hi => by rw [hl']; exact ho2 i hi)
  refine wp_region_any hm ?_
  obtain ⟨hI1, hE1⟩ := hr.inv.drew
  have hr1 : Rel G w0 γ σ { w with drawn := w.drawn + 1 } n ds sl a := hr.ext hE1 hI1
  have hdep : ∀ i o, ops[i]? = some o → (ops.toList.map binding).getD i [] = binding o := by
    intro i o hi
    rw [List.getD_eq_getElem?_getD, List.getElem?_map]
    have : ops.toList[i]? = some o := by simpa using hi
    rw [this]; rfl
  refine any_order (ops.toList.map binding) hdep (fun i j hj => by have := backOK_spec hb i j hj; omega) _ (fun L hc i hi k hk => befTab_spec hc _ [] (by simp) (Nat.zero_le _) (fun i hi => by simp at hi) i hi k hk)
    ops.size (pickL sos ix) (Array.replicate ops.size false) ?_ (by simp) (fun i hi => ?_) (by rw [hp1]; exact ho3) (fun p hpp => ?_) ?_ hp hr1 h (fun γ' σ' w' sl' a' he hr' hk => ?_) (fun γ' σ' w' v x a' he hr' hv hk => ?_)
  · rw [← List.length_map (f := (·.1)), hp1]; exact ho4
  · rw [hp1]
    constructor
    · intro _; simpa using ho1 i hi
    · intro _; simp [hi]
  · obtain ⟨o, h1, h2⟩ := hget p.1 p.2 (hp2 p hpp)
    exact ⟨o, by simpa using h1, h2⟩
  · intro i hi j hj
    rcases hi with hi | hi
    · exfalso
      rw [Array.getD_eq_getD_getElem?] at hi
      by_cases hlt : i < ops.size
      · simp [hlt] at hi
      · simp [hlt] at hi
    · rw [List.getD_eq_getElem?_getD, List.getElem?_eq_none (by simpa using hi)] at hj
      simp at hj
  · exact ⟨γ', σ', _, hE1.trans he, hr'.keep ks, hk⟩
  · exact ⟨γ', σ', _, hE1.trans he, hr', v, x, rfl, hv, hk⟩

theorem region_sound {ops : Array Oper} {id : Nat} {draw : Bool} {l : List SOper} {SQ : SExit → Slots → St → Prop} {ks : Option (List Nat)} (hm : P.follows .mixedOrders = true) (ht : trRegion P n ops draw = some l) (hr : Rel G w0 γ σ w n ds sl a)
    (h : swp P G (.region l ks) SQ sl σ) : (Code.region id ops draw).wp P (CQ G w0 γ w n ds SQ) a w := by
  unfold trRegion at ht
  split at ht
  · cases ht
  · rename_i sos hs
    split at ht
    · rename_i hd; subst hd
      injection ht with ht; subst ht
      obtain ⟨hl, hget⟩ := trOpers_get hs
      refine wp_region (sOps_sound (K := fun sl σ => SQ .normal (keepO ks sl) σ) (Kp := fun v σ' => SQ (.pan v) (fun _ => none) σ') (List.range ops.size) sos hr (by rw [← hl]; simp) (fun k i so hk hso => ?_) h
        (fun γ' σ' w' sl' a' he hr' hk => ⟨γ', σ', _, he, hr'.keep ks, hk⟩) (fun γ' σ' w' v x a' he hr' hv hk => ⟨γ', σ', _, he, hr', v, x, rfl, hv, hk⟩))
      obtain ⟨o, h1, h2⟩ := hget k so hso
      have hk' : k < ops.size := by have := (List.getElem?_eq_some_iff.1 hk).1; simpa using this
      have : i = k := by simp [hk'] at hk; exact hk.symm
      subst this
      exact ⟨o, by simpa using h1, h2⟩
    · rename_i hd
      have hdt : draw = true := by cases draw; exact absurd rfl hd; rfl
      subst hdt
      simp only at ht
      split at ht
      · rename_i hb
        split at ht
        · rename_i hc; injection ht with ht; subst ht
          exact region_order hm hs hb hc.1 hc.2 hr h
        · split at ht
          · rename_i hc; injection ht with ht; subst ht
            exact region_order hm hs hb hc.1 hc.2 hr h
          · cases ht
      · cases ht

theorem swp_sound (hm : P.follows .mixedOrders = true) : ∀ (sc : SC) {c : Code} {SQ : SExit → Slots → St → Prop} {γ : Gh} {σ : St} {w : World} {sl : Slots} {a : Act}, tr P n c = some (strip sc) → Rel G w0 γ σ w n ds sl a → swp P G sc SQ sl σ → c.wp P (CQ G w0 γ w n ds SQ) a w
  | .skip, c, SQ, γ, σ, w, sl, a, ht, hr, h => by
    cases c <;> simp only [tr, strip] at ht <;> first | cases ht | (split at ht <;> cases ht) | skip
    exact wp_skip ⟨γ, σ, sl, .refl _ _ _, hr, h⟩
  | .ret, c, SQ, γ, σ, w, sl, a, ht, hr, h => by
    cases c <;> simp only [tr, strip] at ht <;> first | cases ht | (split at ht <;> cases ht) | skip
    exact wp_ret ⟨γ, σ, sl, .refl _ _ _, hr, h⟩
  | .exit id, c, SQ, γ, σ, w, sl, a, ht, hr, h => by
    cases c <;> simp only [tr, strip] at ht <;> first | (injection ht with ht; injection ht with ht; subst ht; exact wp_exit ⟨γ, σ, sl, .refl _ _ _, hr, h⟩) | (exfalso; (try split at ht) <;> cases ht)
  | .seq x y, c, SQ, γ, σ, w, sl, a, ht, hr, h => by
    cases c <;> simp only [tr, strip] at ht <;> first | (cases ht; done) | skip
    case seq c1 c2 =>
      split at ht
      · rename_i x' y' h1 h2
        injection ht with ht; injection ht with e1 e2; subst e1; subst e2
        refine wp_seq (wp_mono (swp_sound hm x h1 hr h) ?_)
        rintro e a1 w1 ⟨γ1, σ1, sl1, he, hr1, hq⟩
        cases e with
        | normal => exact wp_mono (swp_sound hm y h2 hr1 hq) fun e a2 w2 hq2 => hq2.ext he
        | exit id => exact ⟨γ1, σ1, sl1, he, hr1, hq⟩
        | ret => exact ⟨γ1, σ1, sl1, he, hr1, hq⟩
        | panic ch => exact ⟨γ1, σ1, sl1, he, hr1, hq⟩
        | goto l => exact hq.elim
        | outgrown => exact hq.elim
      · cases ht
    all_goals (split at ht <;> cases ht)
  | .cond oc ks x y, c, SQ, γ, σ, w, sl, a, ht, hr, h => by
    cases c <;> simp only [tr, strip] at ht <;> first | (cases ht; done) | skip
    case cond cc c1 c2 =>
      split at ht
      · rename_i oc' x' y' h0 h1 h2
        injection ht with ht; injection ht with e0 _ e1 e2; subst e0; subst e1; subst e2
        simp only [swp] at h
        split at h
        · rename_i t hv
          have hR := ev_sound hr h0 hv
          generalize hce : a.eval cc = cv at hR
          cases hR
          exact wp_cond_split hce (fun e => swp_sound hm x h1 (hr.keep ks) (h.1 e)) (fun e => swp_sound hm y h2 (hr.keep ks) (h.2 e))
        · exact h.elim
      · cases ht
    all_goals (split at ht <;> cases ht)
  | .block id x, c, SQ, γ, σ, w, sl, a, ht, hr, h => by
    cases c <;> simp only [tr, strip] at ht <;> first | (cases ht; done) | skip
    case block id' c1 =>
      split at ht
      · rename_i x' h1
        injection ht with ht; injection ht with e0 e1; subst e0; subst e1
        refine wp_block (wp_mono (swp_sound hm x h1 hr h) ?_)
        rintro e a1 w1 ⟨γ1, σ1, sl1, he, hr1, hq⟩
        cases e with
        | normal => exact ⟨γ1, σ1, sl1, he, hr1, hq⟩
        | exit id2 =>
          simp only at hq
          simp only [Exit.inBlock]
          split
          · rename_i e; rw [if_pos e] at hq; exact ⟨γ1, σ1, sl1, he, hr1, hq⟩
          · rename_i e; rw [if_neg e] at hq; exact ⟨γ1, σ1, sl1, he, hr1, hq⟩
        | ret => exact ⟨γ1, σ1, sl1, he, hr1, hq⟩
        | panic ch => exact ⟨γ1, σ1, sl1, he, hr1, hq⟩
        | goto l => exact hq.elim
        | outgrown => exact hq.elim
      · cases ht
    all_goals (split at ht <;> cases ht)
  | .loop x, c, SQ, γ, σ, w, sl, a, ht, hr, h => by
    cases c <;> simp only [tr, strip] at ht <;> first | (cases ht; done) | skip
    case loop c1 =>
      split at ht
      · rename_i x' h1
        injection ht with ht; injection ht with e1; subst e1
        obtain ⟨I, m, hI, hround⟩ := h
        refine wp_loop_ex (fun m a' w' => ∃ γ' σ' sl', Ext w0.heap.size γ w γ' w' ∧ Rel G w0 γ' σ' w' n ds sl' a' ∧ I m sl' σ') (m := m) ⟨γ, σ, sl, .refl _ _ _, hr, hI⟩ ?_
        rintro m a1 w1 ⟨γ1, σ1, sl1, he, hr1, hI1⟩
        refine wp_mono (swp_sound hm x h1 hr1 (hround m sl1 σ1 hI1)) ?_
        rintro e a2 w2 ⟨γ2, σ2, sl2, he2, hr2, hq⟩
        cases e with
        | normal =>
          obtain ⟨m', σ3, hlt, hf, hI3⟩ := hq
          exact ⟨m', hlt, γ2, σ3, sl2, he.trans he2, hr2.forget hf, hI3⟩
        | exit id => exact ⟨γ2, σ2, sl2, he.trans he2, hr2, hq⟩
        | ret => exact ⟨γ2, σ2, sl2, he.trans he2, hr2, hq⟩
        | panic ch => exact ⟨γ2, σ2, sl2, he.trans he2, hr2, hq⟩
        | goto l => exact hq.elim
        | outgrown => exact hq.elim
      · cases ht
    all_goals (split at ht <;> cases ht)
  | .region ops ks, c, SQ, γ, σ, w, sl, a, ht, hr, h => by
    cases c <;> simp only [tr, strip] at ht <;> first | (cases ht; done) | skip
    case region id ops' draw =>
      split at ht
      · rename_i l hl
        injection ht with ht; injection ht with e1 e2; subst e1
        exact region_sound hm hl hr h
      · cases ht
    all_goals (split at ht <;> cases ht)
  | .stop, c, SQ, γ, σ, w, sl, a, ht, hr, h => by
    simp only [swp] at h

/-! ### functions -/
def trRes (P : Program) : List ResultVar → Option (List (Nat × Option (Bool × Nat)))
  | [] => some []
  | .tmp t :: r => match trRes P r with
    | some l => some ((t, none) :: l)
    | none => none
  | .cell t ty :: r => match aggB P ty, P.info? ty, trRes P r with
    | some g, some i, some l => if 0 < i.size then some ((t, some (g, i.size)) :: l) else none
    | _, _, _ => none
def sRes1 (sl : Slots) (σ : St) : Nat × Option (Bool × Nat) → Option V
  | (t, none) => sl t
  | (t, some (g, m)) => match (sl t).bind σ.at with
    | some cs => if m ≤ cs.length then mkv g (cs.take m) else none
    | none => none
def sResL (sl : Slots) (σ : St) : List (Nat × Option (Bool × Nat)) → Option (List V)
  | [] => some []
  | x :: r => match sRes1 sl σ x, sResL sl σ r with
    | some v, some vs => some (v :: vs)
    | _, _ => none
def sRes (sl : Slots) (σ : St) (rs : List (Nat × Option (Bool × Nat))) : Option V := match sResL sl σ rs with
  | some [v] => some v
  | some vs => some (.tup vs)
  | none => none

def retQ (rs : List (Nat × Option (Bool × Nat))) (Post : SEnd → St → Prop) : SExit → Slots → St → Prop
  | .normal, sl, σ => match sRes sl σ rs with
    | some v => ∃ r σ', Weak v r ∧ Forget σ σ' ∧ Post (.ret r) σ'
    | none => False
  | .ret, sl, σ => match sRes sl σ rs with
    | some v => ∃ r σ', Weak v r ∧ Forget σ σ' ∧ Post (.ret r) σ'
    | none => False
  | .pan v, _, σ => ∃ r σ', Weak v r ∧ Forget σ σ' ∧ Post (.pan r) σ'
  | .exit _, _, _ => False

def resOne (tmps : Array Value) : ResultVar → Sem Value
  | .tmp t => pure (tmps.getD t undef)
  | .cell b t => do loadVar t (← asAddr (tmps.getD b undef))
theorem results_eq (fn : Func) (tmps : Array Value) : results fn tmps = (do
    let vs ← fn.results.mapM (resOne tmps)
    pure (if h : vs.size = 1 then vs[0] else .tuple vs)) := by
  unfold results
  congr 1

theorem resL_sound (hr : Rel G w0 γ σ w n ds sl a) : ∀ {rv : List ResultVar} {rs : List (Nat × Option (Bool × Nat))} {vs : List V}, trRes P rv = some rs → sResL sl σ rs = some vs →
    ∃ xs : List Value, (rv.mapM (resOne a.tmps)).run P w = .ok xs w ∧ RL w0.heap.size γ w vs xs
  | [], rs, vs, h, hs => by simp [trRes] at h; subst h; simp [sResL] at hs; subst hs; exact ⟨[], rfl, .nil⟩
  | .tmp t :: r, rs, vs, h, hs => by
    simp only [trRes] at h
    split at h
    · rename_i l hl
      injection h with h; subst h
      simp only [sResL] at hs
      split at hs
      · rename_i v us h1 h2
        injection hs with hs; subst hs
        obtain ⟨xs, h3, h4⟩ := resL_sound hr hl h2
        refine ⟨a.tmps.getD t undef :: xs, ?_, .cons (hr.slots t v h1) h4⟩
        rw [List.mapM_cons]
        simp only [resOne, Sem.run_bind, Sem.run_pure, Result.andThen_ok, h3]
      · cases hs
    · cases h
  | .cell t ty :: r, rs, vs, h, hs => by
    simp only [trRes] at h
    split at h
    · rename_i g i l hg hi hl
      split at h
      · rename_i hsz
        injection h with h; subst h
        simp only [sResL] at hs
        split at hs
        · rename_i v us h1 h2
          injection hs with hs; subst hs
          obtain ⟨xs, h3, h4⟩ := resL_sound hr hl h2
          simp only [sRes1] at h1
          split at h1
          · rename_i cs hcs
            split at h1
            · rename_i hle
              rw [Option.bind_eq_some_iff] at hcs
              obtain ⟨u, hu, hat⟩ := hcs
              obtain ⟨b, off, ys, hxe, hRL, h1', hc⟩ := at_sound hr.inv (hr.slots t u hu) hat
              have hlx : i.size ≤ ys.length := by rw [← hRL.1]; exact hle
              have hld := run_loadVar_list (w := w) hg hi (b := b) (o := off) hlx (.inr hsz) hc
              refine ⟨_ :: xs, ?_, .cons (mkv_sound (hRL.take i.size) (fun j y hy => ?_) h1) h4⟩
              · have ha : asAddr (a.tmps.getD t undef) = pure ⟨b, off, none⟩ := by rw [hxe]; rfl
                rw [List.mapM_cons]
                simp only [resOne, ha, Sem.run_bind, Sem.run_pure, Result.andThen_ok, hld, h3]
              · rw [List.getElem?_take] at hy
                split at hy
                · exact h1' j y hy
                · cases hy
            · cases h1
          · cases h1
        · cases hs
      · cases h
    · cases h

theorem res_sound (hr : Rel G w0 γ σ w n ds sl a) {fn : Func} {rs : List (Nat × Option (Bool × Nat))} {v : V} (h : trRes P fn.results.toList = some rs) (hs : sRes sl σ rs = some v) : ∃ x, (results fn a.tmps).run P w = .ok x w ∧ R w0.heap.size γ w v x := by
  unfold sRes at hs
  have key : ∀ vs, sResL sl σ rs = some vs → ∃ xs : List Value, (results fn a.tmps).run P w = .ok (if h : xs.length = 1 then xs[0] else .tuple xs.toArray) w ∧ RL w0.heap.size γ w vs xs := by
    intro vs hvs
    obtain ⟨xs, h1, h2⟩ := resL_sound hr h hvs
    refine ⟨xs, ?_, h2⟩
    rw [results_eq, Array.mapM_eq_mapM_toList]
    simp only [Sem.run_bind, Sem.run_map]
    rw [h1]
    simp only [Result.andThen_ok, Sem.run_pure, List.size_toArray]
    congr 1
  split at hs
  · rename_i u hu
    injection hs with hs; subst hs
    obtain ⟨xs, h1, h2⟩ := key _ hu
    obtain ⟨x, xs', rfl, h3, h4⟩ := h2.inv_cons
    obtain rfl := h4.inv_nil
    exact ⟨x, by simpa using h1, h3⟩
  · rename_i vs hne hu
    injection hs with hs; subst hs
    obtain ⟨xs, h1, h2⟩ := key _ hu
    have hl : ¬ xs.length = 1 := by
      intro he
      rw [← h2.1] at he
      match vs, he with
      | [v], _ => exact hne v rfl
    rw [dif_neg hl] at h1
    exact ⟨_, h1, .tup vs xs.toArray (by simpa using h2.1) (fun i x y hx hy => h2.2 i x y hx (by simpa using hy))⟩
  · cases hs

/-- The slots that a call begins with. -/
def argS : Nat → List V → Slots
  | _, [] => fun _ => none
  | k, v :: r => fun t => if t = k then some v else argS (k + 1) r t

theorem argS_get : ∀ {vs : List V} {k t : Nat} {v : V}, argS k vs t = some v → ∃ j, t = k + j ∧ vs[j]? = some v
  | [], k, t, v, h => by simp [argS] at h
  | u :: vs, k, t, v, h => by
    simp only [argS] at h
    split at h
    · rename_i e; injection h with h; subst h; exact ⟨0, by omega, rfl⟩
    · obtain ⟨j, h1, h2⟩ := argS_get h
      exact ⟨j + 1, by omega, by simpa using h2⟩

theorem SCall.of_code (hm : P.follows .mixedOrders = true) {f : FuncId} {fn : Func} {c : Code} {sc : SC} {rs : List (Nat × Option (Bool × Nat))} {args : List V} {Post : SEnd → St → Prop} (hf : P.funcs[f]? = some fn) (hname : (fn.name == "runtime.NumGoroutine") = false) (hb : fn.body = some c)
    (htr : tr P fn.ntmps c = some (strip sc)) (hres : trRes P fn.results.toList = some rs) (hl : args.length ≤ fn.ntmps) (h : swp P G sc (retQ rs Post) (argS 0 args) σ) : SCall P G f args σ Post := by
  intro w0 γ w xs hI hRL
  have hname' : ¬ fn.name = "runtime.NumGoroutine" := by simpa using hname
  refine .inl ⟨by simp [callFunc, hf, hname', hb], calls_of_wp hf hb ?_⟩
  have hlen : args.length = xs.size := by simpa using hRL.1
  have hrel : Rel G w0 γ σ w fn.ntmps [] (argS 0 args) { tmps := xs ++ Array.replicate (fn.ntmps - xs.size) undef, defers := [] } := by
    refine ⟨hI, fun t v hv => ?_, by simp; omega, rfl⟩
    obtain ⟨j, rfl, hj⟩ := argS_get hv
    have hjl : j < xs.size := by rw [← hlen]; exact (List.getElem?_eq_some_iff.1 hj).1
    have := hRL.2 j v xs[j] hj (by simp [hjl])
    simp only [Nat.zero_add, Array.getD_eq_getD_getElem?]
    rw [Array.getElem?_append_left hjl, Array.getElem?_eq_getElem hjl]
    exact this
  refine wp_mono (swp_sound hm sc htr hrel h) ?_
  rintro e a' w' ⟨γ', σ', sl', he, hr', hq⟩
  have fin : ∀ {v : V}, sRes sl' σ' rs = some v → (∃ r σ'', Weak v r ∧ Forget σ' σ'' ∧ Post (.ret r) σ'') → bodyPost P fn (fun e w' => ∃ γ' σ', Ext w0.heap.size γ w γ' w' ∧ Inv G w0 γ' σ' w' ∧ ∃ r x, R w0.heap.size γ' w' r x ∧
      ((e = .returned x ∧ Post (.ret r) σ') ∨ (e = .panicked [{ v := x, recovered := false }] ∧ Post (.pan r) σ'))) .ret a' w' := by
    rintro v hv ⟨r, σ'', hw, hf, hp⟩
    obtain ⟨x, h1, h2⟩ := res_sound (P := P) hr' hres hv
    exact ⟨hr'.defs, x, h1, γ', σ'', he, hr'.inv.forget hf, r, x, hw _ _ _ _ h2, .inl ⟨rfl, hp⟩⟩
  cases e with
  | normal =>
    simp only [retQ] at hq
    split at hq
    · rename_i v hv; exact fin hv hq
    · exact hq.elim
  | ret =>
    simp only [retQ] at hq
    split at hq
    · rename_i v hv; exact fin hv hq
    · exact hq.elim
  | exit id => exact hq.elim
  | panic ch =>
    obtain ⟨v, x, rfl, hv, r, σ'', hw, hf, hp⟩ := hq
    exact ⟨hr'.defs, γ', σ'', he, hr'.inv.forget hf, r, x, hw _ _ _ _ hv, .inr ⟨rfl, hp⟩⟩
  | goto l => exact hq.elim
  | outgrown => exact hq.elim

end
end Go.Shadow
