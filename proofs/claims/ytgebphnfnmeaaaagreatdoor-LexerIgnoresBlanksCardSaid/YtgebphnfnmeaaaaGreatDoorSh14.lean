/- THE SHADOW LOGIC, part 14: a region whose order is drawn: one order serves all. -/
import Derived.Test.YtgebphnfnmeaaaaGreatDoorSh13
namespace Go.Shadow
open Go Go.RowKit

section
variable {P : Program} {G : Globs} {w0 w : World} {γ : Gh} {σ : St} {n : Nat} {ds : List Deferred} {sl : Slots} {a : Act} {Kp : V → St → Prop}

theorem sOper_mono {o : SOper} {K K' : Slots → St → Prop} (hk : ∀ s σ', K s σ' → K' s σ') (h : sOper P G o sl σ K Kp) : sOper P G o sl σ K' Kp := by
  unfold sOper at h ⊢
  split
  · rename_i hg; simp only [hg] at h; exact sOp_mono (fun _ _ h => hk _ _ h) h
  · rename_i g want hg
    simp only [hg] at h
    split
    · rename_i b hb; simp only [hb] at h
      exact ⟨fun e => sOp_mono (fun _ _ h => hk _ _ h) (h.1 e), fun e => hk _ _ (h.2 e)⟩
    · rename_i hb; simp only [hb] at h; exact hk _ _ h
    · rename_i h1 h2
      split at h
      · rename_i hb; exact (h1 _ hb).elim
      · rename_i hb; exact (h2 hb).elim
      · exact h

theorem putD_comm {d e : Option Nat} {v u : V} (h : ∀ k, d = some k → e ≠ some k) : putD (putD sl d v) e u = putD (putD sl e u) d v := by
  cases d with
  | none => rfl
  | some d => cases e with
    | none => rfl
    | some e =>
      have hne : e ≠ d := fun he => h d rfl (by rw [he])
      funext t
      simp only [putD, Slots.upd]
      by_cases h1 : t = e
      · subst h1; simp [hne]
      · simp [h1]
theorem putD_other {d : Option Nat} {v : V} {k : Nat} (h : d ≠ some k) : putD sl d v k = sl k := by
  cases d with
  | none => rfl
  | some d => simp only [putD, Slots.upd]; rw [if_neg (fun e => h (by rw [e]))]

/-- x may come behind y, too. -/
def swapOK (x y : SOper) : Bool :=
  (match x.dst with | some d => !y.reads.contains d && y.dst != some d | none => true) &&
  (match y.dst with | some d => !x.reads.contains d | none => true) &&
  (x.op.cls == 0 || (x.op.cls == 1 && decide (y.op.cls ≤ 2)))

theorem swapOK_spec {x y : SOper} (h : swapOK x y = true) : (∀ d, x.dst = some d → d ∉ y.reads ∧ y.dst ≠ some d) ∧ (∀ d, y.dst = some d → d ∉ x.reads) ∧ (x.op.cls = 0 ∨ (x.op.cls = 1 ∧ y.op.cls ≤ 2)) := by
  simp only [swapOK, Bool.and_eq_true, Bool.or_eq_true, beq_iff_eq, decide_eq_true_eq] at h
  obtain ⟨⟨h1, h2⟩, h3⟩ := h
  refine ⟨fun d hd => ?_, fun d hd => ?_, h3⟩
  · simp [hd] at h1; exact h1
  · simp [hd] at h2; exact h2

/-- A pure operation, or one that reads a variable, as it stands. -/
theorem sOper_char {x : SOper} {K : Slots → St → Prop} (hc : x.op.cls ≤ 1) (h : sOper P G x sl σ K Kp) :
    ∃ v, K (putD sl x.dst v) σ ∧ ∀ (sl' : Slots) (σ' : St) (K' : Slots → St → Prop) (Kp' : V → St → Prop), Alike x.reads sl sl' → (x.op.cls = 0 ∨ ∀ b cs, σ.box b = some cs → σ'.box b = some cs) → K' (putD sl' x.dst v) σ' → sOper P G x sl' σ' K' Kp' := by
  have hop : ∀ {K : V → St → Prop}, sOp P G x.op sl σ K Kp → ∃ v, K v σ ∧ ∀ (sl' : Slots) (σ' : St) (K' Kp' : V → St → Prop), Alike x.op.reads sl sl' → (x.op.cls = 0 ∨ ∀ b cs, σ.box b = some cs → σ'.box b = some cs) → K' v σ' → sOp P G x.op sl' σ' K' Kp' := by
    intro K h
    by_cases h0 : x.op.cls = 0
    · obtain ⟨v, hv, hk⟩ := pure_char h0 h
      exact ⟨v, hv, fun sl' σ' K' Kp' ha _ hk' => hk sl' σ' K' Kp' ha trivial hk'⟩
    · generalize x.op = op at h h0 hc ⊢
      cases op <;> first | (simp [SOp.cls] at h0; done) | (simp [SOp.cls] at hc; done) | skip
      obtain ⟨v, hv, hk⟩ := load_char h
      exact ⟨v, hv, fun sl' σ' K' Kp' ha hf hk' => hk sl' σ' K' Kp' ha (hf.resolve_left h0) hk'⟩
  unfold sOper at h
  split at h
  · rename_i hg
    obtain ⟨v, hv, hk⟩ := hop h
    refine ⟨v, hv, fun sl' σ' K' Kp' ha hf hk' => ?_⟩
    unfold sOper
    simp only [hg]
    exact hk sl' σ' _ _ (by simp only [SOper.reads] at ha; exact ha.left) hf hk'
  · rename_i g want hg
    have hgs : ∀ {sl' : Slots}, Alike x.reads sl sl' → sl' g = sl g := fun ha => ha g (by simp [SOper.reads, hg])
    split at h
    · rename_i b hb
      cases hbw : b == want with
      | true =>
        obtain ⟨v, hv, hk⟩ := hop (h.1 hbw)
        refine ⟨v, hv, fun sl' σ' K' Kp' ha hf hk' => ?_⟩
        unfold sOper
        simp only [hg, hgs ha, hb, hbw, Br_true]
        exact hk sl' σ' _ _ (by simp only [SOper.reads] at ha; exact ha.left) hf hk'
      | false =>
        refine ⟨_, h.2 hbw, fun sl' σ' K' Kp' ha hf hk' => ?_⟩
        unfold sOper
        simp only [hg, hgs ha, hb, hbw, Br_false]
        exact hk'
    · rename_i hb
      refine ⟨_, h, fun sl' σ' K' Kp' ha hf hk' => ?_⟩
      unfold sOper
      simp only [hg, hgs ha, hb]
      exact hk'
    · exact h.elim

theorem sOper_keeps {y : SOper} {K : Slots → St → Prop} (hc : y.op.cls ≤ 2) (h : sOper P G y sl σ K Kp) : sOper P G y sl σ (fun s σ' => K s σ' ∧ ∀ b cs, σ.box b = some cs → σ'.box b = some cs) Kp := by
  unfold sOper at h ⊢
  split
  · rename_i hg; simp only [hg] at h; exact alloc_keeps hc h
  · rename_i g want hg
    simp only [hg] at h
    split
    · rename_i b hb; simp only [hb] at h
      exact ⟨fun e => alloc_keeps hc (h.1 e), fun e => ⟨h.2 e, fun _ _ h => h⟩⟩
    · rename_i hb; simp only [hb] at h; exact ⟨h, fun _ _ h => h⟩
    · rename_i h1 h2
      split at h
      · rename_i hb; exact (h1 _ hb).elim
      · rename_i hb; exact (h2 hb).elim
      · exact h

theorem sOper_frame {x y : SOper} {v : V} {K : Slots → St → Prop} (hd : ∀ d, x.dst = some d → d ∉ y.reads ∧ y.dst ≠ some d) (h : sOper P G y (putD sl x.dst v) σ K Kp) :
    sOper P G y sl σ (fun s σ' => (∃ u, s = putD sl y.dst u) ∧ K (putD s x.dst v) σ') Kp := by
  have ha : Alike y.reads sl (putD sl x.dst v) := by
    intro k hk
    cases hx : x.dst with
    | none => rfl
    | some d =>
      have := (hd d hx).1
      simp only [putD, Slots.upd]
      rw [if_neg (fun e : k = d => this (e ▸ hk))]
  have hcomm : ∀ u, putD (putD sl x.dst v) y.dst u = putD (putD sl y.dst u) x.dst v := fun u => putD_comm (fun k hk => (hd k hk).2)
  unfold sOper at h ⊢
  split
  · rename_i hg
    simp only [hg] at h
    have ha' : Alike y.op.reads sl (putD sl x.dst v) := by simp only [SOper.reads] at ha; exact ha.left
    rw [sOp_alike ha'] at h
    exact sOp_mono (fun u σ' hk => ⟨⟨u, rfl⟩, by rw [← hcomm]; exact hk⟩) h
  · rename_i g want hg
    have hgs : putD sl x.dst v g = sl g := ha g (by simp [SOper.reads, hg])
    have ha' : Alike y.op.reads sl (putD sl x.dst v) := by simp only [SOper.reads] at ha; exact ha.left
    simp only [hg, hgs] at h
    split
    · rename_i b hb
      simp only [hb] at h
      rw [sOp_alike ha'] at h
      exact ⟨fun e => sOp_mono (fun u σ' hk => ⟨⟨u, rfl⟩, by rw [← hcomm]; exact hk⟩) (h.1 e), fun e => ⟨⟨_, rfl⟩, by rw [← hcomm]; exact h.2 e⟩⟩
    · rename_i hb
      simp only [hb] at h
      exact ⟨⟨_, rfl⟩, by rw [← hcomm]; exact h⟩
    · rename_i h1 h2
      split at h
      · rename_i hb; exact (h1 _ hb).elim
      · rename_i hb; exact (h2 hb).elim
      · exact h

theorem swap {x y : SOper} (hs : swapOK x y = true) {K : Slots → St → Prop} (h : sOper P G x sl σ (fun s σ' => sOper P G y s σ' K Kp) Kp) : sOper P G y sl σ (fun s σ' => sOper P G x s σ' K Kp) Kp := by
  obtain ⟨h1, h2, h3⟩ := swapOK_spec hs
  obtain ⟨v, hv, hk⟩ := sOper_char (by rcases h3 with h | h <;> omega) h
  have hf := sOper_frame h1 hv
  have hal : ∀ u, Alike x.reads sl (putD sl y.dst u) := by
    intro u k hk
    exact putD_other (fun e => h2 k e hk)
  rcases h3 with h3 | ⟨h3, h4⟩
  · exact sOper_mono (fun s σ' ⟨⟨u, hu⟩, hK⟩ => by subst hu; exact hk _ σ' K Kp (hal u) (.inl h3) hK) hf
  · exact sOper_mono (fun s σ' ⟨⟨⟨u, hu⟩, hK⟩, hb⟩ => by subst hu; exact hk _ σ' K Kp (hal u) (.inr hb) hK) (sOper_keeps h4 hf)

theorem move_front {so : SOper} {K : Slots → St → Prop} {post : List SOper} : ∀ (pre : List SOper), (∀ x ∈ pre, swapOK x so = true) → ∀ {sl : Slots} {σ : St}, sOps P G Kp K (pre ++ so :: post) sl σ → sOper P G so sl σ (sOps P G Kp K (pre ++ post)) Kp
  | [], _, sl, σ, h => h
  | x :: pre, hp, sl, σ, h => by
    simp only [List.cons_append, sOps] at h
    have h' : sOper P G x sl σ (fun s σ' => sOper P G so s σ' (sOps P G Kp K (pre ++ post)) Kp) Kp := sOper_mono (fun s σ' hh => move_front pre (fun y hy => hp y (by simp [hy])) hh) h
    exact swap (hp x (by simp)) h'

/-! ### which operations come before which, whatever is drawn -/
def binding (o : Oper) : List Nat := (o.after.toList.filter (Region.binds .any)).map (·.on)
def befTab : List (List Nat) → List (List Nat) → List (List Nat)
  | [], acc => acc
  | d :: r, acc => befTab r (acc ++ [(d.flatMap fun j => j :: acc.getD j []).eraseDups])

def Closed (deps : List (List Nat)) (L : Nat → Prop) : Prop := ∀ i, L i → ∀ j ∈ deps.getD i [], L j

theorem befTab_spec {deps : List (List Nat)} {L : Nat → Prop} (hc : Closed deps L) : ∀ (r acc : List (List Nat)), deps = deps.take acc.length ++ r → acc.length ≤ deps.length →
    (∀ i, i < acc.length → (∀ j ∈ deps.getD i [], L j) → ∀ k ∈ acc.getD i [], L k) → ∀ i, (∀ j ∈ deps.getD i [], L j) → ∀ k ∈ (befTab r acc).getD i [], L k
  | [], acc, hd, hl, h, i, hi, k, hk => by
    simp only [befTab] at hk
    by_cases hil : i < acc.length
    · exact h i hil hi k hk
    · rw [List.getD_eq_getElem?_getD, List.getElem?_eq_none (by omega)] at hk; simp at hk
  | d :: r, acc, hd, hl, h, i, hi, k, hk => by
    simp only [befTab] at hk
    have hlen : acc.length < deps.length := by
      have := congrArg List.length hd
      simp at this; omega
    have hdd : deps.getD acc.length [] = d := by
      rw [hd, List.getD_eq_getElem?_getD, List.getElem?_append_right (by simp; omega)]
      simp [Nat.min_eq_left hl]
    refine befTab_spec hc r (acc ++ [(d.flatMap fun j => j :: acc.getD j []).eraseDups]) ?_ (by simp; omega) (fun i' hi' hj' k' hk' => ?_) i hi k hk
    · conv => lhs; rw [hd]
      rw [List.length_append, List.length_singleton]
      have : deps.take (acc.length + 1) = deps.take acc.length ++ [d] := by
        rw [List.take_succ_eq_append_getElem hlen]
        congr 2
        rw [List.getD_eq_getElem?_getD, List.getElem?_eq_getElem hlen] at hdd
        simpa using hdd
      rw [this]; simp
    · by_cases hia : i' < acc.length
      · rw [List.getD_eq_getElem?_getD, List.getElem?_append_left hia] at hk'
        exact h i' hia hj' k' (by rw [List.getD_eq_getElem?_getD]; exact hk')
      · have : i' = acc.length := by simp at hi'; omega
        subst this
        rw [List.getD_eq_getElem?_getD, List.getElem?_append_right (Nat.le_refl _)] at hk'
        simp only [Nat.sub_self, List.getElem?_cons_zero, Option.getD_some, List.mem_eraseDups, List.mem_flatMap, List.mem_cons] at hk'
        obtain ⟨j, hj, hjk⟩ := hk'
        rw [hdd] at hj'
        rcases hjk with rfl | hjk
        · exact hj' _ hj
        · by_cases hja : j < acc.length
          · exact h j hja (hc j (hj' j hj)) k' hjk
          · rw [List.getD_eq_getElem?_getD, List.getElem?_eq_none (by omega)] at hjk; simp at hjk

/-- The pairs of a list of operations (each with its number) that may come up in either order may change places. -/
def pairsOK (tab : List (List Nat)) : List (Nat × SOper) → Bool
  | [] => true
  | x :: r => (r.all fun y => (tab.getD y.1 []).contains x.1 || swapOK x.2 y.2) && pairsOK tab r

theorem pairsOK_sub {tab : List (List Nat)} : ∀ {l : List (Nat × SOper)}, pairsOK tab l = true → ∀ {pre post : List (Nat × SOper)} {y : Nat × SOper}, l = pre ++ y :: post → pairsOK tab (pre ++ post) = true ∧ ∀ x ∈ pre, (tab.getD y.1 []).contains x.1 = true ∨ swapOK x.2 y.2 = true
  | [], _, pre, post, y, h => by cases pre <;> simp at h
  | z :: l, hp, [], post, y, h => by
    simp at h; obtain ⟨rfl, rfl⟩ := h
    simp only [pairsOK, Bool.and_eq_true] at hp
    exact ⟨hp.2, by simp⟩
  | z :: l, hp, x :: pre, post, y, h => by
    simp at h; obtain ⟨rfl, rfl⟩ := h
    simp only [pairsOK, Bool.and_eq_true, List.all_eq_true] at hp
    obtain ⟨g1, g2⟩ := pairsOK_sub hp.2 (pre := pre) (post := post) (y := y) rfl
    refine ⟨?_, fun x hx => ?_⟩
    · simp only [List.cons_append, pairsOK, Bool.and_eq_true, List.all_eq_true]
      exact ⟨fun q hq => hp.1 q (by simp at hq ⊢; rcases hq with h | h; exact .inl h; exact .inr (.inr h)), g1⟩
    · simp at hx
      rcases hx with rfl | hx
      · have := hp.1 y (by simp)
        simpa using this
      · exact g2 x hx

/-- One order of a region's operations serves all. -/
theorem any_order {ops : Array Oper} {Q : Exit → Act → World → Prop} {K : Slots → St → Prop} (deps : List (List Nat)) (hdeps : ∀ i o, ops[i]? = some o → deps.getD i [] = binding o) (hback : ∀ i, ∀ j ∈ deps.getD i [], j < i) (tab : List (List Nat))
    (htab : ∀ L, Closed deps L → ∀ i, (∀ j ∈ deps.getD i [], L j) → ∀ k ∈ tab.getD i [], L k) :
    ∀ (fuel : Nat) (l : List (Nat × SOper)) (listed : Array Bool) {γ : Gh} {σ : St} {w : World} {sl : Slots} {a : Act}, l.length = fuel → listed.size = ops.size →
      (∀ i, i < ops.size → (listed.getD i true = false ↔ i ∈ l.map (·.1))) → (l.map (·.1)).Nodup → (∀ p ∈ l, ∃ o, ops[p.1]? = some o ∧ trOper P n ops o = some p.2) → Closed deps (fun i => listed.getD i false = true ∨ ops.size ≤ i) → pairsOK tab l = true →
      Rel G w0 γ σ w n ds sl a → sOps P G Kp K (l.map (·.2)) sl σ →
      (∀ γ' σ' w' sl' a', Ext w0.heap.size γ w γ' w' → Rel G w0 γ' σ' w' n ds sl' a' → K sl' σ' → Q .normal a' w') →
      (∀ γ' σ' w' v x a', Ext w0.heap.size γ w γ' w' → Rel G w0 γ' σ' w' n ds (fun _ => none) a' → R w0.heap.size γ' w' v x → Kp v σ' → Q (.panic [{ v := x, recovered := false }]) a' w') →
      wpAny P .any ops Q fuel listed a w := by
  intro fuel
  induction fuel with
  | zero =>
    intro l listed γ σ w sl a hlen hsz hli hnd htr hcl hpo hr h hK hKp
    have : l = [] := List.eq_nil_of_length_eq_zero hlen
    subst this
    refine ⟨?_, hK γ σ w sl a (.refl _ _ _) hr h⟩
    apply List.eq_nil_iff_forall_not_mem.2
    intro j hj
    obtain ⟨hj2, o, hj1, _⟩ := mem_ready.1 hj
    have := (hli j (Array.getElem?_eq_some_iff.1 hj1).1).1 hj2
    simp at this
  | succ fuel ih =>
    intro l listed γ σ w sl a hlen hsz hli hnd htr hcl hpo hr h hK hKp
    refine ⟨fun hre => ?_, fun i hi => ?_⟩
    · -- the least that is left is ready
      exfalso
      have hex : ∃ i, i < ops.size ∧ listed.getD i true = false := by
        cases l with
        | nil => simp at hlen
        | cons p l =>
          obtain ⟨o, ho, _⟩ := htr p (by simp)
          have hlt : p.1 < ops.size := (Array.getElem?_eq_some_iff.1 ho).1
          exact ⟨p.1, hlt, (hli p.1 hlt).2 (by simp)⟩
      have hmin : ∀ m, ∀ i, i ≤ m → i < ops.size → listed.getD i true = false → False := by
        intro m
        induction m using Nat.strongRecOn with
        | _ m ihm =>
          intro i him hi hli'
          have hnr : i ∉ Region.ready .any ops listed := by rw [hre]; simp
          obtain ⟨o, ho⟩ : ∃ o, ops[i]? = some o := ⟨ops[i], Array.getElem?_eq_getElem hi⟩
          have : ∃ e ∈ o.after.toList, Region.binds .any e = true ∧ listed.getD e.on false = false := by
            apply Classical.byContradiction
            intro hno
            refine hnr (mem_ready.2 ⟨hli', o, ho, fun e he hb => ?_⟩)
            cases hld : listed.getD e.on false with
            | true => rfl
            | false => exact (hno ⟨e, by simpa using he, hb, hld⟩).elim
          obtain ⟨e, he, hb, hld⟩ := this
          have hmem : e.on ∈ deps.getD i [] := by
            rw [hdeps i o ho]
            exact List.mem_map.2 ⟨e, List.mem_filter.2 ⟨he, hb⟩, rfl⟩
          have hlt := hback i e.on hmem
          refine ihm e.on (by omega) e.on (Nat.le_refl _) (by omega) ?_
          have hes : e.on < listed.size := by omega
          rw [Array.getD_eq_getD_getElem?, Array.getElem?_eq_getElem hes] at hld ⊢
          simpa using hld
      obtain ⟨i, hi, hl⟩ := hex
      exact hmin i i (Nat.le_refl _) hi hl
    · obtain ⟨hi2, o, ho, hall⟩ := mem_ready.1 hi
      have hi1 : i < ops.size := (Array.getElem?_eq_some_iff.1 ho).1
      have hil : i ∈ l.map (·.1) := (hli i hi1).1 hi2
      obtain ⟨p, hp, hpi⟩ := List.mem_map.1 hil
      obtain ⟨pre, post, hsplit⟩ := List.append_of_mem hp
      obtain ⟨o', ho', htro⟩ := htr p hp
      rw [hpi, ho] at ho'; injection ho' with ho'; subst ho'
      obtain ⟨hpo', hpre⟩ := pairsOK_sub hpo hsplit
      have hready : ∀ j ∈ deps.getD i [], listed.getD j false = true ∨ ops.size ≤ j := by
        intro j hj
        rw [hdeps i o ho] at hj
        obtain ⟨e, he, hej⟩ := List.mem_map.1 hj
        obtain ⟨he1, he2⟩ := List.mem_filter.1 he
        exact .inl (by rw [← hej]; exact hall e (by simpa using he1) he2)
      have hsw : ∀ x ∈ pre, swapOK x.2 p.2 = true := by
        intro x hx
        refine (hpre x hx).resolve_left fun hcont => ?_
        have hk := htab _ hcl i hready x.1 (by rw [← hpi]; simpa using hcont)
        have hxl : x ∈ l := by rw [hsplit]; simp [hx]
        obtain ⟨ox, hox, _⟩ := htr x hxl
        have hxlt : x.1 < ops.size := (Array.getElem?_eq_some_iff.1 hox).1
        have hxf := (hli x.1 hxlt).2 (List.mem_map.2 ⟨x, hxl, rfl⟩)
        rcases hk with hk | hk
        · have hes : x.1 < listed.size := by omega
          rw [Array.getD_eq_getD_getElem?, Array.getElem?_eq_getElem hes] at hk hxf
          simp at hk hxf; rw [hk] at hxf; cases hxf
        · omega
      have hmv : sOper P G p.2 sl σ (sOps P G Kp K (pre.map (·.2) ++ post.map (·.2))) Kp := by
        refine move_front (pre.map (·.2)) (fun x hx => ?_) (by rw [hsplit] at h; simpa using h)
        obtain ⟨q, hq, rfl⟩ := List.mem_map.1 hx
        exact hsw q hq
      rw [hsplit] at hnd
      have hnd' : ((pre ++ post).map (·.1)).Nodup ∧ i ∉ (pre ++ post).map (·.1) := by
        simp only [List.map_append, List.map_cons] at hnd ⊢
        have hperm : (pre.map (·.1) ++ p.1 :: post.map (·.1)).Perm (p.1 :: (pre.map (·.1) ++ post.map (·.1))) := List.perm_middle
        have := (hperm.nodup_iff).1 hnd
        rw [List.nodup_cons, hpi] at this
        exact ⟨this.2, this.1⟩
      refine sOper_sound hr ho htro (K := sOps P G Kp K (pre.map (·.2) ++ post.map (·.2))) hmv (fun γ' σ' w' sl' a' he hr' hk => ?_) (fun γ' σ' w' v x he hi hv hk => hKp γ' σ' w' v x a he ⟨hi, fun _ _ h => (by cases h), hr.size, hr.defs⟩ hv hk)
      refine ih (pre ++ post) (listed.setIfInBounds i true) (by rw [hsplit] at hlen; simp at hlen ⊢; omega) (by simpa using hsz) (fun j hj => ?_) hnd'.1 (fun q hq => htr q (by rw [hsplit]; simp at hq ⊢; rcases hq with h | h; exact .inl h; exact .inr (.inr h))) ?_ hpo' hr' (by simpa using hk)
        (fun γ2 σ2 w2 sl2 a2 he2 hr2 hk2 => hK γ2 σ2 w2 sl2 a2 (he.trans he2) hr2 hk2) (fun γ2 σ2 w2 v x a2 he2 hr2 hv hk2 => hKp γ2 σ2 w2 v x a2 (he.trans he2) hr2 hv hk2)
      · by_cases hji : j = i
        · subst hji
          constructor
          · intro hc
            rw [Array.getD_eq_getD_getElem?, Array.getElem?_setIfInBounds] at hc
            simp [show j < listed.size by omega] at hc
          · intro hc; exact absurd hc hnd'.2
        · rw [getD_set_ne true (Ne.symm hji), hli j hj, hsplit]
          simp only [List.map_append, List.map_cons, List.mem_append, List.mem_cons, hpi]
          constructor
          · rintro (h | h | h)
            · exact .inl h
            · exact absurd h hji
            · exact .inr h
          · rintro (h | h)
            · exact .inl h
            · exact .inr (.inr h)
      · intro j hj k hk
        by_cases hji : j = i
        · subst hji
          rcases hready k hk with h1 | h1
          · exact .inl (getD_set_true h1)
          · exact .inr h1
        · rcases hj with hj | hj
          · rw [getD_set_ne false (Ne.symm hji)] at hj
            rcases hcl j (.inl hj) k hk with h1 | h1
            · exact .inl (getD_set_true h1)
            · exact .inr h1
          · rcases hcl j (.inr hj) k hk with h1 | h1
            · exact .inl (getD_set_true h1)
            · exact .inr h1

end
end Go.Shadow
