/- THE SHADOW LOGIC, part 13: operations that may change places; regions that draw their order. -/
import Derived.Test.YtgebphnfnmeaaaaGreatDoorSh12
namespace Go.Shadow
open Go Go.RowKit

section
variable {P : Program} {G : Globs} {w0 w : World} {γ : Gh} {σ : St} {n : Nat} {ds : List Deferred} {sl : Slots} {a : Act}

theorem sBin_char {op : BinOp} {k : IntKind} {x y : Int} {K : V → Prop} (h : sBin op k x y K) : ∃ v, K v ∧ ∀ K' : V → Prop, K' v → sBin op k x y K' := by
  cases op <;> simp only [sBin] at h ⊢ <;> first | exact ⟨_, h, fun _ h => h⟩ | exact ⟨_, h.2, fun _ h' => ⟨h.1, h'⟩⟩
theorem sBinS_char {op : BinOp} {x y : List UInt8} {K : V → Prop} (h : sBinS op x y K) : ∃ v, K v ∧ ∀ K' : V → Prop, K' v → sBinS op x y K' := by
  cases op <;> simp only [sBinS] at h ⊢ <;> first | exact h.elim | exact ⟨_, h, fun _ h => h⟩ | exact ⟨_, h.2, fun _ h' => ⟨h.1, h'⟩⟩

def Char (P : Program) (G : Globs) (o : SOp) (sl : Slots) (σ : St) (K : V → St → Prop) (fits : St → Prop) : Prop :=
  ∃ v, K v σ ∧ ∀ (sl' : Slots) (σ' : St) (K' Kp' : V → St → Prop), Alike o.reads sl sl' → fits σ' → K' v σ' → sOp P G o sl' σ' K' Kp'

theorem pure_char {o : SOp} {K Kp : V → St → Prop} (hc : o.cls = 0) (h : sOp P G o sl σ K Kp) : Char P G o sl σ K fun _ => True := by
  cases o <;> first | (simp [SOp.cls] at hc; done) | skip
  case bin op x y =>
    simp only [sOp] at h
    split at h
    · rename_i k u k' v h1 h2
      obtain ⟨r, hr, hk⟩ := sBin_char h.2
      exact ⟨r, hr, fun sl' σ' K' Kp' ha _ hk' => by rw [sOp_alike ha]; simp only [sOp, h1, h2]; exact ⟨h.1, hk _ hk'⟩⟩
    · exact h.elim
  case bins op x y =>
    simp only [sOp] at h
    split at h
    · rename_i u v h1 h2
      obtain ⟨r, hr, hk⟩ := sBinS_char h
      exact ⟨r, hr, fun sl' σ' K' Kp' ha _ hk' => by rw [sOp_alike ha]; simp only [sOp, h1, h2]; exact hk _ hk'⟩
    · exact h.elim
  case pick c x y =>
    simp only [sOp] at h
    split at h
    · rename_i b u v h1 h2 h3
      cases b
      · exact ⟨v, h.2 rfl, fun sl' σ' K' Kp' ha _ hk' => by rw [sOp_alike ha]; simp only [sOp, h1, h2, h3]; exact ⟨fun h => (by cases h), fun _ => hk'⟩⟩
      · exact ⟨u, h.1 rfl, fun sl' σ' K' Kp' ha _ hk' => by rw [sOp_alike ha]; simp only [sOp, h1, h2, h3]; exact ⟨fun _ => hk', fun h => (by cases h)⟩⟩
    · exact h.elim
  case slice z x lo hi =>
    simp only [sOp] at h
    split at h
    · rename_i h1 h2 h3
      exact ⟨_, h.2.2.2.2, fun sl' σ' K' Kp' ha _ hk' => by rw [sOp_alike ha]; simp only [sOp, h1, h2, h3]; exact ⟨h.1, h.2.1, h.2.2.1, h.2.2.2.1, hk'⟩⟩
    · rename_i h1 h2 h3
      exact ⟨_, h.2.2.2, fun sl' σ' K' Kp' ha _ hk' => by rw [sOp_alike ha]; simp only [sOp, h1, h2, h3]; exact ⟨h.1, h.2.1, h.2.2.1, hk'⟩⟩
    · rename_i h1 h2 h3
      exact ⟨_, h.2.2.2, fun sl' σ' K' Kp' ha _ hk' => by rw [sOp_alike ha]; simp only [sOp, h1, h2, h3]; exact ⟨h.1, h.2.1, h.2.2.1, hk'⟩⟩
    · rename_i h1 h2 h3
      exact ⟨_, h.2, fun sl' σ' K' Kp' ha _ hk' => by rw [sOp_alike ha]; simp only [sOp, h1, h2, h3]; exact ⟨h.1, hk'⟩⟩
    · exact h.elim
  case cuts x lo hi =>
    simp only [sOp] at h
    split at h
    · rename_i h1 h2 h3
      exact ⟨_, h.2.2.2, fun sl' σ' K' Kp' ha _ hk' => by rw [sOp_alike ha]; simp only [sOp, h1, h2, h3]; exact ⟨h.1, h.2.1, h.2.2.1, hk'⟩⟩
    · rename_i h1 h2 h3
      exact ⟨_, h.2.2, fun sl' σ' K' Kp' ha _ hk' => by rw [sOp_alike ha]; simp only [sOp, h1, h2, h3]; exact ⟨h.1, h.2.1, hk'⟩⟩
    · rename_i h1 h2 h3
      exact ⟨_, h.2.2, fun sl' σ' K' Kp' ha _ hk' => by rw [sOp_alike ha]; simp only [sOp, h1, h2, h3]; exact ⟨h.1, h.2.1, hk'⟩⟩
    · rename_i h1 h2 h3
      exact ⟨_, h, fun sl' σ' K' Kp' ha _ hk' => by rw [sOp_alike ha]; simp only [sOp, h1, h2, h3]; exact hk'⟩
    · exact h.elim
  all_goals
    simp only [sOp] at h
    (repeat' split at h)
    all_goals first
      | exact h.elim
      | exact False.elim h.2
      | exact False.elim h.2.2
      | exact False.elim h.2.2.2
      | (exact ⟨_, by first | exact h | exact h.2 | exact h.2.2 | exact h.2.2.2 | exact h.2.2.2.2, fun sl' σ' K' Kp' ha _ hk' => by
          rw [sOp_alike ha]; simp only [sOp]; first | (simp [*]; done) | (simp_all; done)⟩)

theorem load_char {g : Bool} {m : Nat} {x : Opd} {K Kp : V → St → Prop} (h : sOp P G (.load g m x) sl σ K Kp) : Char P G (.load g m x) sl σ K fun σ' => ∀ b cs, σ.box b = some cs → σ'.box b = some cs := by
  simp only [sOp] at h
  split at h
  · rename_i cs hcs
    rw [Option.bind_eq_some_iff] at hcs
    obtain ⟨u, hu, hat⟩ := hcs
    split at h
    · rename_i v hv
      refine ⟨v, h.2, fun sl' σ' K' Kp' ha hf hk' => ?_⟩
      rw [sOp_alike ha]
      have hat' : σ'.at u = some cs := by
        cases u <;> simp only [St.at] at hat ⊢ <;> first | exact hat | cases hat | skip
        rename_i b off
        rw [Option.map_eq_some_iff] at hat ⊢
        obtain ⟨c, hc, he⟩ := hat
        exact ⟨c, hf b c hc, he⟩
      simp only [sOp, hu, Option.bind_some, hat', hv]
      exact ⟨h.1, hk'⟩
    · exact h.2.elim
  · exact h.elim

/-- An operation that makes memory leaves what is known of variables. -/
theorem alloc_keeps {o : SOp} {K Kp : V → St → Prop} (hc : o.cls ≤ 2) (h : sOp P G o sl σ K Kp) : sOp P G o sl σ (fun v σ' => K v σ' ∧ ∀ b cs, σ.box b = some cs → σ'.box b = some cs) Kp := by
  by_cases h0 : o.cls = 0
  · obtain ⟨v, hv, hk⟩ := pure_char h0 h
    exact hk sl σ _ _ (fun _ _ => rfl) trivial ⟨hv, fun _ _ h => h⟩
  · cases o <;> first | (simp [SOp.cls] at h0; done) | (simp [SOp.cls] at hc; done) | skip
    case load =>
      obtain ⟨v, hv, hk⟩ := load_char h
      exact hk sl σ _ _ (fun _ _ => rfl) (fun _ _ h => h) ⟨hv, fun _ _ h => h⟩
    case alloc z =>
      simp only [sOp] at h ⊢
      intro b hb
      refine ⟨h b hb, fun b' cs hbx => ?_⟩
      have : b' ≠ b := by rintro rfl; rw [hb] at hbx; cases hbx
      simp [St.put, this, hbx]
    case box x =>
      simp only [sOp] at h ⊢
      split
      · rename_i v hv
        simp only [hv] at h
        refine ⟨h.1, fun b hb => ⟨h.2 b hb, fun b' cs hbx => ?_⟩⟩
        have : b' ≠ b := by rintro rfl; rw [hb] at hbx; cases hbx
        simp [St.put, this, hbx]
      · rename_i hv; simp only [hv] at h
    case append s bytes x y =>
      simp only [sOp] at h ⊢
      split
      · rename_i tag s' es tg s2 ns h1 h2
        simp only [h1, h2] at h
        obtain ⟨g1, g2, g3, g4, h⟩ := h
        refine ⟨g1, g2, g3, g4, ?_⟩
        cases ns <;> cases tag <;> simp only at h ⊢ <;> first
          | exact ⟨h, fun _ _ h => h⟩
          | exact fun t' ht => ⟨h t' ht, fun _ _ h => h⟩
          | exact ⟨h.1, fun t' ht => ⟨h.2 t' ht, fun _ _ h => h⟩⟩
      · rename_i hne
        split at h
        · rename_i h1 h2; exact (hne _ _ _ _ _ _ h1 h2).elim
        · exact h.elim
    case appends bytes x y =>
      simp only [sOp] at h ⊢
      split
      · rename_i tag s' es l h1 h2
        simp only [h1, h2] at h
        obtain ⟨g1, g3, g4, h⟩ := h
        refine ⟨g1, g3, g4, ?_⟩
        cases l <;> cases tag <;> simp only at h ⊢ <;> first
          | exact ⟨h, fun _ _ h => h⟩
          | exact fun t' ht => ⟨h t' ht, fun _ _ h => h⟩
          | exact ⟨h.1, fun t' ht => ⟨h.2 t' ht, fun _ _ h => h⟩⟩
      · rename_i hne
        split at h
        · rename_i h1 h2; exact (hne _ _ _ _ h1 h2).elim
        · exact h.elim

theorem sOp_mono {o : SOp} {K K' Kp : V → St → Prop} (hk : ∀ v σ', K v σ' → K' v σ') (h : sOp P G o sl σ K Kp) : sOp P G o sl σ K' Kp := by
  by_cases h0 : o.cls = 0
  · obtain ⟨v, hv, hc⟩ := pure_char h0 h
    exact hc sl σ _ _ (fun _ _ => rfl) trivial (hk _ _ hv)
  · cases o <;> first | (simp [SOp.cls] at h0; done) | skip
    case load => 
      obtain ⟨v, hv, hc⟩ := load_char h
      exact hc sl σ _ _ (fun _ _ => rfl) (fun _ _ h => h) (hk _ _ hv)
    case alloc z => exact fun b hb => hk _ _ (h b hb)
    case box x =>
      simp only [sOp] at h ⊢
      split
      · rename_i v hv; simp only [hv] at h; exact ⟨h.1, fun b hb => hk _ _ (h.2 b hb)⟩
      · rename_i hv; simp only [hv] at h
    case store m x y =>
      simp only [sOp] at h ⊢
      split
      · rename_i b off v h1 h2
        simp only [h1, h2] at h
        split
        · rename_i cs hcs; simp only [hcs] at h; exact ⟨h.1, h.2.1, h.2.2.1, hk _ _ h.2.2.2⟩
        · rename_i hcs; simp only [hcs] at h
      · rename_i hne
        split at h
        · rename_i h1 h2; exact (hne _ _ _ h1 h2).elim
        · exact h.elim
    case call f xs =>
      simp only [sOp] at h ⊢
      split
      · rename_i vs hv; simp only [hv] at h; exact h.mono fun e σ' he => by cases e; exact hk _ _ he; exact he
      · rename_i hv; simp only [hv] at h
    case callv x xs =>
      simp only [sOp] at h ⊢
      split
      · rename_i f u1 u2 vs h1 hv; simp only [h1, hv] at h; exact h.mono fun e σ' he => by cases e; exact hk _ _ he; exact he
      · rename_i hne
        split at h
        · rename_i h1 h2; exact (hne _ _ _ _ h1 h2).elim
        · exact h.elim
    case panic x =>
      simp only [sOp] at h ⊢
      exact h
    case append s bytes x y =>
      simp only [sOp] at h ⊢
      split
      · rename_i tag s' es tg s2 ns h1 h2
        simp only [h1, h2] at h
        obtain ⟨g1, g2, g3, g4, h⟩ := h
        refine ⟨g1, g2, g3, g4, ?_⟩
        cases ns <;> cases tag <;> simp only at h ⊢ <;> first
          | exact hk _ _ h
          | exact fun t' ht => hk _ _ (h t' ht)
          | exact ⟨h.1, fun t' ht => hk _ _ (h.2 t' ht)⟩
      · rename_i hne
        split at h
        · rename_i h1 h2; exact (hne _ _ _ _ _ _ h1 h2).elim
        · exact h.elim
    case appends bytes x y =>
      simp only [sOp] at h ⊢
      split
      · rename_i tag s' es l h1 h2
        simp only [h1, h2] at h
        obtain ⟨g1, g3, g4, h⟩ := h
        refine ⟨g1, g3, g4, ?_⟩
        cases l <;> cases tag <;> simp only at h ⊢ <;> first
          | exact hk _ _ h
          | exact fun t' ht => hk _ _ (h t' ht)
          | exact ⟨h.1, fun t' ht => hk _ _ (h.2 t' ht)⟩
      · rename_i hne
        split at h
        · rename_i h1 h2; exact (hne _ _ _ _ h1 h2).elim
        · exact h.elim

end
end Go.Shadow
