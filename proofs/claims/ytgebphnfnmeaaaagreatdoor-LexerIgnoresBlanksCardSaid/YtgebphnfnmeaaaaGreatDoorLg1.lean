/- Pure laws of the lexer: sources joined, blanks put in, a source cut off at its first problem. -/
import Derived.Test.YtgebphnfnmeaaaaGreatDoorLg0
namespace Go.Shadow.Lex

theorem stops_lf (w : List UInt8) : Stops (10 :: w) := .inr ⟨_, _, rfl, by decide⟩
theorem stops_pure {l : List UInt8} {p e : Nat} (hl : l.length ≤ 65536) (h : lex l = .inl (p, e)) : p < l.length ∧ ∃ ts, lex (l.take p) = .inr ts ∧ 0 < ts.length := by
  rw [lex_J hl] at h
  obtain ⟨k, ts, hr, hk, hs, hp, _⟩ := J_bad _ 0 p e (Nat.le_refl _) (by omega) h
  refine ⟨hp, ts ++ [⟨5, (l.take p).length, [], 0⟩], ?_, by simp⟩
  have hlen : (l.take p).length = p := by simp; omega
  have hge := skipTo_ge l k
  rw [lex_J (by omega)]
  have hr' : Run (l.take p ++ l.drop p) 0 ts k := by rw [List.take_append_drop]; exact hr
  have := hr'.tail (w := []) (.inl rfl) (by omega)
  rw [List.append_nil] at this
  rw [this.J]
  have hsk : skipTo (l.take p) k = p := by
    rw [← List.take_append_drop p l] at hs
    simp only [skipTo] at hs ⊢
    rw [drop_app (by omega)] at hs
    rw [sk_nil (r2 := l.drop p) _ _ (by simp only [List.length_drop, hlen]; omega)]
    exact hs
  unfold J
  rw [hsk, lexJ_end (by omega)]
  simp [addAll]

theorem skip_lf {a w : List UInt8} {k : Nat} (hk : k ≤ a.length) (h : skipTo a k = a.length) : skipTo (a ++ 10 :: w) k = skipTo (a ++ 10 :: w) (a.length + 1) := by
  have h1 : skipTo (a ++ 10 :: w) (a.length + 1) = a.length + 1 + sk false w := by
    rw [skip_shift a (10 :: w) 1]
    simp [skipTo]; omega
  rw [h1]
  simp only [skipTo] at h ⊢
  rw [drop_app hk, sk_lf _ _ (by simp only [List.length_drop]; omega)]
  simp only [List.length_drop]; omega
theorem pre_cons (a : List UInt8) (b : List UInt8) : a ++ 10 :: b = (a ++ [10]) ++ b := by simp
theorem joins_ok {a b : List UInt8} {ts : List Tok} (hl : a.length + b.length < 65536) (h : lex a = .inr ts) : ∃ ts', ts = ts' ++ [⟨5, a.length, [], 0⟩] ∧ lex (a ++ 10 :: b) = addAll ts' (shJ (a.length + 1) (lex b)) := by
  rw [lex_J (by omega)] at h
  have hne : 0 < ts.length := List.length_pos_iff.2 fun e => by subst e; exact J_ne h
  obtain ⟨k, t, hr, ht, hk, hat, hrest, hlast, _⟩ := J_ok _ 0 ts (Nat.le_refl _) (by omega) h (ts.length - 1) (by omega)
  obtain ⟨h1, h2⟩ := hlast (by omega)
  refine ⟨_, h1, ?_⟩
  rw [lex_J (by simp; omega), lex_J (l := b) (by omega)]
  rw [← List.append_nil a] at hr
  rw [(hr.tail (stops_lf b) hk).J]
  congr 1
  have := J_shift (a ++ [10]) b 0
  rw [← pre_cons] at this
  simp only [List.length_append, List.length_cons, List.length_nil, Nat.zero_add, Nat.add_zero] at this
  rw [← this]
  unfold J
  rw [skip_lf hk h2]
theorem joins_bad {a b : List UInt8} {x : Nat × Nat} (hl : a.length + b.length < 65536) (h : lex a = .inl x) : lex (a ++ 10 :: b) = .inl x := by
  obtain ⟨p, e⟩ := x
  rw [lex_J (by omega)] at h
  obtain ⟨k, ts, hr, hk, hs, hp, ho⟩ := J_bad _ 0 p e (Nat.le_refl _) (by omega) h
  rw [lex_J (by simp; omega)]
  rw [← List.append_nil a] at hr
  rw [(hr.tail (stops_lf b) hk).J]
  have hge := skipTo_ge a k
  have hsk : skipTo (a ++ 10 :: b) k = p := by
    rw [← hs]
    simp only [skipTo] at hs ⊢
    have := sk_prefix (r2 := []) (r3 := 10 :: b) (a.drop k) false (by rw [List.append_nil]; simp only [List.length_drop]; omega)
    rw [drop_app hk, this, List.append_nil]
  unfold J
  rw [hsk, lexJ_bad (by simp; omega) (lexOne_lf hp ho)]
  rfl

def noAt (t : Tok) : Int × List UInt8 × Int := (t.kind, t.s, t.n)
theorem noAt_sh (n : Nat) (ts : List Tok) : (ts.map (shTok n)).map noAt = ts.map noAt := by
  rw [List.map_map]; rfl
/-- What is skipped whole. -/
def Gap (bl : List UInt8) : Prop := (∀ v, sk false (bl ++ v) = bl.length + sk false v) ∧ ∃ c r, bl = c :: r ∧ (isBlank c = true ∨ c.toNat = 35)
theorem Gap.stops {bl : List UInt8} (h : Gap bl) (v : List UInt8) : Stops (bl ++ v) := by
  obtain ⟨c, r, rfl, hc⟩ := h.2
  refine .inr ⟨c, r ++ v, rfl, ?_⟩
  have hn : c.toNat = 32 ∨ c.toNat = 9 ∨ c.toNat = 10 ∨ c.toNat = 13 ∨ c.toNat = 35 := by
    rcases hc with hc | hc
    · simp [isBlank] at hc; omega
    · omega
  refine ⟨?_, by omega, by omega, by omega, by omega, by omega⟩
  simp only [isWord, isLetter, isDigit, Bool.or_eq_false_iff, beq_eq_false_iff_ne, Bool.and_eq_false_iff, decide_eq_false_iff_not]
  omega
theorem Gap.J {bl : List UInt8} (h : Gap bl) (v : List UInt8) : J (bl ++ v) 0 = shJ bl.length (J v 0) := by
  rw [← J_shift]
  unfold Lex.J
  congr 1
  rw [skip_shift]
  simp only [skipTo, List.drop_zero, h.1]; omega
theorem gap_space : Gap [32] := ⟨fun v => by simp [sk, isBlank], _, _, rfl, by decide⟩
theorem gap_tabs : Gap [9, 13] := ⟨fun v => by simp [sk, isBlank]; omega, _, _, rfl, by decide⟩
theorem gap_lf : Gap [10] := ⟨fun v => by simp [sk, isBlank], _, _, rfl, by decide⟩
theorem sk_com {v : List UInt8} : ∀ r : List UInt8, (∀ c ∈ r, c.toNat ≠ 10) → sk true (r ++ 10 :: v) = r.length + 1 + sk false v
  | [], _ => by simp [sk]
  | c :: r, h => by
    have hc := h c (by simp)
    simp only [List.cons_append, sk, if_neg hc, List.length_cons]
    rw [sk_com r (fun c hc => h c (by simp [hc]))]; omega
theorem gap_comment (r : List UInt8) (h : ∀ c ∈ r, c.toNat ≠ 10) : Gap (35 :: r ++ [10]) := by
  refine ⟨fun v => ?_, 35, r ++ [10], rfl, .inr (by decide)⟩
  have := sk_com (v := v) r h
  simp [sk, isBlank]
  rw [this]; omega
theorem gaps_ok {l bl : List UInt8} {ts : List Tok} (hl : l.length + bl.length < 65536) (hg : Gap bl) (h : lex l = .inr ts) (i : Nat) (hi : i < ts.length) :
    ∃ (p : Nat) (t : Tok), ts[i]? = some t ∧ t.at_ = (p : Int) ∧ p ≤ l.length ∧ (∃ ms, lex ((if p = l.length then l ++ [10] else l.take p) ++ bl ++ l.drop p) = .inr ms ∧ ms.map noAt = ts.map noAt) := by
  have h0 := h
  rw [lex_J (by omega)] at h
  obtain ⟨k, t, hr, ht, hk, hat, hrest, hlast, hfst⟩ := J_ok _ 0 ts (Nat.le_refl _) (by omega) h i hi
  have hsl := skipTo_le l k hk
  have hge := skipTo_ge l k
  refine ⟨skipTo l k, t, ht, hat.symm, hsl, ?_⟩
  split
  · rename_i hp
    rw [hp, List.drop_eq_nil_of_le (Nat.le_refl _), List.append_nil]
    obtain ⟨ts', h1, h2⟩ := joins_ok (b := bl) (by omega) h0
    have hbl : lex bl = .inr [⟨5, bl.length, [], 0⟩] := by
      rw [lex_J (by omega), ← List.append_nil bl, hg.J]
      simp only [List.append_nil]
      have : J [] 0 = .inr [⟨5, 0, [], 0⟩] := by unfold J; rw [lexJ_end (by simp)]; rfl
      rw [this]; simp [shJ, shTok]
    rw [hbl] at h2
    simp only [shJ, addAll, List.map] at h2
    rw [← pre_cons l bl, h2]
    refine ⟨_, rfl, ?_⟩
    rw [h1]; simp [noAt, shTok]
  · rename_i hp
    have hlt : skipTo l k < l.length := by omega
    generalize hu : l.take (skipTo l k) = u
    generalize hv : l.drop (skipTo l k) = v
    have huv : u ++ v = l := by rw [← hu, ← hv]; exact List.take_append_drop _ _
    have hul : u.length = skipTo l k := by rw [← hu]; simp; omega
    have hvn : v ≠ [] := by rw [← hv]; intro e; have := congrArg List.length e; simp at this; omega
    rw [lex_J (by simp [← hv, hul]; omega), List.append_assoc]
    rw [← huv] at hr
    rw [(hr.tail (hg.stops v) (by omega)).J]
    have hsk : skipTo (u ++ (bl ++ v)) k = skipTo (u ++ (bl ++ v)) u.length := by
      have e1 : skipTo (u ++ (bl ++ v)) u.length = u.length + sk false (bl ++ v) := by simp [skipTo]
      rw [e1]
      have h2 : skipTo (u ++ v) k = u.length := by rw [huv, hul]
      simp only [skipTo] at h2 ⊢
      rw [drop_app (by omega)] at h2
      rw [drop_app (by omega), sk_at (v := v) hvn _ _ (by simp only [List.length_drop]; omega)]
      simp only [List.length_drop]; omega
    have hJ : J (u ++ (bl ++ v)) k = shJ u.length (shJ bl.length (J v 0)) := by
      rw [← hg.J, ← J_shift]
      unfold J
      rw [hsk]; rfl
    have hJv : shJ u.length (J v 0) = .inr (ts.drop i) := by
      rw [← hrest, ← J_shift, huv]
      unfold J
      congr 1
      rw [Nat.add_zero, hul]
      have : skipTo (u ++ v) u.length = u.length := by
        have h2 : skipTo (u ++ v) k = u.length := by rw [huv, hul]
        simp only [skipTo] at h2 ⊢
        rw [drop_app (by omega)] at h2
        have := sk_at (w := v) hvn (u.drop k) false (by simp only [List.length_drop]; omega)
        simp only [List.length_drop] at this
        simp; omega
      rw [huv, hul] at this
      exact this
    rw [hJ]
    cases hv0 : J v 0 with
    | inl x => rw [hv0] at hJv; cases hJv
    | inr vs =>
      rw [hv0] at hJv
      injection hJv with hJv
      refine ⟨_, rfl, ?_⟩
      simp only [List.map_append, noAt_sh]
      rw [← noAt_sh u.length vs, hJv, ← List.map_append, List.take_append_drop]
end Go.Shadow.Lex
