/- Pure laws of the lexer: what stands behind a token's end does not matter; runs over tokens. -/
import Derived.Test.YtgebphnfnmeaaaaGreatDoorLw3
namespace Go.Shadow.Lex

/-- What may stand behind: nothing, or a byte that is no word's and no sign's second byte. -/
def Stops (w : List UInt8) : Prop := w = [] ∨ ∃ c r, w = c :: r ∧ isWord c = false ∧ c.toNat ≠ 62 ∧ c.toNat ≠ 61 ∧ c.toNat ≠ 38 ∧ c.toNat ≠ 124 ∧ c.toNat ≠ 46

theorem sk_prefix {r2 r3 : List UInt8} : ∀ (r1 : List UInt8) (b : Bool), sk b (r1 ++ r2) < r1.length → sk b (r1 ++ r3) = sk b (r1 ++ r2)
  | [], b, h => by simp at h
  | c :: r1, false, h => by
    simp only [List.cons_append, sk, List.length_cons] at h ⊢
    split
    · rename_i h1; rw [if_pos h1] at h; rw [sk_prefix (r2 := r2) (r3 := r3) r1 false (by omega)]
    · rename_i h1; rw [if_neg h1] at h
      split
      · rename_i h2; rw [if_pos h2] at h; rw [sk_prefix (r2 := r2) (r3 := r3) r1 true (by omega)]
      · rfl
  | c :: r1, true, h => by
    simp only [List.cons_append, sk, List.length_cons] at h ⊢
    split
    · rename_i h1; rw [if_pos h1] at h; rw [sk_prefix (r2 := r2) (r3 := r3) r1 false (by omega)]
    · rename_i h1; rw [if_neg h1] at h; rw [sk_prefix (r2 := r2) (r3 := r3) r1 true (by omega)]
theorem sk_nil {r2 : List UInt8} : ∀ (r1 : List UInt8) (b : Bool), sk b (r1 ++ r2) ≤ r1.length → sk b r1 = sk b (r1 ++ r2)
  | [], b, h => by
    simp only [List.length_nil, Nat.le_zero] at h
    rw [h]; cases b <;> rfl
  | c :: r1, false, h => by
    simp only [List.cons_append, sk, List.length_cons] at h ⊢
    split
    · rename_i h1; rw [if_pos h1] at h; rw [sk_nil (r2 := r2) r1 false (by omega)]
    · rename_i h1; rw [if_neg h1] at h
      split
      · rename_i h2; rw [if_pos h2] at h; rw [sk_nil (r2 := r2) r1 true (by omega)]
      · rfl
  | c :: r1, true, h => by
    simp only [List.cons_append, sk, List.length_cons] at h ⊢
    split
    · rename_i h1; rw [if_pos h1] at h; rw [sk_nil (r2 := r2) r1 false (by omega)]
    · rename_i h1; rw [if_neg h1] at h; rw [sk_nil (r2 := r2) r1 true (by omega)]
/-- Skipping that stops at what stands behind, and not in a comment. -/
theorem sk_at {v w : List UInt8} (hv : v ≠ []) : ∀ (r : List UInt8) (b : Bool), sk b (r ++ v) = r.length → sk b (r ++ w) = r.length + sk false w
  | [], false, h => by simp
  | [], true, h => by
    cases v with
    | nil => exact absurd rfl hv
    | cons c v => simp only [List.nil_append, sk, List.length_nil] at h; split at h <;> omega
  | c :: r1, false, h => by
    simp only [List.cons_append, sk, List.length_cons] at h ⊢
    split
    · rename_i h1; rw [if_pos h1] at h; rw [sk_at hv r1 false (by omega)]; omega
    · rename_i h1; rw [if_neg h1] at h
      split
      · rename_i h2; rw [if_pos h2] at h; rw [sk_at hv r1 true (by omega)]; omega
      · rename_i h2; rw [if_neg h2] at h; omega
  | c :: r1, true, h => by
    simp only [List.cons_append, sk, List.length_cons] at h ⊢
    split
    · rename_i h1; rw [if_pos h1] at h; rw [sk_at hv r1 false (by omega)]; omega
    · rename_i h1; rw [if_neg h1] at h; rw [sk_at hv r1 true (by omega)]; omega
/-- Skipping to the end, and then a line feed. -/
theorem sk_lf {w : List UInt8} : ∀ (r : List UInt8) (b : Bool), sk b r = r.length → sk b (r ++ 10 :: w) = r.length + 1 + sk false w
  | [], false, h => by simp [sk, isBlank]
  | [], true, h => by simp [sk]
  | c :: r1, false, h => by
    simp only [List.cons_append, sk, List.length_cons] at h ⊢
    split
    · rename_i h1; rw [if_pos h1] at h; rw [sk_lf r1 false (by omega)]; omega
    · rename_i h1; rw [if_neg h1] at h
      split
      · rename_i h2; rw [if_pos h2] at h; rw [sk_lf r1 true (by omega)]; omega
      · rename_i h2; rw [if_neg h2] at h; omega
  | c :: r1, true, h => by
    simp only [List.cons_append, sk, List.length_cons] at h ⊢
    split
    · rename_i h1; rw [if_pos h1] at h; rw [sk_lf r1 false (by omega)]; omega
    · rename_i h1; rw [if_neg h1] at h; rw [sk_lf r1 true (by omega)]; omega
theorem tw {p : UInt8 → Bool} {r2 r3 : List UInt8} (h3 : r3 = [] ∨ ∃ c r, r3 = c :: r ∧ p c = false) : ∀ r1 : List UInt8, ((r1 ++ r2).takeWhile p).length ≤ r1.length → (r1 ++ r3).takeWhile p = (r1 ++ r2).takeWhile p
  | [], h => by
    simp only [List.nil_append, List.length_nil, Nat.le_zero] at h
    rw [List.nil_append, List.nil_append, List.eq_nil_of_length_eq_zero h]
    rcases h3 with rfl | ⟨c, r, rfl, hc⟩
    · rfl
    · simp [List.takeWhile_cons, hc]
  | c :: r1, h => by
    simp only [List.cons_append, List.takeWhile_cons] at h ⊢
    split
    · rename_i h1; rw [if_pos h1] at h; rw [tw h3 r1 (by simpa using h)]
    · rfl
theorem text_tail {r2 r3 : List UInt8} : ∀ (n : Nat) (r1 b s : List UInt8) (left : Nat), r1.length ≤ n → textScan (r1 ++ r2) b = .inr (s, left) → r2.length ≤ left → textScan (r1 ++ r3) b = .inr (s, left - r2.length + r3.length) := by
  intro n
  induction n with
  | zero =>
    intro r1 b s left hn h hl
    obtain rfl := List.eq_nil_of_length_eq_zero (Nat.le_zero.1 hn)
    have := textScan_left _ _ _ _ h
    simp at this; omega
  | succ n ih =>
    intro r1 b s left hn h hl
    cases r1 with
    | nil => have := textScan_left _ _ _ _ h; simp at this; omega
    | cons c r1 =>
      simp only [List.length_cons] at hn
      rw [List.cons_append, textScan_cons] at h
      rw [List.cons_append, textScan_cons]
      split at h
      · cases h
      · rename_i h1
        rw [if_neg h1]
        split at h
        · rename_i h2
          injection h with h; injection h with e1 e2
          rw [if_pos h2, e1]
          simp only [List.length_append] at e2 ⊢
          congr 2; omega
        · rename_i h2
          rw [if_neg h2]
          split at h
          · rename_i h3
            rw [if_pos h3]
            cases r1 with
            | nil =>
              rw [List.nil_append] at h
              split at h
              · cases h
              · split at h
                · cases h
                · have := textScan_left _ _ _ _ h
                  simp at hl; omega
            | cons d r1 =>
              simp only [List.cons_append] at h ⊢
              split at h
              · cases h
              · exact ih r1 _ _ _ (by simp at hn; omega) h hl
          · rename_i h3
            rw [if_neg h3]
            split at h
            · cases h
            · rename_i h4
              rw [if_neg h4]
              exact ih r1 _ _ _ (by omega) h hl
/-- A text's error is still there before a line feed. -/
theorem text_lf {w : List UInt8} : ∀ (n : Nat) (r b : List UInt8) (e : Nat), r.length ≤ n → textScan r b = .inl e → textScan (r ++ 10 :: w) b = .inl e := by
  intro n
  induction n with
  | zero =>
    intro r b e hn h
    obtain rfl := List.eq_nil_of_length_eq_zero (Nat.le_zero.1 hn)
    rw [List.nil_append, textScan_cons]
    rw [textScan_nil] at h
    split at h
    · rename_i h1; rw [if_pos h1]; exact h
    · rename_i h1; rw [if_neg h1, if_neg (by decide), if_neg (by decide), if_pos (by decide)]; exact h
  | succ n ih =>
    intro r b e hn h
    cases r with
    | nil => exact ih [] b e (by simp) h
    | cons c r =>
      simp only [List.length_cons] at hn
      rw [textScan_cons] at h
      rw [List.cons_append, textScan_cons]
      split at h
      · rename_i h1; rw [if_pos h1]; exact h
      · rename_i h1
        rw [if_neg h1]
        split at h
        · cases h
        · rename_i h2
          rw [if_neg h2]
          split at h
          · rename_i h3
            rw [if_pos h3]
            cases r with
            | nil =>
              simp only [List.nil_append]
              rw [show esc 10 = none from by decide]
              exact h
            | cons d r =>
              simp only [List.cons_append] at h ⊢
              split at h
              · exact h
              · exact ih r _ _ (by simp at hn; omega) h
          · rename_i h3
            rw [if_neg h3]
            split at h
            · rename_i h4; rw [if_pos h4]; exact h
            · rename_i h4
              rw [if_neg h4]
              exact ih r _ _ (by omega) h
theorem signs2_second : ∀ x ∈ signs2, ∃ a b, x = [a, b] ∧ (b.toNat = 62 ∨ b.toNat = 61 ∨ b.toNat = 38 ∨ b.toNat = 124 ∨ b.toNat = 46) := by
  intro x hx
  simp only [signs2, List.mem_cons, List.not_mem_nil, or_false] at hx
  rcases hx with rfl | rfl | rfl | rfl | rfl | rfl | rfl | rfl | rfl <;> exact ⟨_, _, rfl, by decide⟩
/-- The signs of two bytes ahead of two lists that agree in what counts. -/
theorem find_signs2 {l1 l2 : List UInt8} (h : ∀ x ∈ signs2, x.isPrefixOf l1 = x.isPrefixOf l2) : signs2.find? (·.isPrefixOf l1) = signs2.find? (·.isPrefixOf l2) := by
  have : ∀ s : List (List UInt8), (∀ x ∈ s, x.isPrefixOf l1 = x.isPrefixOf l2) → s.find? (·.isPrefixOf l1) = s.find? (·.isPrefixOf l2) := by
    intro s
    induction s with
    | nil => intro _; rfl
    | cons a s ih =>
      intro h
      rw [List.find?_cons, List.find?_cons, h a (by simp), ih (fun x hx => h x (by simp [hx]))]
  exact this _ h
theorem sign_alone {c : UInt8} {w : List UInt8} (hw : Stops w) : ∀ x ∈ signs2, x.isPrefixOf (c :: w) = false := by
  intro x hx
  obtain ⟨a, b, rfl, hb⟩ := signs2_second x hx
  rcases hw with rfl | ⟨d, r, rfl, _, h1, h2, h3, h4, h5⟩
  · simp [List.isPrefixOf]
  · have : b ≠ d := fun e => by subst e; omega
    simp [List.isPrefixOf, this]
theorem sign_tail {r1 r2 r3 s : List UInt8} (h : signAt (r1 ++ r2) = some s) (hl : s.length ≤ r1.length) (h3 : Stops r3) : signAt (r1 ++ r3) = some s := by
  have hp := signAt_length h
  match r1, hl with
  | [], hl => simp at hl; subst hl; simp at hp
  | [c], hl =>
    unfold signAt at h
    split at h
    · rename_i p hf
      injection h with h; subst h
      obtain ⟨a, b, rfl, _⟩ := signs2_second p (List.mem_of_find?_eq_some hf)
      simp at hl
    · simp only [List.cons_append, List.nil_append] at h
      unfold signAt
      have : signs2.find? (·.isPrefixOf ([c] ++ r3)) = none := by
        rw [List.find?_eq_none]
        intro x hx
        simp [sign_alone h3 x hx]
      rw [this]
      exact h
  | c :: d :: r1, hl =>
    unfold signAt at h ⊢
    rw [find_signs2 (l2 := (c :: d :: r1) ++ r2) (fun x hx => by
      obtain ⟨a, b, rfl, _⟩ := signs2_second x hx
      simp [List.isPrefixOf])]
    exact h
theorem sign_lf {r w : List UInt8} (h : signAt r = none) (hr : r ≠ []) : signAt (r ++ 10 :: w) = none := by
  have h10 : Stops (10 :: w) := .inr ⟨_, _, rfl, by decide⟩
  match r, hr with
  | [c], _ =>
    unfold signAt at h ⊢
    have : signs2.find? (·.isPrefixOf ([c] ++ 10 :: w)) = none := by
      rw [List.find?_eq_none]
      intro x hx
      have := sign_alone (c := c) h10 x hx
      simp [this]
    rw [this]
    split at h
    · cases h
    · exact h
  | c :: d :: r, _ =>
    unfold signAt at h ⊢
    rw [find_signs2 (l2 := c :: d :: r) (fun x hx => by
      obtain ⟨a, b, rfl, _⟩ := signs2_second x hx
      simp [List.isPrefixOf])]
    exact h

theorem drop_app {u v : List UInt8} {k : Nat} (h : k ≤ u.length) : (u ++ v).drop k = u.drop k ++ v := by
  rw [List.drop_append_of_le_length h]
theorem span_tail {u v w : List UInt8} {k : Nat} (hk : k ≤ u.length) (he : spanTo isWord (u ++ v) k ≤ u.length) (hw : Stops w) : spanTo isWord (u ++ w) k = spanTo isWord (u ++ v) k := by
  have h3 : w = [] ∨ ∃ c r, w = c :: r ∧ isWord c = false := hw.imp id (fun ⟨c, r, h1, h2, _⟩ => ⟨c, r, h1, h2⟩)
  simp only [spanTo, drop_app hk] at he ⊢
  rw [tw (r2 := v) h3 (u.drop k) (by simp only [List.length_drop]; omega)]
theorem take_tail {u v w : List UInt8} {k z : Nat} (h : z ≤ u.length) : ((u ++ w).take z).drop k = ((u ++ v).take z).drop k := by
  rw [List.take_append_of_le_length h, List.take_append_of_le_length h]
/-- What stands behind a token's end does not matter. -/
theorem lexOne_tail {u v w : List UInt8} {k e2 : Nat} {t : Tok} (h : lexOne (u ++ v) k = .inr (t, e2)) (he : e2 ≤ u.length) (hw : Stops w) : lexOne (u ++ w) k = .inr (t, e2) := by
  have hp := lexOne_pos h
  have hget : ∀ x : List UInt8, (u ++ x)[k]? = u[k]? := fun x => List.getElem?_append_left (by omega)
  unfold lexOne at h ⊢
  rw [hget] at h ⊢
  split at h
  · cases h
  · rename_i c hc
    simp only
    split at h
    · rename_i hL
      rw [if_pos hL]
      simp only at h ⊢
      split at h
      · cases h
      · rename_i h5
        injection h with h; injection h with h6 h7
        have h8 := span_tail (w := w) (by omega) (by omega : spanTo isWord (u ++ v) k ≤ u.length) hw
        rw [h8, if_neg h5, take_tail (v := v) (by omega), h6, h7]
    · rename_i hL
      rw [if_neg hL]
      split at h
      · rename_i hD
        rw [if_pos hD]
        simp only at h ⊢
        split at h
        · rename_i n hn
          injection h with h; injection h with h6 h7
          have h8 := span_tail (w := w) (by omega) (by omega : spanTo isWord (u ++ v) k ≤ u.length) hw
          rw [h8, take_tail (v := v) (by omega), hn]
          simp only
          rw [h6, h7]
        · cases h
      · rename_i hD
        rw [if_neg hD]
        split at h
        · rename_i hT
          rw [if_pos hT]
          split at h
          · cases h
          · rename_i b left hsc
            injection h with h; injection h with h6 h7
            rw [drop_app (by omega)] at hsc
            have h9 := textScan_left _ _ _ _ hsc
            simp only [List.length_append, List.length_drop] at h7 h9
            have := text_tail (r3 := w) _ _ _ _ _ (Nat.le_refl _) hsc (by omega)
            rw [drop_app (by omega), this]
            simp only
            rw [h6]
            congr 2
            simp only [List.length_append]
            omega
        · rename_i hT
          rw [if_neg hT]
          split at h
          · rename_i s hs
            injection h with h; injection h with h6 h7
            rw [drop_app (by omega)] at hs
            have := sign_tail (r3 := w) hs (by simp only [List.length_drop]; omega) hw
            rw [drop_app (by omega), this]
            simp only
            rw [h6, h7]
          · cases h
/-- An error is still there before a line feed. -/
theorem lexOne_lf {a w : List UInt8} {k e : Nat} (hk : k < a.length) (h : lexOne a k = .inl e) : lexOne (a ++ 10 :: w) k = .inl e := by
  have h10 : Stops (10 :: w) := .inr ⟨_, _, rfl, by decide⟩
  have hsp : spanTo isWord (a ++ 10 :: w) k = spanTo isWord a k := by
    have := span_tail (v := []) (w := 10 :: w) (k := k) (u := a) (by omega) (by rw [List.append_nil]; exact spanTo_le _ _ _ (by omega)) h10
    rwa [List.append_nil] at this
  have htk : ((a ++ 10 :: w).take (spanTo isWord a k)).drop k = (a.take (spanTo isWord a k)).drop k := by
    have := take_tail (u := a) (v := []) (w := 10 :: w) (k := k) (spanTo_le isWord a k (by omega))
    rwa [List.append_nil] at this
  unfold lexOne at h ⊢
  rw [List.getElem?_append_left hk]
  split at h
  · rename_i hc; have := List.getElem?_eq_none_iff.1 hc; omega
  · rename_i c hc
    simp only
    split at h
    · rename_i hL
      rw [if_pos hL]
      simp only at h ⊢
      rw [hsp]
      split at h
      · rename_i h5; rw [if_pos h5]; exact h
      · cases h
    · rename_i hL
      rw [if_neg hL]
      split at h
      · rename_i hD
        rw [if_pos hD]
        simp only at h ⊢
        rw [hsp, htk]
        split at h
        · cases h
        · exact h
      · rename_i hD
        rw [if_neg hD]
        split at h
        · rename_i hT
          rw [if_pos hT, drop_app (by omega)]
          split at h
          · rename_i e' hsc
            rw [text_lf _ _ _ _ (Nat.le_refl _) hsc]; exact h
          · cases h
        · rename_i hT
          rw [if_neg hT, drop_app (by omega)]
          split at h
          · cases h
          · rename_i hs
            rw [sign_lf hs (fun h => by have := congrArg List.length h; simp at this; omega)]; exact h

/-! ### a prefix moves all -/
def shTok (n : Nat) (t : Tok) : Tok := ⟨t.kind, t.at_ + n, t.s, t.n⟩
def shJ (n : Nat) : Sum (Nat × Nat) (List Tok) → Sum (Nat × Nat) (List Tok)
  | .inl (k, e) => .inl (n + k, e)
  | .inr ts => .inr (ts.map (shTok n))
theorem drop_pre (p l : List UInt8) (k : Nat) : (p ++ l).drop (p.length + k) = l.drop k := by
  rw [List.drop_append, List.drop_eq_nil_of_le (by omega), List.nil_append]; congr 1; omega
theorem span_shift (f : UInt8 → Bool) (p l : List UInt8) (k : Nat) : spanTo f (p ++ l) (p.length + k) = p.length + spanTo f l k := by
  simp only [spanTo, drop_pre]; omega
theorem skip_shift (p l : List UInt8) (k : Nat) : skipTo (p ++ l) (p.length + k) = p.length + skipTo l k := by
  simp only [skipTo, drop_pre]; omega
theorem lexOne_shift (p l : List UInt8) (k : Nat) : lexOne (p ++ l) (p.length + k) = match lexOne l k with
    | .inl e => .inl e
    | .inr (t, e2) => .inr (shTok p.length t, p.length + e2) := by
  unfold lexOne
  rw [List.getElem?_append_right (by omega), show p.length + k - p.length = k by omega]
  split
  · rfl
  · rename_i c hc
    have hk : k < l.length := (List.getElem?_eq_some_iff.1 hc).1
    have htk : ((p ++ l).take (p.length + spanTo isWord l k)).drop (p.length + k) = (l.take (spanTo isWord l k)).drop k := by
      rw [List.take_append, List.take_of_length_le (by omega), show p.length + spanTo isWord l k - p.length = spanTo isWord l k by omega, drop_pre]
    split
    · simp only [span_shift]
      rw [show p.length + spanTo isWord l k - (p.length + k) = spanTo isWord l k - k by omega, htk]
      split <;> simp [shTok]; omega
    · split
      · simp only [span_shift, htk]
        split <;> simp [shTok]; omega
      · split
        · rw [show p.length + k + 1 = p.length + (k + 1) by omega, drop_pre]
          split
          · rfl
          · rename_i b left hsc
            have := textScan_left _ _ _ _ hsc
            simp only [List.length_drop] at this
            simp [shTok]; omega
        · rw [drop_pre]
          split <;> simp [shTok]; omega
theorem lexJ_shift (p l : List UInt8) : ∀ (n k : Nat), l.length - k ≤ n → lexJ (p ++ l) (p.length + k) = shJ p.length (lexJ l k) := by
  intro n
  induction n with
  | zero =>
    intro k hn
    rw [lexJ_end (by simp; omega), lexJ_end (by omega)]
    simp [shJ, shTok]; omega
  | succ n ih =>
    intro k hn
    by_cases hkl : k < l.length
    · have hs := lexOne_shift p l k
      cases hone : lexOne l k with
      | inl e =>
        rw [hone] at hs
        rw [lexJ_bad (by simp; omega) hs, lexJ_bad hkl hone]; rfl
      | inr x =>
        obtain ⟨t, e2⟩ := x
        rw [hone] at hs
        have hp := lexOne_pos hone
        have hge := skipTo_ge l e2
        rw [lexJ_one hs, lexJ_one hone, skip_shift, ih _ (by omega)]
        cases lexJ l (skipTo l e2) with
        | inl x => rfl
        | inr ts => simp [addAll, shJ]
    · rw [lexJ_end (by simp; omega), lexJ_end (by omega)]
      simp [shJ, shTok]; omega

/-! ### runs -/
/-- Lexing from j, behind a token's end. -/
def J (l : List UInt8) (j : Nat) : Sum (Nat × Nat) (List Tok) := lexJ l (skipTo l j)
theorem J_shift (p l : List UInt8) (k : Nat) : J (p ++ l) (p.length + k) = shJ p.length (J l k) := by
  unfold J; rw [skip_shift, lexJ_shift p l _ _ (Nat.le_refl _)]
theorem lex_J {l : List UInt8} (h : l.length ≤ 65536) : lex l = J l 0 := by unfold lex J; rw [if_neg (by omega)]
inductive Run (l : List UInt8) : Nat → List Tok → Nat → Prop
  | nil (j : Nat) : Run l j [] j
  | cons {j e2 k : Nat} {t : Tok} {ts : List Tok} (h1 : lexOne l (skipTo l j) = .inr (t, e2)) (h2 : Run l e2 ts k) : Run l j (t :: ts) k
theorem Run.le {l : List UInt8} {j k : Nat} {ts : List Tok} (h : Run l j ts k) : j ≤ k := by
  induction h with
  | nil => omega
  | @cons j e2 k t ts h1 _ ih => have := lexOne_pos h1; have := skipTo_ge l j; omega
theorem Run.lt {l : List UInt8} {j k : Nat} {ts : List Tok} (h : Run l j ts k) (hj : j ≤ l.length) : k ≤ l.length := by
  induction h with
  | nil => omega
  | cons h1 _ ih => have := lexOne_pos h1; exact ih (by omega)
theorem Run.J {l : List UInt8} {j k : Nat} {ts : List Tok} (h : Run l j ts k) : J l j = addAll ts (J l k) := by
  induction h with
  | nil => cases Lex.J l ‹_› <;> rfl
  | @cons j e2 k t ts h1 _ ih =>
    have : Lex.J l j = addAll [t] (Lex.J l e2) := lexJ_one h1
    rw [this, ih, ← addAll_addAll]; rfl
theorem Run.trans {l : List UInt8} {j k m : Nat} {ts us : List Tok} (h : Run l j ts k) (h2 : Run l k us m) : Run l j (ts ++ us) m := by
  induction h with
  | nil => exact h2
  | cons h1 _ ih => exact .cons h1 (ih h2)
/-- A run goes on the same, whatever stands behind. -/
theorem Run.tail {u v w : List UInt8} (hw : Stops w) {j k : Nat} {ts : List Tok} (h : Run (u ++ v) j ts k) (hk : k ≤ u.length) : Run (u ++ w) j ts k := by
  induction h with
  | nil => exact .nil _
  | @cons j e2 k t ts h1 h2 ih =>
    have hp := lexOne_pos h1
    have hle := h2.le
    have hge := skipTo_ge (u ++ v) j
    have hs : skipTo (u ++ w) j = skipTo (u ++ v) j := by
      simp only [skipTo] at hp hge ⊢
      rw [drop_app (by omega)] at hp ⊢
      rw [drop_app (by omega), sk_prefix (r2 := v) (r3 := w) (u.drop j) false (by simp only [List.length_drop]; omega)]
    refine .cons (t := t) (e2 := e2) ?_ (ih hk)
    rw [hs]
    exact lexOne_tail h1 (by omega) hw
theorem J_ok {l : List UInt8} : ∀ (n j : Nat) (ts : List Tok), l.length - j ≤ n → j ≤ l.length → J l j = .inr ts → ∀ i, i < ts.length → ∃ k t, Run l j (ts.take i) k ∧ ts[i]? = some t ∧ k ≤ l.length ∧ (skipTo l k : Int) = t.at_ ∧ J l k = .inr (ts.drop i) ∧ (i + 1 = ts.length → ts = ts.take i ++ [⟨5, l.length, [], 0⟩] ∧ skipTo l k = l.length) ∧ (i + 1 < ts.length → skipTo l k < l.length) := by
  intro n
  induction n with
  | zero =>
    intro j ts hn hj h i hi
    have hge := skipTo_ge l j
    have hle := skipTo_le l j hj
    have h0 := h
    unfold J at h
    rw [lexJ_end (by omega)] at h
    injection h with h; subst h
    obtain rfl : i = 0 := by simp at hi; omega
    exact ⟨j, _, .nil j, rfl, hj, by simp; omega, h0, fun _ => ⟨rfl, by omega⟩, fun h => by simp at h⟩
  | succ n ih =>
    intro j ts hn hj h i hi
    have hge := skipTo_ge l j
    have hle := skipTo_le l j hj
    have h0 := h
    unfold J at h
    by_cases hkl : skipTo l j < l.length
    · cases hone : lexOne l (skipTo l j) with
      | inl e => rw [lexJ_bad hkl hone] at h; cases h
      | inr x =>
        obtain ⟨t, e2⟩ := x
        have hp := lexOne_pos hone
        rw [lexJ_one hone] at h
        change addAll [t] (J l e2) = .inr ts at h
        cases hr : J l e2 with
        | inl p => rw [hr] at h; cases h
        | inr ts' =>
          rw [hr] at h
          injection h with h; subst h
          cases i with
          | zero =>
            refine ⟨j, t, .nil j, rfl, hj, ?_, h0, fun hl => ?_, fun _ => hkl⟩
            · have : t.at_ = (skipTo l j : Nat) := by
                unfold lexOne at hone
                split at hone
                · cases hone
                · split at hone
                  · simp only at hone
                    split at hone
                    · cases hone
                    · injection hone with hone; injection hone with hone _; rw [← hone]
                  · split at hone
                    · simp only at hone
                      split at hone
                      · injection hone with hone; injection hone with hone _; rw [← hone]
                      · cases hone
                    · split at hone
                      · split at hone
                        · cases hone
                        · injection hone with hone; injection hone with hone _; rw [← hone]
                      · split at hone
                        · injection hone with hone; injection hone with hone _; rw [← hone]
                        · cases hone
              rw [this]
            · simp only [List.cons_append, List.nil_append, List.length_cons] at hl
              have : ts' ≠ [] := by
                intro e; subst e
                unfold J at hr
                have hx : ∀ (n k : Nat), l.length - k ≤ n → lexJ l k ≠ .inr [] := by
                  intro n
                  induction n with
                  | zero => intro k hn; rw [lexJ_end (by omega)]; simp
                  | succ n ih2 =>
                    intro k hn
                    by_cases hk : k < l.length
                    · cases ho : lexOne l k with
                      | inl e => rw [lexJ_bad hk ho]; simp
                      | inr y =>
                        obtain ⟨t2, e3⟩ := y
                        rw [lexJ_one ho]
                        cases lexJ l (skipTo l e3) <;> simp [addAll]
                    · rw [lexJ_end (by omega)]; simp
                exact hx _ _ (Nat.le_refl _) hr
              have : 0 < ts'.length := List.length_pos_iff.2 this
              omega
          | succ i =>
            obtain ⟨k, t2, h1, h2, h3, h4, h5, h6, h7⟩ := ih e2 ts' (by omega) hp.2 hr i (by simpa using hi)
            refine ⟨k, t2, .cons hone h1, by simpa using h2, h3, h4, by simpa using h5, fun hl => ?_, fun hl => h7 (by simpa using hl)⟩
            obtain ⟨h8, h9⟩ := h6 (by simpa using hl)
            refine ⟨?_, h9⟩
            conv => lhs; rw [h8]
            simp
    · rw [lexJ_end (by omega)] at h
      injection h with h; subst h
      obtain rfl : i = 0 := by simp at hi; omega
      exact ⟨j, _, .nil j, rfl, hj, by simp; omega, h0, fun _ => ⟨rfl, by omega⟩, fun h => by simp at h⟩
theorem J_bad {l : List UInt8} : ∀ (n j p e : Nat), l.length - j ≤ n → j ≤ l.length → J l j = .inl (p, e) → ∃ k ts, Run l j ts k ∧ k ≤ l.length ∧ skipTo l k = p ∧ p < l.length ∧ lexOne l p = .inl e := by
  intro n
  induction n with
  | zero =>
    intro j p e hn hj h
    have hge := skipTo_ge l j
    unfold J at h
    rw [lexJ_end (by omega)] at h
    cases h
  | succ n ih =>
    intro j p e hn hj h
    have hge := skipTo_ge l j
    unfold J at h
    by_cases hkl : skipTo l j < l.length
    · cases hone : lexOne l (skipTo l j) with
      | inl e' =>
        rw [lexJ_bad hkl hone] at h
        injection h with h; injection h with h1 h2; subst h1; subst h2
        exact ⟨j, [], .nil j, hj, rfl, hkl, hone⟩
      | inr x =>
        obtain ⟨t, e2⟩ := x
        have hp := lexOne_pos hone
        rw [lexJ_one hone] at h
        change addAll [t] (J l e2) = .inl (p, e) at h
        cases hr : J l e2 with
        | inr ts' => rw [hr] at h; cases h
        | inl x =>
          rw [hr] at h
          injection h with h; subst h
          obtain ⟨k, ts, h1, h2, h3, h4, h5⟩ := ih e2 p e (by omega) hp.2 hr
          exact ⟨k, _, .cons hone h1, h2, h3, h4, h5⟩
    · rw [lexJ_end (by omega)] at h; cases h
theorem J_ne {l : List UInt8} {j : Nat} : J l j ≠ .inr [] := by
  unfold J
  have hx : ∀ (n k : Nat), l.length - k ≤ n → lexJ l k ≠ .inr [] := by
    intro n
    induction n with
    | zero => intro k hn; rw [lexJ_end (by omega)]; simp
    | succ n ih2 =>
      intro k hn
      by_cases hk : k < l.length
      · cases ho : lexOne l k with
        | inl e => rw [lexJ_bad hk ho]; simp
        | inr y =>
          obtain ⟨t2, e3⟩ := y
          rw [lexJ_one ho]
          cases lexJ l (skipTo l e3) <;> simp [addAll]
      · rw [lexJ_end (by omega)]; simp
  exact hx _ _ (Nat.le_refl _)
end Go.Shadow.Lex
