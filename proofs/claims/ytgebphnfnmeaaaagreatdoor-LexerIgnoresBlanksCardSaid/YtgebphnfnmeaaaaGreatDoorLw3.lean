/- Proved: what the lexer's next and Tokens do, as shadow contracts. Conditions: sources of at most 70000 bytes. -/
import Derived.Test.YtgebphnfnmeaaaaGreatDoorLw2
namespace Go.Shadow.Lex
open Go Go.RowKit Go.Proofs

def NextPost (σ0 σ : St) (b : Nat) (src : List UInt8) (toks : List Tok) (res : Sum Nat (Tok × Nat)) (e : SEnd) (σ' : St) : Prop := match res with
  | .inl n => σ' = σ ∧ e = .ret (.int .i64 n) ∧ n ≠ 0
  | .inr (t, e2) => e = .ret (.int .i64 0) ∧ Rd σ0 σ' b src e2 (toks ++ [t])

theorem next_call {σ0 σ : St} {b : Nat} {src : List UInt8} {k : Nat} {toks : List Tok} {c : UInt8} (hr : Rd σ0 σ b src k toks) (hn : toks.length ≤ 70000) (hs : src.length ≤ 70000) (hc : src[k]? = some c) :
    SCall Tryz.prog LG 21 [.loc b 0] σ (NextPost σ0 σ b src toks (lexOne src k)) := by
  refine code21.call hm (by simp) ?_
  refine ⟨fun m sl σ1 => σ1 = σ ∧ ∃ j : Nat, sl = ofL [(0, some (.loc b 0)), (7, some (.agg [.func 32 [] [], .func 33 [] [], .func 34 [] [], .func 35 [] []])), (8, some (.int .i64 j))] ∧ j ≤ 4 ∧
      (1 ≤ j → isLetter c = false) ∧ (2 ≤ j → isDigit c = false) ∧ (3 ≤ j → c.toNat ≠ 34) ∧ (4 ≤ j → signAt (src.drop k) = none) ∧ m = 4 - j, _, ⟨rfl, 0, rfl, by omega, fun h => by omega, fun h => by omega, fun h => by omega, fun h => by omega, rfl⟩, ?_⟩
  rintro m sl σ1 ⟨rfl, j, rfl, hj, h1, h2, h3, h4, rfl⟩
  simp only [lexOne, hc]
  obtain rfl | rfl | rfl | rfl | rfl : j = 0 ∨ j = 1 ∨ j = 2 ∨ j = 3 ∨ j = 4 := by omega
  · refine Test.yes (by omega) ?_
    refine ⟨by omega, by omega, by simp, ?_⟩
    refine CallK.mk' (name_call hr hn hs hc) ?_
    intro e σ' h
    by_cases hL : isLetter c = true
    · rw [if_pos hL] at h
      by_cases h5 : 32 < spanTo isWord src k - k
      · rw [if_pos h5] at h
        obtain ⟨rfl, rfl⟩ := h
        refine Ret.mk' ?_
        rw [if_pos hL, if_pos h5]
        exact ⟨rfl, rfl, by omega⟩
      · rw [if_neg h5] at h
        obtain ⟨rfl, h⟩ := h
        refine Ret.mk' ?_
        rw [if_pos hL, if_neg h5]
        exact ⟨rfl, h⟩
    · rw [if_neg hL] at h
      obtain ⟨rfl, rfl⟩ := h
      refine Arith.i64 ((1 : Nat) : Int) (by simp) (by omega) ?_
      exact ⟨_, _, by omega, Forget.refl _, rfl, 1, rfl, by omega, fun _ => by simpa using hL, fun h => by omega, fun h => by omega, fun h => by omega, rfl⟩
  · have hL := h1 (by omega)
    refine Test.yes (by omega) ?_
    refine ⟨by omega, by omega, by simp, ?_⟩
    refine CallK.mk' (number_call hr hn hs hc) ?_
    intro e σ' h
    by_cases hD : isDigit c = true
    · rw [if_pos ⟨hL, hD⟩] at h
      rw [if_neg (by simp [hL]), if_pos hD]
      cases hv : numVal ((src.take (spanTo isWord src k)).drop k) with
      | none =>
        rw [hv] at h
        obtain ⟨rfl, rfl⟩ := h
        refine Ret.mk' ?_
        exact ⟨rfl, rfl, by omega⟩
      | some n =>
        rw [hv] at h
        obtain ⟨rfl, h⟩ := h
        refine Ret.mk' ?_
        exact ⟨rfl, h⟩
    · rw [if_neg (by simp [hD])] at h
      obtain ⟨rfl, rfl⟩ := h
      refine Arith.i64 ((2 : Nat) : Int) (by simp) (by omega) ?_
      exact ⟨_, _, by omega, Forget.refl _, rfl, 2, rfl, by omega, fun _ => hL, fun _ => by simpa using hD, fun h => by omega, fun h => by omega, rfl⟩
  · have hL := h1 (by omega)
    have hD := h2 (by omega)
    refine Test.yes (by omega) ?_
    refine ⟨by omega, by omega, by simp, ?_⟩
    refine CallK.mk' (text_call hr hn hs hc) ?_
    intro e σ' h
    rw [if_neg (by simp [hL]), if_neg (by simp [hD])]
    by_cases hT : c.toNat = 34
    · rw [if_pos hT] at h
      rw [if_pos hT]
      cases hv : textScan (src.drop (k + 1)) [] with
      | inl n =>
        rw [hv] at h
        obtain ⟨rfl, rfl, h0⟩ := h
        refine Ret.mk' ?_
        exact ⟨rfl, rfl, h0⟩
      | inr x =>
        rw [hv] at h
        obtain ⟨rfl, h⟩ := h
        refine Ret.mk' ?_
        exact ⟨rfl, h⟩
    · rw [if_neg hT] at h
      obtain ⟨rfl, rfl⟩ := h
      refine Arith.i64 ((3 : Nat) : Int) (by simp) (by omega) ?_
      exact ⟨_, _, by omega, Forget.refl _, rfl, 3, rfl, by omega, fun _ => hL, fun _ => hD, fun _ => hT, fun h => by omega, rfl⟩
  · have hL := h1 (by omega)
    have hD := h2 (by omega)
    have hT := h3 (by omega)
    refine Test.yes (by omega) ?_
    refine ⟨by omega, by omega, by simp, ?_⟩
    refine CallK.mk' (sign_call hr hn hs hc) ?_
    intro e σ' h
    rw [if_neg (by simp [hL]), if_neg (by simp [hD]), if_neg hT]
    cases hv : signAt (src.drop k) with
    | some s =>
      rw [hv] at h
      obtain ⟨rfl, h⟩ := h
      refine Ret.mk' ?_
      exact ⟨rfl, h⟩
    | none =>
      rw [hv] at h
      obtain ⟨rfl, rfl⟩ := h
      refine Arith.i64 ((4 : Nat) : Int) (by simp) (by omega) ?_
      exact ⟨_, _, by omega, Forget.refl _, rfl, 4, rfl, by omega, fun _ => hL, fun _ => hD, fun _ => hT, fun _ => rfl, rfl⟩
  · have hL := h1 (by omega)
    have hD := h2 (by omega)
    have hT := h3 (by omega)
    have hS := h4 (by omega)
    refine Test.no (by omega) ?_
    refine Ret.mk' ?_
    rw [if_neg (by simp [hL]), if_neg (by simp [hD]), if_neg hT, hS]
    exact ⟨rfl, rfl, by omega⟩

theorem textScan_left : ∀ (r b : List UInt8) (s : List UInt8) (left : Nat), textScan r b = .inr (s, left) → left < r.length := by
  intro r
  induction hn : r.length using Nat.strongRecOn generalizing r with
  | _ n ih =>
    intro b s left h
    cases r with
    | nil => rw [textScan_nil] at h; split at h <;> cases h
    | cons c r =>
      subst hn
      rw [textScan_cons] at h
      split at h
      · cases h
      · split at h
        · injection h with h; injection h with _ h; subst h; simp
        · split at h
          · split at h
            · cases h
            · split at h
              · cases h
              · have := ih _ (by simp; omega) _ rfl _ _ _ h
                simp; omega
          · split at h
            · cases h
            · have := ih _ (by simp) _ rfl _ _ _ h
              simp; omega
theorem isPrefixOf_length {a l : List UInt8} (h : a.isPrefixOf l = true) : a.length ≤ l.length := by
  rw [List.isPrefixOf_iff_prefix] at h; exact h.length_le
theorem signAt_length {r s : List UInt8} (h : signAt r = some s) : 0 < s.length ∧ s.length ≤ r.length := by
  unfold signAt at h
  split at h
  · rename_i p hp
    injection h with h; subst h
    have h1 := List.find?_some hp
    have h2 := List.mem_of_find?_eq_some hp
    have : ∀ x ∈ signs2, 0 < x.length := by decide
    exact ⟨this _ h2, isPrefixOf_length h1⟩
  · split at h
    · cases h
    · split at h
      · injection h with h; subst h; simp
      · cases h
theorem lexOne_pos {l : List UInt8} {k e2 : Nat} {t : Tok} (h : lexOne l k = .inr (t, e2)) : k < e2 ∧ e2 ≤ l.length := by
  unfold lexOne at h
  split at h
  · cases h
  · rename_i c hc
    have hk : k < l.length := (List.getElem?_eq_some_iff.1 hc).1
    have hsp : isWord c = true → k < spanTo isWord l k := fun hw => by
      have := spanTo_step hc hw
      have := spanTo_ge isWord l (k + 1)
      omega
    have hle := spanTo_le isWord l k (by omega)
    split at h
    · rename_i hL
      simp only at h
      split at h
      · cases h
      · injection h with h; injection h with _ h; subst h; exact ⟨hsp (by simp [isWord, hL]), hle⟩
    · split at h
      · rename_i hD
        simp only at h
        split at h
        · injection h with h; injection h with _ h; subst h; exact ⟨hsp (by simp [isWord, hD]), hle⟩
        · cases h
      · split at h
        · split at h
          · cases h
          · rename_i b left hsc
            injection h with h; injection h with _ h; subst h
            have := textScan_left _ _ _ _ hsc
            simp only [List.length_drop] at this
            omega
        · split at h
          · rename_i s hs
            injection h with h; injection h with _ h; subst h
            have := signAt_length hs
            simp only [List.length_drop] at this
            omega
          · cases h

def addAll (acc : List Tok) : Sum (Nat × Nat) (List Tok) → Sum (Nat × Nat) (List Tok)
  | .inl p => .inl p
  | .inr ts => .inr (acc ++ ts)
theorem lexJ_end {l : List UInt8} {k : Nat} (h : l.length ≤ k) : lexJ l k = .inr [⟨5, l.length, [], 0⟩] := by
  rw [lexJ, dif_neg (by omega)]
theorem lexJ_bad {l : List UInt8} {k n : Nat} (h : k < l.length) (h1 : lexOne l k = .inl n) : lexJ l k = .inl (k, n) := by
  rw [lexJ, dif_pos h, h1]
theorem lexJ_one {l : List UInt8} {k e2 : Nat} {t : Tok} (h1 : lexOne l k = .inr (t, e2)) : lexJ l k = addAll [t] (lexJ l (skipTo l e2)) := by
  have h2 := lexOne_pos h1
  have h3 := skipTo_ge l e2
  rw [lexJ, dif_pos (by omega), h1]
  simp only
  rw [dif_pos ⟨h2.1, by omega⟩]
  cases lexJ l (skipTo l e2) <;> rfl
theorem addAll_addAll (a b : List Tok) (x : Sum (Nat × Nat) (List Tok)) : addAll (a ++ b) x = addAll a (addAll b x) := by
  cases x <;> simp [addAll]

def lexRes : Sum (Nat × Nat) (List Tok) → V
  | .inl (a, e) => .tup [.slice .nil 0 [], .agg [.int .i64 a, .int .i64 e]]
  | .inr ts => .tup [.slice .foreign 4 (ts.map tokV), .agg [.int .i64 0, .int .i64 0]]

theorem Weak.foreign (tag : Tag) (s : Nat) (es : List (List V)) : Weak (.slice tag s es) (.slice .foreign s es) := by
  intro B γ w x h
  cases h with
  | slice _ _ _ a cap b o vs hs hl ha ht h1 hc hr => exact .slice _ _ _ _ _ b o vs hs hl ha trivial h1 hc hr
theorem Weak.own {tag : Tag} {z s : Nat} (h : tag = .nil ∨ z = s) (es : List (List V)) : Weak (.slice tag z es) (.slice .foreign s es) := by
  rcases h with rfl | rfl
  · intro B γ w x h
    cases h with
    | slice _ _ _ a cap b o vs hs hl ha ht h1 hc hr =>
      obtain rfl := List.eq_nil_of_length_eq_zero ht.2.1
      exact .slice _ _ _ _ _ b o vs (fun i e h => by simp at h) hl ha trivial h1 hc hr
  · exact Weak.foreign _ _ _
theorem Weak.tup2 {a b c d : V} (h : Weak a c) (k : Weak b d) : Weak (.tup [a, b]) (.tup [c, d]) := by
  intro B γ w x hx
  cases hx with
  | tup _ vs hl hr =>
    refine .tup _ _ hl (fun i x y hx hy => ?_)
    match i, hx with
    | 0, hx => injection hx with hx; subst hx; exact h _ _ _ _ (hr 0 _ _ rfl hy)
    | 1, hx => injection hx with hx; subst hx; exact k _ _ _ _ (hr 1 _ _ rfl hy)
    | i + 2, hx => simp at hx

theorem tokens_ret (src : List UInt8) (hs : src.length ≤ 70000) : SRet Tryz.prog LG 12 [.str src] (lexRes (lex src)) := by
  intro σ
  refine code12.call hm (by simp) ?_
  intro b3 h3
  refine Test.split (fun h => ?_) (fun h => ?_)
  · refine Sure.mk' rfl ?_
    refine Store.mk' [.int .i64 0, .int .i64 2] put_box (Nat.le_of_ble_eq_true rfl) rfl (fun σ2 h2 => ?_)
    subst h2
    refine Load.mk' put_box (Nat.le_of_ble_eq_true rfl) ?_
    rw [put_put]
    refine Ret.weak (r := lexRes (lex src)) (σ' := σ) ?_ (over_put (.refl _) h3) ⟨rfl, rfl⟩
    rw [show lex src = .inl (0, 2) from by unfold lex; rw [if_pos (by omega)]]
    exact .refl _
  · have hlex : lex src = lexJ src (skipTo src 0) := by unfold lex; rw [if_neg (by omega)]
    rw [hlex]
    have ho3 : Over σ (σ.put b3 [.int .i64 0, .int .i64 0]) := over_put (.refl _) h3
    have hb3 : (σ.put b3 [.int .i64 0, .int .i64 0]).box b3 = some [.int .i64 0, .int .i64 0] := put_box
    generalize σ.put b3 [.int .i64 0, .int .i64 0] = σ1 at *
    refine ⟨rfl, ?_⟩
    intro b4 h4
    have hr0 : Rd σ1 (σ1.put b4 [.str src, .int .i64 0, .slice .nil 0 []]) b4 src 0 [] := ⟨over_put (.refl _) h4, h4, .nil, 0, put_box, trivial, .inl rfl⟩
    refine CallK.mk' (skip_call hr0 hs (by omega)) ?_
    rintro e σ2 ⟨rfl, hr2⟩
    refine ⟨fun m sl σ3 => ∃ (k : Nat) (toks : List Tok), sl = ofL [(0, some (.str src)), (3, some (.loc b3 0)), (4, some (.loc b4 0))] ∧ Rd σ1 σ3 b4 src k toks ∧ toks.length ≤ k ∧ k ≤ src.length ∧ addAll toks (lexJ src k) = lexJ src (skipTo src 0) ∧ m = src.length - k, _,
      ⟨skipTo src 0, [], rfl, hr2, by simp, skipTo_le _ _ (by omega), by cases lexJ src (skipTo src 0) <;> rfl, rfl⟩, ?_⟩
    rintro m sl σ3 ⟨k, toks, rfl, hr3, htk, hk, hadd, rfl⟩
    obtain ⟨ho, hf, tag, s', hb, hm', hs'⟩ := id hr3
    rw [← hadd]
    refine Load.mk' hb (by simp) ?_
    refine Test.split (fun h5 => ?_) (fun h5 => ?_)
    · obtain ⟨c, hc⟩ : ∃ c, src[k]? = some c := ⟨src[k]'(by omega), by simp [show k < src.length by omega]⟩
      refine CallK.mk' (next_call hr3 (by omega) hs hc) ?_
      intro e σ4 h6
      cases hone : lexOne src k with
      | inl n =>
        rw [hone] at h6
        obtain ⟨rfl, rfl, h0⟩ := h6
        refine Test.yes (by omega) ?_
        refine Load.mk' hb (by simp) ?_
        refine Sure.mk' rfl ?_
        refine Store.mk' [.int .i64 k, .int .i64 n] (ho.box b3 _ hb3) (Nat.le_of_ble_eq_true rfl) rfl (fun σ5 h7 => ?_)
        subst h7
        refine Load.mk' put_box (Nat.le_of_ble_eq_true rfl) ?_
        refine Ret.weak (r := lexRes (addAll toks (lexJ src k))) (σ' := σ) ?_ ?_ ⟨rfl, rfl⟩
        · rw [lexJ_bad (by omega) hone]; exact .refl _
        · exact over_put ⟨fun b cs h => ho.box b cs (ho3.box b cs h), fun t h => ho.live t (ho3.live t h)⟩ h3
      | inr x =>
        obtain ⟨t, e2⟩ := x
        rw [hone] at h6
        obtain ⟨rfl, hr4⟩ := h6
        have hp := lexOne_pos hone
        have hge := skipTo_ge src e2
        refine Test.no (by omega) ?_
        refine CallK.mk' (skip_call hr4 hs hp.2) ?_
        rintro e σ5 ⟨rfl, hr5⟩
        refine ⟨_, _, ?_, Forget.refl _, skipTo src e2, toks ++ [t], rfl, hr5, by simp; omega, skipTo_le _ _ hp.2, ?_, rfl⟩
        · have := skipTo_le src e2 hp.2; omega
        · rw [lexJ_one hone, addAll_addAll]
    · have hkl : k = src.length := by omega
      refine CallK.mk' (put_call hr3 (by omega) 5 0 src.length []) ?_
      rintro e σ4 ⟨rfl, hr4⟩
      obtain ⟨ho4, _, tag4, z4, hb4, _, hz4⟩ := hr4
      refine Load.mk' hb4 (by simp) ?_
      refine Sure.mk' rfl ?_
      refine Store.mk' [.int .i64 0, .int .i64 0] (ho4.box b3 _ hb3) (Nat.le_of_ble_eq_true rfl) rfl (fun σ5 h7 => ?_)
      subst h7
      refine Load.mk' put_box (Nat.le_of_ble_eq_true rfl) ?_
      refine Ret.weak (r := lexRes (addAll toks (lexJ src k))) (σ' := σ) ?_ ?_ ⟨rfl, rfl⟩
      · rw [lexJ_end (by omega)]
        subst hkl
        simp only [addAll]
        exact Weak.tup2 (Weak.own hz4 _) (.refl _)
      · exact over_put ⟨fun b cs h => ho4.box b cs (ho3.box b cs h), fun t h => ho4.live t (ho3.live t h)⟩ h3
end Go.Shadow.Lex
