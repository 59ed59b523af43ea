/- The specification's Tokens, and the law LexerReadsAsSpecified, as shadow contracts. Conditions: sources of at most 70000 bytes; the law's: none. -/
import Derived.Test.YtgebphnfnmeaaaaGreatDoorLf2
namespace Go.Shadow.Lex
open Go Go.RowKit Go.Proofs

theorem textScan_err : ∀ (r b : List UInt8) (n : Nat), textScan r b = .inl n → n ≠ 0 := by
  intro r
  induction hn : r.length using Nat.strongRecOn generalizing r with
  | _ n ih =>
    intro b m h
    cases r with
    | nil => rw [textScan_nil] at h; split at h <;> (injection h with h; omega)
    | cons c r =>
      subst hn
      rw [textScan_cons] at h
      split at h
      · injection h with h; omega
      · split at h
        · cases h
        · split at h
          · split at h
            · injection h with h; omega
            · split at h
              · injection h with h; omega
              · exact ih _ (by simp; omega) _ rfl _ _ h
          · split at h
            · injection h with h; omega
            · exact ih _ (by simp) _ rfl _ _ h
theorem lexOne_err {l : List UInt8} {k n : Nat} (h : lexOne l k = .inl n) : n ≠ 0 := by
  unfold lexOne at h
  split at h
  · injection h with h; omega
  · split at h
    · simp only at h
      split at h
      · injection h with h; omega
      · cases h
    · split at h
      · simp only at h
        split at h
        · cases h
        · injection h with h; omega
      · split at h
        · split at h
          · rename_i e he
            injection h with h; subst h
            exact textScan_err _ _ _ he
          · cases h
        · split at h
          · cases h
          · injection h with h; omega

theorem lexJ_len {l : List UInt8} : ∀ (n k : Nat) (ts : List Tok), l.length - k ≤ n → k ≤ l.length → lexJ l k = .inr ts → ts.length ≤ l.length - k + 1 := by
  intro n
  induction n with
  | zero =>
    intro k ts hn hk h
    rw [lexJ_end (by omega)] at h
    injection h with h; subst h; simp
  | succ n ih =>
    intro k ts hn hk h
    by_cases hkl : k < l.length
    · cases hone : lexOne l k with
      | inl e => rw [lexJ_bad hkl hone] at h; cases h
      | inr x =>
        obtain ⟨t, e2⟩ := x
        have hp := lexOne_pos hone
        have hge := skipTo_ge l e2
        have hle := skipTo_le l e2 hp.2
        rw [lexJ_one hone] at h
        cases hr : lexJ l (skipTo l e2) with
        | inl p => rw [hr] at h; cases h
        | inr ts' =>
          rw [hr] at h
          injection h with h; subst h
          have := ih (skipTo l e2) ts' (by omega) hle hr
          simp; omega
    · rw [lexJ_end (by omega)] at h
      injection h with h; subst h; simp
theorem lex_len {l : List UInt8} {ts : List Tok} (h : lex l = .inr ts) : ts.length ≤ l.length + 1 := by
  unfold lex at h
  split at h
  · cases h
  · have := lexJ_len _ _ ts (Nat.le_refl _) (skipTo_le l 0 (by omega)) h
    omega

theorem Weak.agg_head {a b : V} {r : List V} (h : Weak a b) (hb : b.one = true) : Weak (.agg (a :: r)) (.agg (b :: r)) := by
  intro B γ w x hx
  cases hx with
  | agg _ vs hl h1 hr =>
    refine .agg _ _ hl (fun j y hj => ?_) (fun i y z hy hz => ?_)
    · cases j with
      | zero => injection hj with hj; subst hj; exact hb
      | succ j => exact h1 (j + 1) y hj
    · cases i with
      | zero => injection hy with hy; subst hy; exact h _ _ _ _ (hr 0 _ _ rfl hz)
      | succ i => exact hr (i + 1) y z hy hz

def refRes : Sum (Nat × Nat) (List Tok) → V
  | .inl (a, e) => .agg [.slice .nil 0 [], .int .i64 a, .int .i64 e]
  | .inr ts => .agg [.slice .foreign 4 (ts.map tokV), .int .i64 0, .int .i64 0]

set_option maxHeartbeats 4000000 in
theorem refTokens_ret (src : List UInt8) (hs : src.length ≤ 70000) : SRet Tryz.prog LG 13 [.str src] (refRes (lex src)) := by
  intro σ
  refine code13.call hm (by simp) ?_
  intro b2 h2
  obtain ⟨o1, g2⟩ := new_box h2 [.slice .nil 0 [], .int .i64 0, .int .i64 0]
  generalize σ.put b2 [.slice .nil 0 [], .int .i64 0, .int .i64 0] = σ1 at *
  refine Test.split (fun h => ?_) (fun h => ?_)
  · refine Sure.mk' rfl ?_
    refine Store.mk' [.slice .nil 0 [], .int .i64 0, .int .i64 2] g2 (Nat.le_of_ble_eq_true rfl) rfl (fun σ2 e2 => ?_)
    subst e2
    refine Load.mk' put_box (Nat.le_of_ble_eq_true rfl) ?_
    refine Ret.weak (r := refRes (lex src)) (σ' := σ) ?_ (over_put o1 h2) ⟨rfl, rfl⟩
    rw [show lex src = .inl (0, 2) from by unfold lex; rw [if_pos (by omega)]]
    exact .refl _
  · have hlex : lex src = lexJ src (skipTo src 0) := by unfold lex; rw [if_neg (by omega)]
    rw [hlex]
    refine CallK.pure (blank_ret src 0 hs (by omega)) ?_
    refine ⟨fun m sl σ' => ∃ (k : Nat) (toks : List Tok) (tag' : Tag) (z : Nat), sl = ofL [(0, some (.str src)), (2, some (.loc b2 0)), (3, some (.slice tag' z (toks.map tokV))), (4, some (.int .i64 k))] ∧ Over σ1 σ' ∧ Mine σ1 σ' tag' ∧ (tag' = .nil ∨ z = 4) ∧
        toks.length ≤ k ∧ k ≤ src.length ∧ addAll toks (lexJ src k) = lexJ src (skipTo src 0) ∧ m = src.length - k, _,
      ⟨skipTo src 0, [], .nil, 0, rfl, .refl _, trivial, .inl rfl, by simp, skipTo_le _ _ (by omega), by cases lexJ src (skipTo src 0) <;> rfl, rfl⟩, ?_⟩
    rintro m sl σ' ⟨k, toks, tag', z, rfl, ho, hm2, hz, htk, hk, hadd, rfl⟩
    have hlen : (toks.map tokV).length = toks.length := by simp
    rw [← hadd]
    refine Test.split (fun h5 => ?_) (fun h5 => ?_)
    · obtain ⟨c, hc⟩ := get_some (l := src) (j := k) (by omega)
      refine CallK.pure (refToken_ret src k c hs hc) ?_
      intro b5 h5'
      have hb5 : σ1.box b5 = none := over_none ho h5'
      cases hone : lexOne src k with
      | inl n =>
        have hn0 := lexOne_err hone
        refine Sure.mk' rfl ?_
        refine Store.mk' [.int .i64 0, .int .i64 0, .str [], .int .i64 0, .int .i64 0, .int .i64 n] put_box (Nat.le_of_ble_eq_true rfl) rfl (fun σ2 e2 => ?_)
        rw [put_put] at e2
        have ho2 : Over σ1 σ2 := by rw [e2]; exact over_put ho hb5
        have g5 : σ2.box b5 = some [.int .i64 0, .int .i64 0, .str [], .int .i64 0, .int .i64 0, .int .i64 n] := by rw [e2]; exact put_box
        refine Load.mk' g5 (Nat.le_of_ble_eq_true rfl) ?_
        refine Test.yes (by omega) ?_
        refine Load.mk' g5 (Nat.le_of_ble_eq_true rfl) ?_
        refine Sure.mk' rfl ?_
        refine Store.mk' [.slice .nil 0 [], .int .i64 k, .int .i64 n] (ho2.box _ _ g2) (Nat.le_of_ble_eq_true rfl) rfl (fun σ3 e3 => ?_)
        subst e3
        refine Load.mk' put_box (Nat.le_of_ble_eq_true rfl) ?_
        refine Ret.weak (r := refRes (addAll toks (lexJ src k))) (σ' := σ) ?_ (over_put (over_trans o1 ho2) h2) ⟨rfl, rfl⟩
        rw [lexJ_bad (by omega) hone]; exact .refl _
      | inr x =>
        obtain ⟨t, e2⟩ := x
        have hp := lexOne_pos hone
        have hge := skipTo_ge src e2
        have hle := skipTo_le src e2 hp.2
        refine Sure.mk' rfl ?_
        refine Store.mk' [.int .i64 t.kind, .int .i64 t.at_, .str t.s, .int .i64 t.n, .int .i64 e2, .int .i64 0] put_box (Nat.le_of_ble_eq_true rfl) rfl (fun σ2 q2 => ?_)
        rw [put_put] at q2
        have ho2 : Over σ1 σ2 := by rw [q2]; exact over_put ho hb5
        have hm3 : Mine σ1 σ2 tag' := by rw [q2]; exact hm2
        have g5 : σ2.box b5 = some [.int .i64 t.kind, .int .i64 t.at_, .str t.s, .int .i64 t.n, .int .i64 e2, .int .i64 0] := by rw [q2]; exact put_box
        refine Load.mk' g5 (Nat.le_of_ble_eq_true rfl) ?_
        refine Test.no (by omega) ?_
        refine Load.mk' g5 (Nat.le_of_ble_eq_true rfl) ?_
        refine App.mk' ho2 hm3 hz rfl (by simp; omega) (by simp; omega) (by simp) (fun t' σ3 ho3 hm4 hbox _ => ?_)
        rw [← hbox] at g5
        refine Load.mk' g5 (Nat.le_of_ble_eq_true rfl) ?_
        refine CallK.pure (blank_ret src e2 hs hp.2) ?_
        refine ⟨_, _, ?_, Forget.refl _, skipTo src e2, toks ++ [t], .tip t', 4, by rw [List.map_append]; rfl, ho3, hm4, .inr rfl, by simp; omega, hle, ?_, rfl⟩
        · omega
        · rw [lexJ_one hone, addAll_addAll]
    · have hkl : k = src.length := by omega
      refine App.mk' ho hm2 hz rfl (by simp; omega) (by simp; omega) (by simp) (fun t' σ3 ho3 hm4 hbox _ => ?_)
      refine Sure.mk' rfl ?_
      refine Store.mk' [.slice (.tip t') 4 ((toks ++ [(⟨5, src.length, [], 0⟩ : Tok)]).map tokV), .int .i64 0, .int .i64 0] (ho3.box _ _ g2) (Nat.le_of_ble_eq_true rfl) (by rw [List.map_append]; rfl) (fun σ4 e4 => ?_)
      subst e4
      refine Load.mk' put_box (Nat.le_of_ble_eq_true rfl) ?_
      refine Ret.weak (r := refRes (addAll toks (lexJ src k))) (σ' := σ) ?_ (over_put (over_trans o1 ho3) h2) ⟨rfl, rfl⟩
      rw [lexJ_end (by omega)]
      exact Weak.agg_head (Weak.foreign _ _ _) rfl

set_option maxHeartbeats 4000000 in
theorem law3 (src : List UInt8) : SRet Tryz.prog LG 3 [.str src] (.bool true) := by
  intro σ
  refine code3.call hm (by simp) ?_
  refine Test.split (fun h => ?_) (fun h => ?_)
  · refine CallK.pure sanity_ret ?_
    exact Ret.mk' ⟨rfl, rfl⟩
  · refine CallK.pure (tokens_ret src (by omega)) ?_
    have hcall := refTokens_ret src (by omega)
    cases hlex : lex src with
    | inl x =>
      obtain ⟨a, e⟩ := x
      rw [hlex] at hcall
      intro b4 h4
      refine Sure.mk' rfl ?_
      refine Store.mk' [.int .i64 a, .int .i64 e] put_box (Nat.le_of_ble_eq_true rfl) rfl (fun σ1 e1 => ?_)
      rw [put_put] at e1; obtain ⟨o1, g4⟩ := new_box h4 [.int .i64 a, .int .i64 e]; rw [← e1] at o1 g4; clear e1
      refine CallK.pure hcall ?_
      intro b5 h5
      refine Sure.mk' rfl ?_
      refine Store.mk' [.slice .nil 0 [], .int .i64 a, .int .i64 e] put_box (Nat.le_of_ble_eq_true rfl) rfl (fun σ2 e2 => ?_)
      rw [put_put] at e2; obtain ⟨o2, g5⟩ := new_box h5 [.slice .nil 0 [], .int .i64 a, .int .i64 e]; rw [← e2] at o2 g5; clear e2
      refine Load.mk' (o2.box _ _ g4) (Nat.le_of_ble_eq_true rfl) ?_
      refine Load.mk' g5 (Nat.le_of_ble_eq_true rfl) ?_
      refine BTest.no (by simp) ?_
      refine Load.mk' g5 (Nat.le_of_ble_eq_true rfl) ?_
      refine Test.no (by simp) ?_
      refine ⟨fun m sl σ' => σ' = σ2 ∧ sl = ofL [(3, some (.slice .nil 0 [])), (5, some (.loc b5 0)), (6, some (.int .i64 0))], 0, ⟨rfl, rfl⟩, ?_⟩
      rintro m sl σ' ⟨rfl, rfl⟩
      refine Test.no (by simp) ?_
      refine CallK.pure sanity_ret ?_
      exact Ret.weak (.refl _) (over_trans o1 o2) ⟨rfl, rfl⟩
    | inr ts =>
      rw [hlex] at hcall
      have hlen : (ts.map tokV).length = ts.length := by simp
      have hts := lex_len hlex
      intro b4 h4
      refine Sure.mk' rfl ?_
      refine Store.mk' [.int .i64 0, .int .i64 0] put_box (Nat.le_of_ble_eq_true rfl) rfl (fun σ1 e1 => ?_)
      rw [put_put] at e1; obtain ⟨o1, g4⟩ := new_box h4 [.int .i64 0, .int .i64 0]; rw [← e1] at o1 g4; clear e1
      refine CallK.pure hcall ?_
      intro b5 h5
      refine Sure.mk' rfl ?_
      refine Store.mk' [.slice .foreign 4 (ts.map tokV), .int .i64 0, .int .i64 0] put_box (Nat.le_of_ble_eq_true rfl) rfl (fun σ2 e2 => ?_)
      rw [put_put] at e2; obtain ⟨o2, g5⟩ := new_box h5 [.slice .foreign 4 (ts.map tokV), .int .i64 0, .int .i64 0]; rw [← e2] at o2 g5; clear e2
      refine Load.mk' (o2.box _ _ g4) (Nat.le_of_ble_eq_true rfl) ?_
      refine Load.mk' g5 (Nat.le_of_ble_eq_true rfl) ?_
      refine BTest.no (by simp) ?_
      refine Load.mk' g5 (Nat.le_of_ble_eq_true rfl) ?_
      refine Test.no (by simp) ?_
      refine ⟨fun m sl σ' => σ' = σ2 ∧ ∃ i : Nat, sl = ofL [(3, some (.slice .foreign 4 (ts.map tokV))), (5, some (.loc b5 0)), (6, some (.int .i64 i))] ∧ i ≤ ts.length ∧ m = ts.length - i, _, ⟨rfl, 0, rfl, by omega, rfl⟩, ?_⟩
      rintro m sl σ' ⟨rfl, i, rfl, hi, rfl⟩
      refine Test.split (fun h6 => ?_) (fun h6 => ?_)
      · rw [hlen] at h6
        obtain ⟨t, ht⟩ : ∃ t, ts[i]? = some t := ⟨ts[i]'(by omega), by simp [show i < ts.length by omega]⟩
        refine Sure.mk' (.inl rfl) ?_
        refine IdxE.mk' i (tokV t) rfl (by simp [ht]) ?_
        refine ⟨⟨by simp [tokV], ?_⟩⟩
        refine Load.mk' g5 (Nat.le_of_ble_eq_true rfl) ?_
        refine Sure.mk' (.inl rfl) ?_
        refine IdxE.mk' i (tokV t) rfl (by simp [ht]) ?_
        refine ⟨⟨by simp [tokV], ?_⟩⟩
        refine BTest.no (by simp) ?_
        refine Arith.i64 ((i + 1 : Nat) : Int) (by simp) (by omega) ?_
        exact ⟨_, _, by omega, Forget.refl _, rfl, i + 1, rfl, by omega, rfl⟩
      · refine CallK.pure sanity_ret ?_
        exact Ret.weak (.refl _) (over_trans o1 o2) ⟨rfl, rfl⟩
end Go.Shadow.Lex
