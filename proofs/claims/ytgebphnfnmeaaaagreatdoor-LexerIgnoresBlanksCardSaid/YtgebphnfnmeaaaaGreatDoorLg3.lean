/- Proved: the law LexerIgnoresBlanks, as a shadow contract. Conditions: the two numbers are less than 256. -/
import Derived.Test.YtgebphnfnmeaaaaGreatDoorLg2
namespace Go.Shadow.Lex
open Go Go.RowKit Go.Proofs

theorem refSame_ret (al bs : List Tok) (ha : al.length ≤ 100000) (h : al.map noAt = bs.map noAt) : SRet Tryz.prog LG 18 [.slice .foreign 4 (al.map tokV), .slice .foreign 4 (bs.map tokV)] (.bool true) := by
  intro σ
  have hl : al.length = bs.length := by have := congrArg List.length h; simpa using this
  have hla : (al.map tokV).length = al.length := by simp
  have hlb : (bs.map tokV).length = bs.length := by simp
  refine code18.call hm (by simp) ?_
  refine Test.no (by simp [hl]) ?_
  refine ⟨fun m sl σ' => σ' = σ ∧ ∃ i : Nat, sl = ofL [(0, some (.slice .foreign 4 (al.map tokV))), (1, some (.slice .foreign 4 (bs.map tokV))), (5, some (.int .i64 i))] ∧ i ≤ al.length ∧ m = al.length - i, _, ⟨rfl, 0, rfl, by omega, rfl⟩, ?_⟩
  rintro m sl σ' ⟨rfl, i, rfl, hi, rfl⟩
  refine Test.split (fun h9 => ?_) (fun h9 => ?_)
  · rw [hla] at h9
    obtain ⟨t, ht⟩ : ∃ t, al[i]? = some t := ⟨al[i]'(by omega), by simp [show i < al.length by omega]⟩
    obtain ⟨u, hu⟩ : ∃ u, bs[i]? = some u := ⟨bs[i]'(by omega), by simp [show i < bs.length by omega]⟩
    have he : noAt t = noAt u := by
      have h1 : (al.map noAt)[i]? = some (noAt t) := by simp [ht]
      have h2 : (bs.map noAt)[i]? = some (noAt u) := by simp [hu]
      rw [h, h2] at h1; exact (Option.some.inj h1).symm
    simp only [noAt, Prod.mk.injEq] at he
    refine Sure.mk' (.inl rfl) ?_
    refine IdxE.mk' i (tokV t) rfl (by simp [ht]) ?_
    refine ⟨⟨by simp [tokV], ?_⟩⟩
    refine Sure.mk' (.inl rfl) ?_
    refine IdxE.mk' i (tokV u) rfl (by simp [hu]) ?_
    refine ⟨⟨by simp [tokV], ?_⟩⟩
    refine Test.no (by simp [he]) ?_
    refine Sure.mk' (.inl rfl) ?_
    refine IdxE.mk' i (tokV t) rfl (by simp [ht]) ?_
    refine ⟨⟨by simp [tokV], ?_⟩⟩
    refine Sure.mk' (.inl rfl) ?_
    refine IdxE.mk' i (tokV u) rfl (by simp [hu]) ?_
    refine ⟨⟨by simp [tokV], ?_⟩⟩
    refine Test.no (by simp [he]) ?_
    refine Sure.mk' (.inl rfl) ?_
    refine IdxE.mk' i (tokV t) rfl (by simp [ht]) ?_
    refine ⟨⟨by simp [tokV], ?_⟩⟩
    refine Sure.mk' (.inl rfl) ?_
    refine IdxE.mk' i (tokV u) rfl (by simp [hu]) ?_
    refine ⟨⟨by simp [tokV], ?_⟩⟩
    refine Test.no (by simp [he]) ?_
    refine Arith.i64 ((i + 1 : Nat) : Int) (by simp) (by omega) ?_
    exact ⟨_, _, by omega, Forget.refl _, rfl, i + 1, rfl, by omega, rfl⟩
  · exact Ret.mk' ⟨rfl, rfl⟩

set_option maxHeartbeats 8000000 in
theorem law8 (src com : List UInt8) (x y : Nat) (hx : x < 256) (hy : y < 256) : SRet Tryz.prog LG 8 [.str src, .str com, .agg [.int .u8 x, .int .u8 y]] (.bool true) := by
  intro σ
  refine code8.call hm (by simp) ?_
  refine ⟨rfl, ?_⟩
  intro b5 h5
  obtain ⟨o5, g5⟩ := new_box h5 [.int .u8 x, .int .u8 y]
  change Over σ (σ.put b5 (V.cells (.agg [.int .u8 x, .int .u8 y]))) at o5
  change (σ.put b5 (V.cells (.agg [.int .u8 x, .int .u8 y]))).box b5 = _ at g5
  generalize σ.put b5 (V.cells (.agg [.int .u8 x, .int .u8 y])) = σ5 at *
  refine Sure.mk' (by omega) ?_
  refine Load.mk' g5 (Nat.le_of_ble_eq_true rfl) ?_
  refine Sure.mk' (by omega) ?_
  refine Load.mk' g5 (Nat.le_of_ble_eq_true rfl) ?_
  refine Test.split (fun h => ?_) (fun h => ?_)
  · refine CallK.pure sanity_ret ?_
    exact Ret.weak (.refl _) o5 ⟨rfl, rfl⟩
  refine Test.split (fun h' => ?_) (fun h' => ?_)
  · refine CallK.pure sanity_ret ?_
    exact Ret.weak (.refl _) o5 ⟨rfl, rfl⟩
  refine CallK.pure (tokens_ret src (by omega)) ?_
  cases hlex : lex src with
  | inl z =>
    obtain ⟨p, e⟩ := z
    have he := lex_err (by omega) hlex
    intro b10 h10
    refine Sure.mk' rfl ?_
    refine Store.mk' [.int .i64 p, .int .i64 e] put_box (Nat.le_of_ble_eq_true rfl) rfl (fun σ1 e1 => ?_)
    rw [put_put] at e1; obtain ⟨o1, g10⟩ := new_box h10 [.int .i64 p, .int .i64 e]; rw [← e1] at o1 g10; clear e1
    refine Load.mk' g10 (Nat.le_of_ble_eq_true rfl) ?_
    refine Test.yes (by omega) ?_
    refine CallK.pure sanity_ret ?_
    exact Ret.weak (.refl _) (over_trans o5 o1) ⟨rfl, rfl⟩
  | inr ts =>
    have hts := lex_len hlex
    have hne : 0 < ts.length := List.length_pos_iff.2 fun e => by subst e; rw [lex_J (by omega)] at hlex; exact J_ne hlex
    have hlen : (ts.map tokV).length = ts.length := by simp
    intro b10 h10
    refine Sure.mk' rfl ?_
    refine Store.mk' [.int .i64 0, .int .i64 0] put_box (Nat.le_of_ble_eq_true rfl) rfl (fun σ1 e1 => ?_)
    rw [put_put] at e1; obtain ⟨o1, g10⟩ := new_box h10 [.int .i64 0, .int .i64 0]; rw [← e1] at o1 g10; clear e1
    refine Load.mk' g10 (Nat.le_of_ble_eq_true rfl) ?_
    refine Test.no (by simp) ?_
    refine Test.no (by simp; intro e; subst e; simp at hne) ?_
    have hiN : x % ts.length < ts.length := Nat.mod_lt _ hne
    refine Arith.i64 (x : Int) rfl (by omega) ?_
    refine Sure.mk' (by rw [hlen]; omega) ?_
    obtain ⟨p, t, ht, hat, hpl, hgap⟩ : ∃ (p : Nat) (t : Tok), ts[x % ts.length]? = some t ∧ t.at_ = (p : Int) ∧ p ≤ src.length ∧ ∀ bl, bl.length ≤ 102 → Gap bl → (∃ ms, lex ((if p = src.length then src ++ [10] else src.take p) ++ bl ++ src.drop p) = .inr ms ∧ ms.map noAt = ts.map noAt) := by
      obtain ⟨p, t, h1, h2, h3, _⟩ := gaps_ok (bl := [32]) (by simp; omega) gap_space hlex _ hiN
      refine ⟨p, t, h1, h2, h3, fun bl hb hg => ?_⟩
      obtain ⟨p', t', h1', h2', h3', h4'⟩ := gaps_ok (bl := bl) (by omega) hg hlex _ hiN
      rw [h1] at h1'; injection h1' with h1'; subst h1'
      obtain rfl : p' = p := by omega
      exact h4'
    refine Sure.mk' (.inl rfl) ?_
    refine IdxE.mk' (x % ts.length) (tokV t) (by rw [hlen, Int.tmod_eq_emod_of_nonneg (by omega)]; omega) (by simp [ht]) ?_
    refine ⟨⟨by simp [tokV], ?_⟩⟩
    refine ⟨fun m sl σ' => ∃ (i : Nat) (bs : List UInt8) (tag' : Tag) (z : Nat), sl = ofL [(0, some (.str src)), (1, some (.str com)), (8, some (.int .u8 y)), (9, some (.slice .foreign 4 (ts.map tokV))), (11, some (.int .i64 t.at_)), (12, some (.slice tag' z (byteEls bs))), (13, some (.int .i64 i))] ∧
        Over σ1 σ' ∧ Mine σ1 σ' tag' ∧ (tag' = .nil ∨ z = 1) ∧ (tag' = .nil → bs = []) ∧ i ≤ com.length ∧ bs.length ≤ i ∧ (∀ c ∈ bs, c.toNat ≠ 10) ∧ m = com.length - i, _,
      ⟨0, [], .nil, 0, rfl, .refl _, trivial, .inl rfl, fun _ => rfl, by omega, by simp, by simp, rfl⟩, ?_⟩
    rintro m sl σ' ⟨i, bs, tag', z, rfl, ho', hm2, hz, hz2, hi, hbs, hbc, rfl⟩
    have hlenb : (byteEls bs).length = bs.length := by simp [byteEls]
    refine Test.split (fun h6 => ?_) (fun h6 => ?_)
    · obtain ⟨c, hc⟩ := get_some (l := com) (j := i) (by omega)
      refine Idx.mk' i c rfl hc ?_
      refine Test.split (fun h7 => ?_) (fun h7 => ?_)
      · refine Idx.mk' i c rfl hc ?_
        refine App.mk' ho' hm2 hz rfl (by simp [hlenb]; omega) (by simp [hlenb]; omega) (by simp) (fun t' σ2 ho2 hm3 _ _ => ?_)
        refine Arith.i64 ((i + 1 : Nat) : Int) (by simp) (by omega) ?_
        refine ⟨_, _, ?_, Forget.refl _, i + 1, bs ++ [c], .tip t', 1, by rw [byteEls_snoc]; rfl, ho2, hm3, .inr rfl, fun h => (by cases h), by omega, by simp; omega, ?_, rfl⟩
        · omega
        · intro d hd
          rcases List.mem_append.1 hd with hd | hd
          · exact hbc d hd
          · simp at hd; subst hd; omega
      · refine Arith.i64 ((i + 1 : Nat) : Int) (by simp) (by omega) ?_
        exact ⟨_, _, by omega, Forget.refl _, i + 1, bs, tag', z, rfl, ho', hm2, hz, hz2, by omega, by omega, hbc, rfl⟩
    · refine Sure.mk' (hz.elim (fun h => .inr (by rw [hz2 h]; rfl)) .inl) ?_
      refine B2S.mk' ?_
      refine Sure.mk' (by simp; omega) ?_
      refine Sure.mk' (by simp; omega) ?_
      have oA : Over σ σ' := over_trans (over_trans o5 o1) ho'
      refine Sure.mk' (by omega) ?_
      refine Test.split (fun q0 => ?_) (fun q0 => ?_)
      · obtain ⟨ms, hms, hsame⟩ := hgap [32] (by simp <;> omega) gap_space
        refine CutL.mk' p hat hpl ?_
        refine Test.split (fun h8 => ?_) (fun h8 => ?_)
        · rw [if_pos (by omega)] at hms
          refine Sure.mk' (by simp; omega) ?_
          refine Sure.mk' (by simp; omega) ?_
          refine CutR.mk' p hat hpl ?_
          refine Sure.mk' (by simp; omega) ?_
          refine CallK.pure (tokens_ret _ (by simp; omega)) ?_
          rw [hms]
          intro b17 h17
          refine Sure.mk' rfl ?_
          refine Store.mk' [.int .i64 0, .int .i64 0] put_box (Nat.le_of_ble_eq_true rfl) rfl (fun σ2 e2 => ?_)
          rw [put_put] at e2; obtain ⟨o2, g17⟩ := new_box h17 [.int .i64 0, .int .i64 0]; rw [← e2] at o2 g17; clear e2
          refine CallK.pure sanity_ret ?_
          refine Load.mk' g17 (Nat.le_of_ble_eq_true rfl) ?_
          refine BTest.yes rfl ?_
          refine CallK.pure (refSame_ret ts ms (by omega) hsame.symm) ?_
          exact Ret.weak (.refl _) (over_trans oA o2) ⟨rfl, rfl⟩
        · rw [if_neg (by omega)] at hms
          refine Sure.mk' (by simp; omega) ?_
          refine CutR.mk' p hat hpl ?_
          refine Sure.mk' (by simp; omega) ?_
          refine CallK.pure (tokens_ret _ (by simp; omega)) ?_
          rw [hms]
          intro b17 h17
          refine Sure.mk' rfl ?_
          refine Store.mk' [.int .i64 0, .int .i64 0] put_box (Nat.le_of_ble_eq_true rfl) rfl (fun σ2 e2 => ?_)
          rw [put_put] at e2; obtain ⟨o2, g17⟩ := new_box h17 [.int .i64 0, .int .i64 0]; rw [← e2] at o2 g17; clear e2
          refine CallK.pure sanity_ret ?_
          refine Load.mk' g17 (Nat.le_of_ble_eq_true rfl) ?_
          refine BTest.yes rfl ?_
          refine CallK.pure (refSame_ret ts ms (by omega) hsame.symm) ?_
          exact Ret.weak (.refl _) (over_trans oA o2) ⟨rfl, rfl⟩
      · refine Test.split (fun q1 => ?_) (fun q1 => ?_)
        · obtain ⟨ms, hms, hsame⟩ := hgap [9, 13] (by simp <;> omega) gap_tabs
          refine CutL.mk' p hat hpl ?_
          refine Test.split (fun h8 => ?_) (fun h8 => ?_)
          · rw [if_pos (by omega)] at hms
            refine Sure.mk' (by simp; omega) ?_
            refine Sure.mk' (by simp; omega) ?_
            refine CutR.mk' p hat hpl ?_
            refine Sure.mk' (by simp; omega) ?_
            refine CallK.pure (tokens_ret _ (by simp; omega)) ?_
            rw [hms]
            intro b17 h17
            refine Sure.mk' rfl ?_
            refine Store.mk' [.int .i64 0, .int .i64 0] put_box (Nat.le_of_ble_eq_true rfl) rfl (fun σ2 e2 => ?_)
            rw [put_put] at e2; obtain ⟨o2, g17⟩ := new_box h17 [.int .i64 0, .int .i64 0]; rw [← e2] at o2 g17; clear e2
            refine CallK.pure sanity_ret ?_
            refine Load.mk' g17 (Nat.le_of_ble_eq_true rfl) ?_
            refine BTest.yes rfl ?_
            refine CallK.pure (refSame_ret ts ms (by omega) hsame.symm) ?_
            exact Ret.weak (.refl _) (over_trans oA o2) ⟨rfl, rfl⟩
          · rw [if_neg (by omega)] at hms
            refine Sure.mk' (by simp; omega) ?_
            refine CutR.mk' p hat hpl ?_
            refine Sure.mk' (by simp; omega) ?_
            refine CallK.pure (tokens_ret _ (by simp; omega)) ?_
            rw [hms]
            intro b17 h17
            refine Sure.mk' rfl ?_
            refine Store.mk' [.int .i64 0, .int .i64 0] put_box (Nat.le_of_ble_eq_true rfl) rfl (fun σ2 e2 => ?_)
            rw [put_put] at e2; obtain ⟨o2, g17⟩ := new_box h17 [.int .i64 0, .int .i64 0]; rw [← e2] at o2 g17; clear e2
            refine CallK.pure sanity_ret ?_
            refine Load.mk' g17 (Nat.le_of_ble_eq_true rfl) ?_
            refine BTest.yes rfl ?_
            refine CallK.pure (refSame_ret ts ms (by omega) hsame.symm) ?_
            exact Ret.weak (.refl _) (over_trans oA o2) ⟨rfl, rfl⟩
        · refine Test.split (fun q2 => ?_) (fun q2 => ?_)
          · obtain ⟨ms, hms, hsame⟩ := hgap [10] (by simp <;> omega) gap_lf
            refine CutL.mk' p hat hpl ?_
            refine Test.split (fun h8 => ?_) (fun h8 => ?_)
            · rw [if_pos (by omega)] at hms
              refine Sure.mk' (by simp; omega) ?_
              refine Sure.mk' (by simp; omega) ?_
              refine CutR.mk' p hat hpl ?_
              refine Sure.mk' (by simp; omega) ?_
              refine CallK.pure (tokens_ret _ (by simp; omega)) ?_
              rw [hms]
              intro b17 h17
              refine Sure.mk' rfl ?_
              refine Store.mk' [.int .i64 0, .int .i64 0] put_box (Nat.le_of_ble_eq_true rfl) rfl (fun σ2 e2 => ?_)
              rw [put_put] at e2; obtain ⟨o2, g17⟩ := new_box h17 [.int .i64 0, .int .i64 0]; rw [← e2] at o2 g17; clear e2
              refine CallK.pure sanity_ret ?_
              refine Load.mk' g17 (Nat.le_of_ble_eq_true rfl) ?_
              refine BTest.yes rfl ?_
              refine CallK.pure (refSame_ret ts ms (by omega) hsame.symm) ?_
              exact Ret.weak (.refl _) (over_trans oA o2) ⟨rfl, rfl⟩
            · rw [if_neg (by omega)] at hms
              refine Sure.mk' (by simp; omega) ?_
              refine CutR.mk' p hat hpl ?_
              refine Sure.mk' (by simp; omega) ?_
              refine CallK.pure (tokens_ret _ (by simp; omega)) ?_
              rw [hms]
              intro b17 h17
              refine Sure.mk' rfl ?_
              refine Store.mk' [.int .i64 0, .int .i64 0] put_box (Nat.le_of_ble_eq_true rfl) rfl (fun σ2 e2 => ?_)
              rw [put_put] at e2; obtain ⟨o2, g17⟩ := new_box h17 [.int .i64 0, .int .i64 0]; rw [← e2] at o2 g17; clear e2
              refine CallK.pure sanity_ret ?_
              refine Load.mk' g17 (Nat.le_of_ble_eq_true rfl) ?_
              refine BTest.yes rfl ?_
              refine CallK.pure (refSame_ret ts ms (by omega) hsame.symm) ?_
              exact Ret.weak (.refl _) (over_trans oA o2) ⟨rfl, rfl⟩
          · obtain ⟨ms, hms, hsame⟩ := hgap ([35] ++ bs ++ [10]) (by simp <;> omega) (gap_comment bs hbc)
            refine CutL.mk' p hat hpl ?_
            refine Test.split (fun h8 => ?_) (fun h8 => ?_)
            · rw [if_pos (by omega)] at hms
              refine Sure.mk' (by simp; omega) ?_
              refine Sure.mk' (by simp; omega) ?_
              refine CutR.mk' p hat hpl ?_
              refine Sure.mk' (by simp; omega) ?_
              refine CallK.pure (tokens_ret _ (by simp; omega)) ?_
              rw [hms]
              intro b17 h17
              refine Sure.mk' rfl ?_
              refine Store.mk' [.int .i64 0, .int .i64 0] put_box (Nat.le_of_ble_eq_true rfl) rfl (fun σ2 e2 => ?_)
              rw [put_put] at e2; obtain ⟨o2, g17⟩ := new_box h17 [.int .i64 0, .int .i64 0]; rw [← e2] at o2 g17; clear e2
              refine CallK.pure sanity_ret ?_
              refine Load.mk' g17 (Nat.le_of_ble_eq_true rfl) ?_
              refine BTest.yes rfl ?_
              refine CallK.pure (refSame_ret ts ms (by omega) hsame.symm) ?_
              exact Ret.weak (.refl _) (over_trans oA o2) ⟨rfl, rfl⟩
            · rw [if_neg (by omega)] at hms
              refine Sure.mk' (by simp; omega) ?_
              refine CutR.mk' p hat hpl ?_
              refine Sure.mk' (by simp; omega) ?_
              refine CallK.pure (tokens_ret _ (by simp; omega)) ?_
              rw [hms]
              intro b17 h17
              refine Sure.mk' rfl ?_
              refine Store.mk' [.int .i64 0, .int .i64 0] put_box (Nat.le_of_ble_eq_true rfl) rfl (fun σ2 e2 => ?_)
              rw [put_put] at e2; obtain ⟨o2, g17⟩ := new_box h17 [.int .i64 0, .int .i64 0]; rw [← e2] at o2 g17; clear e2
              refine CallK.pure sanity_ret ?_
              refine Load.mk' g17 (Nat.le_of_ble_eq_true rfl) ?_
              refine BTest.yes rfl ?_
              refine CallK.pure (refSame_ret ts ms (by omega) hsame.symm) ?_
              exact Ret.weak (.refl _) (over_trans oA o2) ⟨rfl, rfl⟩
end Go.Shadow.Lex
