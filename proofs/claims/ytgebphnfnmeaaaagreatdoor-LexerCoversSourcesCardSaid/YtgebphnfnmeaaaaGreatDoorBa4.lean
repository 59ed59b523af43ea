/- Proved: the tied card of LexerCoversSources. Conditions: none beyond the card's own. -/
import Derived.Test.YtgebphnfnmeaaaaGreatDoorBa3
import Derived.Test.YtgebphnfnmeaaaaGreatDoorRows
import Derived.ProofKit
import Derived.LaidMore
import Derived.OpenShut
import Derived.ShutString
import Derived.ChangeOld
import Derived.Lib.LaidU8
import Derived.Stop.LaidErr
import Derived.Stop.Joined
import Derived.MakeChecks
import Derived.Test.YtgebphnfnmeaaaaGreatDoorCards
import Derived.Test.YtgebphnfnmeaaaaGreatDoorTie
import Derived.SevenTiedAt

/- Proved: the law LexerIgnoresBlanks, as a shadow contract. Conditions: the two numbers are less than 256. -/
namespace Go.Shadow.Lex
open Go Go.RowKit Go.Proofs

theorem refSame_ret (al bs : List Tok) (ha : al.length ≤ 100000) (h : al.map noAt = bs.map noAt) : SRet Tryz.prog LG 18 [.slice .foreign 4 (al.map tokV), .slice .foreign 4 (bs.map tokV)] (.bool true) := by
  intro σ
  have hl : al.length = bs.length := by have := congrArg List.length h; simpa using this
  have hla : (al.map tokV).length = al.length := by simp
  have hlb : (bs.map tokV).length = bs.length := by simp
  refine code18.call hm (by simp) ?_
  refine Test.no (by simp [hl]) ?_
  refine ⟨fun m sl σ' => σ' = σ ∧ ∃ i : Nat, sl = ofL [(0, some (.slice .foreign 4 (al.map tokV))), (1, some (.slice .foreign 4 (bs.map tokV))), (5, some (.int .i64 i))] ∧ i ≤ al.length ∧ m = al.length - i, _, ⟨rfl, 0, rfl, by omega, rfl⟩, ?_⟩
  rintro m sl σ' ⟨rfl, i, rfl, hi, rfl⟩
  refine Test.split (fun h9 => ?_) (fun h9 => ?_)
  · rw [hla] at h9
    obtain ⟨t, ht⟩ : ∃ t, al[i]? = some t := ⟨al[i]'(by omega), by simp [show i < al.length by omega]⟩
    obtain ⟨u, hu⟩ : ∃ u, bs[i]? = some u := ⟨bs[i]'(by omega), by simp [show i < bs.length by omega]⟩
    have he : noAt t = noAt u := by
      have h1 : (al.map noAt)[i]? = some (noAt t) := by simp [ht]
      have h2 : (bs.map noAt)[i]? = some (noAt u) := by simp [hu]
      rw [h, h2] at h1; exact (Option.some.inj h1).symm
    simp only [noAt, Prod.mk.injEq] at he
    refine Sure.mk' (.inl rfl) ?_
    refine IdxE.mk' i (tokV t) rfl (by simp [ht]) ?_
    refine ⟨⟨by simp [tokV], ?_⟩⟩
    refine Sure.mk' (.inl rfl) ?_
    refine IdxE.mk' i (tokV u) rfl (by simp [hu]) ?_
    refine ⟨⟨by simp [tokV], ?_⟩⟩
    refine Test.no (by simp [he]) ?_
    refine Sure.mk' (.inl rfl) ?_
    refine IdxE.mk' i (tokV t) rfl (by simp [ht]) ?_
    refine ⟨⟨by simp [tokV], ?_⟩⟩
    refine Sure.mk' (.inl rfl) ?_
    refine IdxE.mk' i (tokV u) rfl (by simp [hu]) ?_
    refine ⟨⟨by simp [tokV], ?_⟩⟩
    refine Test.no (by simp [he]) ?_
    refine Sure.mk' (.inl rfl) ?_
    refine IdxE.mk' i (tokV t) rfl (by simp [ht]) ?_
    refine ⟨⟨by simp [tokV], ?_⟩⟩
    refine Sure.mk' (.inl rfl) ?_
    refine IdxE.mk' i (tokV u) rfl (by simp [hu]) ?_
    refine ⟨⟨by simp [tokV], ?_⟩⟩
    refine Test.no (by simp [he]) ?_
    refine Arith.i64 ((i + 1 : Nat) : Int) (by simp) (by omega) ?_
    exact ⟨_, _, by omega, Forget.refl _, rfl, i + 1, rfl, by omega, rfl⟩
  · exact Ret.mk' ⟨rfl, rfl⟩

set_option maxHeartbeats 8000000 in
theorem law8 (src com : List UInt8) (x y : Nat) (hx : x < 256) (hy : y < 256) : SRet Tryz.prog LG 8 [.str src, .str com, .agg [.int .u8 x, .int .u8 y]] (.bool true) := by
  intro σ
  refine code8.call hm (by simp) ?_
  refine ⟨rfl, ?_⟩
  intro b5 h5
  obtain ⟨o5, g5⟩ := new_box h5 [.int .u8 x, .int .u8 y]
  change Over σ (σ.put b5 (V.cells (.agg [.int .u8 x, .int .u8 y]))) at o5
  change (σ.put b5 (V.cells (.agg [.int .u8 x, .int .u8 y]))).box b5 = _ at g5
  generalize σ.put b5 (V.cells (.agg [.int .u8 x, .int .u8 y])) = σ5 at *
  refine Sure.mk' (by omega) ?_
  refine Load.mk' g5 (Nat.le_of_ble_eq_true rfl) ?_
  refine Sure.mk' (by omega) ?_
  refine Load.mk' g5 (Nat.le_of_ble_eq_true rfl) ?_
  refine Test.split (fun h => ?_) (fun h => ?_)
  · refine CallK.pure sanity_ret ?_
    exact Ret.weak (.refl _) o5 ⟨rfl, rfl⟩
  refine Test.split (fun h' => ?_) (fun h' => ?_)
  · refine CallK.pure sanity_ret ?_
    exact Ret.weak (.refl _) o5 ⟨rfl, rfl⟩
  refine CallK.pure (tokens_ret src (by omega)) ?_
  cases hlex : lex src with
  | inl z =>
    obtain ⟨p, e⟩ := z
    have he := lex_err (by omega) hlex
    intro b10 h10
    refine Sure.mk' rfl ?_
    refine Store.mk' [.int .i64 p, .int .i64 e] put_box (Nat.le_of_ble_eq_true rfl) rfl (fun σ1 e1 => ?_)
    rw [put_put] at e1; obtain ⟨o1, g10⟩ := new_box h10 [.int .i64 p, .int .i64 e]; rw [← e1] at o1 g10; clear e1
    refine Load.mk' g10 (Nat.le_of_ble_eq_true rfl) ?_
    refine Test.yes (by omega) ?_
    refine CallK.pure sanity_ret ?_
    exact Ret.weak (.refl _) (over_trans o5 o1) ⟨rfl, rfl⟩
  | inr ts =>
    have hts := lex_len hlex
    have hne : 0 < ts.length := List.length_pos_iff.2 fun e => by subst e; rw [lex_J (by omega)] at hlex; exact J_ne hlex
    have hlen : (ts.map tokV).length = ts.length := by simp
    intro b10 h10
    refine Sure.mk' rfl ?_
    refine Store.mk' [.int .i64 0, .int .i64 0] put_box (Nat.le_of_ble_eq_true rfl) rfl (fun σ1 e1 => ?_)
    rw [put_put] at e1; obtain ⟨o1, g10⟩ := new_box h10 [.int .i64 0, .int .i64 0]; rw [← e1] at o1 g10; clear e1
    refine Load.mk' g10 (Nat.le_of_ble_eq_true rfl) ?_
    refine Test.no (by simp) ?_
    refine Test.no (by simp; intro e; subst e; simp at hne) ?_
    have hiN : x % ts.length < ts.length := Nat.mod_lt _ hne
    refine Arith.i64 (x : Int) rfl (by omega) ?_
    refine Sure.mk' (by rw [hlen]; omega) ?_
    obtain ⟨p, t, ht, hat, hpl, hgap⟩ : ∃ (p : Nat) (t : Tok), ts[x % ts.length]? = some t ∧ t.at_ = (p : Int) ∧ p ≤ src.length ∧ ∀ bl, bl.length ≤ 102 → Gap bl → (∃ ms, lex ((if p = src.length then src ++ [10] else src.take p) ++ bl ++ src.drop p) = .inr ms ∧ ms.map noAt = ts.map noAt) := by
      obtain ⟨p, t, h1, h2, h3, _⟩ := gaps_ok (bl := [32]) (by simp; omega) gap_space hlex _ hiN
      refine ⟨p, t, h1, h2, h3, fun bl hb hg => ?_⟩
      obtain ⟨p', t', h1', h2', h3', h4'⟩ := gaps_ok (bl := bl) (by omega) hg hlex _ hiN
      rw [h1] at h1'; injection h1' with h1'; subst h1'
      obtain rfl : p' = p := by omega
      exact h4'
    refine Sure.mk' (.inl rfl) ?_
    refine IdxE.mk' (x % ts.length) (tokV t) (by rw [hlen, Int.tmod_eq_emod_of_nonneg (by omega)]; omega) (by simp [ht]) ?_
    refine ⟨⟨by simp [tokV], ?_⟩⟩
    refine ⟨fun m sl σ' => ∃ (i : Nat) (bs : List UInt8) (tag' : Tag) (z : Nat), sl = ofL [(0, some (.str src)), (1, some (.str com)), (8, some (.int .u8 y)), (9, some (.slice .foreign 4 (ts.map tokV))), (11, some (.int .i64 t.at_)), (12, some (.slice tag' z (byteEls bs))), (13, some (.int .i64 i))] ∧
        Over σ1 σ' ∧ Mine σ1 σ' tag' ∧ (tag' = .nil ∨ z = 1) ∧ (tag' = .nil → bs = []) ∧ i ≤ com.length ∧ bs.length ≤ i ∧ (∀ c ∈ bs, c.toNat ≠ 10) ∧ m = com.length - i, _,
      ⟨0, [], .nil, 0, rfl, .refl _, trivial, .inl rfl, fun _ => rfl, by omega, by simp, by simp, rfl⟩, ?_⟩
    rintro m sl σ' ⟨i, bs, tag', z, rfl, ho', hm2, hz, hz2, hi, hbs, hbc, rfl⟩
    have hlenb : (byteEls bs).length = bs.length := by simp [byteEls]
    refine Test.split (fun h6 => ?_) (fun h6 => ?_)
    · obtain ⟨c, hc⟩ := get_some (l := com) (j := i) (by omega)
      refine Idx.mk' i c rfl hc ?_
      refine Test.split (fun h7 => ?_) (fun h7 => ?_)
      · refine Idx.mk' i c rfl hc ?_
        refine App.mk' ho' hm2 hz rfl (by simp [hlenb]; omega) (by simp [hlenb]; omega) (by simp) (fun t' σ2 ho2 hm3 _ _ => ?_)
        refine Arith.i64 ((i + 1 : Nat) : Int) (by simp) (by omega) ?_
        refine ⟨_, _, ?_, Forget.refl _, i + 1, bs ++ [c], .tip t', 1, by rw [byteEls_snoc]; rfl, ho2, hm3, .inr rfl, fun h => (by cases h), by omega, by simp; omega, ?_, rfl⟩
        · omega
        · intro d hd
          rcases List.mem_append.1 hd with hd | hd
          · exact hbc d hd
          · simp at hd; subst hd; omega
      · refine Arith.i64 ((i + 1 : Nat) : Int) (by simp) (by omega) ?_
        exact ⟨_, _, by omega, Forget.refl _, i + 1, bs, tag', z, rfl, ho', hm2, hz, hz2, by omega, by omega, hbc, rfl⟩
    · refine Sure.mk' (hz.elim (fun h => .inr (by rw [hz2 h]; rfl)) .inl) ?_
      refine B2S.mk' ?_
      refine Sure.mk' (by simp; omega) ?_
      refine Sure.mk' (by simp; omega) ?_
      have oA : Over σ σ' := over_trans (over_trans o5 o1) ho'
      refine Sure.mk' (by omega) ?_
      refine Test.split (fun q0 => ?_) (fun q0 => ?_)
      · obtain ⟨ms, hms, hsame⟩ := hgap [32] (by simp <;> omega) gap_space
        refine CutL.mk' p hat hpl ?_
        refine Test.split (fun h8 => ?_) (fun h8 => ?_)
        · rw [if_pos (by omega)] at hms
          refine Sure.mk' (by simp; omega) ?_
          refine Sure.mk' (by simp; omega) ?_
          refine CutR.mk' p hat hpl ?_
          refine Sure.mk' (by simp; omega) ?_
          refine CallK.pure (tokens_ret _ (by simp; omega)) ?_
          rw [hms]
          intro b17 h17
          refine Sure.mk' rfl ?_
          refine Store.mk' [.int .i64 0, .int .i64 0] put_box (Nat.le_of_ble_eq_true rfl) rfl (fun σ2 e2 => ?_)
          rw [put_put] at e2; obtain ⟨o2, g17⟩ := new_box h17 [.int .i64 0, .int .i64 0]; rw [← e2] at o2 g17; clear e2
          refine CallK.pure sanity_ret ?_
          refine Load.mk' g17 (Nat.le_of_ble_eq_true rfl) ?_
          refine BTest.yes rfl ?_
          refine CallK.pure (refSame_ret ts ms (by omega) hsame.symm) ?_
          exact Ret.weak (.refl _) (over_trans oA o2) ⟨rfl, rfl⟩
        · rw [if_neg (by omega)] at hms
          refine Sure.mk' (by simp; omega) ?_
          refine CutR.mk' p hat hpl ?_
          refine Sure.mk' (by simp; omega) ?_
          refine CallK.pure (tokens_ret _ (by simp; omega)) ?_
          rw [hms]
          intro b17 h17
          refine Sure.mk' rfl ?_
          refine Store.mk' [.int .i64 0, .int .i64 0] put_box (Nat.le_of_ble_eq_true rfl) rfl (fun σ2 e2 => ?_)
          rw [put_put] at e2; obtain ⟨o2, g17⟩ := new_box h17 [.int .i64 0, .int .i64 0]; rw [← e2] at o2 g17; clear e2
          refine CallK.pure sanity_ret ?_
          refine Load.mk' g17 (Nat.le_of_ble_eq_true rfl) ?_
          refine BTest.yes rfl ?_
          refine CallK.pure (refSame_ret ts ms (by omega) hsame.symm) ?_
          exact Ret.weak (.refl _) (over_trans oA o2) ⟨rfl, rfl⟩
      · refine Test.split (fun q1 => ?_) (fun q1 => ?_)
        · obtain ⟨ms, hms, hsame⟩ := hgap [9, 13] (by simp <;> omega) gap_tabs
          refine CutL.mk' p hat hpl ?_
          refine Test.split (fun h8 => ?_) (fun h8 => ?_)
          · rw [if_pos (by omega)] at hms
            refine Sure.mk' (by simp; omega) ?_
            refine Sure.mk' (by simp; omega) ?_
            refine CutR.mk' p hat hpl ?_
            refine Sure.mk' (by simp; omega) ?_
            refine CallK.pure (tokens_ret _ (by simp; omega)) ?_
            rw [hms]
            intro b17 h17
            refine Sure.mk' rfl ?_
            refine Store.mk' [.int .i64 0, .int .i64 0] put_box (Nat.le_of_ble_eq_true rfl) rfl (fun σ2 e2 => ?_)
            rw [put_put] at e2; obtain ⟨o2, g17⟩ := new_box h17 [.int .i64 0, .int .i64 0]; rw [← e2] at o2 g17; clear e2
            refine CallK.pure sanity_ret ?_
            refine Load.mk' g17 (Nat.le_of_ble_eq_true rfl) ?_
            refine BTest.yes rfl ?_
            refine CallK.pure (refSame_ret ts ms (by omega) hsame.symm) ?_
            exact Ret.weak (.refl _) (over_trans oA o2) ⟨rfl, rfl⟩
          · rw [if_neg (by omega)] at hms
            refine Sure.mk' (by simp; omega) ?_
            refine CutR.mk' p hat hpl ?_
            refine Sure.mk' (by simp; omega) ?_
            refine CallK.pure (tokens_ret _ (by simp; omega)) ?_
            rw [hms]
            intro b17 h17
            refine Sure.mk' rfl ?_
            refine Store.mk' [.int .i64 0, .int .i64 0] put_box (Nat.le_of_ble_eq_true rfl) rfl (fun σ2 e2 => ?_)
            rw [put_put] at e2; obtain ⟨o2, g17⟩ := new_box h17 [.int .i64 0, .int .i64 0]; rw [← e2] at o2 g17; clear e2
            refine CallK.pure sanity_ret ?_
            refine Load.mk' g17 (Nat.le_of_ble_eq_true rfl) ?_
            refine BTest.yes rfl ?_
            refine CallK.pure (refSame_ret ts ms (by omega) hsame.symm) ?_
            exact Ret.weak (.refl _) (over_trans oA o2) ⟨rfl, rfl⟩
        · refine Test.split (fun q2 => ?_) (fun q2 => ?_)
          · obtain ⟨ms, hms, hsame⟩ := hgap [10] (by simp <;> omega) gap_lf
            refine CutL.mk' p hat hpl ?_
            refine Test.split (fun h8 => ?_) (fun h8 => ?_)
            · rw [if_pos (by omega)] at hms
              refine Sure.mk' (by simp; omega) ?_
              refine Sure.mk' (by simp; omega) ?_
              refine CutR.mk' p hat hpl ?_
              refine Sure.mk' (by simp; omega) ?_
              refine CallK.pure (tokens_ret _ (by simp; omega)) ?_
              rw [hms]
              intro b17 h17
              refine Sure.mk' rfl ?_
              refine Store.mk' [.int .i64 0, .int .i64 0] put_box (Nat.le_of_ble_eq_true rfl) rfl (fun σ2 e2 => ?_)
              rw [put_put] at e2; obtain ⟨o2, g17⟩ := new_box h17 [.int .i64 0, .int .i64 0]; rw [← e2] at o2 g17; clear e2
              refine CallK.pure sanity_ret ?_
              refine Load.mk' g17 (Nat.le_of_ble_eq_true rfl) ?_
              refine BTest.yes rfl ?_
              refine CallK.pure (refSame_ret ts ms (by omega) hsame.symm) ?_
              exact Ret.weak (.refl _) (over_trans oA o2) ⟨rfl, rfl⟩
            · rw [if_neg (by omega)] at hms
              refine Sure.mk' (by simp; omega) ?_
              refine CutR.mk' p hat hpl ?_
              refine Sure.mk' (by simp; omega) ?_
              refine CallK.pure (tokens_ret _ (by simp; omega)) ?_
              rw [hms]
              intro b17 h17
              refine Sure.mk' rfl ?_
              refine Store.mk' [.int .i64 0, .int .i64 0] put_box (Nat.le_of_ble_eq_true rfl) rfl (fun σ2 e2 => ?_)
              rw [put_put] at e2; obtain ⟨o2, g17⟩ := new_box h17 [.int .i64 0, .int .i64 0]; rw [← e2] at o2 g17; clear e2
              refine CallK.pure sanity_ret ?_
              refine Load.mk' g17 (Nat.le_of_ble_eq_true rfl) ?_
              refine BTest.yes rfl ?_
              refine CallK.pure (refSame_ret ts ms (by omega) hsame.symm) ?_
              exact Ret.weak (.refl _) (over_trans oA o2) ⟨rfl, rfl⟩
          · obtain ⟨ms, hms, hsame⟩ := hgap ([35] ++ bs ++ [10]) (by simp <;> omega) (gap_comment bs hbc)
            refine CutL.mk' p hat hpl ?_
            refine Test.split (fun h8 => ?_) (fun h8 => ?_)
            · rw [if_pos (by omega)] at hms
              refine Sure.mk' (by simp; omega) ?_
              refine Sure.mk' (by simp; omega) ?_
              refine CutR.mk' p hat hpl ?_
              refine Sure.mk' (by simp; omega) ?_
              refine CallK.pure (tokens_ret _ (by simp; omega)) ?_
              rw [hms]
              intro b17 h17
              refine Sure.mk' rfl ?_
              refine Store.mk' [.int .i64 0, .int .i64 0] put_box (Nat.le_of_ble_eq_true rfl) rfl (fun σ2 e2 => ?_)
              rw [put_put] at e2; obtain ⟨o2, g17⟩ := new_box h17 [.int .i64 0, .int .i64 0]; rw [← e2] at o2 g17; clear e2
              refine CallK.pure sanity_ret ?_
              refine Load.mk' g17 (Nat.le_of_ble_eq_true rfl) ?_
              refine BTest.yes rfl ?_
              refine CallK.pure (refSame_ret ts ms (by omega) hsame.symm) ?_
              exact Ret.weak (.refl _) (over_trans oA o2) ⟨rfl, rfl⟩
            · rw [if_neg (by omega)] at hms
              refine Sure.mk' (by simp; omega) ?_
              refine CutR.mk' p hat hpl ?_
              refine Sure.mk' (by simp; omega) ?_
              refine CallK.pure (tokens_ret _ (by simp; omega)) ?_
              rw [hms]
              intro b17 h17
              refine Sure.mk' rfl ?_
              refine Store.mk' [.int .i64 0, .int .i64 0] put_box (Nat.le_of_ble_eq_true rfl) rfl (fun σ2 e2 => ?_)
              rw [put_put] at e2; obtain ⟨o2, g17⟩ := new_box h17 [.int .i64 0, .int .i64 0]; rw [← e2] at o2 g17; clear e2
              refine CallK.pure sanity_ret ?_
              refine Load.mk' g17 (Nat.le_of_ble_eq_true rfl) ?_
              refine BTest.yes rfl ?_
              refine CallK.pure (refSame_ret ts ms (by omega) hsame.symm) ?_
              exact Ret.weak (.refl _) (over_trans oA o2) ⟨rfl, rfl⟩
end Go.Shadow.Lex

/- Proved: the laws LexerReadsItsText and LexerCoversSources, as shadow contracts. Conditions: none. -/
namespace Go.Shadow.Lex
open Go Go.RowKit Go.Proofs

set_option maxHeartbeats 8000000 in
theorem law6 (src : List UInt8) : SRet Tryz.prog LG 6 [.str src] (.bool true) := by
  intro σ
  refine code6.call hm (by simp) ?_
  refine Test.split (fun h => ?_) (fun h => ?_)
  · refine CallK.pure sanity_ret ?_
    exact Ret.mk' ⟨rfl, rfl⟩
  · refine CallK.pure (tokens_ret src (by omega)) ?_
    cases hlex : lex src with
    | inl x =>
      obtain ⟨a, e⟩ := x
      have he := lex_err (by omega) hlex
      intro b4 h4
      refine Sure.mk' rfl ?_
      refine Store.mk' [.int .i64 a, .int .i64 e] put_box (Nat.le_of_ble_eq_true rfl) rfl (fun σ1 e1 => ?_)
      rw [put_put] at e1; obtain ⟨o1, g4⟩ := new_box h4 [.int .i64 a, .int .i64 e]; rw [← e1] at o1 g4; clear e1
      refine Load.mk' g4 (Nat.le_of_ble_eq_true rfl) ?_
      refine Test.yes (by omega) ?_
      refine CallK.pure sanity_ret ?_
      refine Test.yes rfl ?_
      exact Ret.weak (.refl _) o1 ⟨rfl, rfl⟩
    | inr ts =>
      obtain ⟨hb, hn, hj, ms, hms, hsame, hwords⟩ := reads_pure (by omega) hlex
      have hmn : ms.length = ts.length := by have := congrArg List.length hsame; simpa using this
      have hmb : ∀ t ∈ ms, t.s.length ≤ 2000 ∧ -1000000000000000 ≤ t.n ∧ t.n ≤ 1000000000000000 := by
        intro t ht
        have : noAt t ∈ ts.map noAt := by rw [← hsame]; exact List.mem_map.2 ⟨t, ht, rfl⟩
        obtain ⟨u, hu, he⟩ := List.mem_map.1 this
        have hu' := hb u hu
        simp only [noAt, Prod.mk.injEq] at he
        rw [← he.2.1, ← he.2.2]; exact hu'
      intro b4 h4
      refine Sure.mk' rfl ?_
      refine Store.mk' [.int .i64 0, .int .i64 0] put_box (Nat.le_of_ble_eq_true rfl) rfl (fun σ1 e1 => ?_)
      rw [put_put] at e1; obtain ⟨o1, g4⟩ := new_box h4 [.int .i64 0, .int .i64 0]; rw [← e1] at o1 g4; clear e1
      refine Load.mk' g4 (Nat.le_of_ble_eq_true rfl) ?_
      refine Test.no (by simp) ?_
      refine CallK.pure (text_ret .foreign ts (fun t ht => by have := hb t ht; omega) (fun t ht => by have := hb t ht; omega) (by omega) (by omega)) ?_
      refine CallK.pure (tokens_ret _ (by omega)) ?_
      rw [hms]
      intro b7 h7
      refine Sure.mk' rfl ?_
      refine Store.mk' [.int .i64 0, .int .i64 0] put_box (Nat.le_of_ble_eq_true rfl) rfl (fun σ2 e2 => ?_)
      rw [put_put] at e2; obtain ⟨o2, g7⟩ := new_box h7 [.int .i64 0, .int .i64 0]; rw [← e2] at o2 g7; clear e2
      refine CallK.pure sanity_ret ?_
      refine Load.mk' g7 (Nat.le_of_ble_eq_true rfl) ?_
      refine BTest.yes rfl ?_
      refine CallK.pure (refSame_ret ts ms (by omega) hsame.symm) ?_
      refine CallK.pure (text_ret .foreign ms (fun t ht => by have := hmb t ht; omega) (fun t ht => by have := hmb t ht; omega) (by omega) (by rw [hwords]; omega)) ?_
      rw [hwords]
      refine Test.yes rfl ?_
      exact Ret.weak (.refl _) (over_trans o1 o2) ⟨rfl, rfl⟩

set_option maxHeartbeats 8000000 in
theorem law10 (src : List UInt8) : SRet Tryz.prog LG 10 [.str src] (.bool true) := by
  intro σ
  refine code10.call hm (by simp) ?_
  refine Test.split (fun h => ?_) (fun h => ?_)
  · refine CallK.pure sanity_ret ?_
    exact Ret.mk' ⟨rfl, rfl⟩
  · refine CallK.pure (tokens_ret src (by omega)) ?_
    cases hlex : lex src with
    | inl x =>
      obtain ⟨a, e⟩ := x
      have he := lex_err (by omega) hlex
      intro b4 h4
      refine Sure.mk' rfl ?_
      refine Store.mk' [.int .i64 a, .int .i64 e] put_box (Nat.le_of_ble_eq_true rfl) rfl (fun σ1 e1 => ?_)
      rw [put_put] at e1; obtain ⟨o1, g4⟩ := new_box h4 [.int .i64 a, .int .i64 e]; rw [← e1] at o1 g4; clear e1
      refine Load.mk' g4 (Nat.le_of_ble_eq_true rfl) ?_
      refine Test.yes (by omega) ?_
      refine CallK.pure sanity_ret ?_
      exact Ret.weak (.refl _) o1 ⟨rfl, rfl⟩
    | inr ts =>
      have hts := lex_len hlex
      have hlen : (ts.map tokV).length = ts.length := by simp
      have hne : 0 < ts.length := List.length_pos_iff.2 fun e => by subst e; rw [lex_J (by omega)] at hlex; exact J_ne hlex
      intro b4 h4
      refine Sure.mk' rfl ?_
      refine Store.mk' [.int .i64 0, .int .i64 0] put_box (Nat.le_of_ble_eq_true rfl) rfl (fun σ1 e1 => ?_)
      rw [put_put] at e1; obtain ⟨o1, g4⟩ := new_box h4 [.int .i64 0, .int .i64 0]; rw [← e1] at o1 g4; clear e1
      refine Load.mk' g4 (Nat.le_of_ble_eq_true rfl) ?_
      refine Test.no (by simp) ?_
      refine ⟨fun m sl σ' => σ' = σ1 ∧ ∃ i k : Nat, sl = ofL [(0, some (.str src)), (3, some (.slice .foreign 4 (ts.map tokV))), (5, some (.int .i64 k)), (6, some (.int .i64 i))] ∧ i ≤ ts.length ∧ (i < ts.length → Run src 0 (ts.take i) k) ∧ (i = ts.length → k = src.length) ∧ m = ts.length - i, _,
        ⟨rfl, 0, 0, rfl, by omega, fun _ => .nil 0, fun h => by omega, rfl⟩, ?_⟩
      rintro m sl σ' ⟨rfl, i, k, rfl, hi, hrun, hend, rfl⟩
      refine Test.split (fun h6 => ?_) (fun h6 => ?_)
      · rw [hlen] at h6
        obtain ⟨t, w, ht, hk, hat, hw, hle, hcut, hwe, hb, hlast, hnext⟩ := covers_pure (by omega) hlex i k (by omega) (hrun (by omega))
        refine Sure.mk' (.inl rfl) ?_
        refine IdxE.mk' i (tokV t) rfl (by simp [ht]) ?_
        refine ⟨⟨by simp [tokV], ?_⟩⟩
        intro b7 h7
        refine Sure.mk' rfl ?_
        refine Store.mk' (tokV t) put_box (Nat.le_of_ble_eq_true rfl) rfl (fun σ2 e2 => ?_)
        rw [put_put] at e2; obtain ⟨o2, g7⟩ := new_box h7 (tokV t); rw [← e2] at o2 g7; clear e2
        refine Load.mk' g7 (Nat.le_of_ble_eq_true rfl) ?_
        refine CallK.pure (blank_ret src k (by omega) hk) ?_
        refine Kept.refl ?_
        refine Test.no (by omega) ?_
        refine Load.mk' g7 (Nat.le_of_ble_eq_true rfl) ?_
        refine CallK.pure (text_ret .full [t] (fun u hu => by simp at hu; subst hu; omega) (fun u hu => by simp at hu; subst hu; omega) (by simp) (by rw [hw]; omega)) ?_
        rw [hw]
        refine Load.mk' g7 (Nat.le_of_ble_eq_true rfl) ?_
        refine Arith.i64 ((skipTo src k + w.length : Nat) : Int) (by rw [hat]; simp) (by omega) ?_
        refine Test.no (by omega) ?_
        refine Load.mk' g7 (Nat.le_of_ble_eq_true rfl) ?_
        refine Load.mk' g7 (Nat.le_of_ble_eq_true rfl) ?_
        refine Arith.i64 ((skipTo src k + w.length : Nat) : Int) (by rw [hat]; simp) (by omega) ?_
        refine Cut.mk' (skipTo src k) (skipTo src k + w.length) hat rfl (by omega) hle ?_
        rw [hcut]
        refine Test.no (by simp) ?_
        have hfin : ∀ b : Bool, b = decide (w = []) → True := fun _ _ => trivial
        by_cases hil : i + 1 = ts.length
        · have hw0 := hwe.2 hil
          refine Test.yes hw0 ?_
          refine Arith.i64 ((i : Nat) : Int) (by rw [hlen]; omega) (by omega) ?_
          refine Test.yes rfl ?_
          refine BTest.no rfl ?_
          refine Load.mk' g7 (Nat.le_of_ble_eq_true rfl) ?_
          refine Arith.i64 ((skipTo src k + w.length : Nat) : Int) (by rw [hat]; simp) (by omega) ?_
          refine Arith.i64 ((i + 1 : Nat) : Int) (by simp) (by omega) ?_
          exact ⟨_, _, by omega, o2, rfl, i + 1, skipTo src k + w.length, rfl, by omega, fun h => by omega, fun _ => hlast hil, rfl⟩
        · have hw0 : ¬ w = [] := fun e => hil (hwe.1 e)
          refine Test.no hw0 ?_
          refine Arith.i64 ((ts.length - 1 : Nat) : Int) (by rw [hlen]; omega) (by omega) ?_
          refine Test.no (by omega) ?_
          refine BTest.no rfl ?_
          refine Load.mk' g7 (Nat.le_of_ble_eq_true rfl) ?_
          refine Arith.i64 ((skipTo src k + w.length : Nat) : Int) (by rw [hat]; simp) (by omega) ?_
          refine Arith.i64 ((i + 1 : Nat) : Int) (by simp) (by omega) ?_
          exact ⟨_, _, by omega, o2, rfl, i + 1, skipTo src k + w.length, rfl, by omega, fun h => hnext (by omega), fun h => by omega, rfl⟩
      · rw [hlen] at h6
        refine CallK.pure sanity_ret ?_
        refine Test.yes (by rw [hend (by omega)]) ?_
        exact Ret.weak (.refl _) o1 ⟨rfl, rfl⟩
end Go.Shadow.Lex

/- What the rows' cell 'laid' gives the walks; and a start that meets it. -/
namespace Go.Shadow.Lex
open Go Go.RowKit Go.Proofs Go.Proofs.YtgebphnfnmeaaaaGreatDoor

def laidAll : List (String × DataW Unit) := [("math/bits.deBruijn32tab", Rows.laid_math_bits_deBruijn32tab), ("math/bits.deBruijn64tab", Rows.laid_math_bits_deBruijn64tab), ("internal/strconv.uint64pow10", Rows.laid_internal_strconv_uint64pow10), ("strconv.ErrRange", Rows.laid_strconv_ErrRange), ("strconv.ErrSyntax", Rows.laid_strconv_ErrSyntax), ("unicode.White_Space", Rows.laid_unicode_White_Space), ("strings.asciiSpace", Rows.laid_strings_asciiSpace)]

theorem own : ownKnob Tryz.prog.godebug = none := by kernel_rfl
theorem gA : Tryz.prog.globalNamed "strings.asciiSpace" = some 0 := by kernel_rfl
theorem gP : Tryz.prog.globalNamed "internal/strconv.uint64pow10" = some 3 := by kernel_rfl
theorem gS : Tryz.prog.globalNamed "strconv.ErrSyntax" = some 4 := by kernel_rfl
theorem gR : Tryz.prog.globalNamed "strconv.ErrRange" = some 5 := by kernel_rfl
theorem tA : (Tryz.prog.globals[0]?).map (·.type) = some 105 := by kernel_rfl
theorem tP : (Tryz.prog.globals[3]?).map (·.type) = some 144 := by kernel_rfl
theorem tS : (Tryz.prog.globals[4]?).map (·.type) = some 92 := by kernel_rfl
theorem tR : (Tryz.prog.globals[5]?).map (·.type) = some 92 := by kernel_rfl
theorem star : "*" ++ "errors.errorString" = "*errors.errorString" := by decide
theorem row190 (u : TypeId) (h : Tryz.prog.typeName? 3 u = some "*errors.errorString") : u = 190 :=
  typeName_ptr_named (nm := "errors.errorString") (by rw [star]; kernel_rfl) (by kernel_rfl) (by decide) u (by rw [star]; exact h)
theorem cells192 : Tryz.prog.cellsOf 192 = 1 := by kernel_rfl
theorem cells9 : Tryz.prog.cellsOf 9 = 1 := by kernel_rfl
theorem dataA : (Rows.laid_strings_asciiSpace : DataW Unit) = Lib.tabData .u8 Lib.asciiSpaceTab := by kernel_rfl
theorem dataP : (Rows.laid_internal_strconv_uint64pow10 : DataW Unit) = Lib.tabData .u64 Lib.pow10Tab := by kernel_rfl

theorem tab_of {W : World} {n : String} {k : IntKind} {zs : List Int} {d : DataW Unit} {g : Nat} {t e : TypeId} {m : Nat} (h : Lib.VarReads Tryz.prog W n d) (hd : d = Lib.tabData k zs)
    (hg : Tryz.prog.globalNamed n = some g) (hty : (Tryz.prog.globals[g]?).map (·.type) = some t) (ht : Tryz.prog.underlying t = some (.array m e)) (he : Tryz.prog.underlying e = some (.int k)) (hce : Tryz.prog.cellsOf e = 1) (hct : Tryz.prog.cellsOf t = m) : Lib.TabIs Tryz.prog W n k zs := by
  obtain ⟨g', t', cs, fuel, p, hg', hty', hv, htr⟩ := h
  obtain rfl := Option.some.inj (hg.symm.trans hg')
  obtain rfl := Option.some.inj (hty.symm.trans hty')
  subst hd
  have := Lib.cells_of_tab ht he hce hct htr
  unfold Lib.TabIs
  rw [hv, ← this]

theorem lexPre_of {W : World} (h0 : laidMetH Tryz.prog laidAll W) : lexPre W := by
  have h : laidMet Tryz.prog laidAll W := by
    rw [MakeChecks.laidMetH_plain _ _ _ (by kernel_rfl)] at h0; exact h0
  refine ⟨?_, ?_, ?_, ?_⟩
  · exact tab_of (Lib.laidMet.reads h (n := "strings.asciiSpace") (d := Rows.laid_strings_asciiSpace) (by simp [laidAll])) dataA gA tA Tryz.underlying105 Tryz.underlying5 (by kernel_rfl) (by kernel_rfl)
  · exact tab_of (Lib.laidMet.reads h (n := "internal/strconv.uint64pow10") (d := Rows.laid_internal_strconv_uint64pow10) (by simp [laidAll])) dataP gP tP Tryz.underlying144 Tryz.underlying110 (by kernel_rfl) (by kernel_rfl)
  · obtain ⟨a, s, hv, _⟩ := laid_sentinel (h.tail.tail.tail.tail) gS tS Tryz.underlying92 row190 Tryz.underlying190 Tryz.underlying192 rfl rfl Tryz.underlying9 cells192 cells9
    have := World.var?_cell gS hv 0
    exact ⟨190, _, by simpa using this⟩
  · obtain ⟨a, s, hv, _⟩ := laid_sentinel (h.tail.tail.tail) gR tR Tryz.underlying92 row190 Tryz.underlying190 Tryz.underlying192 rfl rfl Tryz.underlying9 cells192 cells9
    have := World.var?_cell gR hv 0
    exact ⟨190, _, by simpa using this⟩

/-- The door's own heap meets the condition. -/
theorem door_met (os : Os) (args : Array Value) : laidMetH Tryz.prog laidAll ((World.doorLaid Tryz.prog 400 os).forCall (fun _ _ => 0) ⟨#[], args, []⟩).memory :=
  laidMetH_of_parts3 (fuel := 8) (laidMet_of_run' 8 (by kernel_rfl) (by kernel_rfl)) (by kernel_rfl) (by kernel_rfl)
end Go.Shadow.Lex

/- THE SHADOW LOGIC, part 18: out of it: a contract as 'Calls', for a row. -/
namespace Go.Shadow
open Go Go.RowKit Go.Proofs

def Gh.zero : Gh := { row := fun _ => none, tip := fun _ => none, nt := 0 }
def St.zero : St := { box := fun _ => none, live := fun _ => false }
theorem Inv.zero {G : Globs} {W : World} (hp : G.pre W) (hg : ∀ g cs, G g = some cs → R W.heap.size Gh.zero W (.ref cs) (.pointer (some ⟨g, 0, none⟩))) : Inv G W Gh.zero St.zero W :=
  ⟨.refl _ _, fun b cs h => (by cases h), fun t h => (by cases h), fun t g h => (by cases h), fun t t' g h => (by cases h), fun b u h => (by cases h), hg, hp⟩
theorem SRet.run {P : Program} {G : Globs} {f : FuncId} {args : List V} {r : V} {W : World} {xs : Array Value} {v : Value} (h : SRet P G f args r) (he : ∀ args w, (callFunc f args).run P w = .ok (.enter f args) w) (hp : G.pre W)
    (hg : ∀ g cs, G g = some cs → R W.heap.size Gh.zero W (.ref cs) (.pointer (some ⟨g, 0, none⟩))) (hx : RL W.heap.size Gh.zero W args xs.toList) (hv : ∀ B γ w x, R B γ w r x → x = v) :
    Calls P f xs W fun e W' => e = .returned v ∧ Below W.heap.size W W' := by
  rcases h St.zero W Gh.zero W xs (.zero hp hg) hx with ⟨_, hc⟩ | ⟨x, w', h1, _⟩
  · refine hc.mono ?_
    rintro e w' ⟨γ', σ', _, hI, r', x, hR, ⟨rfl, _, hr⟩ | ⟨_, _, hr⟩⟩
    · injection hr with hr; subst hr
      exact ⟨by rw [hv _ _ _ _ hR], hI.bel⟩
    · cases hr
  · rw [he] at h1; cases h1
theorem R.bool_eq {B : Nat} {γ : Gh} {w : World} {b : Bool} {x : Value} (h : R B γ w (.bool b) x) : x = .bool b := by cases h; rfl
end Go.Shadow

/- Proved: the row of LexerCoversSources: for every input the call returns true, and each argument reads as it did. Conditions: those of the row (laid). -/
set_option linter.unusedVariables false
namespace Go.Shadow.Lex.R10
open Go Go.ChangeShapes Go.WideShapes Go.ChangeAt Go.RowKit Go.Proofs Go.Proofs.YtgebphnfnmeaaaaGreatDoor
open Go.ChangeMaps (open_string shut_string)

theorem walk (a0 : ByteArray) (y0 : a0.size ≤ maxLen) (W : World) (hL : laidMetH Tryz.prog laidAll W) :
    Calls Tryz.prog 10 #[.string a0] W fun e W' => e = .returned (.bool true) ∧ Below W.heap.size W W' := by
  refine (law10 a0.data.toList).run (enters_of Tryz.func10 (by kernel_rfl) rfl) (lexPre_of hL) (fun g cs h => by cases h) ?_ (fun B γ w x h => h.bool_eq)
  exact (.cons (.str _ _ rfl) .nil)

set_option maxRecDepth 100000 in
theorem lifted (os : Os) (started : os.Started) (H : Type) (enc : TypeId × Value → H) :
    ReturnsInHanded {} Tryz.checked os 10 .any (fun w args => (Rows.lexerCoversSourcesSpec.pre enc Tryz.prog Tryz.f10 [] false w args ∧ laidMetH Tryz.prog laidAll w) ∧ sizedMet enc Tryz.prog Tryz.f10 (OpenSpec.ofChange Rows.lexerCoversSourcesSpec) false w args)
      (Rows.lexerCoversSourcesSpec.post enc Tryz.prog Tryz.f10 false true false false) := by
  refine returnsInHanded_of_change_and (C := Tryz.checked) (X := fun w _ => laidMetH Tryz.prog laidAll w) (fun _ _ _ hh h => h.of_heap hh) own started (by kernel_rfl) Tryz.func10
    (ChangeSpec.witness_shaped (enc := enc) (C := Tryz.checked) (os := os) (X := fun w _ => laidMetH Tryz.prog laidAll w) false (World.doorLaid Tryz.prog 400 os) #[.string ByteArray.empty] 8 rfl (World.shaped_of_RefB (by kernel_rfl) (by kernel_rfl)) (by kernel_rfl) (by kernel_rfl) (by kernel_rfl) (door_met os _)) ?_
  intro W base args ds gs before hval0 hW _ _ hL _
  have hval : ∀ (j : Nat) t v, Tryz.f10.params[j]? = some t → args[j]? = some v → Value.okWide Tryz.prog W .any base t v := hval0
  have hW' := hW
  obtain ⟨p, q, hA0, hV, rfl, hfz, hnd⟩ := hW
  have hA : DataW.TrodAll enc Tryz.prog W 0 (fun _ => true) true Tryz.f10.params.toList args.toList ds p := hA0
  rw [Tryz.params10] at hA hval
  obtain ⟨v0, vs0, d0, ds0, p0, q0, hargs, rfl, rfl, h0, r0⟩ := trodAll_cons hA
  obtain ⟨rfl, rfl, rfl⟩ := trodAll_nil r0
  obtain rfl : args = #[v0] := by cases args; simp_all
  obtain ⟨rfl, rfl⟩ := trodVars_none hV
  obtain ⟨a0, rfl, rfl, rfl, y0⟩ := open_string Tryz.underlying9 (hval 0 9 v0 rfl rfl) h0
  clear hA0 hval0
  refine (walk a0 y0 W hL).mono fun e W' ⟨he, bel⟩ => ?_
  subst he
  exact ⟨_, rfl, _, _, _, [], _, [], hW', trodAll_mk1 (shut_bool Tryz.underlying4 _), (trodAll_cons_mk (shut_string Tryz.underlying9 y0) trodAll_mk0), rfl, bel.frame _, fun h => by cases h⟩

theorem over : Rows.lexerCoversSourcesRow.holds Tryz.pinned (OpenSpec.ofChange Rows.lexerCoversSourcesSpec) :=
  OpenClaim.holds_of_wide 10 Tryz.f10 rfl rfl rfl rfl rfl rfl rfl ⟨rfl, rfl, rfl, rfl, rfl⟩ rfl rfl rfl rfl rfl (by kernel_rfl) Tryz.func10 (by kernel_rfl)
    (of_decide_eq_true (by kernel_rfl)) (by unfold Func.isWrapper; first | (rw [if_pos (by decide +kernel)]; kernel_rfl) | (rw [if_neg (by decide +kernel)]; exact ⟨rfl, rfl⟩))
    (fun os started H enc _ => lifted os started H enc)
end Go.Shadow.Lex.R10

/- Proved: the tied card of LexerCoversSources. Conditions: none beyond the card's own. -/
namespace Go.Proofs.YtgebphnfnmeaaaaGreatDoor
open Go

theorem lexerCoversSources_card : Rows.LexerCoversSourcesCardSaid :=
  Claim7.holds_tied_plain_at .later [] [.data, .data, .data, .sentinel, .sentinel, .listed, .data] true (true, "ddb17e109f53d6eaaafb01bdedf637cfbe560ab146dd6fdd2ba16c71defaa5c1") true
    Go.Shadow.Lex.R10.over (fun _ h => by cases h) (by kernel_rfl) (fun _ h => by cases h) lexerCoversSources_row_tie rfl ⟨rfl, rfl⟩ (by kernel_rfl) rfl
    (fun f fn hf hfn => by
      obtain rfl : f = 10 := Option.some.inj ((show Tryz.prog.funcNamed "quietus/quietuslaw31.LexerCoversSources" = some 10 by kernel_rfl).symm.trans hf) |>.symm
      obtain rfl : fn = Tryz.f10 := (Option.some.inj (Tryz.func10.symm.trans hfn)).symm
      exact ⟨by kernel_rfl, fun j t ht => by
        rw [Tryz.params10] at ht
        have h3 : t = 9 := by
          rcases j with _ | j
          · simpa using ht.symm
          · simp at ht
        subst h3
        exact (show Tryz.prog.wantsStandIn 9 = false by kernel_rfl)⟩)
    (by kernel_rfl)
#print axioms lexerCoversSources_card
end Go.Proofs.YtgebphnfnmeaaaaGreatDoor
