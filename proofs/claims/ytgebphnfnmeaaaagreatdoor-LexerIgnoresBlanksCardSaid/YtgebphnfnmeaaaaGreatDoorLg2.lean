/- Proved: the law LexerStopsAtTheFirstProblem and LexerJoinsSources, as shadow contracts. Conditions: none. -/
import Derived.Test.YtgebphnfnmeaaaaGreatDoorLg1
import Derived.Test.YtgebphnfnmeaaaaGreatDoorLf3
namespace Go.Shadow.Lex
open Go Go.RowKit Go.Proofs

theorem lex_err {l : List UInt8} {p e : Nat} (hl : l.length ≤ 65536) (h : lex l = .inl (p, e)) : e ≠ 0 := by
  rw [lex_J hl] at h
  obtain ⟨_, _, _, _, _, _, ho⟩ := J_bad _ 0 p e (Nat.le_refl _) (by omega) h
  exact lexOne_err ho

set_option maxHeartbeats 4000000 in
theorem law9 (src : List UInt8) : SRet Tryz.prog LG 9 [.str src] (.bool true) := by
  intro σ
  refine code9.call hm (by simp) ?_
  refine Test.split (fun h => ?_) (fun h => ?_)
  · refine CallK.pure sanity_ret ?_
    exact Ret.mk' ⟨rfl, rfl⟩
  · refine CallK.pure (tokens_ret src (by omega)) ?_
    cases hlex : lex src with
    | inl x =>
      obtain ⟨a, e⟩ := x
      obtain ⟨hp, ts, hts, hpos⟩ := stops_pure (by omega) hlex
      have he := lex_err (by omega) hlex
      intro b4 h4
      refine Sure.mk' rfl ?_
      refine Store.mk' [.int .i64 a, .int .i64 e] put_box (Nat.le_of_ble_eq_true rfl) rfl (fun σ1 e1 => ?_)
      rw [put_put] at e1; obtain ⟨o1, g4⟩ := new_box h4 [.int .i64 a, .int .i64 e]; rw [← e1] at o1 g4; clear e1
      refine Load.mk' g4 (Nat.le_of_ble_eq_true rfl) ?_
      refine Test.no (by omega) ?_
      refine Load.mk' g4 (Nat.le_of_ble_eq_true rfl) ?_
      refine Test.no (by omega) ?_
      refine Load.mk' g4 (Nat.le_of_ble_eq_true rfl) ?_
      refine Test.no (by omega) ?_
      refine Load.mk' g4 (Nat.le_of_ble_eq_true rfl) ?_
      refine CutL.mk' a rfl (by omega) ?_
      refine CallK.pure (tokens_ret (src.take a) (by simp; omega)) ?_
      rw [hts]
      intro b6 h6
      refine Sure.mk' rfl ?_
      refine Store.mk' [.int .i64 0, .int .i64 0] put_box (Nat.le_of_ble_eq_true rfl) rfl (fun σ2 e2 => ?_)
      rw [put_put] at e2; obtain ⟨o2, g6⟩ := new_box h6 [.int .i64 0, .int .i64 0]; rw [← e2] at o2 g6; clear e2
      refine CallK.pure sanity_ret ?_
      refine Load.mk' (o2.box _ _ g4) (Nat.le_of_ble_eq_true rfl) ?_
      refine Test.split (fun h7 => ?_) (fun h7 => ?_)
      · exact Ret.weak (.refl _) (over_trans o1 o2) ⟨rfl, rfl⟩
      · refine Load.mk' g6 (Nat.le_of_ble_eq_true rfl) ?_
        refine Test.yes rfl ?_
        refine Test.yes (by simp; omega) ?_
        exact Ret.weak (.refl _) (over_trans o1 o2) ⟨rfl, rfl⟩
    | inr ts =>
      intro b4 h4
      refine Sure.mk' rfl ?_
      refine Store.mk' [.int .i64 0, .int .i64 0] put_box (Nat.le_of_ble_eq_true rfl) rfl (fun σ1 e1 => ?_)
      rw [put_put] at e1; obtain ⟨o1, g4⟩ := new_box h4 [.int .i64 0, .int .i64 0]; rw [← e1] at o1 g4; clear e1
      refine Load.mk' g4 (Nat.le_of_ble_eq_true rfl) ?_
      refine Test.yes rfl ?_
      refine CallK.pure sanity_ret ?_
      exact Ret.weak (.refl _) o1 ⟨rfl, rfl⟩

set_option maxHeartbeats 4000000 in
theorem law7 (a b : List UInt8) : SRet Tryz.prog LG 7 [.str a, .str b] (.bool true) := by
  intro σ
  refine code7.call hm (by simp) ?_
  have big : CallK Tryz.prog LG 11 [] σ (fun v σ' => Ret v σ' (fun e σ' => σ' = σ ∧ e = SEnd.ret (.bool true))) (fun _ _ => True) := by
    refine CallK.pure sanity_ret ?_
    exact Ret.mk' ⟨rfl, rfl⟩
  refine Test.split (fun h => ?_) (fun h => ?_)
  · refine CallK.pure sanity_ret ?_
    exact Ret.mk' ⟨rfl, rfl⟩
  refine Test.split (fun h' => ?_) (fun h' => ?_)
  · refine CallK.pure sanity_ret ?_
    exact Ret.mk' ⟨rfl, rfl⟩
  have hcat : (a ++ [10]) ++ b = a ++ 10 :: b := by simp
  refine CallK.pure (tokens_ret a (by omega)) ?_
  cases hla : lex a with
  | inl x =>
    obtain ⟨p, e⟩ := x
    have he := lex_err (by omega) hla
    have hall := joins_bad (b := b) (by omega) hla
    intro b6 h6
    refine Sure.mk' rfl ?_
    refine Store.mk' [.int .i64 p, .int .i64 e] put_box (Nat.le_of_ble_eq_true rfl) rfl (fun σ1 e1 => ?_)
    rw [put_put] at e1; obtain ⟨o1, g6⟩ := new_box h6 [.int .i64 p, .int .i64 e]; rw [← e1] at o1 g6; clear e1
    refine CallK.pure (tokens_ret b (by omega)) ?_
    have hb : ∃ t c1 c2, lexRes (lex b) = .tup [t, .agg [.int .i64 c1, .int .i64 c2]] := by
      cases lex b with
      | inl x => exact ⟨_, _, _, rfl⟩
      | inr x => exact ⟨_, _, _, rfl⟩
    obtain ⟨t, c1, c2, hb⟩ := hb
    rw [hb]
    intro b8 h8
    refine Sure.mk' rfl ?_
    refine Store.mk' [.int .i64 c1, .int .i64 c2] put_box (Nat.le_of_ble_eq_true rfl) rfl (fun σ2 e2 => ?_)
    rw [put_put] at e2; obtain ⟨o2, g8⟩ := new_box h8 [.int .i64 c1, .int .i64 c2]; rw [← e2] at o2 g8; clear e2
    refine Sure.mk' (by simp; omega) ?_
    refine Sure.mk' (by simp; omega) ?_
    refine CallK.pure (tokens_ret _ (by simp; omega)) ?_
    rw [hcat, hall]
    intro b10 h10
    refine Sure.mk' rfl ?_
    refine Store.mk' [.int .i64 p, .int .i64 e] put_box (Nat.le_of_ble_eq_true rfl) rfl (fun σ3 e3 => ?_)
    rw [put_put] at e3; obtain ⟨o3, g10⟩ := new_box h10 [.int .i64 p, .int .i64 e]; rw [← e3] at o3 g10; clear e3
    refine Load.mk' (o3.box _ _ (o2.box _ _ g6)) (Nat.le_of_ble_eq_true rfl) ?_
    refine Test.yes (by omega) ?_
    refine CallK.pure sanity_ret ?_
    refine Load.mk' g10 (Nat.le_of_ble_eq_true rfl) ?_
    refine Load.mk' (o3.box _ _ (o2.box _ _ g6)) (Nat.le_of_ble_eq_true rfl) ?_
    refine BTest.yes (by simp) ?_
    exact Ret.weak (.refl _) (over_trans (over_trans o1 o2) o3) ⟨rfl, rfl⟩
  | inr ls =>
    obtain ⟨ts', hls, hall⟩ := joins_ok (b := b) (by omega) hla
    have hlsn := lex_len hla
    intro b6 h6
    refine Sure.mk' rfl ?_
    refine Store.mk' [.int .i64 0, .int .i64 0] put_box (Nat.le_of_ble_eq_true rfl) rfl (fun σ1 e1 => ?_)
    rw [put_put] at e1; obtain ⟨o1, g6⟩ := new_box h6 [.int .i64 0, .int .i64 0]; rw [← e1] at o1 g6; clear e1
    refine CallK.pure (tokens_ret b (by omega)) ?_
    cases hlb : lex b with
    | inl x =>
      obtain ⟨p, e⟩ := x
      have he := lex_err (by omega) hlb
      have hp := (stops_pure (by omega) hlb).1
      rw [hlb] at hall
      intro b8 h8
      refine Sure.mk' rfl ?_
      refine Store.mk' [.int .i64 p, .int .i64 e] put_box (Nat.le_of_ble_eq_true rfl) rfl (fun σ2 e2 => ?_)
      rw [put_put] at e2; obtain ⟨o2, g8⟩ := new_box h8 [.int .i64 p, .int .i64 e]; rw [← e2] at o2 g8; clear e2
      refine Sure.mk' (by simp; omega) ?_
      refine Sure.mk' (by simp; omega) ?_
      refine CallK.pure (tokens_ret _ (by simp; omega)) ?_
      rw [hcat, hall]
      intro b10 h10
      refine Sure.mk' rfl ?_
      refine Store.mk' [.int .i64 (a.length + 1 + p : Nat), .int .i64 e] put_box (Nat.le_of_ble_eq_true rfl) rfl (fun σ3 e3 => ?_)
      rw [put_put] at e3; obtain ⟨o3, g10⟩ := new_box h10 [.int .i64 (a.length + 1 + p : Nat), .int .i64 e]; rw [← e3] at o3 g10; clear e3
      refine Load.mk' (o3.box _ _ (o2.box _ _ g6)) (Nat.le_of_ble_eq_true rfl) ?_
      refine Test.no (by simp) ?_
      refine Load.mk' (o3.box _ _ g8) (Nat.le_of_ble_eq_true rfl) ?_
      refine Test.yes (by omega) ?_
      refine CallK.pure sanity_ret ?_
      refine Load.mk' g10 (Nat.le_of_ble_eq_true rfl) ?_
      refine Load.mk' (o3.box _ _ g8) (Nat.le_of_ble_eq_true rfl) ?_
      refine Arith.i64 ((p + a.length : Nat) : Int) (by simp) (by omega) ?_
      refine Arith.i64 ((a.length + 1 + p : Nat) : Int) (by omega) (by omega) ?_
      refine Load.mk' (o3.box _ _ g8) (Nat.le_of_ble_eq_true rfl) ?_
      refine BTest.yes (by simp) ?_
      exact Ret.weak (.refl _) (over_trans (over_trans o1 o2) o3) ⟨rfl, rfl⟩
    | inr ms =>
      rw [hlb] at hall
      have hmsn := lex_len hlb
      intro b8 h8
      refine Sure.mk' rfl ?_
      refine Store.mk' [.int .i64 0, .int .i64 0] put_box (Nat.le_of_ble_eq_true rfl) rfl (fun σ2 e2 => ?_)
      rw [put_put] at e2; obtain ⟨o2, g8⟩ := new_box h8 [.int .i64 0, .int .i64 0]; rw [← e2] at o2 g8; clear e2
      refine Sure.mk' (by simp; omega) ?_
      refine Sure.mk' (by simp; omega) ?_
      refine CallK.pure (tokens_ret _ (by simp; omega)) ?_
      rw [hcat, hall]
      intro b10 h10
      refine Sure.mk' rfl ?_
      refine Store.mk' [.int .i64 0, .int .i64 0] put_box (Nat.le_of_ble_eq_true rfl) rfl (fun σ3 e3 => ?_)
      rw [put_put] at e3; obtain ⟨o3, g10⟩ := new_box h10 [.int .i64 0, .int .i64 0]; rw [← e3] at o3 g10; clear e3
      refine Load.mk' (o3.box _ _ (o2.box _ _ g6)) (Nat.le_of_ble_eq_true rfl) ?_
      refine Test.no (by simp) ?_
      refine Load.mk' (o3.box _ _ g8) (Nat.le_of_ble_eq_true rfl) ?_
      refine Test.no (by simp) ?_
      have hn : ls.length = ts'.length + 1 := by rw [hls]; simp
      generalize hA : ts' ++ ms.map (shTok (a.length + 1)) = al
      have hnA : al.length = ts'.length + ms.length := by rw [← hA]; simp
      refine Arith.i64 ((ts'.length : Nat) : Int) (by simp [hn]) (by omega) ?_
      refine Load.mk' g10 (Nat.le_of_ble_eq_true rfl) ?_
      refine Test.no (by simp) ?_
      refine Test.no (by omega) ?_
      refine Arith.i64 ((al.length : Nat) : Int) (by simp [hnA]) (by omega) ?_
      refine Test.no (by simp) ?_
      refine ⟨fun m sl σ' => σ' = σ3 ∧ ∃ i : Nat, sl = ofL [(0, some (.str a)), (5, some (.slice .foreign 4 (ls.map tokV))), (7, some (.slice .foreign 4 (ms.map tokV))), (9, some (.slice .foreign 4 (al.map tokV))), (11, some (.int .i64 ts'.length)), (12, some (.int .i64 i))] ∧ i ≤ al.length ∧ m = al.length - i, _, ⟨rfl, 0, rfl, by omega, rfl⟩, ?_⟩
      rintro m sl σ' ⟨rfl, i, rfl, hi, rfl⟩
      have hlenA : (al.map tokV).length = al.length := by simp
      refine Test.split (fun h9 => ?_) (fun h9 => ?_)
      · rw [hlenA] at h9
        obtain ⟨t, ht⟩ : ∃ t, al[i]? = some t := ⟨al[i]'(by omega), by simp [show i < al.length by omega]⟩
        intro b13 h13
        refine Test.split (fun h12 => ?_) (fun h12 => ?_)
        · have ht' : ls[i]? = some t := by
            rw [hls, List.getElem?_append_left (by omega), ← ht, ← hA, List.getElem?_append_left (by omega)]
          refine Sure.mk' (.inl rfl) ?_
          refine IdxE.mk' i (tokV t) rfl (by simp [ht']) ?_
          refine ⟨⟨by simp [tokV], ?_⟩⟩
          refine Sure.mk' rfl ?_
          refine Store.mk' (tokV t) put_box (Nat.le_of_ble_eq_true rfl) rfl (fun σ4 e4 => ?_)
          rw [put_put] at e4; obtain ⟨o4, g13⟩ := new_box h13 (tokV t); rw [← e4] at o4 g13; clear e4
          refine Sure.mk' (.inl rfl) ?_
          refine IdxE.mk' i (tokV t) rfl (by simp [ht]) ?_
          refine ⟨⟨by simp [tokV], ?_⟩⟩
          refine Load.mk' g13 (Nat.le_of_ble_eq_true rfl) ?_
          refine BTest.no (by simp) ?_
          refine Arith.i64 ((i + 1 : Nat) : Int) (by simp) (by omega) ?_
          exact ⟨_, _, by omega, o4, rfl, i + 1, rfl, by omega, rfl⟩
        · obtain ⟨u, hu, rfl⟩ : ∃ u, ms[i - ts'.length]? = some u ∧ shTok (a.length + 1) u = t := by
            rw [← hA, List.getElem?_append_right (by omega), List.getElem?_map, Option.map_eq_some_iff] at ht
            exact ht
          have hat : -9223372036854775808 ≤ u.at_ + (a.length + 1 : Nat) ∧ u.at_ + (a.length + 1 : Nat) ≤ 9223372036854775807 := by
            have hm0 : ms = ms := rfl
            have hJ := hlb
            rw [lex_J (by omega)] at hJ
            have hiu : i - ts'.length < ms.length := (List.getElem?_eq_some_iff.1 hu).1
            obtain ⟨k, t2, _, h2, h3, h4', _, _⟩ := J_ok _ 0 ms (Nat.le_refl _) (by omega) hJ (i - ts'.length) hiu
            rw [hu] at h2; injection h2 with h2; subst h2
            have := skipTo_le b k h3
            omega
          refine Arith.i64 ((i - ts'.length : Nat) : Int) (by omega) (by omega) ?_
          refine Sure.mk' (.inl rfl) ?_
          refine IdxE.mk' (i - ts'.length) (tokV u) rfl (by simp [hu]) ?_
          refine ⟨⟨by simp [tokV], ?_⟩⟩
          refine Sure.mk' rfl ?_
          refine Store.mk' (tokV u) put_box (Nat.le_of_ble_eq_true rfl) rfl (fun σ4 e4 => ?_)
          rw [put_put] at e4
          refine Load.mk' (by rw [e4]; exact put_box) (Nat.le_of_ble_eq_true rfl) ?_
          refine Arith.i64 ((a.length + 1 : Nat) : Int) (by simp) (by omega) ?_
          refine Arith.i64 (u.at_ + (a.length + 1 : Nat)) rfl hat ?_
          refine Sure.mk' rfl ?_
          refine Store.mk' (tokV (shTok (a.length + 1) u)) (by rw [e4]; exact put_box) (Nat.le_of_ble_eq_true rfl) rfl (fun σ5 e5 => ?_)
          rw [e4, put_put] at e5
          obtain ⟨o4, g13⟩ := new_box h13 (tokV (shTok (a.length + 1) u)); rw [← e5] at o4 g13; clear e5
          refine Sure.mk' (.inl rfl) ?_
          refine IdxE.mk' i (tokV (shTok (a.length + 1) u)) rfl (by simp [ht]) ?_
          refine ⟨⟨by simp [tokV], ?_⟩⟩
          refine Load.mk' g13 (Nat.le_of_ble_eq_true rfl) ?_
          refine BTest.no (by simp) ?_
          refine Arith.i64 ((i + 1 : Nat) : Int) (by simp) (by omega) ?_
          exact ⟨_, _, by omega, o4, rfl, i + 1, rfl, by omega, rfl⟩
      · refine CallK.pure sanity_ret ?_
        exact Ret.weak (.refl _) (over_trans (over_trans o1 o2) o3) ⟨rfl, rfl⟩
end Go.Shadow.Lex
