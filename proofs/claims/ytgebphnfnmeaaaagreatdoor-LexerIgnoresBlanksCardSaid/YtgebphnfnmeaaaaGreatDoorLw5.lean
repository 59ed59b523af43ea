/- Proved: the laws' function sanity returns true. Conditions: none. -/
import Derived.Test.YtgebphnfnmeaaaaGreatDoorLw4
namespace Go.Shadow.Lex
open Go Go.RowKit Go.Proofs

def lexF (l : List UInt8) : Nat → Nat → Sum (Nat × Nat) (List Tok)
  | 0, k => .inl (k, 0)
  | f + 1, k => if k < l.length then match lexOne l k with
    | .inl e => .inl (k, e)
    | .inr (t, e2) => addAll [t] (lexF l f (skipTo l e2))
    else .inr [⟨5, l.length, [], 0⟩]
theorem lexF_eq {l : List UInt8} : ∀ {f k : Nat}, l.length - k < f → lexJ l k = lexF l f k
  | 0, k, h => by omega
  | f + 1, k, h => by
    unfold lexF
    split
    · rename_i hk
      split
      · rename_i e he; exact lexJ_bad hk he
      · rename_i t e2 he
        have h2 := lexOne_pos he
        have h3 := skipTo_ge l e2
        rw [lexJ_one he, lexF_eq (f := f) (by omega)]
    · exact lexJ_end (by omega)
theorem lex_eq {l : List UInt8} {x : Sum (Nat × Nat) (List Tok)} (f : Nat) (h1 : l.length < f) (h2 : f ≤ 65536) (h : lexF l f (skipTo l 0) = x) : lex l = x := by
  unfold lex
  rw [if_neg (by omega), lexF_eq (f := f) (by omega), h]

theorem lex1 : lex [97, 45, 62, 98, 49, 32, 49, 50, 46, 46, 51, 32, 35, 32, 120] = .inr [⟨1, 0, [97], 0⟩, ⟨4, 1, [45, 62], 0⟩, ⟨1, 3, [98, 49], 0⟩, ⟨2, 6, [], 12⟩, ⟨4, 8, [46, 46], 0⟩, ⟨2, 10, [], 3⟩, ⟨5, 15, [], 0⟩] := lex_eq 20 (by decide) (by decide) (by decide)
theorem lex2 : lex [34, 97, 92, 34, 92, 110, 34] = .inr [⟨3, 0, [97, 34, 10], 0⟩, ⟨5, 7, [], 0⟩] := lex_eq 20 (by decide) (by decide) (by decide)
theorem lex3 : lex [61, 61, 61, 32, 33, 61, 61] = .inr [⟨4, 0, [61, 61], 0⟩, ⟨4, 2, [61], 0⟩, ⟨4, 4, [33, 61], 0⟩, ⟨4, 6, [61], 0⟩, ⟨5, 7, [], 0⟩] := lex_eq 20 (by decide) (by decide) (by decide)
theorem lex4 : lex [120, 32, 48, 49, 50] = .inl (2, 27) := lex_eq 20 (by decide) (by decide) (by decide)
theorem lex5 : lex [120, 32, 51, 121] = .inl (2, 27) := lex_eq 20 (by decide) (by decide) (by decide)
theorem lex6 : lex [34, 97] = .inl (0, 28) := lex_eq 20 (by decide) (by decide) (by decide)
theorem lex7 : lex [120, 32, 36] = .inl (2, 26) := lex_eq 20 (by decide) (by decide) (by decide)

theorem over_trans {a b c : St} (h : Over a b) (k : Over b c) : Over a c := ⟨fun x cs hx => k.box x cs (h.box x cs hx), fun t ht => k.live t (h.live t ht)⟩
theorem new_box {σ : St} {b : Nat} (h : σ.box b = none) (cs : List V) : Over σ (σ.put b cs) ∧ (σ.put b cs).box b = some cs := ⟨over_put (.refl _) h, put_box⟩

set_option maxHeartbeats 4000000 in
set_option maxRecDepth 100000 in
theorem sanity_ret : SRet Tryz.prog LG 11 [] (.bool true) := by
  intro σ0
  refine code11.call hm (by simp) ?_
  refine CallK.pure (tokens_ret _ (by simp)) ?_
  rw [lex1]
  intro b1 h1
  refine Sure.mk' rfl ?_
  refine Store.mk' [.int .i64 0, .int .i64 0] put_box (Nat.le_of_ble_eq_true rfl) rfl (fun σ1 e => ?_)
  rw [put_put] at e; obtain ⟨o1, g1⟩ := new_box h1 [.int .i64 0, .int .i64 0]; rw [← e] at o1 g1; clear e h1
  refine CallK.pure (tokens_ret _ (by simp)) ?_
  rw [lex2]
  intro b2 h2
  refine Sure.mk' rfl ?_
  refine Store.mk' [.int .i64 0, .int .i64 0] put_box (Nat.le_of_ble_eq_true rfl) rfl (fun σ2 e => ?_)
  rw [put_put] at e; obtain ⟨o2, g2⟩ := new_box h2 [.int .i64 0, .int .i64 0]; rw [← e] at o2 g2; clear e h2
  have g1 := o2.box _ _ g1
  refine CallK.pure (tokens_ret _ (by simp)) ?_
  rw [lex3]
  intro b3 h3
  refine Sure.mk' rfl ?_
  refine Store.mk' [.int .i64 0, .int .i64 0] put_box (Nat.le_of_ble_eq_true rfl) rfl (fun σ3 e => ?_)
  rw [put_put] at e; obtain ⟨o3, g3⟩ := new_box h3 [.int .i64 0, .int .i64 0]; rw [← e] at o3 g3; clear e h3
  have g1 := o3.box _ _ g1
  refine CallK.pure (tokens_ret _ (by simp)) ?_
  rw [lex4]
  intro b4 h4
  refine Sure.mk' rfl ?_
  refine Store.mk' [.int .i64 2, .int .i64 27] put_box (Nat.le_of_ble_eq_true rfl) rfl (fun σ4 e => ?_)
  rw [put_put] at e; obtain ⟨o4, g4⟩ := new_box h4 [.int .i64 2, .int .i64 27]; rw [← e] at o4 g4; clear e h4
  have g1 := o4.box _ _ g1
  refine CallK.pure (tokens_ret _ (by simp)) ?_
  rw [lex5]
  intro b5 h5
  refine Sure.mk' rfl ?_
  refine Store.mk' [.int .i64 2, .int .i64 27] put_box (Nat.le_of_ble_eq_true rfl) rfl (fun σ5 e => ?_)
  rw [put_put] at e; obtain ⟨o5, g5⟩ := new_box h5 [.int .i64 2, .int .i64 27]; rw [← e] at o5 g5; clear e h5
  have g1 := o5.box _ _ g1
  have g4 := o5.box _ _ g4
  refine CallK.pure (tokens_ret _ (by simp)) ?_
  rw [lex6]
  intro b6 h6
  refine Sure.mk' rfl ?_
  refine Store.mk' [.int .i64 0, .int .i64 28] put_box (Nat.le_of_ble_eq_true rfl) rfl (fun σ6 e => ?_)
  rw [put_put] at e; obtain ⟨o6, g6⟩ := new_box h6 [.int .i64 0, .int .i64 28]; rw [← e] at o6 g6; clear e h6
  have g1 := o6.box _ _ g1
  have g4 := o6.box _ _ g4
  have g5 := o6.box _ _ g5
  refine CallK.pure (tokens_ret _ (by simp)) ?_
  rw [lex7]
  intro b7 h7
  refine Sure.mk' rfl ?_
  refine Store.mk' [.int .i64 2, .int .i64 26] put_box (Nat.le_of_ble_eq_true rfl) rfl (fun σ7 e => ?_)
  rw [put_put] at e; obtain ⟨o7, g7⟩ := new_box h7 [.int .i64 2, .int .i64 26]; rw [← e] at o7 g7; clear e h7
  have g1 := o7.box _ _ g1
  have g4 := o7.box _ _ g4
  have g5 := o7.box _ _ g5
  have g6 := o7.box _ _ g6
  have oAll : Over σ0 σ7 := over_trans (over_trans (over_trans (over_trans (over_trans (over_trans o1 o2) o3) o4) o5) o6) o7
  refine CallK.pure (position_ret _ 3 (by simp)) ?_
  rw [show posV [97, 10, 98, 99] 3 = (2, 2) from by decide]
  refine Test.no (by decide) ?_
  refine Test.no (by decide) ?_
  refine Test.no (by decide) ?_
  -- signs
  refine Sure.mk' (.inl rfl) ?_
  refine IdxE.mk' 0 _ rfl rfl ?_
  refine ⟨⟨Nat.le_of_ble_eq_true rfl, ?_⟩⟩
  refine Test.yes rfl ?_
  refine Sure.mk' (.inl rfl) ?_
  refine IdxE.mk' 1 _ rfl rfl ?_
  refine ⟨⟨Nat.le_of_ble_eq_true rfl, ?_⟩⟩
  refine Test.yes rfl ?_
  refine Sure.mk' (.inl rfl) ?_
  refine IdxE.mk' 2 _ rfl rfl ?_
  refine ⟨⟨Nat.le_of_ble_eq_true rfl, ?_⟩⟩
  refine Test.yes rfl ?_
  refine Sure.mk' (.inl rfl) ?_
  refine IdxE.mk' 3 _ rfl rfl ?_
  refine ⟨⟨Nat.le_of_ble_eq_true rfl, ?_⟩⟩
  refine Test.yes rfl ?_
  -- wrong
  refine Load.mk' g4 (Nat.le_of_ble_eq_true rfl) ?_
  refine BTest.yes rfl ?_
  refine Load.mk' g5 (Nat.le_of_ble_eq_true rfl) ?_
  refine Load.mk' g4 (Nat.le_of_ble_eq_true rfl) ?_
  refine BTest.yes rfl ?_
  refine Load.mk' g6 (Nat.le_of_ble_eq_true rfl) ?_
  refine BTest.yes rfl ?_
  refine Load.mk' g7 (Nat.le_of_ble_eq_true rfl) ?_
  refine BTest.yes rfl ?_
  -- the rest
  refine Load.mk' g1 (Nat.le_of_ble_eq_true rfl) ?_
  refine BTest.yes rfl ?_
  refine Sure.mk' (.inl rfl) ?_
  refine IdxE.mk' 1 _ rfl rfl ?_
  refine ⟨⟨Nat.le_of_ble_eq_true rfl, ?_⟩⟩
  refine BTest.yes rfl ?_
  refine Sure.mk' (.inl rfl) ?_
  refine IdxE.mk' 3 _ rfl rfl ?_
  refine ⟨⟨Nat.le_of_ble_eq_true rfl, ?_⟩⟩
  refine BTest.yes rfl ?_
  refine Sure.mk' (.inl rfl) ?_
  refine IdxE.mk' 6 _ rfl rfl ?_
  refine ⟨⟨Nat.le_of_ble_eq_true rfl, ?_⟩⟩
  refine BTest.yes rfl ?_
  refine Sure.mk' (.inl rfl) ?_
  refine IdxE.mk' 0 _ rfl rfl ?_
  refine ⟨⟨Nat.le_of_ble_eq_true rfl, ?_⟩⟩
  refine Test.yes rfl ?_
  refine Test.yes rfl ?_
  refine Test.yes rfl ?_
  have hj : Lib.join (List.filterMap wordN [⟨1, 0, [97], 0⟩, ⟨4, 1, [45, 62], 0⟩, ⟨1, 3, [98, 49], 0⟩, ⟨2, 6, [], 12⟩, ⟨4, 8, [46, 46], 0⟩, ⟨2, 10, [], 3⟩, ⟨5, 15, [], 0⟩]) [32] = [97, 32, 45, 62, 32, 98, 49, 32, 49, 50, 32, 46, 46, 32, 51] := by
    have h12 : Lib.itoa 12 = [49, 50] := by simp [Lib.itoa, Lib.decDigits]
    have h3 : Lib.itoa 3 = [51] := by simp [Lib.itoa, Lib.decDigits]
    simp only [List.filterMap, wordN]
    simp [h12, h3, Lib.join, List.intercalate]
  refine CallK.pure (textN_ret .foreign _ (by decide) (by decide) (by decide) (by rw [hj]; decide)) ?_
  rw [hj]
  refine Test.yes rfl ?_
  exact Ret.weak (.refl _) oAll ⟨rfl, rfl⟩
end Go.Shadow.Lex
