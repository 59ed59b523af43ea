/- Proved: the law LexerFindsPositions returns true, as a shadow contract. Conditions: none but a string's greatest length. -/
import Derived.Test.YtgebphnfnmeaaaaGreatDoorLw5
namespace Go.Shadow.Lex
open Go Go.RowKit Go.Proofs

theorem put_ne {σ : St} {b b' : Nat} {cs : List V} (h : b' ≠ b) : (σ.put b cs).box b' = σ.box b' := by simp [St.put, h]
theorem over_none {σ σ' : St} (h : Over σ σ') {b : Nat} (hb : σ'.box b = none) : σ.box b = none := by
  cases hbb : σ.box b with
  | none => rfl
  | some cs => rw [h.box b cs hbb] at hb; cases hb

theorem refPosition_ret (l : List UInt8) (k : Int) (hl : l.length ≤ 70000) : SRet Tryz.prog LG 17 [.str l, .int .i64 k] (.agg [.int .i64 (posV l k).1, .int .i64 (posV l k).2]) := by
  intro σ
  refine code17.call hm (by simp) ?_
  intro b4 h4
  obtain ⟨o1, g4⟩ := new_box h4 [.int .i64 0, .int .i64 0]
  generalize σ.put b4 [.int .i64 0, .int .i64 0] = σ1 at *
  have hout : (k < 0 ∨ (l.length : Int) < k) → posV l k = (0, 0) := fun h => if_pos h
  refine Test.split (fun h => ?_) (fun h => ?_)
  · refine Sure.mk' rfl ?_
    refine Store.mk' [.int .i64 0, .int .i64 0] g4 (Nat.le_of_ble_eq_true rfl) rfl (fun σ2 h2 => ?_)
    subst h2
    refine Load.mk' put_box (Nat.le_of_ble_eq_true rfl) ?_
    refine Ret.weak (r := .agg [.int .i64 0, .int .i64 0]) (σ' := σ) (.refl _) (over_put o1 h4) ⟨rfl, ?_⟩
    rw [hout (.inl h)]
  · refine Test.split (fun h5 => ?_) (fun h5 => ?_)
    · refine Sure.mk' rfl ?_
      refine Store.mk' [.int .i64 0, .int .i64 0] g4 (Nat.le_of_ble_eq_true rfl) rfl (fun σ2 h2 => ?_)
      subst h2
      refine Load.mk' put_box (Nat.le_of_ble_eq_true rfl) ?_
      refine Ret.weak (r := .agg [.int .i64 0, .int .i64 0]) (σ' := σ) (.refl _) (over_put o1 h4) ⟨rfl, ?_⟩
      rw [hout (.inr h5)]
    · obtain ⟨n, rfl⟩ : ∃ n : Nat, k = n := ⟨k.toNat, by omega⟩
      have hpos : posV l n = (((lineAt l n : Nat) : Int) + 1, (n : Int) - (firstAt l n : Nat) + 1) := by unfold posV; rw [if_neg (by omega)]; simp
      rw [hpos]
      have hln := lineAt_le l
      have hfn := firstAt_le l
      intro b5 hb5
      have hne : b4 ≠ b5 := by rintro rfl; rw [g4] at hb5; cases hb5
      refine Sure.mk' rfl ?_
      refine Store.mk' [.int .i64 1, .int .i64 1] put_box (Nat.le_of_ble_eq_true rfl) rfl (fun σ2 h2 => ?_)
      rw [put_put] at h2
      refine ⟨fun m sl σ' => ∃ j : Nat, sl = ofL [(0, some (.str l)), (1, some (.int .i64 n)), (4, some (.loc b4 0)), (5, some (.loc b5 0)), (6, some (.int .i64 j))] ∧ Over σ1 σ' ∧ σ'.box b5 = some [.int .i64 ((lineAt l j : Nat) + 1), .int .i64 ((j : Int) - (firstAt l j : Nat) + 1)] ∧ j ≤ n ∧ m = n - j, _,
        ⟨0, rfl, by rw [h2]; exact over_put (.refl _) hb5, by rw [h2]; exact put_box, by omega, rfl⟩, ?_⟩
      rintro m sl σ' ⟨j, rfl, o2, g5, hj, rfl⟩
      have hl1 := hln j
      have hf1 := hfn j
      refine Test.split (fun h6 => ?_) (fun h6 => ?_)
      · refine Load.mk' g5 (Nat.le_of_ble_eq_true rfl) ?_
        refine Arith.i64 ((j : Int) - (firstAt l j : Nat) + 1 + 1) rfl (by omega) ?_
        refine Sure.mk' rfl ?_
        refine Store.mk' [.int .i64 ((lineAt l j : Nat) + 1), .int .i64 ((j : Int) - (firstAt l j : Nat) + 1 + 1)] g5 (Nat.le_of_ble_eq_true rfl) rfl (fun σ3 h3 => ?_)
        have o3 : Over σ1 σ3 := by rw [h3]; exact over_put o2 hb5
        have g5' : σ3.box b5 = some [.int .i64 ((lineAt l j : Nat) + 1), .int .i64 ((j : Int) - (firstAt l j : Nat) + 1 + 1)] := by rw [h3]; exact put_box
        obtain ⟨c, hc⟩ : ∃ c, l[j]? = some c := ⟨l[j]'(by omega), by simp [show j < l.length by omega]⟩
        have h10 : l[j]? = some 10 ↔ c.toNat = 10 := by rw [hc, Option.some.injEq, ← UInt8.toNat_inj]; rfl
        refine Idx.mk' j c rfl hc ?_
        refine Test.split (fun h7 => ?_) (fun h7 => ?_)
        · have h8 : l[j]? = some 10 := h10.2 (by omega)
          refine Load.mk' g5' (Nat.le_of_ble_eq_true rfl) ?_
          refine Arith.i64 (((lineAt l j : Nat) : Int) + 1 + 1) rfl (by omega) ?_
          refine Sure.mk' rfl ?_
          refine Store.mk' [.int .i64 ((lineAt l j : Nat) + 1 + 1), .int .i64 1] g5' (Nat.le_of_ble_eq_true rfl) rfl (fun σ4 h4' => ?_)
          refine Arith.i64 ((j + 1 : Nat) : Int) (by simp) (by omega) ?_
          refine ⟨_, _, ?_, Forget.refl _, j + 1, rfl, by rw [h4']; exact over_put o3 hb5, ?_, by omega, rfl⟩
          · omega
          · rw [h4', put_box]
            simp only [lineAt, firstAt, h8, if_true]
            congr 2
            congr 2
            omega
        · have h8 : ¬ l[j]? = some 10 := fun h => h7 (by have := h10.1 h; omega)
          refine Arith.i64 ((j + 1 : Nat) : Int) (by simp) (by omega) ?_
          refine ⟨_, _, ?_, Forget.refl _, j + 1, rfl, o3, ?_, by omega, rfl⟩
          · omega
          · rw [g5']
            simp only [lineAt, firstAt, h8, if_false]
            congr 2
            congr 2; omega
      · have hjn : j = n := by omega
        subst hjn
        refine Load.mk' g5 (Nat.le_of_ble_eq_true rfl) ?_
        refine Sure.mk' rfl ?_
        refine Store.mk' [.int .i64 ((lineAt l j : Nat) + 1), .int .i64 ((j : Int) - (firstAt l j : Nat) + 1)] (o2.box _ _ g4) (Nat.le_of_ble_eq_true rfl) rfl (fun σ3 h3 => ?_)
        subst h3
        refine Load.mk' put_box (Nat.le_of_ble_eq_true rfl) ?_
        exact Ret.weak (.refl _) (over_put (over_trans o1 o2) h4) ⟨rfl, rfl⟩

theorem law5 (l : List UInt8) (k : Int) (hl : l.length ≤ 9223372036854775807) : SRet Tryz.prog LG 5 [.str l, .int .i64 k] (.bool true) := by
  intro σ
  refine code5.call hm (by simp) ?_
  refine Test.split (fun h => ?_) (fun h => ?_)
  · refine CallK.pure sanity_ret ?_
    exact Ret.mk' ⟨rfl, rfl⟩
  · refine CallK.pure (position_ret l k (by omega)) ?_
    refine CallK.pure sanity_ret ?_
    refine CallK.pure (refPosition_ret l k (by omega)) ?_
    refine BTest.yes (by simp) ?_
    exact Ret.mk' ⟨rfl, rfl⟩
end Go.Shadow.Lex
