/- The specification's text, Sign and token, as shadow contracts. Conditions: sources of at most 70000 bytes. -/
import Derived.Test.YtgebphnfnmeaaaaGreatDoorLf1
namespace Go.Shadow.Lex
open Go Go.RowKit Go.Proofs

theorem esc_pos {d e : UInt8} (h : esc d = some e) : e.toNat ≠ 0 := by
  unfold esc at h
  repeat' split at h
  all_goals first | (injection h with h; subst h; decide) | cases h

set_option maxHeartbeats 4000000 in
theorem refText_ret (l : List UInt8) (k : Nat) (hl : l.length ≤ 70000) (hk : k < l.length) :
    SRet Tryz.prog LG 40 [.str l, .int .i64 k] (oneV (match textScan (l.drop (k + 1)) [] with
      | .inl e => .inl e
      | .inr (s, left) => .inr (⟨3, k, s, 0⟩, l.length - left))) := by
  intro σ
  refine code40.call hm (by simp) ?_
  intro b4 h4
  obtain ⟨o1, g4⟩ := new_box h4 [.int .i64 0, .int .i64 0, .str [], .int .i64 0, .int .i64 0, .int .i64 0]
  generalize σ.put b4 [.int .i64 0, .int .i64 0, .str [], .int .i64 0, .int .i64 0, .int .i64 0] = σ1 at *
  refine Arith.i64 ((k + 1 : Nat) : Int) (by simp) (by omega) ?_
  refine ⟨fun m sl σ' => ∃ (j : Nat) (bs : List UInt8) (tag' : Tag) (z : Nat), sl = ofL [(0, some (.str l)), (1, some (.int .i64 k)), (4, some (.loc b4 0)), (5, some (.slice tag' z (byteEls bs))), (6, some (.int .i64 j))] ∧
    Over σ1 σ' ∧ Mine σ1 σ' tag' ∧ (tag' = .nil ∨ z = 1) ∧ (tag' = .nil → bs = []) ∧ j ≤ l.length ∧ bs.length ≤ j ∧ textScan (l.drop j) bs = textScan (l.drop (k + 1)) [] ∧ m = l.length - j, _,
    ⟨k + 1, [], .nil, 0, rfl, .refl _, trivial, .inl rfl, fun _ => rfl, by omega, by simp, rfl, rfl⟩, ?_⟩
  rintro m sl σ' ⟨j, bs, tag', z, rfl, ho', hm2, hz, hz2, hj, hbs, hsc, rfl⟩
  have g4' := ho'.box b4 _ g4
  have hlen : (byteEls bs).length = bs.length := by simp [byteEls]
  rw [← hsc]
  refine Test.split (fun h1 => ?_) (fun h1 => ?_)
  · obtain ⟨c, hc⟩ := get_some (l := l) (j := j) (by omega)
    rw [drop_cons hc, textScan_cons]
    refine Test.split (fun h2 => ?_) (fun h2 => ?_)
    · rw [hlen] at h2
      refine Sure.mk' rfl ?_
      refine Store.mk' [.int .i64 0, .int .i64 0, .str [], .int .i64 0, .int .i64 0, .int .i64 2] g4' (Nat.le_of_ble_eq_true rfl) rfl (fun σ2 e2 => ?_)
      subst e2
      refine Load.mk' put_box (Nat.le_of_ble_eq_true rfl) ?_
      refine Ret.weak (.refl _) (over_put (over_trans o1 ho') h4) ⟨rfl, ?_⟩
      rw [if_pos (show 200 < bs.length by omega)]; rfl
    · rw [hlen] at h2
      rw [if_neg (show ¬ 200 < bs.length by omega)]
      refine Idx.mk' j c rfl hc ?_
      refine Test.split (fun h3 => ?_) (fun h3 => ?_)
      · refine Sure.mk' (hz.elim (fun h => .inr (by rw [hz2 h]; rfl)) .inl) ?_
        refine B2S.mk' ?_
        refine Arith.i64 ((j + 1 : Nat) : Int) (by simp) (by omega) ?_
        refine Sure.mk' rfl ?_
        refine Store.mk' [.int .i64 3, .int .i64 k, .str bs, .int .i64 0, .int .i64 (j + 1 : Nat), .int .i64 0] g4' (Nat.le_of_ble_eq_true rfl) rfl (fun σ2 e2 => ?_)
        subst e2
        refine Load.mk' put_box (Nat.le_of_ble_eq_true rfl) ?_
        refine Ret.weak (.refl _) (over_put (over_trans o1 ho') h4) ⟨rfl, ?_⟩
        rw [if_pos (by omega)]
        simp only []
        rw [show l.length - (l.drop (j + 1)).length = j + 1 from by simp; omega]
        rfl
      · rw [if_neg (show ¬ c.toNat = 34 by omega)]
        refine Idx.mk' j c rfl hc ?_
        refine Test.split (fun h4' => ?_) (fun h4' => ?_)
        · rw [if_pos (show c.toNat = 92 by omega)]
          refine Arith.i64 ((j + 1 : Nat) : Int) (by simp) (by omega) ?_
          refine Test.split (fun h5 => ?_) (fun h5 => ?_)
          · obtain ⟨d, hd⟩ := get_some (l := l) (j := j + 1) (by omega)
            rw [drop_cons hd]
            refine Arith.i64 ((j + 1 : Nat) : Int) (by simp) (by omega) ?_
            refine Idx.mk' (j + 1) d rfl hd ?_
            refine CallK.pure (pair_ret d) ?_
            cases he : esc d with
            | none =>
              rw [show pairV d = 0 from by unfold pairV; rw [he]]
              refine Test.no (by omega) ?_
              refine Idx.mk' j c rfl hc ?_
              refine Test.yes (by omega) ?_
              refine Sure.mk' rfl ?_
              refine Store.mk' [.int .i64 0, .int .i64 0, .str [], .int .i64 0, .int .i64 0, .int .i64 28] g4' (Nat.le_of_ble_eq_true rfl) rfl (fun σ2 e2 => ?_)
              subst e2
              refine Load.mk' put_box (Nat.le_of_ble_eq_true rfl) ?_
              refine Ret.weak (.refl _) (over_put (over_trans o1 ho') h4) ⟨rfl, ?_⟩
              first | rfl | (simp only [he]; rfl)
            | some e =>
              have hpv : pairV d = e.toNat := by unfold pairV; rw [he]
              rw [hpv]
              refine Test.yes (by have := esc_pos he; omega) ?_
              refine Arith.i64 ((j + 1 : Nat) : Int) (by simp) (by omega) ?_
              refine Idx.mk' (j + 1) d rfl hd ?_
              refine CallK.pure (pair_ret d) ?_
              rw [hpv]
              refine App.mk' ho' hm2 hz rfl (by simp [hlen]; omega) (by simp [hlen]; omega) (by simp) (fun t' σ2 ho2 hm3 _ _ => ?_)
              refine Arith.i64 ((j + 2 : Nat) : Int) (by omega) (by omega) ?_
              refine ⟨_, _, ?_, Forget.refl _, j + 2, bs ++ [e], .tip t', 1, by rw [byteEls_snoc]; rfl, ho2, hm3, .inr rfl, fun h => (by cases h), by omega, by simp; omega, by simp only [he], rfl⟩
              omega
          · rw [List.drop_eq_nil_of_le (show l.length ≤ j + 1 by omega)]
            refine Idx.mk' j c rfl hc ?_
            refine Test.yes (by omega) ?_
            refine Sure.mk' rfl ?_
            refine Store.mk' [.int .i64 0, .int .i64 0, .str [], .int .i64 0, .int .i64 0, .int .i64 28] g4' (Nat.le_of_ble_eq_true rfl) rfl (fun σ2 e2 => ?_)
            subst e2
            refine Load.mk' put_box (Nat.le_of_ble_eq_true rfl) ?_
            refine Ret.weak (.refl _) (over_put (over_trans o1 ho') h4) ⟨rfl, ?_⟩
            first | rfl | (simp only [he]; rfl)
        · rw [if_neg (show ¬ c.toNat = 92 by omega)]
          refine Idx.mk' j c rfl hc ?_
          refine Test.no (by omega) ?_
          refine Idx.mk' j c rfl hc ?_
          refine Test.split (fun h5 => ?_) (fun h5 => ?_)
          · refine Sure.mk' rfl ?_
            refine Store.mk' [.int .i64 0, .int .i64 0, .str [], .int .i64 0, .int .i64 0, .int .i64 28] g4' (Nat.le_of_ble_eq_true rfl) rfl (fun σ2 e2 => ?_)
            subst e2
            refine Load.mk' put_box (Nat.le_of_ble_eq_true rfl) ?_
            refine Ret.weak (.refl _) (over_put (over_trans o1 ho') h4) ⟨rfl, ?_⟩
            rw [if_pos (show c.toNat < 32 ∨ 126 < c.toNat by omega)]; rfl
          · refine Idx.mk' j c rfl hc ?_
            refine Test.split (fun h6 => ?_) (fun h6 => ?_)
            · refine Sure.mk' rfl ?_
              refine Store.mk' [.int .i64 0, .int .i64 0, .str [], .int .i64 0, .int .i64 0, .int .i64 28] g4' (Nat.le_of_ble_eq_true rfl) rfl (fun σ2 e2 => ?_)
              subst e2
              refine Load.mk' put_box (Nat.le_of_ble_eq_true rfl) ?_
              refine Ret.weak (.refl _) (over_put (over_trans o1 ho') h4) ⟨rfl, ?_⟩
              rw [if_pos (show c.toNat < 32 ∨ 126 < c.toNat by omega)]; rfl
            · rw [if_neg (show ¬ (c.toNat < 32 ∨ 126 < c.toNat) by omega)]
              refine Idx.mk' j c rfl hc ?_
              refine App.mk' ho' hm2 hz rfl (by simp [hlen]; omega) (by simp [hlen]; omega) (by simp) (fun t' σ2 ho2 hm3 _ _ => ?_)
              refine Arith.i64 ((j + 1 : Nat) : Int) (by omega) (by omega) ?_
              refine ⟨_, _, ?_, Forget.refl _, j + 1, bs ++ [c], .tip t', 1, by rw [byteEls_snoc]; rfl, ho2, hm3, .inr rfl, fun h => (by cases h), by omega, by simp; omega, rfl, rfl⟩
              omega
  · rw [List.drop_eq_nil_of_le (show l.length ≤ j by omega), textScan_nil]
    refine Test.split (fun h2 => ?_) (fun h2 => ?_)
    · rw [hlen] at h2
      refine Sure.mk' rfl ?_
      refine Store.mk' [.int .i64 0, .int .i64 0, .str [], .int .i64 0, .int .i64 0, .int .i64 2] g4' (Nat.le_of_ble_eq_true rfl) rfl (fun σ2 e2 => ?_)
      subst e2
      refine Load.mk' put_box (Nat.le_of_ble_eq_true rfl) ?_
      refine Ret.weak (.refl _) (over_put (over_trans o1 ho') h4) ⟨rfl, ?_⟩
      rw [if_pos (show 200 < bs.length by omega)]; rfl
    · rw [hlen] at h2
      refine Sure.mk' rfl ?_
      refine Store.mk' [.int .i64 0, .int .i64 0, .str [], .int .i64 0, .int .i64 0, .int .i64 28] g4' (Nat.le_of_ble_eq_true rfl) rfl (fun σ2 e2 => ?_)
      subst e2
      refine Load.mk' put_box (Nat.le_of_ble_eq_true rfl) ?_
      refine Ret.weak (.refl _) (over_put (over_trans o1 ho') h4) ⟨rfl, ?_⟩
      rw [if_neg (show ¬ 200 < bs.length by omega)]; rfl

theorem has_ret (tag : Tag) (ls : List (List UInt8)) (s : List UInt8) (hl : ls.length ≤ 1000) : SRet Tryz.prog LG 55 [.slice tag 1 (strEls ls), .str s] (.bool (decide (s ∈ ls))) := by
  intro σ
  have hlen : (strEls ls).length = ls.length := by simp [strEls]
  refine code55.call hm (by simp) ?_
  refine ⟨fun m sl σ' => σ' = σ ∧ ∃ i : Nat, sl = ofL [(0, some (.slice tag 1 (strEls ls))), (1, some (.str s)), (5, some (.int .i64 i))] ∧ i ≤ ls.length ∧ s ∉ ls.take i ∧ m = ls.length - i, _, ⟨rfl, 0, rfl, by omega, by simp, rfl⟩, ?_⟩
  rintro m sl σ' ⟨rfl, i, rfl, hi, hnot, rfl⟩
  refine Test.split (fun h => ?_) (fun h => ?_)
  · rw [hlen] at h
    obtain ⟨x, hx⟩ : ∃ x, ls[i]? = some x := ⟨ls[i]'(by omega), by simp [show i < ls.length by omega]⟩
    refine Sure.mk' (.inl rfl) ?_
    refine IdxE.mk' i [.str x] rfl (by simp [strEls, hx]) ?_
    refine ⟨⟨Nat.le_of_ble_eq_true rfl, ?_⟩⟩
    refine Test.split (fun h1 => ?_) (fun h1 => ?_)
    · refine Ret.mk' ⟨rfl, ?_⟩
      subst h1
      rw [decide_eq_true (List.mem_of_getElem? hx)]
    · refine Arith.i64 ((i + 1 : Nat) : Int) (by simp) (by omega) ?_
      refine ⟨_, _, ?_, Forget.refl _, rfl, i + 1, rfl, by omega, ?_, rfl⟩
      · omega
      · rw [List.take_add_one, hx]
        simp only [Option.toList_some, List.mem_append, List.mem_singleton, not_or]
        exact ⟨hnot, fun e => h1 e.symm⟩
  · rw [hlen] at h
    refine Ret.mk' ⟨rfl, ?_⟩
    rw [List.take_of_length_le (by omega)] at hnot
    rw [decide_eq_false hnot]

theorem find_two (r : List UInt8) (h : 2 ≤ r.length) : ∀ L : List (List UInt8), (∀ p ∈ L, p.length = 2) → L.find? (·.isPrefixOf r) = if r.take 2 ∈ L then some (r.take 2) else none
  | [], _ => by simp
  | p :: L, hL => by
    have hp : p.isPrefixOf r = true ↔ p = r.take 2 := by
      rw [List.isPrefixOf_iff_prefix, List.prefix_iff_eq_take, hL p (by simp)]
    rw [List.find?_cons]
    by_cases e : p = r.take 2
    · rw [hp.2 e]; simp [e]
    · rw [show p.isPrefixOf r = false from by rw [← Bool.not_eq_true, hp]; exact e]
      simp only [find_two r h L (fun q hq => hL q (by simp [hq])), List.mem_cons, show ¬ r.take 2 = p from fun e' => e e'.symm, false_or]
theorem find_short (r : List UInt8) (h : r.length < 2) : ∀ L : List (List UInt8), (∀ p ∈ L, p.length = 2) → L.find? (·.isPrefixOf r) = none := by
  intro L hL
  rw [List.find?_eq_none]
  intro p hp h2
  have := isPrefixOf_length h2
  have := hL p hp
  omega
theorem signs2_two : ∀ p ∈ signs2, p.length = 2 := by decide
def singles : List (List UInt8) := signs1.map fun c => [c]
theorem single_mem (c : UInt8) : [c] ∈ singles ↔ c ∈ signs1 := by simp [singles]

theorem refSign_ret (r : List UInt8) (hl : r.length ≤ 70000) : SRet Tryz.prog LG 41 [.str r] (.str ((signAt r).getD [])) := by
  intro σ
  refine code41.call hm (by simp) ?_
  refine Test.split (fun h => ?_) (fun h => ?_)
  · refine CutL.mk' 2 rfl (by omega) ?_
    refine CallK.pure (has_ret .full signs2 _ (by decide)) ?_
    have hf := find_two r (by omega) signs2 signs2_two
    by_cases h2 : r.take 2 ∈ signs2
    · rw [if_pos h2] at hf
      rw [decide_eq_true h2]
      refine CutL.mk' 2 rfl (by omega) ?_
      refine Ret.mk' ⟨rfl, ?_⟩
      unfold signAt; rw [hf]; rfl
    · rw [if_neg h2] at hf
      rw [decide_eq_false h2]
      refine Test.yes (by omega) ?_
      obtain ⟨c, r', rfl⟩ : ∃ c r', r = c :: r' := by
        cases r with
        | nil => simp at h
        | cons c r' => exact ⟨c, r', rfl⟩
      refine CutL.mk' 1 rfl (by simp) ?_
      refine CallK.pure (has_ret .full singles _ (by decide)) ?_
      rw [show (c :: r').take 1 = [c] from rfl]
      by_cases hc : c ∈ signs1
      · rw [decide_eq_true ((single_mem c).2 hc)]
        refine CutL.mk' 1 rfl (by simp) ?_
        refine Ret.mk' ⟨rfl, ?_⟩
        unfold signAt; rw [hf]; simp [hc]
      · rw [decide_eq_false (fun h => hc ((single_mem c).1 h))]
        refine Ret.mk' ⟨rfl, ?_⟩
        unfold signAt; rw [hf]; simp [hc]
  · have hf := find_short r (by omega) signs2 signs2_two
    refine Test.split (fun h1 => ?_) (fun h1 => ?_)
    · obtain ⟨c, r', rfl⟩ : ∃ c r', r = c :: r' := by
        cases r with
        | nil => simp at h1
        | cons c r' => exact ⟨c, r', rfl⟩
      refine CutL.mk' 1 rfl (by simp) ?_
      refine CallK.pure (has_ret .full singles _ (by decide)) ?_
      rw [show (c :: r').take 1 = [c] from rfl]
      by_cases hc : c ∈ signs1
      · rw [decide_eq_true ((single_mem c).2 hc)]
        refine CutL.mk' 1 rfl (by simp) ?_
        refine Ret.mk' ⟨rfl, ?_⟩
        unfold signAt; rw [hf]; simp [hc]
      · rw [decide_eq_false (fun h => hc ((single_mem c).1 h))]
        refine Ret.mk' ⟨rfl, ?_⟩
        unfold signAt; rw [hf]; simp [hc]
    · refine Ret.mk' ⟨rfl, ?_⟩
      have : r = [] := List.eq_nil_of_length_eq_zero (by omega)
      subst this; rfl

theorem refToken_ret (l : List UInt8) (k : Nat) (c : UInt8) (hl : l.length ≤ 70000) (hc : l[k]? = some c) : SRet Tryz.prog LG 23 [.str l, .int .i64 k] (oneV (lexOne l k)) := by
  intro σ
  have hk : k < l.length := (List.getElem?_eq_some_iff.1 hc).1
  refine code23.call hm (by simp) ?_
  intro b4 h4
  obtain ⟨o1, g4⟩ := new_box h4 [.int .i64 0, .int .i64 0, .str [], .int .i64 0, .int .i64 0, .int .i64 0]
  generalize σ.put b4 [.int .i64 0, .int .i64 0, .str [], .int .i64 0, .int .i64 0, .int .i64 0] = σ1 at *
  have hset : ∀ x, setL [.int .i64 0, .int .i64 0, .str [], .int .i64 0, .int .i64 0, .int .i64 0] 0 (oneC x) = oneC x := by intro x; rcases x with e | ⟨t, e2⟩ <;> rfl
  have htake : ∀ x, ((oneC x).drop 0).take 6 = oneC x := by intro x; rcases x with e | ⟨t, e2⟩ <;> rfl
  refine Idx.mk' k c rfl hc ?_
  refine CallK.pure (letter_ret c) ?_
  simp only [lexOne, hc]
  cases hL : isLetter c with
  | true =>
    refine CallK.pure (refName_ret l k hl (by omega)) ?_
    refine Sure.mk' (oneC_length _) ?_
    refine Store.mk' (oneC _) g4 (by rw [show V.cells (oneV _) = oneC _ from rfl, oneC_length]; decide) (hset _) (fun σ2 e2 => ?_)
    subst e2
    refine Load.mk' put_box (by rw [oneC_length]; decide) ?_
    rw [htake]
    refine Ret.weak (.refl _) (over_put o1 h4) ⟨rfl, ?_⟩
    rfl
  | false =>
    refine Idx.mk' k c rfl hc ?_
    refine CallK.pure (digit_ret c) ?_
    cases hD : isDigit c with
    | true =>
      refine CallK.pure (refNumber_ret l k c hl hc hD) ?_
      refine Sure.mk' (oneC_length _) ?_
      refine Store.mk' (oneC _) g4 (by rw [show V.cells (oneV _) = oneC _ from rfl, oneC_length]; decide) (hset _) (fun σ2 e2 => ?_)
      subst e2
      refine Load.mk' put_box (by rw [oneC_length]; decide) ?_
      rw [htake]
      refine Ret.weak (.refl _) (over_put o1 h4) ⟨rfl, ?_⟩
      rfl
    | false =>
      refine Idx.mk' k c rfl hc ?_
      refine Test.split (fun h34 => ?_) (fun h34 => ?_)
      · refine CallK.pure (refText_ret l k hl hk) ?_
        refine Sure.mk' (oneC_length _) ?_
        refine Store.mk' (oneC _) g4 (by rw [show V.cells (oneV _) = oneC _ from rfl, oneC_length]; decide) (hset _) (fun σ2 e2 => ?_)
        subst e2
        refine Load.mk' put_box (by rw [oneC_length]; decide) ?_
        rw [htake]
        refine Ret.weak (.refl _) (over_put o1 h4) ⟨rfl, ?_⟩
        rw [if_pos (show c.toNat = 34 by omega)]; rfl
      · refine CutR.mk' k rfl (by omega) ?_
        refine CallK.pure (refSign_ret (l.drop k) (by simp; omega)) ?_
        cases hS : signAt (l.drop k) with
        | none =>
          refine Test.yes rfl ?_
          refine Sure.mk' rfl ?_
          refine Store.mk' [.int .i64 0, .int .i64 0, .str [], .int .i64 0, .int .i64 0, .int .i64 26] g4 (Nat.le_of_ble_eq_true rfl) rfl (fun σ2 e2 => ?_)
          subst e2
          refine Load.mk' put_box (Nat.le_of_ble_eq_true rfl) ?_
          refine Ret.weak (.refl _) (over_put o1 h4) ⟨rfl, ?_⟩
          rw [if_neg (show ¬ c.toNat = 34 by omega)]; rfl
        | some s =>
          have hs := signAt_length hS
          refine Test.no (by intro e; rw [show (some s).getD [] = s from rfl] at e; rw [e] at hs; simp at hs) ?_
          simp only [List.length_drop] at hs
          refine Arith.i64 ((k + s.length : Nat) : Int) (by simp) (by omega) ?_
          refine Sure.mk' rfl ?_
          refine Store.mk' [.int .i64 4, .int .i64 k, .str s, .int .i64 0, .int .i64 (k + s.length : Nat), .int .i64 0] g4 (Nat.le_of_ble_eq_true rfl) rfl (fun σ2 e2 => ?_)
          subst e2
          refine Load.mk' put_box (Nat.le_of_ble_eq_true rfl) ?_
          refine Ret.weak (.refl _) (over_put o1 h4) ⟨rfl, ?_⟩
          rw [if_neg (show ¬ c.toNat = 34 by omega)]; rfl
end Go.Shadow.Lex
