/- The specification's 'number', 'text' and 'Sign', as shadow contracts. No condition but the sources' lengths. -/
import Derived.Test.YtgebphnfnmeaaaaGreatDoorLf0
namespace Go.Shadow.Lex
open Go Go.RowKit Go.Proofs

theorem takeWhile_take (p : UInt8 → Bool) : ∀ r : List UInt8, r.take (r.takeWhile p).length = r.takeWhile p
  | [] => rfl
  | c :: r => by
    simp only [List.takeWhile_cons]
    split
    · simp [takeWhile_take p r]
    · rfl
theorem slice_span (p : UInt8 → Bool) (l : List UInt8) (k : Nat) : (l.take (spanTo p l k)).drop k = (l.drop k).takeWhile p := by
  rw [spanTo, List.drop_take, Nat.add_sub_cancel_left, takeWhile_take]
theorem letter_after {e : UInt8} : ∀ r : List UInt8, r[(r.takeWhile isDigit).length]? = some e → isLetter e = true → (r.takeWhile isWord).all isDigit = false
  | [], h, _ => by simp at h
  | c :: r, h, he => by
    by_cases hd : isDigit c = true
    · simp only [List.takeWhile_cons, hd, if_true, List.length_cons, List.getElem?_cons_succ] at h
      simp [List.takeWhile_cons, isWord, hd, letter_after r h he]
    · simp only [List.takeWhile_cons, hd, Bool.false_eq_true, if_false, List.length_nil, List.getElem?_cons_zero, Option.some.injEq] at h
      subst h
      simp [List.takeWhile_cons, isWord, he, hd]
theorem no_letter_after : ∀ r : List UInt8, (∀ e, r[(r.takeWhile isDigit).length]? = some e → isLetter e = false) → r.takeWhile isWord = r.takeWhile isDigit
  | [], _ => rfl
  | c :: r, h => by
    by_cases hd : isDigit c = true
    · simp only [List.takeWhile_cons, hd, if_true, List.length_cons, List.getElem?_cons_succ] at h
      simp [List.takeWhile_cons, isWord, hd, no_letter_after r h]
    · have := h c (by simp [List.takeWhile_cons, hd])
      simp [List.takeWhile_cons, isWord, hd, this]
theorem all_takeWhile (p : UInt8 → Bool) : ∀ r : List UInt8, (r.takeWhile p).all p = true
  | [] => rfl
  | c :: r => by
    simp only [List.takeWhile_cons]
    split
    · rename_i h; simp [h, all_takeWhile p r]
    · rfl
theorem slice_snoc {l : List UInt8} {k i : Nat} {c : UInt8} (hk : k ≤ i) (hc : l[i]? = some c) : (l.take (i + 1)).drop k = (l.take i).drop k ++ [c] := by
  have hi := (List.getElem?_eq_some_iff.1 hc).1
  rw [List.take_add_one, hc, List.drop_append_of_le_length (by simp; omega)]
  rfl
theorem digitsVal_snoc (s : List UInt8) (c : UInt8) : digitsVal (s ++ [c]) = 10 * digitsVal s + (c.toNat - 48) := by simp [digitsVal]

set_option maxHeartbeats 4000000 in
theorem refNumber_ret (l : List UInt8) (k : Nat) (c0 : UInt8) (hl : l.length ≤ 70000) (hc0 : l[k]? = some c0) (hd0 : isDigit c0 = true) :
    SRet Tryz.prog LG 39 [.str l, .int .i64 k] (oneV (match numVal ((l.take (spanTo isWord l k)).drop k) with
      | some n => .inr (⟨2, k, [], n⟩, spanTo isWord l k)
      | none => .inl 27)) := by
  intro σ
  have hk : k < l.length := (List.getElem?_eq_some_iff.1 hc0).1
  have h1 := spanTo_ge isDigit l k
  have h2 := spanTo_le isDigit l k (by omega)
  have hr : l.drop k = c0 :: l.drop (k + 1) := drop_cons hc0
  have hat : ∀ e : UInt8, (l.drop k)[((l.drop k).takeWhile isDigit).length]? = some e ↔ l[spanTo isDigit l k]? = some e := by
    intro e; rw [List.getElem?_drop]; rfl
  have hbad : (15 < spanTo isDigit l k - k ∨ (1 < spanTo isDigit l k - k ∧ c0.toNat = 48) ∨ ∃ d, l[spanTo isDigit l k]? = some d ∧ isLetter d = true) → numVal ((l.take (spanTo isWord l k)).drop k) = none := by
    intro h
    rw [slice_span]
    unfold numVal
    rw [if_neg]
    rintro ⟨ha, hlen, hz⟩
    have hnl : ∀ e, (l.drop k)[((l.drop k).takeWhile isDigit).length]? = some e → isLetter e = false := by
      intro e he
      cases hL : isLetter e with
      | false => rfl
      | true => rw [letter_after _ he hL] at ha; cases ha
    have heq := no_letter_after _ hnl
    have hld : ((l.drop k).takeWhile isDigit).length = spanTo isDigit l k - k := by simp [spanTo]
    rw [heq, hld] at hlen hz
    rcases h with h | ⟨h, h48⟩ | ⟨d, hd, hL⟩
    · omega
    · refine hz ⟨h, ?_⟩
      rw [hr]
      simp only [List.takeWhile_cons, hd0, if_true, List.head?_cons, Option.some.injEq]
      exact UInt8.toNat_inj.1 h48
    · rw [hnl d ((hat d).2 hd)] at hL; cases hL
  have hgood : ¬ 15 < spanTo isDigit l k - k → ¬ (1 < spanTo isDigit l k - k ∧ c0.toNat = 48) → (∀ e, l[spanTo isDigit l k]? = some e → isLetter e = false) →
      (match numVal ((l.take (spanTo isWord l k)).drop k) with
        | some n => (Sum.inr ((⟨2, k, [], n⟩ : Tok), spanTo isWord l k) : Sum Nat (Tok × Nat))
        | none => .inl 27) = .inr (⟨2, k, [], (digitsVal ((l.take (spanTo isDigit l k)).drop k) : Nat)⟩, spanTo isDigit l k) := by
    intro g1 g2 g3
    have heq := no_letter_after (l.drop k) (fun e he => g3 e ((hat e).1 he))
    have hsp : spanTo isWord l k = spanTo isDigit l k := by simp only [spanTo, heq]
    rw [hsp]
    have hld : ((l.drop k).takeWhile isDigit).length = spanTo isDigit l k - k := by simp [spanTo]
    rw [show numVal ((l.take (spanTo isDigit l k)).drop k) = some (digitsVal ((l.take (spanTo isDigit l k)).drop k)) from by
      unfold numVal
      rw [if_pos]
      rw [slice_span]
      refine ⟨all_takeWhile _ _, by omega, ?_⟩
      rintro ⟨h3, h4⟩
      refine g2 ⟨by omega, ?_⟩
      rw [hr] at h4
      simp only [List.takeWhile_cons, hd0, if_true, List.head?_cons, Option.some.injEq] at h4
      subst h4; rfl]
  have hdig : ∀ i c, k ≤ i → i < spanTo isDigit l k → l[i]? = some c → isDigit c = true := by
    intro i c hi1 hi2 hc
    have h3 := all_takeWhile isDigit (l.drop k)
    rw [← slice_span] at h3
    rw [List.all_eq_true] at h3
    refine h3 c (List.mem_of_getElem? (i := i - k) ?_)
    rw [List.getElem?_drop, List.getElem?_take, if_pos (by omega), show k + (i - k) = i from by omega, hc]
  have hpre : ∀ i, k ≤ i → i ≤ spanTo isDigit l k → ((l.take i).drop k).all isDigit = true := by
    intro i hi1 hi2
    rw [List.all_eq_true]
    intro c hc
    obtain ⟨m, hm, hmc⟩ := List.mem_iff_getElem.1 hc
    have hm' : ((l.take i).drop k)[m]? = some c := by rw [List.getElem?_eq_getElem hm, hmc]
    rw [List.getElem?_drop, List.getElem?_take] at hm'
    split at hm'
    · exact hdig _ c (by omega) (by omega) hm'
    · cases hm'
  refine code39.call hm (by simp) ?_
  intro b4 h4
  obtain ⟨o1, g4⟩ := new_box h4 [.int .i64 0, .int .i64 0, .str [], .int .i64 0, .int .i64 0, .int .i64 0]
  generalize σ.put b4 [.int .i64 0, .int .i64 0, .str [], .int .i64 0, .int .i64 0, .int .i64 0] = σ1 at *
  refine ⟨fun m sl σ' => σ' = σ1 ∧ ∃ j : Nat, sl = ofL [(0, some (.str l)), (1, some (.int .i64 k)), (4, some (.loc b4 0)), (5, some (.int .i64 j))] ∧ j ≤ l.length ∧ spanTo isDigit l j = spanTo isDigit l k ∧ m = l.length - j, _, ⟨rfl, k, rfl, by omega, rfl, rfl⟩, ?_⟩
  rintro m sl σ' ⟨rfl, j, rfl, hj, hsp, rfl⟩
  refine Test.split (fun h => ?_) (fun h => ?_)
  · obtain ⟨c, hc⟩ := get_some (l := l) (j := j) (by omega)
    refine Idx.mk' j c rfl hc ?_
    refine CallK.pure (digit_ret c) ?_
    cases hD : isDigit c with
    | true =>
      refine Arith.i64 ((j + 1 : Nat) : Int) (by simp) (by omega) ?_
      exact ⟨_, _, by omega, .refl _, rfl, j + 1, rfl, by omega, by rw [spanTo_step hc hD, hsp], rfl⟩
    | false =>
      have hjk : spanTo isDigit l k = j := by rw [← hsp, spanTo_stop hc hD]
      rw [hjk] at h1 h2 hbad hgood hdig hpre
      refine Arith.i64 ((j - k : Nat) : Int) (by omega) (by omega) ?_
      refine Test.split (fun h9 => ?_) (fun h9 => ?_)
      · refine Sure.mk' rfl ?_
        refine Store.mk' [.int .i64 0, .int .i64 0, .str [], .int .i64 0, .int .i64 0, .int .i64 27] g4 (Nat.le_of_ble_eq_true rfl) rfl (fun σ2 e2 => ?_)
        subst e2
        refine Load.mk' put_box (Nat.le_of_ble_eq_true rfl) ?_
        refine Ret.weak (.refl _) (over_put o1 h4) ⟨rfl, ?_⟩
        rw [hbad (.inl (by omega))]; rfl
      · refine Arith.i64 ((j - k : Nat) : Int) (by omega) (by omega) ?_
        refine Test.split (fun h10 => ?_) (fun h10 => ?_)
        · refine Idx.mk' k c0 rfl hc0 ?_
          refine Test.split (fun h11 => ?_) (fun h11 => ?_)
          · refine Sure.mk' rfl ?_
            refine Store.mk' [.int .i64 0, .int .i64 0, .str [], .int .i64 0, .int .i64 0, .int .i64 27] g4 (Nat.le_of_ble_eq_true rfl) rfl (fun σ2 e2 => ?_)
            subst e2
            refine Load.mk' put_box (Nat.le_of_ble_eq_true rfl) ?_
            refine Ret.weak (.refl _) (over_put o1 h4) ⟨rfl, ?_⟩
            rw [hbad (.inr (.inl ⟨by omega, by omega⟩))]; rfl
          · have h1z : ¬ (1 < j - k ∧ c0.toNat = 48) := by omega
            refine Test.split (fun h12 => ?_) (fun h12 => ?_)
            · obtain ⟨d, hd⟩ := get_some (l := l) (j := j) (by omega)
              refine Idx.mk' j d rfl hd ?_
              refine CallK.pure (letter_ret d) ?_
              cases hL : isLetter d with
              | true =>
                refine Sure.mk' rfl ?_
                refine Store.mk' [.int .i64 0, .int .i64 0, .str [], .int .i64 0, .int .i64 0, .int .i64 27] g4 (Nat.le_of_ble_eq_true rfl) rfl (fun σ2 e2 => ?_)
                subst e2
                refine Load.mk' put_box (Nat.le_of_ble_eq_true rfl) ?_
                refine Ret.weak (.refl _) (over_put o1 h4) ⟨rfl, ?_⟩
                rw [hbad (.inr (.inr ⟨d, hd, hL⟩))]; rfl
              | false =>
                have hnl : ∀ e, l[j]? = some e → isLetter e = false := fun e he => by rw [hd] at he; injection he with he; rw [← he]; exact hL
                refine ⟨fun m sl σ3 => σ3 = σ' ∧ ∃ i : Nat, sl = ofL [(0, some (.str l)), (1, some (.int .i64 k)), (4, some (.loc b4 0)), (5, some (.int .i64 j)), (6, some (.int .i64 (digitsVal ((l.take i).drop k)))), (7, some (.int .i64 i))] ∧ k ≤ i ∧ i ≤ j ∧ m = j - i, _, ⟨rfl, k, by rw [show (l.take k).drop k = [] from by simp]; rfl, by omega, by omega, rfl⟩, ?_⟩
                rintro m sl σ3 ⟨rfl, i, rfl, hki, hij, rfl⟩
                refine Test.split (fun h6 => ?_) (fun h6 => ?_)
                · obtain ⟨c, hc⟩ := get_some (l := l) (j := i) (by omega)
                  have hall : ((l.take i).drop k).all isDigit = true := hpre i hki hij
                  have hcd : isDigit c = true := hdig i c hki (by omega) hc
                  have hcd' : 48 ≤ c.toNat ∧ c.toNat ≤ 57 := by simpa [isDigit] using hcd
                  have hb := digitsVal_bound ((l.take i).drop k) 0 hall
                  have hl2 : ((l.take i).drop k).length ≤ 15 := by simp; omega
                  have hp : 10 ^ ((l.take i).drop k).length ≤ 10 ^ 15 := Nat.pow_le_pow_right (by omega) hl2
                  have hb2 : digitsVal ((l.take i).drop k) < 10 ^ 15 := by
                    have : digitsVal ((l.take i).drop k) < (0 + 1) * 10 ^ ((l.take i).drop k).length := hb
                    omega
                  refine Arith.i64 (10 * (digitsVal ((l.take i).drop k) : Int)) rfl (by omega) ?_
                  refine Idx.mk' i c rfl hc ?_
                  refine Arith.u8 ((c.toNat - 48 : Nat) : Int) (by omega) (by omega) ?_
                  refine Arith.i64 ((c.toNat - 48 : Nat) : Int) rfl (by omega) ?_
                  refine Arith.i64 ((digitsVal ((l.take (i + 1)).drop k) : Nat) : Int) (by rw [slice_snoc hki hc, digitsVal_snoc]; omega) (by rw [slice_snoc hki hc, digitsVal_snoc]; omega) ?_
                  refine Arith.i64 ((i + 1 : Nat) : Int) (by simp) (by omega) ?_
                  exact ⟨_, _, by omega, Forget.refl _, rfl, i + 1, rfl, by omega, by omega, rfl⟩
                · have hij2 : i = j := by omega
                  subst hij2
                  refine Sure.mk' rfl ?_
                  refine Store.mk' [.int .i64 2, .int .i64 k, .str [], .int .i64 (digitsVal ((l.take i).drop k)), .int .i64 i, .int .i64 0] g4 (Nat.le_of_ble_eq_true rfl) rfl (fun σ2 e2 => ?_)
                  subst e2
                  refine Load.mk' put_box (Nat.le_of_ble_eq_true rfl) ?_
                  refine Ret.weak (.refl _) (over_put o1 h4) ⟨rfl, ?_⟩
                  rw [hgood (by omega) h1z hnl]; rfl
            · have hnl : ∀ e, l[j]? = some e → isLetter e = false := fun e he => by have := (List.getElem?_eq_some_iff.1 he).1; omega
              refine ⟨fun m sl σ3 => σ3 = σ' ∧ ∃ i : Nat, sl = ofL [(0, some (.str l)), (1, some (.int .i64 k)), (4, some (.loc b4 0)), (5, some (.int .i64 j)), (6, some (.int .i64 (digitsVal ((l.take i).drop k)))), (7, some (.int .i64 i))] ∧ k ≤ i ∧ i ≤ j ∧ m = j - i, _, ⟨rfl, k, by rw [show (l.take k).drop k = [] from by simp]; rfl, by omega, by omega, rfl⟩, ?_⟩
              rintro m sl σ3 ⟨rfl, i, rfl, hki, hij, rfl⟩
              refine Test.split (fun h6 => ?_) (fun h6 => ?_)
              · obtain ⟨c, hc⟩ := get_some (l := l) (j := i) (by omega)
                have hall : ((l.take i).drop k).all isDigit = true := hpre i hki hij
                have hcd : isDigit c = true := hdig i c hki (by omega) hc
                have hcd' : 48 ≤ c.toNat ∧ c.toNat ≤ 57 := by simpa [isDigit] using hcd
                have hb := digitsVal_bound ((l.take i).drop k) 0 hall
                have hl2 : ((l.take i).drop k).length ≤ 15 := by simp; omega
                have hp : 10 ^ ((l.take i).drop k).length ≤ 10 ^ 15 := Nat.pow_le_pow_right (by omega) hl2
                have hb2 : digitsVal ((l.take i).drop k) < 10 ^ 15 := by
                  have : digitsVal ((l.take i).drop k) < (0 + 1) * 10 ^ ((l.take i).drop k).length := hb
                  omega
                refine Arith.i64 (10 * (digitsVal ((l.take i).drop k) : Int)) rfl (by omega) ?_
                refine Idx.mk' i c rfl hc ?_
                refine Arith.u8 ((c.toNat - 48 : Nat) : Int) (by omega) (by omega) ?_
                refine Arith.i64 ((c.toNat - 48 : Nat) : Int) rfl (by omega) ?_
                refine Arith.i64 ((digitsVal ((l.take (i + 1)).drop k) : Nat) : Int) (by rw [slice_snoc hki hc, digitsVal_snoc]; omega) (by rw [slice_snoc hki hc, digitsVal_snoc]; omega) ?_
                refine Arith.i64 ((i + 1 : Nat) : Int) (by simp) (by omega) ?_
                exact ⟨_, _, by omega, Forget.refl _, rfl, i + 1, rfl, by omega, by omega, rfl⟩
              · have hij2 : i = j := by omega
                subst hij2
                refine Sure.mk' rfl ?_
                refine Store.mk' [.int .i64 2, .int .i64 k, .str [], .int .i64 (digitsVal ((l.take i).drop k)), .int .i64 i, .int .i64 0] g4 (Nat.le_of_ble_eq_true rfl) rfl (fun σ2 e2 => ?_)
                subst e2
                refine Load.mk' put_box (Nat.le_of_ble_eq_true rfl) ?_
                refine Ret.weak (.refl _) (over_put o1 h4) ⟨rfl, ?_⟩
                rw [hgood (by omega) h1z hnl]; rfl
        · have h1z : ¬ (1 < j - k ∧ c0.toNat = 48) := by omega
          refine Test.split (fun h12 => ?_) (fun h12 => ?_)
          · obtain ⟨d, hd⟩ := get_some (l := l) (j := j) (by omega)
            refine Idx.mk' j d rfl hd ?_
            refine CallK.pure (letter_ret d) ?_
            cases hL : isLetter d with
            | true =>
              refine Sure.mk' rfl ?_
              refine Store.mk' [.int .i64 0, .int .i64 0, .str [], .int .i64 0, .int .i64 0, .int .i64 27] g4 (Nat.le_of_ble_eq_true rfl) rfl (fun σ2 e2 => ?_)
              subst e2
              refine Load.mk' put_box (Nat.le_of_ble_eq_true rfl) ?_
              refine Ret.weak (.refl _) (over_put o1 h4) ⟨rfl, ?_⟩
              rw [hbad (.inr (.inr ⟨d, hd, hL⟩))]; rfl
            | false =>
              have hnl : ∀ e, l[j]? = some e → isLetter e = false := fun e he => by rw [hd] at he; injection he with he; rw [← he]; exact hL
              refine ⟨fun m sl σ3 => σ3 = σ' ∧ ∃ i : Nat, sl = ofL [(0, some (.str l)), (1, some (.int .i64 k)), (4, some (.loc b4 0)), (5, some (.int .i64 j)), (6, some (.int .i64 (digitsVal ((l.take i).drop k)))), (7, some (.int .i64 i))] ∧ k ≤ i ∧ i ≤ j ∧ m = j - i, _, ⟨rfl, k, by rw [show (l.take k).drop k = [] from by simp]; rfl, by omega, by omega, rfl⟩, ?_⟩
              rintro m sl σ3 ⟨rfl, i, rfl, hki, hij, rfl⟩
              refine Test.split (fun h6 => ?_) (fun h6 => ?_)
              · obtain ⟨c, hc⟩ := get_some (l := l) (j := i) (by omega)
                have hall : ((l.take i).drop k).all isDigit = true := hpre i hki hij
                have hcd : isDigit c = true := hdig i c hki (by omega) hc
                have hcd' : 48 ≤ c.toNat ∧ c.toNat ≤ 57 := by simpa [isDigit] using hcd
                have hb := digitsVal_bound ((l.take i).drop k) 0 hall
                have hl2 : ((l.take i).drop k).length ≤ 15 := by simp; omega
                have hp : 10 ^ ((l.take i).drop k).length ≤ 10 ^ 15 := Nat.pow_le_pow_right (by omega) hl2
                have hb2 : digitsVal ((l.take i).drop k) < 10 ^ 15 := by
                  have : digitsVal ((l.take i).drop k) < (0 + 1) * 10 ^ ((l.take i).drop k).length := hb
                  omega
                refine Arith.i64 (10 * (digitsVal ((l.take i).drop k) : Int)) rfl (by omega) ?_
                refine Idx.mk' i c rfl hc ?_
                refine Arith.u8 ((c.toNat - 48 : Nat) : Int) (by omega) (by omega) ?_
                refine Arith.i64 ((c.toNat - 48 : Nat) : Int) rfl (by omega) ?_
                refine Arith.i64 ((digitsVal ((l.take (i + 1)).drop k) : Nat) : Int) (by rw [slice_snoc hki hc, digitsVal_snoc]; omega) (by rw [slice_snoc hki hc, digitsVal_snoc]; omega) ?_
                refine Arith.i64 ((i + 1 : Nat) : Int) (by simp) (by omega) ?_
                exact ⟨_, _, by omega, Forget.refl _, rfl, i + 1, rfl, by omega, by omega, rfl⟩
              · have hij2 : i = j := by omega
                subst hij2
                refine Sure.mk' rfl ?_
                refine Store.mk' [.int .i64 2, .int .i64 k, .str [], .int .i64 (digitsVal ((l.take i).drop k)), .int .i64 i, .int .i64 0] g4 (Nat.le_of_ble_eq_true rfl) rfl (fun σ2 e2 => ?_)
                subst e2
                refine Load.mk' put_box (Nat.le_of_ble_eq_true rfl) ?_
                refine Ret.weak (.refl _) (over_put o1 h4) ⟨rfl, ?_⟩
                rw [hgood (by omega) h1z hnl]; rfl
          · have hnl : ∀ e, l[j]? = some e → isLetter e = false := fun e he => by have := (List.getElem?_eq_some_iff.1 he).1; omega
            refine ⟨fun m sl σ3 => σ3 = σ' ∧ ∃ i : Nat, sl = ofL [(0, some (.str l)), (1, some (.int .i64 k)), (4, some (.loc b4 0)), (5, some (.int .i64 j)), (6, some (.int .i64 (digitsVal ((l.take i).drop k)))), (7, some (.int .i64 i))] ∧ k ≤ i ∧ i ≤ j ∧ m = j - i, _, ⟨rfl, k, by rw [show (l.take k).drop k = [] from by simp]; rfl, by omega, by omega, rfl⟩, ?_⟩
            rintro m sl σ3 ⟨rfl, i, rfl, hki, hij, rfl⟩
            refine Test.split (fun h6 => ?_) (fun h6 => ?_)
            · obtain ⟨c, hc⟩ := get_some (l := l) (j := i) (by omega)
              have hall : ((l.take i).drop k).all isDigit = true := hpre i hki hij
              have hcd : isDigit c = true := hdig i c hki (by omega) hc
              have hcd' : 48 ≤ c.toNat ∧ c.toNat ≤ 57 := by simpa [isDigit] using hcd
              have hb := digitsVal_bound ((l.take i).drop k) 0 hall
              have hl2 : ((l.take i).drop k).length ≤ 15 := by simp; omega
              have hp : 10 ^ ((l.take i).drop k).length ≤ 10 ^ 15 := Nat.pow_le_pow_right (by omega) hl2
              have hb2 : digitsVal ((l.take i).drop k) < 10 ^ 15 := by
                have : digitsVal ((l.take i).drop k) < (0 + 1) * 10 ^ ((l.take i).drop k).length := hb
                omega
              refine Arith.i64 (10 * (digitsVal ((l.take i).drop k) : Int)) rfl (by omega) ?_
              refine Idx.mk' i c rfl hc ?_
              refine Arith.u8 ((c.toNat - 48 : Nat) : Int) (by omega) (by omega) ?_
              refine Arith.i64 ((c.toNat - 48 : Nat) : Int) rfl (by omega) ?_
              refine Arith.i64 ((digitsVal ((l.take (i + 1)).drop k) : Nat) : Int) (by rw [slice_snoc hki hc, digitsVal_snoc]; omega) (by rw [slice_snoc hki hc, digitsVal_snoc]; omega) ?_
              refine Arith.i64 ((i + 1 : Nat) : Int) (by simp) (by omega) ?_
              exact ⟨_, _, by omega, Forget.refl _, rfl, i + 1, rfl, by omega, by omega, rfl⟩
            · have hij2 : i = j := by omega
              subst hij2
              refine Sure.mk' rfl ?_
              refine Store.mk' [.int .i64 2, .int .i64 k, .str [], .int .i64 (digitsVal ((l.take i).drop k)), .int .i64 i, .int .i64 0] g4 (Nat.le_of_ble_eq_true rfl) rfl (fun σ2 e2 => ?_)
              subst e2
              refine Load.mk' put_box (Nat.le_of_ble_eq_true rfl) ?_
              refine Ret.weak (.refl _) (over_put o1 h4) ⟨rfl, ?_⟩
              rw [hgood (by omega) h1z hnl]; rfl
  · have hjk : spanTo isDigit l k = j := by rw [← hsp, spanTo_end (by omega)]
    rw [hjk] at h1 h2 hbad hgood hdig hpre
    refine Arith.i64 ((j - k : Nat) : Int) (by omega) (by omega) ?_
    refine Test.split (fun h9 => ?_) (fun h9 => ?_)
    · refine Sure.mk' rfl ?_
      refine Store.mk' [.int .i64 0, .int .i64 0, .str [], .int .i64 0, .int .i64 0, .int .i64 27] g4 (Nat.le_of_ble_eq_true rfl) rfl (fun σ2 e2 => ?_)
      subst e2
      refine Load.mk' put_box (Nat.le_of_ble_eq_true rfl) ?_
      refine Ret.weak (.refl _) (over_put o1 h4) ⟨rfl, ?_⟩
      rw [hbad (.inl (by omega))]; rfl
    · refine Arith.i64 ((j - k : Nat) : Int) (by omega) (by omega) ?_
      refine Test.split (fun h10 => ?_) (fun h10 => ?_)
      · refine Idx.mk' k c0 rfl hc0 ?_
        refine Test.split (fun h11 => ?_) (fun h11 => ?_)
        · refine Sure.mk' rfl ?_
          refine Store.mk' [.int .i64 0, .int .i64 0, .str [], .int .i64 0, .int .i64 0, .int .i64 27] g4 (Nat.le_of_ble_eq_true rfl) rfl (fun σ2 e2 => ?_)
          subst e2
          refine Load.mk' put_box (Nat.le_of_ble_eq_true rfl) ?_
          refine Ret.weak (.refl _) (over_put o1 h4) ⟨rfl, ?_⟩
          rw [hbad (.inr (.inl ⟨by omega, by omega⟩))]; rfl
        · have h1z : ¬ (1 < j - k ∧ c0.toNat = 48) := by omega
          refine Test.split (fun h12 => ?_) (fun h12 => ?_)
          · obtain ⟨d, hd⟩ := get_some (l := l) (j := j) (by omega)
            refine Idx.mk' j d rfl hd ?_
            refine CallK.pure (letter_ret d) ?_
            cases hL : isLetter d with
            | true =>
              refine Sure.mk' rfl ?_
              refine Store.mk' [.int .i64 0, .int .i64 0, .str [], .int .i64 0, .int .i64 0, .int .i64 27] g4 (Nat.le_of_ble_eq_true rfl) rfl (fun σ2 e2 => ?_)
              subst e2
              refine Load.mk' put_box (Nat.le_of_ble_eq_true rfl) ?_
              refine Ret.weak (.refl _) (over_put o1 h4) ⟨rfl, ?_⟩
              rw [hbad (.inr (.inr ⟨d, hd, hL⟩))]; rfl
            | false =>
              have hnl : ∀ e, l[j]? = some e → isLetter e = false := fun e he => by rw [hd] at he; injection he with he; rw [← he]; exact hL
              refine ⟨fun m sl σ3 => σ3 = σ' ∧ ∃ i : Nat, sl = ofL [(0, some (.str l)), (1, some (.int .i64 k)), (4, some (.loc b4 0)), (5, some (.int .i64 j)), (6, some (.int .i64 (digitsVal ((l.take i).drop k)))), (7, some (.int .i64 i))] ∧ k ≤ i ∧ i ≤ j ∧ m = j - i, _, ⟨rfl, k, by rw [show (l.take k).drop k = [] from by simp]; rfl, by omega, by omega, rfl⟩, ?_⟩
              rintro m sl σ3 ⟨rfl, i, rfl, hki, hij, rfl⟩
              refine Test.split (fun h6 => ?_) (fun h6 => ?_)
              · obtain ⟨c, hc⟩ := get_some (l := l) (j := i) (by omega)
                have hall : ((l.take i).drop k).all isDigit = true := hpre i hki hij
                have hcd : isDigit c = true := hdig i c hki (by omega) hc
                have hcd' : 48 ≤ c.toNat ∧ c.toNat ≤ 57 := by simpa [isDigit] using hcd
                have hb := digitsVal_bound ((l.take i).drop k) 0 hall
                have hl2 : ((l.take i).drop k).length ≤ 15 := by simp; omega
                have hp : 10 ^ ((l.take i).drop k).length ≤ 10 ^ 15 := Nat.pow_le_pow_right (by omega) hl2
                have hb2 : digitsVal ((l.take i).drop k) < 10 ^ 15 := by
                  have : digitsVal ((l.take i).drop k) < (0 + 1) * 10 ^ ((l.take i).drop k).length := hb
                  omega
                refine Arith.i64 (10 * (digitsVal ((l.take i).drop k) : Int)) rfl (by omega) ?_
                refine Idx.mk' i c rfl hc ?_
                refine Arith.u8 ((c.toNat - 48 : Nat) : Int) (by omega) (by omega) ?_
                refine Arith.i64 ((c.toNat - 48 : Nat) : Int) rfl (by omega) ?_
                refine Arith.i64 ((digitsVal ((l.take (i + 1)).drop k) : Nat) : Int) (by rw [slice_snoc hki hc, digitsVal_snoc]; omega) (by rw [slice_snoc hki hc, digitsVal_snoc]; omega) ?_
                refine Arith.i64 ((i + 1 : Nat) : Int) (by simp) (by omega) ?_
                exact ⟨_, _, by omega, Forget.refl _, rfl, i + 1, rfl, by omega, by omega, rfl⟩
              · have hij2 : i = j := by omega
                subst hij2
                refine Sure.mk' rfl ?_
                refine Store.mk' [.int .i64 2, .int .i64 k, .str [], .int .i64 (digitsVal ((l.take i).drop k)), .int .i64 i, .int .i64 0] g4 (Nat.le_of_ble_eq_true rfl) rfl (fun σ2 e2 => ?_)
                subst e2
                refine Load.mk' put_box (Nat.le_of_ble_eq_true rfl) ?_
                refine Ret.weak (.refl _) (over_put o1 h4) ⟨rfl, ?_⟩
                rw [hgood (by omega) h1z hnl]; rfl
          · have hnl : ∀ e, l[j]? = some e → isLetter e = false := fun e he => by have := (List.getElem?_eq_some_iff.1 he).1; omega
            refine ⟨fun m sl σ3 => σ3 = σ' ∧ ∃ i : Nat, sl = ofL [(0, some (.str l)), (1, some (.int .i64 k)), (4, some (.loc b4 0)), (5, some (.int .i64 j)), (6, some (.int .i64 (digitsVal ((l.take i).drop k)))), (7, some (.int .i64 i))] ∧ k ≤ i ∧ i ≤ j ∧ m = j - i, _, ⟨rfl, k, by rw [show (l.take k).drop k = [] from by simp]; rfl, by omega, by omega, rfl⟩, ?_⟩
            rintro m sl σ3 ⟨rfl, i, rfl, hki, hij, rfl⟩
            refine Test.split (fun h6 => ?_) (fun h6 => ?_)
            · obtain ⟨c, hc⟩ := get_some (l := l) (j := i) (by omega)
              have hall : ((l.take i).drop k).all isDigit = true := hpre i hki hij
              have hcd : isDigit c = true := hdig i c hki (by omega) hc
              have hcd' : 48 ≤ c.toNat ∧ c.toNat ≤ 57 := by simpa [isDigit] using hcd
              have hb := digitsVal_bound ((l.take i).drop k) 0 hall
              have hl2 : ((l.take i).drop k).length ≤ 15 := by simp; omega
              have hp : 10 ^ ((l.take i).drop k).length ≤ 10 ^ 15 := Nat.pow_le_pow_right (by omega) hl2
              have hb2 : digitsVal ((l.take i).drop k) < 10 ^ 15 := by
                have : digitsVal ((l.take i).drop k) < (0 + 1) * 10 ^ ((l.take i).drop k).length := hb
                omega
              refine Arith.i64 (10 * (digitsVal ((l.take i).drop k) : Int)) rfl (by omega) ?_
              refine Idx.mk' i c rfl hc ?_
              refine Arith.u8 ((c.toNat - 48 : Nat) : Int) (by omega) (by omega) ?_
              refine Arith.i64 ((c.toNat - 48 : Nat) : Int) rfl (by omega) ?_
              refine Arith.i64 ((digitsVal ((l.take (i + 1)).drop k) : Nat) : Int) (by rw [slice_snoc hki hc, digitsVal_snoc]; omega) (by rw [slice_snoc hki hc, digitsVal_snoc]; omega) ?_
              refine Arith.i64 ((i + 1 : Nat) : Int) (by simp) (by omega) ?_
              exact ⟨_, _, by omega, Forget.refl _, rfl, i + 1, rfl, by omega, by omega, rfl⟩
            · have hij2 : i = j := by omega
              subst hij2
              refine Sure.mk' rfl ?_
              refine Store.mk' [.int .i64 2, .int .i64 k, .str [], .int .i64 (digitsVal ((l.take i).drop k)), .int .i64 i, .int .i64 0] g4 (Nat.le_of_ble_eq_true rfl) rfl (fun σ2 e2 => ?_)
              subst e2
              refine Load.mk' put_box (Nat.le_of_ble_eq_true rfl) ?_
              refine Ret.weak (.refl _) (over_put o1 h4) ⟨rfl, ?_⟩
              rw [hgood (by omega) h1z hnl]; rfl
      · have h1z : ¬ (1 < j - k ∧ c0.toNat = 48) := by omega
        refine Test.split (fun h12 => ?_) (fun h12 => ?_)
        · obtain ⟨d, hd⟩ := get_some (l := l) (j := j) (by omega)
          refine Idx.mk' j d rfl hd ?_
          refine CallK.pure (letter_ret d) ?_
          cases hL : isLetter d with
          | true =>
            refine Sure.mk' rfl ?_
            refine Store.mk' [.int .i64 0, .int .i64 0, .str [], .int .i64 0, .int .i64 0, .int .i64 27] g4 (Nat.le_of_ble_eq_true rfl) rfl (fun σ2 e2 => ?_)
            subst e2
            refine Load.mk' put_box (Nat.le_of_ble_eq_true rfl) ?_
            refine Ret.weak (.refl _) (over_put o1 h4) ⟨rfl, ?_⟩
            rw [hbad (.inr (.inr ⟨d, hd, hL⟩))]; rfl
          | false =>
            have hnl : ∀ e, l[j]? = some e → isLetter e = false := fun e he => by rw [hd] at he; injection he with he; rw [← he]; exact hL
            refine ⟨fun m sl σ3 => σ3 = σ' ∧ ∃ i : Nat, sl = ofL [(0, some (.str l)), (1, some (.int .i64 k)), (4, some (.loc b4 0)), (5, some (.int .i64 j)), (6, some (.int .i64 (digitsVal ((l.take i).drop k)))), (7, some (.int .i64 i))] ∧ k ≤ i ∧ i ≤ j ∧ m = j - i, _, ⟨rfl, k, by rw [show (l.take k).drop k = [] from by simp]; rfl, by omega, by omega, rfl⟩, ?_⟩
            rintro m sl σ3 ⟨rfl, i, rfl, hki, hij, rfl⟩
            refine Test.split (fun h6 => ?_) (fun h6 => ?_)
            · obtain ⟨c, hc⟩ := get_some (l := l) (j := i) (by omega)
              have hall : ((l.take i).drop k).all isDigit = true := hpre i hki hij
              have hcd : isDigit c = true := hdig i c hki (by omega) hc
              have hcd' : 48 ≤ c.toNat ∧ c.toNat ≤ 57 := by simpa [isDigit] using hcd
              have hb := digitsVal_bound ((l.take i).drop k) 0 hall
              have hl2 : ((l.take i).drop k).length ≤ 15 := by simp; omega
              have hp : 10 ^ ((l.take i).drop k).length ≤ 10 ^ 15 := Nat.pow_le_pow_right (by omega) hl2
              have hb2 : digitsVal ((l.take i).drop k) < 10 ^ 15 := by
                have : digitsVal ((l.take i).drop k) < (0 + 1) * 10 ^ ((l.take i).drop k).length := hb
                omega
              refine Arith.i64 (10 * (digitsVal ((l.take i).drop k) : Int)) rfl (by omega) ?_
              refine Idx.mk' i c rfl hc ?_
              refine Arith.u8 ((c.toNat - 48 : Nat) : Int) (by omega) (by omega) ?_
              refine Arith.i64 ((c.toNat - 48 : Nat) : Int) rfl (by omega) ?_
              refine Arith.i64 ((digitsVal ((l.take (i + 1)).drop k) : Nat) : Int) (by rw [slice_snoc hki hc, digitsVal_snoc]; omega) (by rw [slice_snoc hki hc, digitsVal_snoc]; omega) ?_
              refine Arith.i64 ((i + 1 : Nat) : Int) (by simp) (by omega) ?_
              exact ⟨_, _, by omega, Forget.refl _, rfl, i + 1, rfl, by omega, by omega, rfl⟩
            · have hij2 : i = j := by omega
              subst hij2
              refine Sure.mk' rfl ?_
              refine Store.mk' [.int .i64 2, .int .i64 k, .str [], .int .i64 (digitsVal ((l.take i).drop k)), .int .i64 i, .int .i64 0] g4 (Nat.le_of_ble_eq_true rfl) rfl (fun σ2 e2 => ?_)
              subst e2
              refine Load.mk' put_box (Nat.le_of_ble_eq_true rfl) ?_
              refine Ret.weak (.refl _) (over_put o1 h4) ⟨rfl, ?_⟩
              rw [hgood (by omega) h1z hnl]; rfl
        · have hnl : ∀ e, l[j]? = some e → isLetter e = false := fun e he => by have := (List.getElem?_eq_some_iff.1 he).1; omega
          refine ⟨fun m sl σ3 => σ3 = σ' ∧ ∃ i : Nat, sl = ofL [(0, some (.str l)), (1, some (.int .i64 k)), (4, some (.loc b4 0)), (5, some (.int .i64 j)), (6, some (.int .i64 (digitsVal ((l.take i).drop k)))), (7, some (.int .i64 i))] ∧ k ≤ i ∧ i ≤ j ∧ m = j - i, _, ⟨rfl, k, by rw [show (l.take k).drop k = [] from by simp]; rfl, by omega, by omega, rfl⟩, ?_⟩
          rintro m sl σ3 ⟨rfl, i, rfl, hki, hij, rfl⟩
          refine Test.split (fun h6 => ?_) (fun h6 => ?_)
          · obtain ⟨c, hc⟩ := get_some (l := l) (j := i) (by omega)
            have hall : ((l.take i).drop k).all isDigit = true := hpre i hki hij
            have hcd : isDigit c = true := hdig i c hki (by omega) hc
            have hcd' : 48 ≤ c.toNat ∧ c.toNat ≤ 57 := by simpa [isDigit] using hcd
            have hb := digitsVal_bound ((l.take i).drop k) 0 hall
            have hl2 : ((l.take i).drop k).length ≤ 15 := by simp; omega
            have hp : 10 ^ ((l.take i).drop k).length ≤ 10 ^ 15 := Nat.pow_le_pow_right (by omega) hl2
            have hb2 : digitsVal ((l.take i).drop k) < 10 ^ 15 := by
              have : digitsVal ((l.take i).drop k) < (0 + 1) * 10 ^ ((l.take i).drop k).length := hb
              omega
            refine Arith.i64 (10 * (digitsVal ((l.take i).drop k) : Int)) rfl (by omega) ?_
            refine Idx.mk' i c rfl hc ?_
            refine Arith.u8 ((c.toNat - 48 : Nat) : Int) (by omega) (by omega) ?_
            refine Arith.i64 ((c.toNat - 48 : Nat) : Int) rfl (by omega) ?_
            refine Arith.i64 ((digitsVal ((l.take (i + 1)).drop k) : Nat) : Int) (by rw [slice_snoc hki hc, digitsVal_snoc]; omega) (by rw [slice_snoc hki hc, digitsVal_snoc]; omega) ?_
            refine Arith.i64 ((i + 1 : Nat) : Int) (by simp) (by omega) ?_
            exact ⟨_, _, by omega, Forget.refl _, rfl, i + 1, rfl, by omega, by omega, rfl⟩
          · have hij2 : i = j := by omega
            subst hij2
            refine Sure.mk' rfl ?_
            refine Store.mk' [.int .i64 2, .int .i64 k, .str [], .int .i64 (digitsVal ((l.take i).drop k)), .int .i64 i, .int .i64 0] g4 (Nat.le_of_ble_eq_true rfl) rfl (fun σ2 e2 => ?_)
            subst e2
            refine Load.mk' put_box (Nat.le_of_ble_eq_true rfl) ?_
            refine Ret.weak (.refl _) (over_put o1 h4) ⟨rfl, ?_⟩
            rw [hgood (by omega) h1z hnl]; rfl
end Go.Shadow.Lex
