/- The functions of the lexer's specification, as shadow contracts: letter, digit, Blank, pair, name, number. No condition but the sources' lengths. -/
import Derived.Test.YtgebphnfnmeaaaaGreatDoorLv5
namespace Go.Shadow.Lex
open Go Go.RowKit Go.Proofs

theorem letter_ret (c : UInt8) : SRet Tryz.prog LG 36 [.int .u8 c.toNat] (.bool (isLetter c)) := by
  intro σ
  refine code36.call hm (by simp) ?_
  have hc := c.toNat_lt
  repeat' (first
    | refine Test.split (fun h => ?_) (fun h => ?_)
    | refine Ret.mk' ⟨rfl, ?_⟩)
  all_goals (refine congrArg (fun x => SEnd.ret (V.bool x)) ?_; simp only [isLetter]; grind)
theorem digit_ret (c : UInt8) : SRet Tryz.prog LG 38 [.int .u8 c.toNat] (.bool (isDigit c)) := by
  intro σ
  refine code38.call hm (by simp) ?_
  have hc := c.toNat_lt
  repeat' (first
    | refine Test.split (fun h => ?_) (fun h => ?_)
    | refine Ret.mk' ⟨rfl, ?_⟩)
  all_goals (refine congrArg (fun x => SEnd.ret (V.bool x)) ?_; simp only [isDigit]; grind)
def pairV (c : UInt8) : Int := match esc c with
  | some e => e.toNat
  | none => 0
theorem pair_ret (c : UInt8) : SRet Tryz.prog LG 54 [.int .u8 c.toNat] (.int .u8 (pairV c)) := by
  intro σ
  refine code54.call hm (by simp) ?_
  have hc := c.toNat_lt
  repeat' (first
    | refine Test.split (fun h => ?_) (fun h => ?_)
    | refine Ret.mk' ⟨rfl, ?_⟩)
  all_goals (refine congrArg (fun x => SEnd.ret (V.int .u8 x)) ?_; simp only [pairV, esc])
  · rw [if_pos (by omega)]; simp; omega
  · rw [if_neg (by omega), if_pos (by omega)]; simp; omega
  · rw [if_neg (by omega), if_neg (by omega), if_pos (by omega)]; rfl
  · rw [if_neg (by omega), if_neg (by omega), if_neg (by omega)]

theorem get_some {l : List UInt8} {j : Nat} (h : j < l.length) : ∃ c, l[j]? = some c := ⟨l[j], by simp [h]⟩

/-- A comment, byte by byte: where it ends. -/
def lineTo (l : List UInt8) (k : Nat) : Nat := k + ((l.drop k).takeWhile (·.toNat != 10)).length
theorem lineTo_eq (l : List UInt8) (k : Nat) : lineTo l k = spanTo (·.toNat != 10) l k := rfl

set_option maxHeartbeats 4000000 in
theorem blank_ret (l : List UInt8) (k : Nat) (hl : l.length ≤ 70000) (hk : k ≤ l.length) : SRet Tryz.prog LG 19 [.str l, .int .i64 k] (.int .i64 (skipTo l k)) := by
  intro σ
  refine code19.call hm (by simp) ?_
  refine ⟨fun m sl σ' => σ' = σ ∧ ∃ j : Nat, sl = ofL [(0, some (.str l)), (1, some (.int .i64 j))] ∧ j ≤ l.length ∧ skipTo l j = skipTo l k ∧ m = l.length - j, _, ⟨rfl, k, rfl, hk, rfl, rfl⟩, ?_⟩
  rintro m sl σ' ⟨rfl, j, rfl, hj, hsp, rfl⟩
  refine Test.split (fun h => ?_) (fun h => ?_)
  · obtain ⟨c, hc⟩ := get_some (l := l) (j := j) (by omega)
    have hstep : isBlank c = true → ∃ m σ'', m < l.length - j ∧ Forget σ' σ'' ∧ σ'' = σ' ∧ ∃ j' : Nat, ofL [(0, some (.str l)), (1, some (.int .i64 (j + 1 : Nat)))] = ofL [(0, some (.str l)), (1, some (V.int .i64 j'))] ∧ j' ≤ l.length ∧ skipTo l j' = skipTo l k ∧ m = l.length - j' := by
      intro hb
      exact ⟨_, _, by omega, .refl _, rfl, j + 1, rfl, by omega, by rw [skipTo_blank hc hb, hsp], rfl⟩
    refine Idx.mk' j c rfl hc ?_
    refine Test.split (fun h1 => ?_) (fun h1 => ?_)
    · refine Arith.i64 ((j + 1 : Nat) : Int) (by simp) (by omega) ?_
      exact hstep (by simp [isBlank]; omega)
    · refine Idx.mk' j c rfl hc ?_
      refine Test.split (fun h2 => ?_) (fun h2 => ?_)
      · refine Arith.i64 ((j + 1 : Nat) : Int) (by simp) (by omega) ?_
        exact hstep (by simp [isBlank]; omega)
      · refine Idx.mk' j c rfl hc ?_
        refine Test.split (fun h3 => ?_) (fun h3 => ?_)
        · refine Arith.i64 ((j + 1 : Nat) : Int) (by simp) (by omega) ?_
          exact hstep (by simp [isBlank]; omega)
        · refine Idx.mk' j c rfl hc ?_
          refine Test.split (fun h4 => ?_) (fun h4 => ?_)
          · refine Arith.i64 ((j + 1 : Nat) : Int) (by simp) (by omega) ?_
            exact hstep (by simp [isBlank]; omega)
          · have hb : isBlank c = false := by simp [isBlank]; omega
            refine Idx.mk' j c rfl hc ?_
            refine Test.split (fun h5 => ?_) (fun h5 => ?_)
            · have hcm := skipTo_comment hc (by omega)
              refine ⟨fun m sl σ1 => σ1 = σ' ∧ ∃ i : Nat, sl = ofL [(0, some (.str l)), (1, some (.int .i64 i))] ∧ j ≤ i ∧ i ≤ l.length ∧ lineTo l i = lineTo l j ∧ m = l.length - i, _, ⟨rfl, j, rfl, by omega, by omega, rfl, rfl⟩, ?_⟩
              rintro m sl σ1 ⟨rfl, i, rfl, hji, hi, hli, rfl⟩
              refine Test.split (fun h6 => ?_) (fun h6 => ?_)
              · obtain ⟨d, hd⟩ := get_some (l := l) (j := i) (by omega)
                refine Idx.mk' i d rfl hd ?_
                refine Test.split (fun h7 => ?_) (fun h7 => ?_)
                · refine Arith.i64 ((i + 1 : Nat) : Int) (by simp) (by omega) ?_
                  refine ⟨_, _, ?_, Forget.refl _, rfl, i + 1, rfl, by omega, by omega, ?_, rfl⟩
                  · omega
                  · rw [lineTo_eq, spanTo_step hd (by simp; omega), ← lineTo_eq, hli]
                · have he : lineTo l j = i := by rw [← hli, lineTo_eq, spanTo_stop hd (by simp; omega)]
                  refine ⟨_, _, ?_, Forget.refl _, rfl, i, rfl, by omega, ?_, rfl⟩
                  · have := hcm.2; unfold lineTo at he; omega
                  · rw [← hsp, ← he]; exact hcm.1
              · have he : lineTo l j = i := by rw [← hli, lineTo_eq, spanTo_end (by omega)]
                refine ⟨_, _, ?_, Forget.refl _, rfl, i, rfl, by omega, ?_, rfl⟩
                · have := hcm.2; unfold lineTo at he; omega
                · rw [← hsp, ← he]; exact hcm.1
            · refine Ret.mk' ⟨rfl, ?_⟩
              rw [← hsp, skipTo_stop hc hb (by omega)]
  · refine Ret.mk' ⟨rfl, ?_⟩
    rw [← hsp, skipTo_end (by omega)]

def oneC : Sum Nat (Tok × Nat) → List V
  | .inl e => [.int .i64 0, .int .i64 0, .str [], .int .i64 0, .int .i64 0, .int .i64 e]
  | .inr (t, e2) => [.int .i64 t.kind, .int .i64 t.at_, .str t.s, .int .i64 t.n, .int .i64 e2, .int .i64 0]

def oneV (x : Sum Nat (Tok × Nat)) : V := .agg (oneC x)
theorem oneC_length (x : Sum Nat (Tok × Nat)) : (oneC x).length = 6 := by rcases x with e | ⟨t, e2⟩ <;> rfl

set_option maxHeartbeats 4000000 in
theorem refName_ret (l : List UInt8) (k : Nat) (hl : l.length ≤ 70000) (hk : k ≤ l.length) :
    SRet Tryz.prog LG 37 [.str l, .int .i64 k] (oneV (if 32 < spanTo isWord l k - k then .inl 2 else .inr (⟨1, k, (l.take (spanTo isWord l k)).drop k, 0⟩, spanTo isWord l k))) := by
  intro σ
  have h1 := spanTo_ge isWord l k
  have h2 := spanTo_le isWord l k hk
  refine code37.call hm (by simp) ?_
  intro b4 h4
  obtain ⟨o1, g4⟩ := new_box h4 [.int .i64 0, .int .i64 0, .str [], .int .i64 0, .int .i64 0, .int .i64 0]
  generalize σ.put b4 [.int .i64 0, .int .i64 0, .str [], .int .i64 0, .int .i64 0, .int .i64 0] = σ1 at *
  refine ⟨fun m sl σ' => σ' = σ1 ∧ ∃ j : Nat, sl = ofL [(0, some (.str l)), (1, some (.int .i64 k)), (4, some (.loc b4 0)), (5, some (.int .i64 j))] ∧ j ≤ l.length ∧ spanTo isWord l j = spanTo isWord l k ∧ m = l.length - j, _, ⟨rfl, k, rfl, hk, rfl, rfl⟩, ?_⟩
  rintro m sl σ' ⟨rfl, j, rfl, hj, hsp, rfl⟩
  have hnext : ∀ c, l[j]? = some c → isWord c = true → ∃ m σ'', m < l.length - j ∧ Forget σ' σ'' ∧ σ'' = σ' ∧ ∃ j' : Nat, ofL [(0, some (.str l)), (1, some (.int .i64 k)), (4, some (.loc b4 0)), (5, some (.int .i64 (j + 1 : Nat)))] = ofL [(0, some (.str l)), (1, some (.int .i64 k)), (4, some (.loc b4 0)), (5, some (V.int .i64 j'))] ∧ j' ≤ l.length ∧ spanTo isWord l j' = spanTo isWord l k ∧ m = l.length - j' := by
    intro c hc hw
    have := (List.getElem?_eq_some_iff.1 hc).1
    exact ⟨_, _, by omega, .refl _, rfl, j + 1, rfl, by omega, by rw [spanTo_step hc hw, hsp], rfl⟩
  refine Test.split (fun h => ?_) (fun h => ?_)
  · obtain ⟨c, hc⟩ := get_some (l := l) (j := j) (by omega)
    refine Idx.mk' j c rfl hc ?_
    refine CallK.pure (letter_ret c) ?_
    cases hL : isLetter c with
    | true =>
      refine Arith.i64 ((j + 1 : Nat) : Int) (by simp) (by omega) ?_
      exact hnext c hc (by simp [isWord, hL])
    | false =>
      refine Idx.mk' j c rfl hc ?_
      refine CallK.pure (digit_ret c) ?_
      cases hD : isDigit c with
      | true =>
        refine Arith.i64 ((j + 1 : Nat) : Int) (by simp) (by omega) ?_
        exact hnext c hc (by simp [isWord, hD])
      | false =>
        have hjk : spanTo isWord l k = j := by rw [← hsp, spanTo_stop hc (by simp [isWord, hL, hD])]
        rw [hjk] at h1 h2 ⊢
        refine Arith.i64 ((j - k : Nat) : Int) (by omega) (by omega) ?_
        refine Test.split (fun h9 => ?_) (fun h9 => ?_)
        · refine Sure.mk' rfl ?_
          refine Store.mk' [.int .i64 0, .int .i64 0, .str [], .int .i64 0, .int .i64 0, .int .i64 2] g4 (Nat.le_of_ble_eq_true rfl) rfl (fun σ2 e2 => ?_)
          subst e2
          refine Load.mk' put_box (Nat.le_of_ble_eq_true rfl) ?_
          refine Ret.weak (.refl _) (over_put o1 h4) ⟨rfl, ?_⟩
          rw [if_pos (by omega)]; rfl
        · refine Cut.mk' k j rfl rfl (by omega) (by omega) ?_
          refine Sure.mk' rfl ?_
          refine Store.mk' [.int .i64 1, .int .i64 k, .str ((l.take j).drop k), .int .i64 0, .int .i64 j, .int .i64 0] g4 (Nat.le_of_ble_eq_true rfl) rfl (fun σ2 e2 => ?_)
          subst e2
          refine Load.mk' put_box (Nat.le_of_ble_eq_true rfl) ?_
          refine Ret.weak (.refl _) (over_put o1 h4) ⟨rfl, ?_⟩
          rw [if_neg (by omega)]; rfl
  · have hjk : spanTo isWord l k = j := by rw [← hsp, spanTo_end (by omega)]
    rw [hjk] at h1 h2 ⊢
    refine Arith.i64 ((j - k : Nat) : Int) (by omega) (by omega) ?_
    refine Test.split (fun h9 => ?_) (fun h9 => ?_)
    · refine Sure.mk' rfl ?_
      refine Store.mk' [.int .i64 0, .int .i64 0, .str [], .int .i64 0, .int .i64 0, .int .i64 2] g4 (Nat.le_of_ble_eq_true rfl) rfl (fun σ2 e2 => ?_)
      subst e2
      refine Load.mk' put_box (Nat.le_of_ble_eq_true rfl) ?_
      refine Ret.weak (.refl _) (over_put o1 h4) ⟨rfl, ?_⟩
      rw [if_pos (by omega)]; rfl
    · refine Cut.mk' k j rfl rfl (by omega) (by omega) ?_
      refine Sure.mk' rfl ?_
      refine Store.mk' [.int .i64 1, .int .i64 k, .str ((l.take j).drop k), .int .i64 0, .int .i64 j, .int .i64 0] g4 (Nat.le_of_ble_eq_true rfl) rfl (fun σ2 e2 => ?_)
      subst e2
      refine Load.mk' put_box (Nat.le_of_ble_eq_true rfl) ?_
      refine Ret.weak (.refl _) (over_put o1 h4) ⟨rfl, ?_⟩
      rw [if_neg (by omega)]; rfl
end Go.Shadow.Lex
