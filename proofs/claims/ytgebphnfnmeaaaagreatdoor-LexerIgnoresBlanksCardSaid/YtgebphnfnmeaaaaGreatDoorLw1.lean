/- Proved: what the lexer's number and text do, as shadow contracts. Conditions: sources of at most 70000 bytes. -/
import Derived.Test.YtgebphnfnmeaaaaGreatDoorLw0
namespace Go.Shadow.Lex
open Go Go.RowKit Go.Proofs

theorem number_call {σ0 σ : St} {b : Nat} {src : List UInt8} {k : Nat} {toks : List Tok} {c : UInt8} (hr : Rd σ0 σ b src k toks) (hn : toks.length ≤ 70000) (hs : src.length ≤ 70000) (hc : src[k]? = some c) :
    SCall Tryz.prog LG 33 [.loc b 0] σ fun e σ' => if isLetter c = false ∧ isDigit c = true then
      (match numVal ((src.take (spanTo isWord src k)).drop k) with
        | none => σ' = σ ∧ e = .ret (.tup [.bool true, .int .i64 27])
        | some n => e = .ret (.tup [.bool true, .int .i64 0]) ∧ Rd σ0 σ' b src (spanTo isWord src k) (toks ++ [⟨2, k, [], n⟩]))
      else σ' = σ ∧ e = .ret (.tup [.bool false, .int .i64 0]) := by
  obtain ⟨ho, hf, tag, s', hb, hm', hs'⟩ := id hr
  have hk : k < src.length := (List.getElem?_eq_some_iff.1 hc).1
  have h1 := spanTo_ge isWord src k
  have h2 := spanTo_le isWord src k (by omega)
  refine code33.call hm (by simp) ?_
  refine Load.mk' hb (by simp) ?_
  refine Load.mk' hb (by simp) ?_
  refine Idx.mk' k c rfl hc ?_
  refine CallK.pure (class_ret c) ?_
  refine Test.split (fun h => ?_) (fun h => ?_)
  · refine Ret.mk' ?_
    rw [if_neg (by simp only [cls] at h; grind)]
    exact ⟨rfl, rfl⟩
  · have hL : isLetter c = false ∧ isDigit c = true := by simp only [cls] at h; grind
    have h3 : k < spanTo isWord src k := by
      have := spanTo_step hc (p := isWord) (by simp [isWord, hL])
      have := spanTo_ge isWord src (k + 1)
      omega
    refine CallK.mk' (span_call hr hs (by omega)) ?_
    rintro e σ' ⟨rfl, rfl⟩
    refine Load.mk' hb (by simp) ?_
    refine Load.mk' hb (by simp) ?_
    refine Cut.mk' k (spanTo isWord src k) rfl rfl (by omega) (by omega) ?_
    obtain ⟨r, hs⟩ : ∃ r, (src.take (spanTo isWord src k)).drop k = c :: r := by
      refine ⟨_, drop_cons ?_⟩
      rw [List.getElem?_take, if_pos h3, hc]
    have hlen : (c :: r).length ≤ 70000 := by rw [← hs]; simp; omega
    rw [hs]
    generalize hto : spanTo isWord src k = e2 at *
    refine CallK.mk' (atoi_call _ hlen _) ?_
    rintro e σ' ⟨rfl, v, er, rfl, ⟨ha, rfl⟩ | ⟨⟨t, q, rfl⟩, ha⟩⟩
    · obtain ⟨g1, g2⟩ := atoi_ok hL.2 ha
      refine Test.split (fun h5 => ?_) (fun h5 => ?_)
      · refine Ret.mk' ?_
        rw [if_pos hL, show numVal (c :: r) = none from by unfold numVal; rw [if_neg]; rintro ⟨_, h6, _⟩; omega]
        exact ⟨rfl, rfl⟩
      · have h5' : (c :: r).length ≤ 15 := by omega
        obtain rfl := g2 h5'
        have hput : numVal (c :: r) = some (digitsVal (c :: r)) → (∀ e σ'', (e = SEnd.ret (.int .i64 0) ∧ Rd σ0 σ'' b src e2 (toks ++ [(⟨2, k, [], (digitsVal (c :: r) : Nat)⟩ : Tok)])) → match numVal (c :: r) with
            | none => σ'' = σ' ∧ SEnd.ret (.tup [.bool true, .int .i64 0]) = SEnd.ret (.tup [.bool true, .int .i64 27])
            | some n => SEnd.ret (.tup [.bool true, .int .i64 0]) = SEnd.ret (.tup [.bool true, .int .i64 0]) ∧ Rd σ0 σ'' b src e2 (toks ++ [⟨2, k, [], n⟩])) := by
          intro hv e σ'' h
          rw [hv]; exact ⟨rfl, h.2⟩
        refine Test.split (fun h6 => ?_) (fun h6 => ?_)
        · refine Idx.mk' 0 c rfl rfl ?_
          refine Test.split (fun h7 => ?_) (fun h7 => ?_)
          · refine Ret.mk' ?_
            rw [if_pos hL, show numVal (c :: r) = none from by
              unfold numVal; rw [if_neg]; rintro ⟨_, _, h8⟩
              refine h8 ⟨by omega, ?_⟩
              simp only [List.head?_cons, Option.some.injEq]
              exact UInt8.toNat_inj.1 (show c.toNat = 48 by omega)]
            exact ⟨rfl, rfl⟩
          · have hv : numVal (c :: r) = some (digitsVal (c :: r)) := by
              unfold numVal; rw [if_pos]; refine ⟨g1, h5', ?_⟩
              rintro ⟨_, h8⟩
              simp only [List.head?_cons, Option.some.injEq] at h8
              subst h8; exact h7 rfl
            refine CallK.mk' (put_call hr hn 2 _ e2 []) ?_
            rintro e σ'' h8
            obtain ⟨rfl, _⟩ := id h8
            exact Ret.mk' (by rw [if_pos hL]; exact hput hv _ _ h8)
        · have hv : numVal (c :: r) = some (digitsVal (c :: r)) := by
            unfold numVal; rw [if_pos]; refine ⟨g1, h5', ?_⟩
            rintro ⟨h8, _⟩; omega
          refine CallK.mk' (put_call hr hn 2 _ e2 []) ?_
          rintro e σ'' h8
          obtain ⟨rfl, _⟩ := id h8
          exact Ret.mk' (by rw [if_pos hL]; exact hput hv _ _ h8)
    · refine Ret.mk' ?_
      rw [if_pos hL, atoi_bad hL.2 ha]
      exact ⟨rfl, rfl⟩

/-- What a reader of one kind of token does: 'none': it is none of its kind; an error; a token. -/
def ReadPost (σ0 σ : St) (b : Nat) (src : List UInt8) (toks : List Tok) (res : Option (Sum Nat (Tok × Nat))) (e : SEnd) (σ' : St) : Prop := match res with
  | none => σ' = σ ∧ e = .ret (.tup [.bool false, .int .i64 0])
  | some (.inl n) => σ' = σ ∧ e = .ret (.tup [.bool true, .int .i64 n]) ∧ n ≠ 0
  | some (.inr (t, e2)) => e = .ret (.tup [.bool true, .int .i64 0]) ∧ Rd σ0 σ' b src e2 (toks ++ [t])

theorem esc_cases (d : UInt8) : (esc d = none ∧ Lib.indexByte [34, 92, 110] d = -1) ∨ ∃ (i : Nat) (e : UInt8), esc d = some e ∧ Lib.indexByte [34, 92, 110] d = i ∧ ([34, 92, 10] : List UInt8)[i]? = some e := by
  have h1 : d = 34 ↔ d.toNat = 34 := by rw [← UInt8.toNat_inj]; rfl
  have h2 : d = 92 ↔ d.toNat = 92 := by rw [← UInt8.toNat_inj]; rfl
  have h3 : d = 110 ↔ d.toNat = 110 := by rw [← UInt8.toNat_inj]; rfl
  simp only [Lib.indexByte, esc, beq_iff_eq, eq_comm (b := d), h1, h2, h3]
  split
  · exact .inr ⟨0, 34, rfl, rfl, rfl⟩
  · split
    · exact .inr ⟨1, 92, rfl, rfl, rfl⟩
    · split
      · exact .inr ⟨2, 10, rfl, rfl, rfl⟩
      · exact .inl ⟨rfl, rfl⟩
theorem byteEls_snoc (bs : List UInt8) (e : UInt8) : byteEls (bs ++ [e]) = byteEls bs ++ [[V.int .u8 e.toNat]] := by simp [byteEls]

set_option maxHeartbeats 4000000 in
theorem text_call {σ0 σ : St} {b : Nat} {src : List UInt8} {k : Nat} {toks : List Tok} {c : UInt8} (hr : Rd σ0 σ b src k toks) (hn : toks.length ≤ 70000) (hs : src.length ≤ 70000) (hc : src[k]? = some c) :
    SCall Tryz.prog LG 34 [.loc b 0] σ (ReadPost σ0 σ b src toks (if c.toNat = 34 then some (match textScan (src.drop (k + 1)) [] with
      | .inl e => .inl e
      | .inr (s, left) => .inr (⟨3, k, s, 0⟩, src.length - left)) else none)) := by
  obtain ⟨ho, hf, tag, s', hb, hm', hs'⟩ := id hr
  have hk : k < src.length := (List.getElem?_eq_some_iff.1 hc).1
  refine code34.call hm (by simp) ?_
  refine Load.mk' hb (by simp) ?_
  refine Load.mk' hb (by simp) ?_
  refine Idx.mk' k c rfl hc ?_
  refine Test.split (fun h => ?_) (fun h => ?_)
  · refine Ret.mk' ?_
    rw [if_neg (by omega)]
    exact ⟨rfl, rfl⟩
  · have h34 : c.toNat = 34 := by omega
    rw [if_pos h34]
    refine Load.mk' hb (by simp) ?_
    refine Arith.i64 ((k + 1 : Nat) : Int) (by simp) (by omega) ?_
    refine ⟨fun m sl σ' => ∃ (j : Nat) (bs : List UInt8) (tag' : Tag) (z : Nat), sl = ofL [(0, some (.loc b 0)), (4, some (.slice tag' z (byteEls bs))), (5, some (.int .i64 j))] ∧
      Over σ σ' ∧ Mine σ σ' tag' ∧ (tag' = .nil ∨ z = 1) ∧ (tag' = .nil → bs = []) ∧ j ≤ src.length ∧ bs.length ≤ 70000 ∧ bs.length ≤ j ∧ textScan (src.drop j) bs = textScan (src.drop (k + 1)) [] ∧ m = src.length - j, _,
      ⟨k + 1, [], .nil, 0, rfl, .refl _, trivial, .inl rfl, fun _ => rfl, by omega, by simp, by simp, rfl, rfl⟩, ?_⟩
    rintro m sl σ' ⟨j, bs, tag', z, rfl, ho', hm2, hz, hz2, hj, hbs, hbs2, hsc, rfl⟩
    have hb' := ho'.box b _ hb
    have hr' : Rd σ0 σ' b src k toks := ⟨⟨fun b cs h => ho'.box b cs (ho.box b cs h), fun t h => ho'.live t (ho.live t h)⟩, hf, tag, s', hb', hm'.over ho', hs'⟩
    have hlen : (byteEls bs).length = bs.length := by simp [byteEls]
    rw [← hsc]
    refine Test.split (fun h1 => ?_) (fun h1 => ?_)
    · rw [hlen] at h1
      refine Load.mk' hb' (by simp) ?_
      refine Test.split (fun h2 => ?_) (fun h2 => ?_)
      · refine Ret.weak (r := .tup [.bool true, .int .i64 28]) (σ' := σ) (.refl _) ho' ?_
        rw [List.drop_eq_nil_of_le (by omega), textScan_nil, if_neg (by omega)]
        exact ⟨rfl, rfl, by omega⟩
      · obtain ⟨d, hd⟩ : ∃ c, src[j]? = some c := ⟨src[j]'(by omega), by simp [show j < src.length by omega]⟩
        have hjl : j < src.length := (List.getElem?_eq_some_iff.1 hd).1
        refine Load.mk' hb' (by simp) ?_
        refine Idx.mk' j d rfl hd ?_
        rw [drop_cons hd, textScan_cons, if_neg (by omega)]
        refine Test.split (fun h3 => ?_) (fun h3 => ?_)
        · refine Arith.i64 ((j + 1 : Nat) : Int) (by simp) (by omega) ?_
          refine Sure.mk' (hz.elim (fun h => .inr (by rw [hz2 h]; rfl)) .inl) ?_
          refine B2S.mk' ?_
          refine CallK.mk' (put_call hr' hn 3 0 (j + 1) bs) ?_
          rintro e σ'' ⟨rfl, hr2⟩
          refine Ret.mk' ?_
          rw [if_pos (by omega)]
          refine ⟨rfl, ?_⟩
          rw [show src.length - (src.drop (j + 1)).length = j + 1 from by simp; omega]
          exact hr2
        · rw [if_neg (by omega)]
          refine Test.split (fun h4 => ?_) (fun h4 => ?_)
          · rw [if_pos (by omega)]
            refine Arith.i64 ((j + 1 : Nat) : Int) (by simp) (by omega) ?_
            refine Load.mk' hb' (by simp) ?_
            refine Test.split (fun h5 => ?_) (fun h5 => ?_)
            · obtain ⟨d2, hd2⟩ : ∃ c, src[j + 1]? = some c := ⟨src[j + 1]'(by omega), by simp [show j + 1 < src.length by omega]⟩
              refine Load.mk' hb' (by simp) ?_
              refine Idx.mk' (j + 1) d2 rfl hd2 ?_
              refine CallK.pure (indexByte_ret _ d2) ?_
              rw [drop_cons hd2]
              rcases esc_cases d2 with ⟨he, hi⟩ | ⟨i, e, he, hi, hie⟩
              · rw [hi]
                refine Test.yes (by omega) ?_
                refine Ret.weak (r := .tup [.bool true, .int .i64 28]) (σ' := σ) (.refl _) ho' ?_
                simp only [he]
                exact ⟨rfl, rfl, by omega⟩
              · rw [hi]
                refine Test.no (by omega) ?_
                refine Idx.mk' i e rfl hie ?_
                refine App.mk' ho' hm2 hz rfl (by simp [hlen]; omega) (by simp [hlen]; omega) (by simp) (fun t' σ1 ho1 hm1 hbox _ => ?_)
                refine Arith.i64 ((j + 2 : Nat) : Int) (by omega) (by omega) ?_
                refine ⟨_, _, ?_, Forget.refl _, j + 2, bs ++ [e], .tip t', 1, by rw [byteEls_snoc]; rfl, ho1, hm1, .inr rfl, fun h => (by cases h), by omega, by simp; omega, by simp; omega, ?_, rfl⟩
                · omega
                · simp only [he]
            · refine Test.yes (by omega) ?_
              refine Ret.weak (r := .tup [.bool true, .int .i64 28]) (σ' := σ) (.refl _) ho' ?_
              rw [List.drop_eq_nil_of_le (show src.length ≤ j + 1 by omega)]
              exact ⟨rfl, rfl, by omega⟩
          · rw [if_neg (by omega)]
            refine Test.split (fun h5 => ?_) (fun h5 => ?_)
            · rw [if_pos (by omega)]
              refine Ret.weak (r := .tup [.bool true, .int .i64 28]) (σ' := σ) (.refl _) ho' ?_
              exact ⟨rfl, rfl, by omega⟩
            · refine Test.split (fun h6 => ?_) (fun h6 => ?_)
              · rw [if_pos (by omega)]
                refine Ret.weak (r := .tup [.bool true, .int .i64 28]) (σ' := σ) (.refl _) ho' ?_
                exact ⟨rfl, rfl, by omega⟩
              · rw [if_neg (by omega)]
                refine App.mk' ho' hm2 hz rfl (by simp [hlen]; omega) (by simp [hlen]; omega) (by simp) (fun t' σ1 ho1 hm1 hbox _ => ?_)
                refine Arith.i64 ((j + 1 : Nat) : Int) (by omega) (by omega) ?_
                refine ⟨_, _, ?_, Forget.refl _, j + 1, bs ++ [d], .tip t', 1, by rw [byteEls_snoc]; rfl, ho1, hm1, .inr rfl, fun h => (by cases h), by omega, by simp; omega, by simp; omega, ?_, rfl⟩
                · omega
                · rfl
    · rw [hlen] at h1
      refine Ret.weak (r := .tup [.bool true, .int .i64 2]) (σ' := σ) (.refl _) ho' ?_
      have : textScan (src.drop j) bs = .inl 2 := by
        cases src.drop j with
        | nil => rw [textScan_nil, if_pos (by omega)]
        | cons c r => rw [textScan_cons, if_pos (by omega)]
      rw [this]
      exact ⟨rfl, rfl, by omega⟩
end Go.Shadow.Lex
