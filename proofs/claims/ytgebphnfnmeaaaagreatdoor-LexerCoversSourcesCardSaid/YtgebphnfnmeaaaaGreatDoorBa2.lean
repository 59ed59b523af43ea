/- Proved: parts of the proof: Proved: what the lexer's class, span, put, skip and name do, as shadow contracts; Proved: what the lexer's number and text do, as shadow contracts; Proved: what the lexer's sign does, as a shadow contract; Proved: what the lexer's next and Tokens do, as shadow contracts; Pure laws of the lexer: what stands behind a token's end does not matter; runs over tokens; Pure laws of the lexer: sources joined, blanks put in, a source cut off at its first problem; Shadow code of the lexer's laws, of its specification and of its printer (printed by a program); lexer; Proved: what the lexer's Position does. Conditions: as each theorem says. -/
import Derived.Test.YtgebphnfnmeaaaaGreatDoorBa1
import Derived.Test.YtgebphnfnmeaaaaGreatDoorProg
import Derived.Shelf.RegionOpenPlain
import Derived.WalkKit
import Derived.Lib.Walk
import Derived.Lib.RuneCount
import Derived.Lib.TrimUEq
import Derived.Lib.TrimU
import Derived.Lib.SpaceUEq
import Derived.Laws.RangeString
import Derived.Laws.RangeAny
import Derived.LoopTactic

/- Proved: what the lexer's class, span, put, skip and name do, as shadow contracts. Conditions: sources of at most 70000 bytes. -/
namespace Go.Shadow.Lex
open Go Go.RowKit Go.Proofs
theorem hm : Tryz.prog.follows .mixedOrders = true := by kernel_rfl


theorem class_ret (c : UInt8) : SRet Tryz.prog LG 31 [.int .u8 c.toNat] (.int .i64 (cls c)) := by
  intro σ
  refine code31.call hm (by simp) ?_
  have hc := c.toNat_lt
  repeat' (first
    | refine Test.split (fun h => ?_) (fun h => ?_)
    | refine Ret.mk' ⟨rfl, ?_⟩)
  all_goals (refine congrArg (fun x => SEnd.ret (V.int .i64 x)) ?_; simp only [cls, isLetter, isDigit, isBlank]; grind)

def tokV (t : Tok) : List V := [.int .i64 t.kind, .int .i64 t.at_, .str t.s, .int .i64 t.n]
/-- The reader in its box. -/
structure Rd (σ0 σ : St) (b : Nat) (src : List UInt8) (k : Nat) (toks : List Tok) : Prop where
  over : Over σ0 σ
  fresh : σ0.box b = none
  box : ∃ tag s', σ.box b = some [.str src, .int .i64 k, .slice tag s' (toks.map tokV)] ∧ Mine σ0 σ tag ∧ (tag = .nil ∨ s' = 4)

theorem span_call {σ0 σ : St} {b : Nat} {src : List UInt8} {k : Nat} {toks : List Tok} (hr : Rd σ0 σ b src k toks) (hs : src.length ≤ 70000) (hk : k ≤ src.length) :
    SCall Tryz.prog LG 49 [.loc b 0, .int .i64 2] σ fun e σ' => σ' = σ ∧ e = .ret (.int .i64 (spanTo isWord src k)) := by
  obtain ⟨ho, hf, tag, s', hb, hm', hs'⟩ := hr
  refine code49.call hm (by simp) ?_
  refine Load.mk' hb (by simp) ?_
  refine ⟨fun m sl σ' => σ' = σ ∧ ∃ j : Nat, sl = ofL [(0, some (.loc b 0)), (1, some (.int .i64 2)), (5, some (.int .i64 j))] ∧ j ≤ src.length ∧ spanTo isWord src j = spanTo isWord src k ∧ m = src.length - j, _, ⟨rfl, k, rfl, hk, rfl, rfl⟩, ?_⟩
  rintro m sl σ' ⟨rfl, j, rfl, hj, hsp, rfl⟩
  refine Load.mk' hb (by simp) ?_
  refine Test.split (fun h => ?_) (fun h => ?_)
  · refine Load.mk' hb (by simp) ?_
    obtain ⟨c, hc⟩ : ∃ c, src[j]? = some c := ⟨src[j]'(by omega), by simp [show j < src.length by omega]⟩
    refine Idx.mk' j c rfl hc ?_
    refine CallK.pure (class_ret c) ?_
    refine Test.split (fun h => ?_) (fun h => ?_)
    · refine Arith.i64 (((j + 1 : Nat) : Int)) (by simp) (by omega) ?_
      refine ⟨_, _, ?_, Forget.refl _, rfl, j + 1, rfl, by omega, ?_, rfl⟩
      · omega
      · rw [spanTo_step hc, hsp]
        simp only [cls] at h
        grind [isWord]
    · refine Ret.mk' ⟨rfl, ?_⟩
      rw [← hsp, spanTo_stop hc]
      simp only [cls] at h
      grind [isWord]
  · refine Ret.mk' ⟨rfl, ?_⟩
    rw [← hsp, spanTo_end (by omega)]

theorem put_box {σ : St} {b : Nat} {cs : List V} : (σ.put b cs).box b = some cs := by simp [St.put]
theorem put_put {σ : St} {b : Nat} {cs cs' : List V} : (σ.put b cs).put b cs' = σ.put b cs' := by
  simp only [St.put, St.mk.injEq, and_true]
  funext x
  split <;> rfl
theorem over_put {σ0 σ : St} {b : Nat} {cs : List V} (h : Over σ0 σ) (hf : σ0.box b = none) : Over σ0 (σ.put b cs) := by
  refine ⟨fun b' cs' hb => ?_, h.live⟩
  have : b' ≠ b := by rintro rfl; rw [hf] at hb; cases hb
  simp [St.put, this, h.box b' cs' hb]
theorem Rd.put {σ0 σ : St} {b : Nat} {src : List UInt8} {k k' : Nat} {toks : List Tok} (hr : Rd σ0 σ b src k toks) {tag : Tag} {s' : Nat} (hb : σ.box b = some [.str src, .int .i64 k, .slice tag s' (toks.map tokV)]) (hm : Mine σ0 σ tag) (hs : tag = .nil ∨ s' = 4) :
    Rd σ0 (σ.put b [.str src, .int .i64 k', .slice tag s' (toks.map tokV)]) b src k' toks := ⟨over_put hr.over hr.fresh, hr.fresh, tag, s', put_box, hm, hs⟩

theorem put_call {σ0 σ : St} {b : Nat} {src : List UInt8} {k : Nat} {toks : List Tok} (hr : Rd σ0 σ b src k toks) (hn : toks.length ≤ 70000) (kind n : Int) (e2 : Nat) (s : List UInt8) :
    SCall Tryz.prog LG 22 [.loc b 0, .int .i64 kind, .int .i64 e2, .str s, .int .i64 n] σ fun e σ' => e = .ret (.int .i64 0) ∧ Rd σ0 σ' b src e2 (toks ++ [(⟨kind, k, s, n⟩ : Tok)]) := by
  obtain ⟨ho, hf, tag, s', hb, hm', hs'⟩ := hr
  refine code22.call hm (by simp) ?_
  refine Load.mk' hb (by simp) ?_
  refine Load.mk' hb (by simp) ?_
  refine App.mk' ho hm' hs' rfl (by simp; omega) (by simp; omega) (by simp) (fun t' σ1 ho1 hm1 hbox _ => ?_)
  rw [← hbox] at hb
  refine Sure.mk' rfl ?_
  refine Store.mk' [.str src, .int .i64 k, .slice (.tip t') 4 ((toks ++ [(⟨kind, k, s, n⟩ : Tok)]).map tokV)] hb (by simp [V.cells]) (by simp [setL, tokV]; rfl) (fun σ2 h2 => ?_)
  refine Sure.mk' rfl ?_
  have hb2 : σ2.box b = some [.str src, .int .i64 k, .slice (.tip t') 4 ((toks ++ [(⟨kind, k, s, n⟩ : Tok)]).map tokV)] := by rw [h2]; exact put_box
  refine Store.mk' [.str src, .int .i64 e2, .slice (.tip t') 4 ((toks ++ [(⟨kind, k, s, n⟩ : Tok)]).map tokV)] hb2 (by simp [V.cells]) rfl (fun σ3 h3 => ?_)
  refine Ret.mk' ⟨rfl, ?_⟩
  subst h3; subst h2
  rw [put_put]
  exact ⟨over_put ho1 hf, hf, .tip t', 4, put_box, hm1, .inr rfl⟩

theorem indexByte_line (l : List UInt8) : Lib.indexByte l 10 = if (l.takeWhile (·.toNat != 10)).length < l.length then ((l.takeWhile (·.toNat != 10)).length : Int) else -1 := by
  induction l with
  | nil => rfl
  | cons c l ih =>
    simp only [Lib.indexByte]
    by_cases hc : c = 10
    · subst hc; simp
    · have hc' : c.toNat ≠ 10 := fun e => hc (UInt8.toNat_inj.1 e)
      simp only [beq_iff_eq, hc, if_false, ih, List.takeWhile_cons, bne_iff_ne, ne_eq, hc', not_false_eq_true, if_true, List.length_cons]
      split <;> split <;> first | omega | (split <;> omega) | skip

theorem skip_call {σ0 σ : St} {b : Nat} {src : List UInt8} {k : Nat} {toks : List Tok} (hr : Rd σ0 σ b src k toks) (hs : src.length ≤ 70000) (hk : k ≤ src.length) :
    SCall Tryz.prog LG 20 [.loc b 0] σ fun e σ' => e = .ret (.tup []) ∧ Rd σ0 σ' b src (skipTo src k) toks := by
  refine code20.call hm (by simp) ?_
  refine ⟨fun m sl σ' => ∃ j : Nat, sl = ofL [(0, some (.loc b 0))] ∧ Rd σ0 σ' b src j toks ∧ j ≤ src.length ∧ skipTo src j = skipTo src k ∧ m = src.length - j, _, ⟨k, rfl, hr, hk, rfl, rfl⟩, ?_⟩
  rintro m sl σ' ⟨j, rfl, hr', hj, hsp, rfl⟩
  obtain ⟨ho, hf, tag, s', hb, hm', hs'⟩ := id hr'
  refine Load.mk' hb (by simp) ?_
  refine Load.mk' hb (by simp) ?_
  refine Test.split (fun h => ?_) (fun h => ?_)
  · refine Load.mk' hb (by simp) ?_
    refine Load.mk' hb (by simp) ?_
    obtain ⟨c, hc⟩ : ∃ c, src[j]? = some c := ⟨src[j]'(by omega), by simp [show j < src.length by omega]⟩
    refine Idx.mk' j c rfl hc ?_
    refine Test.split (fun h => ?_) (fun h => ?_)
    · refine Load.mk' hb (by simp) ?_
      refine Load.mk' hb (by simp) ?_
      refine CutR.mk' j rfl hj ?_
      refine CallK.pure (indexByte_ret _ 10) ?_
      have hlt := skipTo_comment hc (by omega)
      have htw := takeWhile_length_le (·.toNat != 10) (src.drop j)
      rw [indexByte_line]
      generalize hn : ((src.drop j).takeWhile (·.toNat != 10)).length = n at *
      simp only [List.length_drop] at htw
      simp only [List.length_drop]
      by_cases hn2 : n < src.length - j
      · rw [if_pos hn2]
        refine Test.no (by omega) ?_
        refine Load.mk' hb (by simp) ?_
        refine Arith.i64 (((j + n : Nat) : Int)) (by simp) (by omega) ?_
        refine Sure.mk' rfl ?_
        refine Store.mk' [.str src, .int .i64 (j + n : Nat), .slice tag s' (toks.map tokV)] hb (by simp [V.cells]) rfl (fun σ3 h3 => ?_)
        refine ⟨_, _, ?_, Forget.refl _, j + n, rfl, ?_, by omega, ?_, rfl⟩
        · omega
        · subst h3; exact hr'.put hb hm' hs'
        · rw [← hsp]; exact hlt.1
      · rw [if_neg hn2]
        refine Test.yes (by omega) ?_
        refine Load.mk' hb (by simp) ?_
        refine Load.mk' hb (by simp) ?_
        refine Arith.i64 (n : Int) (by omega) (by omega) ?_
        refine Load.mk' hb (by simp) ?_
        refine Arith.i64 (((j + n : Nat) : Int)) (by simp) (by omega) ?_
        refine Sure.mk' rfl ?_
        refine Store.mk' [.str src, .int .i64 (j + n : Nat), .slice tag s' (toks.map tokV)] hb (by simp [V.cells]) rfl (fun σ3 h3 => ?_)
        refine ⟨_, _, ?_, Forget.refl _, j + n, rfl, ?_, by omega, ?_, rfl⟩
        · omega
        · subst h3; exact hr'.put hb hm' hs'
        · rw [← hsp]; exact hlt.1
    · refine CallK.pure (class_ret c) ?_
      refine Test.split (fun h => ?_) (fun h => ?_)
      · refine Load.mk' hb (by simp) ?_
        refine Arith.i64 (((j + 1 : Nat) : Int)) (by simp) (by omega) ?_
        refine Sure.mk' rfl ?_
        refine Store.mk' [.str src, .int .i64 (j + 1 : Nat), .slice tag s' (toks.map tokV)] hb (by simp [V.cells]) rfl (fun σ3 h3 => ?_)
        refine ⟨_, _, ?_, Forget.refl _, j + 1, rfl, ?_, by omega, ?_, rfl⟩
        · omega
        · subst h3; exact hr'.put hb hm' hs'
        · rw [← hsp]; refine skipTo_blank hc ?_
          simp only [cls] at h
          grind
      · refine Ret.mk' ⟨rfl, ?_⟩
        rw [← hsp, skipTo_stop hc]
        · exact hr'
        · simp only [cls] at h
          grind [isBlank, isLetter, isDigit]
        · omega
  · refine Ret.mk' ⟨rfl, ?_⟩
    rw [← hsp, skipTo_end (by omega)]
    exact hr'

theorem name_call {σ0 σ : St} {b : Nat} {src : List UInt8} {k : Nat} {toks : List Tok} {c : UInt8} (hr : Rd σ0 σ b src k toks) (hn : toks.length ≤ 70000) (hs : src.length ≤ 70000) (hc : src[k]? = some c) :
    SCall Tryz.prog LG 32 [.loc b 0] σ fun e σ' => if isLetter c then
      (if 32 < spanTo isWord src k - k then σ' = σ ∧ e = .ret (.tup [.bool true, .int .i64 2]) else e = .ret (.tup [.bool true, .int .i64 0]) ∧ Rd σ0 σ' b src (spanTo isWord src k) (toks ++ [⟨1, k, (src.take (spanTo isWord src k)).drop k, 0⟩]))
      else σ' = σ ∧ e = .ret (.tup [.bool false, .int .i64 0]) := by
  obtain ⟨ho, hf, tag, s', hb, hm', hs'⟩ := id hr
  have hk : k < src.length := (List.getElem?_eq_some_iff.1 hc).1
  have h1 := spanTo_ge isWord src k
  have h2 := spanTo_le isWord src k (by omega)
  refine code32.call hm (by simp) ?_
  refine Load.mk' hb (by simp) ?_
  refine Load.mk' hb (by simp) ?_
  refine Idx.mk' k c rfl hc ?_
  refine CallK.pure (class_ret c) ?_
  refine Test.split (fun h => ?_) (fun h => ?_)
  · refine Ret.mk' ?_
    have : isLetter c = false := by simp only [cls] at h; grind
    rw [this]
    exact ⟨rfl, rfl⟩
  · have hL : isLetter c = true := by simp only [cls] at h; grind
    simp only [hL, if_true]
    refine CallK.mk' (span_call hr hs (by omega)) ?_
    rintro e σ' ⟨rfl, rfl⟩
    refine Load.mk' hb (by simp) ?_
    refine Arith.i64 (((spanTo isWord src k - k : Nat) : Int)) (by omega) (by omega) ?_
    refine Test.split (fun h => ?_) (fun h => ?_)
    · refine Ret.mk' ?_
      rw [if_pos (by omega)]
      exact ⟨rfl, rfl⟩
    · refine Load.mk' hb (by simp) ?_
      refine Load.mk' hb (by simp) ?_
      refine Cut.mk' k (spanTo isWord src k) rfl rfl (by omega) (by omega) ?_
      refine CallK.mk' (put_call hr hn 1 0 (spanTo isWord src k) _) ?_
      rintro e σ'' ⟨rfl, hr2⟩
      refine Ret.mk' ?_
      rw [if_neg (by omega)]
      exact ⟨rfl, hr2⟩
end Go.Shadow.Lex

/- Proved: what the lexer's number and text do, as shadow contracts. Conditions: sources of at most 70000 bytes. -/
namespace Go.Shadow.Lex
open Go Go.RowKit Go.Proofs

theorem number_call {σ0 σ : St} {b : Nat} {src : List UInt8} {k : Nat} {toks : List Tok} {c : UInt8} (hr : Rd σ0 σ b src k toks) (hn : toks.length ≤ 70000) (hs : src.length ≤ 70000) (hc : src[k]? = some c) :
    SCall Tryz.prog LG 33 [.loc b 0] σ fun e σ' => if isLetter c = false ∧ isDigit c = true then
      (match numVal ((src.take (spanTo isWord src k)).drop k) with
        | none => σ' = σ ∧ e = .ret (.tup [.bool true, .int .i64 27])
        | some n => e = .ret (.tup [.bool true, .int .i64 0]) ∧ Rd σ0 σ' b src (spanTo isWord src k) (toks ++ [⟨2, k, [], n⟩]))
      else σ' = σ ∧ e = .ret (.tup [.bool false, .int .i64 0]) := by
  obtain ⟨ho, hf, tag, s', hb, hm', hs'⟩ := id hr
  have hk : k < src.length := (List.getElem?_eq_some_iff.1 hc).1
  have h1 := spanTo_ge isWord src k
  have h2 := spanTo_le isWord src k (by omega)
  refine code33.call hm (by simp) ?_
  refine Load.mk' hb (by simp) ?_
  refine Load.mk' hb (by simp) ?_
  refine Idx.mk' k c rfl hc ?_
  refine CallK.pure (class_ret c) ?_
  refine Test.split (fun h => ?_) (fun h => ?_)
  · refine Ret.mk' ?_
    rw [if_neg (by simp only [cls] at h; grind)]
    exact ⟨rfl, rfl⟩
  · have hL : isLetter c = false ∧ isDigit c = true := by simp only [cls] at h; grind
    have h3 : k < spanTo isWord src k := by
      have := spanTo_step hc (p := isWord) (by simp [isWord, hL])
      have := spanTo_ge isWord src (k + 1)
      omega
    refine CallK.mk' (span_call hr hs (by omega)) ?_
    rintro e σ' ⟨rfl, rfl⟩
    refine Load.mk' hb (by simp) ?_
    refine Load.mk' hb (by simp) ?_
    refine Cut.mk' k (spanTo isWord src k) rfl rfl (by omega) (by omega) ?_
    obtain ⟨r, hs⟩ : ∃ r, (src.take (spanTo isWord src k)).drop k = c :: r := by
      refine ⟨_, drop_cons ?_⟩
      rw [List.getElem?_take, if_pos h3, hc]
    have hlen : (c :: r).length ≤ 70000 := by rw [← hs]; simp; omega
    rw [hs]
    generalize hto : spanTo isWord src k = e2 at *
    refine CallK.mk' (atoi_call _ hlen _) ?_
    rintro e σ' ⟨rfl, v, er, rfl, ⟨ha, rfl⟩ | ⟨⟨t, q, rfl⟩, ha⟩⟩
    · obtain ⟨g1, g2⟩ := atoi_ok hL.2 ha
      refine Test.split (fun h5 => ?_) (fun h5 => ?_)
      · refine Ret.mk' ?_
        rw [if_pos hL, show numVal (c :: r) = none from by unfold numVal; rw [if_neg]; rintro ⟨_, h6, _⟩; omega]
        exact ⟨rfl, rfl⟩
      · have h5' : (c :: r).length ≤ 15 := by omega
        obtain rfl := g2 h5'
        have hput : numVal (c :: r) = some (digitsVal (c :: r)) → (∀ e σ'', (e = SEnd.ret (.int .i64 0) ∧ Rd σ0 σ'' b src e2 (toks ++ [(⟨2, k, [], (digitsVal (c :: r) : Nat)⟩ : Tok)])) → match numVal (c :: r) with
            | none => σ'' = σ' ∧ SEnd.ret (.tup [.bool true, .int .i64 0]) = SEnd.ret (.tup [.bool true, .int .i64 27])
            | some n => SEnd.ret (.tup [.bool true, .int .i64 0]) = SEnd.ret (.tup [.bool true, .int .i64 0]) ∧ Rd σ0 σ'' b src e2 (toks ++ [⟨2, k, [], n⟩])) := by
          intro hv e σ'' h
          rw [hv]; exact ⟨rfl, h.2⟩
        refine Test.split (fun h6 => ?_) (fun h6 => ?_)
        · refine Idx.mk' 0 c rfl rfl ?_
          refine Test.split (fun h7 => ?_) (fun h7 => ?_)
          · refine Ret.mk' ?_
            rw [if_pos hL, show numVal (c :: r) = none from by
              unfold numVal; rw [if_neg]; rintro ⟨_, _, h8⟩
              refine h8 ⟨by omega, ?_⟩
              simp only [List.head?_cons, Option.some.injEq]
              exact UInt8.toNat_inj.1 (show c.toNat = 48 by omega)]
            exact ⟨rfl, rfl⟩
          · have hv : numVal (c :: r) = some (digitsVal (c :: r)) := by
              unfold numVal; rw [if_pos]; refine ⟨g1, h5', ?_⟩
              rintro ⟨_, h8⟩
              simp only [List.head?_cons, Option.some.injEq] at h8
              subst h8; exact h7 rfl
            refine CallK.mk' (put_call hr hn 2 _ e2 []) ?_
            rintro e σ'' h8
            obtain ⟨rfl, _⟩ := id h8
            exact Ret.mk' (by rw [if_pos hL]; exact hput hv _ _ h8)
        · have hv : numVal (c :: r) = some (digitsVal (c :: r)) := by
            unfold numVal; rw [if_pos]; refine ⟨g1, h5', ?_⟩
            rintro ⟨h8, _⟩; omega
          refine CallK.mk' (put_call hr hn 2 _ e2 []) ?_
          rintro e σ'' h8
          obtain ⟨rfl, _⟩ := id h8
          exact Ret.mk' (by rw [if_pos hL]; exact hput hv _ _ h8)
    · refine Ret.mk' ?_
      rw [if_pos hL, atoi_bad hL.2 ha]
      exact ⟨rfl, rfl⟩

/-- What a reader of one kind of token does: 'none': it is none of its kind; an error; a token. -/
def ReadPost (σ0 σ : St) (b : Nat) (src : List UInt8) (toks : List Tok) (res : Option (Sum Nat (Tok × Nat))) (e : SEnd) (σ' : St) : Prop := match res with
  | none => σ' = σ ∧ e = .ret (.tup [.bool false, .int .i64 0])
  | some (.inl n) => σ' = σ ∧ e = .ret (.tup [.bool true, .int .i64 n]) ∧ n ≠ 0
  | some (.inr (t, e2)) => e = .ret (.tup [.bool true, .int .i64 0]) ∧ Rd σ0 σ' b src e2 (toks ++ [t])

theorem esc_cases (d : UInt8) : (esc d = none ∧ Lib.indexByte [34, 92, 110] d = -1) ∨ ∃ (i : Nat) (e : UInt8), esc d = some e ∧ Lib.indexByte [34, 92, 110] d = i ∧ ([34, 92, 10] : List UInt8)[i]? = some e := by
  have h1 : d = 34 ↔ d.toNat = 34 := by rw [← UInt8.toNat_inj]; rfl
  have h2 : d = 92 ↔ d.toNat = 92 := by rw [← UInt8.toNat_inj]; rfl
  have h3 : d = 110 ↔ d.toNat = 110 := by rw [← UInt8.toNat_inj]; rfl
  simp only [Lib.indexByte, esc, beq_iff_eq, eq_comm (b := d), h1, h2, h3]
  split
  · exact .inr ⟨0, 34, rfl, rfl, rfl⟩
  · split
    · exact .inr ⟨1, 92, rfl, rfl, rfl⟩
    · split
      · exact .inr ⟨2, 10, rfl, rfl, rfl⟩
      · exact .inl ⟨rfl, rfl⟩
theorem byteEls_snoc (bs : List UInt8) (e : UInt8) : byteEls (bs ++ [e]) = byteEls bs ++ [[V.int .u8 e.toNat]] := by simp [byteEls]

set_option maxHeartbeats 4000000 in
theorem text_call {σ0 σ : St} {b : Nat} {src : List UInt8} {k : Nat} {toks : List Tok} {c : UInt8} (hr : Rd σ0 σ b src k toks) (hn : toks.length ≤ 70000) (hs : src.length ≤ 70000) (hc : src[k]? = some c) :
    SCall Tryz.prog LG 34 [.loc b 0] σ (ReadPost σ0 σ b src toks (if c.toNat = 34 then some (match textScan (src.drop (k + 1)) [] with
      | .inl e => .inl e
      | .inr (s, left) => .inr (⟨3, k, s, 0⟩, src.length - left)) else none)) := by
  obtain ⟨ho, hf, tag, s', hb, hm', hs'⟩ := id hr
  have hk : k < src.length := (List.getElem?_eq_some_iff.1 hc).1
  refine code34.call hm (by simp) ?_
  refine Load.mk' hb (by simp) ?_
  refine Load.mk' hb (by simp) ?_
  refine Idx.mk' k c rfl hc ?_
  refine Test.split (fun h => ?_) (fun h => ?_)
  · refine Ret.mk' ?_
    rw [if_neg (by omega)]
    exact ⟨rfl, rfl⟩
  · have h34 : c.toNat = 34 := by omega
    rw [if_pos h34]
    refine Load.mk' hb (by simp) ?_
    refine Arith.i64 ((k + 1 : Nat) : Int) (by simp) (by omega) ?_
    refine ⟨fun m sl σ' => ∃ (j : Nat) (bs : List UInt8) (tag' : Tag) (z : Nat), sl = ofL [(0, some (.loc b 0)), (4, some (.slice tag' z (byteEls bs))), (5, some (.int .i64 j))] ∧
      Over σ σ' ∧ Mine σ σ' tag' ∧ (tag' = .nil ∨ z = 1) ∧ (tag' = .nil → bs = []) ∧ j ≤ src.length ∧ bs.length ≤ 70000 ∧ bs.length ≤ j ∧ textScan (src.drop j) bs = textScan (src.drop (k + 1)) [] ∧ m = src.length - j, _,
      ⟨k + 1, [], .nil, 0, rfl, .refl _, trivial, .inl rfl, fun _ => rfl, by omega, by simp, by simp, rfl, rfl⟩, ?_⟩
    rintro m sl σ' ⟨j, bs, tag', z, rfl, ho', hm2, hz, hz2, hj, hbs, hbs2, hsc, rfl⟩
    have hb' := ho'.box b _ hb
    have hr' : Rd σ0 σ' b src k toks := ⟨⟨fun b cs h => ho'.box b cs (ho.box b cs h), fun t h => ho'.live t (ho.live t h)⟩, hf, tag, s', hb', hm'.over ho', hs'⟩
    have hlen : (byteEls bs).length = bs.length := by simp [byteEls]
    rw [← hsc]
    refine Test.split (fun h1 => ?_) (fun h1 => ?_)
    · rw [hlen] at h1
      refine Load.mk' hb' (by simp) ?_
      refine Test.split (fun h2 => ?_) (fun h2 => ?_)
      · refine Ret.weak (r := .tup [.bool true, .int .i64 28]) (σ' := σ) (.refl _) ho' ?_
        rw [List.drop_eq_nil_of_le (by omega), textScan_nil, if_neg (by omega)]
        exact ⟨rfl, rfl, by omega⟩
      · obtain ⟨d, hd⟩ : ∃ c, src[j]? = some c := ⟨src[j]'(by omega), by simp [show j < src.length by omega]⟩
        have hjl : j < src.length := (List.getElem?_eq_some_iff.1 hd).1
        refine Load.mk' hb' (by simp) ?_
        refine Idx.mk' j d rfl hd ?_
        rw [drop_cons hd, textScan_cons, if_neg (by omega)]
        refine Test.split (fun h3 => ?_) (fun h3 => ?_)
        · refine Arith.i64 ((j + 1 : Nat) : Int) (by simp) (by omega) ?_
          refine Sure.mk' (hz.elim (fun h => .inr (by rw [hz2 h]; rfl)) .inl) ?_
          refine B2S.mk' ?_
          refine CallK.mk' (put_call hr' hn 3 0 (j + 1) bs) ?_
          rintro e σ'' ⟨rfl, hr2⟩
          refine Ret.mk' ?_
          rw [if_pos (by omega)]
          refine ⟨rfl, ?_⟩
          rw [show src.length - (src.drop (j + 1)).length = j + 1 from by simp; omega]
          exact hr2
        · rw [if_neg (by omega)]
          refine Test.split (fun h4 => ?_) (fun h4 => ?_)
          · rw [if_pos (by omega)]
            refine Arith.i64 ((j + 1 : Nat) : Int) (by simp) (by omega) ?_
            refine Load.mk' hb' (by simp) ?_
            refine Test.split (fun h5 => ?_) (fun h5 => ?_)
            · obtain ⟨d2, hd2⟩ : ∃ c, src[j + 1]? = some c := ⟨src[j + 1]'(by omega), by simp [show j + 1 < src.length by omega]⟩
              refine Load.mk' hb' (by simp) ?_
              refine Idx.mk' (j + 1) d2 rfl hd2 ?_
              refine CallK.pure (indexByte_ret _ d2) ?_
              rw [drop_cons hd2]
              rcases esc_cases d2 with ⟨he, hi⟩ | ⟨i, e, he, hi, hie⟩
              · rw [hi]
                refine Test.yes (by omega) ?_
                refine Ret.weak (r := .tup [.bool true, .int .i64 28]) (σ' := σ) (.refl _) ho' ?_
                simp only [he]
                exact ⟨rfl, rfl, by omega⟩
              · rw [hi]
                refine Test.no (by omega) ?_
                refine Idx.mk' i e rfl hie ?_
                refine App.mk' ho' hm2 hz rfl (by simp [hlen]; omega) (by simp [hlen]; omega) (by simp) (fun t' σ1 ho1 hm1 hbox _ => ?_)
                refine Arith.i64 ((j + 2 : Nat) : Int) (by omega) (by omega) ?_
                refine ⟨_, _, ?_, Forget.refl _, j + 2, bs ++ [e], .tip t', 1, by rw [byteEls_snoc]; rfl, ho1, hm1, .inr rfl, fun h => (by cases h), by omega, by simp; omega, by simp; omega, ?_, rfl⟩
                · omega
                · simp only [he]
            · refine Test.yes (by omega) ?_
              refine Ret.weak (r := .tup [.bool true, .int .i64 28]) (σ' := σ) (.refl _) ho' ?_
              rw [List.drop_eq_nil_of_le (show src.length ≤ j + 1 by omega)]
              exact ⟨rfl, rfl, by omega⟩
          · rw [if_neg (by omega)]
            refine Test.split (fun h5 => ?_) (fun h5 => ?_)
            · rw [if_pos (by omega)]
              refine Ret.weak (r := .tup [.bool true, .int .i64 28]) (σ' := σ) (.refl _) ho' ?_
              exact ⟨rfl, rfl, by omega⟩
            · refine Test.split (fun h6 => ?_) (fun h6 => ?_)
              · rw [if_pos (by omega)]
                refine Ret.weak (r := .tup [.bool true, .int .i64 28]) (σ' := σ) (.refl _) ho' ?_
                exact ⟨rfl, rfl, by omega⟩
              · rw [if_neg (by omega)]
                refine App.mk' ho' hm2 hz rfl (by simp [hlen]; omega) (by simp [hlen]; omega) (by simp) (fun t' σ1 ho1 hm1 hbox _ => ?_)
                refine Arith.i64 ((j + 1 : Nat) : Int) (by omega) (by omega) ?_
                refine ⟨_, _, ?_, Forget.refl _, j + 1, bs ++ [d], .tip t', 1, by rw [byteEls_snoc]; rfl, ho1, hm1, .inr rfl, fun h => (by cases h), by omega, by simp; omega, by simp; omega, ?_, rfl⟩
                · omega
                · rfl
    · rw [hlen] at h1
      refine Ret.weak (r := .tup [.bool true, .int .i64 2]) (σ' := σ) (.refl _) ho' ?_
      have : textScan (src.drop j) bs = .inl 2 := by
        cases src.drop j with
        | nil => rw [textScan_nil, if_pos (by omega)]
        | cons c r => rw [textScan_cons, if_pos (by omega)]
      rw [this]
      exact ⟨rfl, rfl, by omega⟩
end Go.Shadow.Lex

/- Proved: what the lexer's sign does, as a shadow contract. Conditions: sources of at most 70000 bytes. -/
namespace Go.Shadow.Lex
open Go Go.RowKit Go.Proofs

theorem fields_signs : Lib.fields [45, 62, 32, 58, 61, 32, 61, 61, 32, 33, 61, 32, 60, 61, 32, 62, 61, 32, 38, 38, 32, 124, 124, 32, 46, 46] = signs2 := by decide

theorem find_drop {l : List (List UInt8)} {p : List UInt8 → Bool} {j : Nat} {s : List UInt8} (h : l[j]? = some s) (hp : p s = false) (hb : ∀ i x, i < j → l[i]? = some x → p x = false) : ∀ i x, i < j + 1 → l[i]? = some x → p x = false := by
  intro i x hi hx
  by_cases e : i = j
  · subst e; rw [h] at hx; cases hx; exact hp
  · exact hb i x (by omega) hx
theorem find_at {l : List (List UInt8)} {p : List UInt8 → Bool} : ∀ {j : Nat} {s : List UInt8}, l[j]? = some s → p s = true → (∀ i x, i < j → l[i]? = some x → p x = false) → l.find? p = some s := by
  induction l with
  | nil => intro j s h; simp at h
  | cons a l ih =>
    intro j s h hp hb
    cases j with
    | zero => simp at h; subst h; simp [hp]
    | succ j =>
      have ha := hb 0 a (by omega) rfl
      rw [List.find?_cons, ha]
      exact ih (by simpa using h) hp (fun i x hi hx => hb (i + 1) x (by omega) (by simpa using hx))
theorem find_none {l : List (List UInt8)} {p : List UInt8 → Bool} (h : ∀ i x, i < l.length → l[i]? = some x → p x = false) : l.find? p = none := by
  rw [List.find?_eq_none]
  intro x hx
  obtain ⟨i, hi, rfl⟩ := List.mem_iff_getElem.1 hx
  rw [h i _ hi (List.getElem?_eq_getElem hi)]; simp

theorem index_mem (l : List UInt8) (c : UInt8) : 0 ≤ Lib.indexByte l c ↔ c ∈ l := by
  induction l with
  | nil => simp [Lib.indexByte]
  | cons a l ih =>
    simp only [Lib.indexByte, List.mem_cons]
    by_cases h : a = c
    · subst h; simp
    · simp only [beq_iff_eq, h, if_false, ← ih, show ¬ c = a from fun e => h e.symm, false_or]
      split <;> omega

theorem sign_call {σ0 σ : St} {b : Nat} {src : List UInt8} {k : Nat} {toks : List Tok} {c : UInt8} (hr : Rd σ0 σ b src k toks) (hn : toks.length ≤ 70000) (hs : src.length ≤ 70000) (hc : src[k]? = some c) :
    SCall Tryz.prog LG 35 [.loc b 0] σ (ReadPost σ0 σ b src toks (match signAt (src.drop k) with
      | some s => some (.inr (⟨4, k, s, 0⟩, k + s.length))
      | none => none)) := by
  obtain ⟨ho, hf, tag, s', hb, hm', hs'⟩ := id hr
  have hk : k < src.length := (List.getElem?_eq_some_iff.1 hc).1
  refine code35.call hm (by simp) ?_
  refine Load.mk' hb (by simp) ?_
  refine Load.mk' hb (by simp) ?_
  refine CutR.mk' k rfl (by omega) ?_
  refine CallK.mk' (fields_call _ (by simp) (by intro j b h; rcases j with _ | _ | _ | _ | _ | _ | _ | _ | _ | _ | _ | _ | _ | _ | _ | _ | _ | _ | _ | _ | _ | _ | _ | _ | _ | _ | j <;> simp at h <;> subst h <;> decide) _) ?_
  rintro e σ' ⟨rfl, rfl⟩
  rw [fields_signs]
  refine ⟨fun m sl σ1 => σ1 = σ' ∧ ∃ j : Nat, sl = ofL [(0, some (.loc b 0)), (4, some (.str (src.drop k))), (16, some (.slice .foreign 1 (strEls signs2))), (17, some (.int .i64 9)), (18, some (.int .i64 j))] ∧ j ≤ 9 ∧
      (∀ i x, i < j → signs2[i]? = some x → List.isPrefixOf x (src.drop k) = false) ∧ m = 9 - j, _, ⟨rfl, 0, rfl, by omega, fun i x h => by omega, rfl⟩, ?_⟩
  rintro m sl σ1 ⟨rfl, j, rfl, hj, hbef, rfl⟩
  refine Test.split (fun h => ?_) (fun h => ?_)
  · refine Sure.mk' (.inl rfl) ?_
    obtain ⟨s, hsj⟩ : ∃ s, signs2[j]? = some s := ⟨signs2[j]'(by simp [signs2]; omega), by simp⟩
    refine IdxE.mk' j [.str s] rfl (by simp [strEls, hsj]) ?_
    refine ⟨⟨by simp, ?_⟩⟩
    refine CallK.pure (hasPrefix_ret _ _) ?_
    have h2 : s.length = 2 := by
      have : ∀ x ∈ signs2, x.length = 2 := by decide
      exact this s (List.mem_of_getElem? hsj)
    cases hp : List.isPrefixOf s (src.drop k) with
    | true =>
      rw [show Lib.hasPrefix (src.drop k) s = true from hp]
      refine Load.mk' hb (by simp) ?_
      refine Arith.i64 ((k + 2 : Nat) : Int) (by simp) (by omega) ?_
      refine CallK.mk' (put_call hr hn 4 0 (k + 2) s) ?_
      rintro e σ'' ⟨rfl, hr2⟩
      refine Ret.mk' ?_
      rw [show signAt (src.drop k) = some s from by unfold signAt; rw [find_at (p := (·.isPrefixOf (src.drop k))) hsj hp hbef]]
      refine ⟨rfl, ?_⟩
      rw [h2]; exact hr2
    | false =>
      rw [show Lib.hasPrefix (src.drop k) s = false from hp]
      refine Arith.i64 ((j + 1 : Nat) : Int) (by simp) (by omega) ?_
      exact ⟨_, _, by omega, Forget.refl _, rfl, j + 1, rfl, by omega, find_drop (p := (·.isPrefixOf (src.drop k))) hsj hp hbef, rfl⟩
  · have hnone : signs2.find? (·.isPrefixOf (src.drop k)) = none := find_none (fun i x hi hx => hbef i x (by simp [signs2] at hi; omega) hx)
    refine CutL.mk' 1 rfl (by simp; omega) ?_
    rw [show (src.drop k).take 1 = [c] from by rw [drop_cons hc]; rfl]
    refine CallK.pure (containsOne_ret _ c) ?_
    by_cases hcs : c ∈ signs1
    · rw [show decide (0 ≤ Lib.indexByte [40, 41, 123, 125, 91, 93, 44, 59, 58, 46, 43, 45, 42, 47, 37, 60, 62, 61, 33, 38, 124, 64, 63, 94, 126] c) = true from by rw [decide_eq_true_eq, index_mem]; exact hcs]
      refine Load.mk' hb (by simp) ?_
      refine Arith.i64 ((k + 1 : Nat) : Int) (by simp) (by omega) ?_
      refine CutL.mk' 1 rfl (by simp; omega) ?_
      rw [show (src.drop k).take 1 = [c] from by rw [drop_cons hc]; rfl]
      refine CallK.mk' (put_call hr hn 4 0 (k + 1) [c]) ?_
      rintro e σ'' ⟨rfl, hr2⟩
      refine Ret.mk' ?_
      rw [show signAt (src.drop k) = some [c] from by unfold signAt; rw [hnone, drop_cons hc]; simp [hcs]]
      exact ⟨rfl, hr2⟩
    · rw [show decide (0 ≤ Lib.indexByte [40, 41, 123, 125, 91, 93, 44, 59, 58, 46, 43, 45, 42, 47, 37, 60, 62, 61, 33, 38, 124, 64, 63, 94, 126] c) = false from by rw [decide_eq_false_iff_not, index_mem]; exact hcs]
      refine Ret.mk' ?_
      rw [show signAt (src.drop k) = none from by unfold signAt; rw [hnone, drop_cons hc]; simp [hcs]]
      exact ⟨rfl, rfl⟩
end Go.Shadow.Lex

/- Proved: what the lexer's next and Tokens do, as shadow contracts. Conditions: sources of at most 70000 bytes. -/
namespace Go.Shadow.Lex
open Go Go.RowKit Go.Proofs

def NextPost (σ0 σ : St) (b : Nat) (src : List UInt8) (toks : List Tok) (res : Sum Nat (Tok × Nat)) (e : SEnd) (σ' : St) : Prop := match res with
  | .inl n => σ' = σ ∧ e = .ret (.int .i64 n) ∧ n ≠ 0
  | .inr (t, e2) => e = .ret (.int .i64 0) ∧ Rd σ0 σ' b src e2 (toks ++ [t])

theorem next_call {σ0 σ : St} {b : Nat} {src : List UInt8} {k : Nat} {toks : List Tok} {c : UInt8} (hr : Rd σ0 σ b src k toks) (hn : toks.length ≤ 70000) (hs : src.length ≤ 70000) (hc : src[k]? = some c) :
    SCall Tryz.prog LG 21 [.loc b 0] σ (NextPost σ0 σ b src toks (lexOne src k)) := by
  refine code21.call hm (by simp) ?_
  refine ⟨fun m sl σ1 => σ1 = σ ∧ ∃ j : Nat, sl = ofL [(0, some (.loc b 0)), (7, some (.agg [.func 32 [] [], .func 33 [] [], .func 34 [] [], .func 35 [] []])), (8, some (.int .i64 j))] ∧ j ≤ 4 ∧
      (1 ≤ j → isLetter c = false) ∧ (2 ≤ j → isDigit c = false) ∧ (3 ≤ j → c.toNat ≠ 34) ∧ (4 ≤ j → signAt (src.drop k) = none) ∧ m = 4 - j, _, ⟨rfl, 0, rfl, by omega, fun h => by omega, fun h => by omega, fun h => by omega, fun h => by omega, rfl⟩, ?_⟩
  rintro m sl σ1 ⟨rfl, j, rfl, hj, h1, h2, h3, h4, rfl⟩
  simp only [lexOne, hc]
  obtain rfl | rfl | rfl | rfl | rfl : j = 0 ∨ j = 1 ∨ j = 2 ∨ j = 3 ∨ j = 4 := by omega
  · refine Test.yes (by omega) ?_
    refine ⟨by omega, by omega, by simp, ?_⟩
    refine CallK.mk' (name_call hr hn hs hc) ?_
    intro e σ' h
    by_cases hL : isLetter c = true
    · rw [if_pos hL] at h
      by_cases h5 : 32 < spanTo isWord src k - k
      · rw [if_pos h5] at h
        obtain ⟨rfl, rfl⟩ := h
        refine Ret.mk' ?_
        rw [if_pos hL, if_pos h5]
        exact ⟨rfl, rfl, by omega⟩
      · rw [if_neg h5] at h
        obtain ⟨rfl, h⟩ := h
        refine Ret.mk' ?_
        rw [if_pos hL, if_neg h5]
        exact ⟨rfl, h⟩
    · rw [if_neg hL] at h
      obtain ⟨rfl, rfl⟩ := h
      refine Arith.i64 ((1 : Nat) : Int) (by simp) (by omega) ?_
      exact ⟨_, _, by omega, Forget.refl _, rfl, 1, rfl, by omega, fun _ => by simpa using hL, fun h => by omega, fun h => by omega, fun h => by omega, rfl⟩
  · have hL := h1 (by omega)
    refine Test.yes (by omega) ?_
    refine ⟨by omega, by omega, by simp, ?_⟩
    refine CallK.mk' (number_call hr hn hs hc) ?_
    intro e σ' h
    by_cases hD : isDigit c = true
    · rw [if_pos ⟨hL, hD⟩] at h
      rw [if_neg (by simp [hL]), if_pos hD]
      cases hv : numVal ((src.take (spanTo isWord src k)).drop k) with
      | none =>
        rw [hv] at h
        obtain ⟨rfl, rfl⟩ := h
        refine Ret.mk' ?_
        exact ⟨rfl, rfl, by omega⟩
      | some n =>
        rw [hv] at h
        obtain ⟨rfl, h⟩ := h
        refine Ret.mk' ?_
        exact ⟨rfl, h⟩
    · rw [if_neg (by simp [hD])] at h
      obtain ⟨rfl, rfl⟩ := h
      refine Arith.i64 ((2 : Nat) : Int) (by simp) (by omega) ?_
      exact ⟨_, _, by omega, Forget.refl _, rfl, 2, rfl, by omega, fun _ => hL, fun _ => by simpa using hD, fun h => by omega, fun h => by omega, rfl⟩
  · have hL := h1 (by omega)
    have hD := h2 (by omega)
    refine Test.yes (by omega) ?_
    refine ⟨by omega, by omega, by simp, ?_⟩
    refine CallK.mk' (text_call hr hn hs hc) ?_
    intro e σ' h
    rw [if_neg (by simp [hL]), if_neg (by simp [hD])]
    by_cases hT : c.toNat = 34
    · rw [if_pos hT] at h
      rw [if_pos hT]
      cases hv : textScan (src.drop (k + 1)) [] with
      | inl n =>
        rw [hv] at h
        obtain ⟨rfl, rfl, h0⟩ := h
        refine Ret.mk' ?_
        exact ⟨rfl, rfl, h0⟩
      | inr x =>
        rw [hv] at h
        obtain ⟨rfl, h⟩ := h
        refine Ret.mk' ?_
        exact ⟨rfl, h⟩
    · rw [if_neg hT] at h
      obtain ⟨rfl, rfl⟩ := h
      refine Arith.i64 ((3 : Nat) : Int) (by simp) (by omega) ?_
      exact ⟨_, _, by omega, Forget.refl _, rfl, 3, rfl, by omega, fun _ => hL, fun _ => hD, fun _ => hT, fun h => by omega, rfl⟩
  · have hL := h1 (by omega)
    have hD := h2 (by omega)
    have hT := h3 (by omega)
    refine Test.yes (by omega) ?_
    refine ⟨by omega, by omega, by simp, ?_⟩
    refine CallK.mk' (sign_call hr hn hs hc) ?_
    intro e σ' h
    rw [if_neg (by simp [hL]), if_neg (by simp [hD]), if_neg hT]
    cases hv : signAt (src.drop k) with
    | some s =>
      rw [hv] at h
      obtain ⟨rfl, h⟩ := h
      refine Ret.mk' ?_
      exact ⟨rfl, h⟩
    | none =>
      rw [hv] at h
      obtain ⟨rfl, rfl⟩ := h
      refine Arith.i64 ((4 : Nat) : Int) (by simp) (by omega) ?_
      exact ⟨_, _, by omega, Forget.refl _, rfl, 4, rfl, by omega, fun _ => hL, fun _ => hD, fun _ => hT, fun _ => rfl, rfl⟩
  · have hL := h1 (by omega)
    have hD := h2 (by omega)
    have hT := h3 (by omega)
    have hS := h4 (by omega)
    refine Test.no (by omega) ?_
    refine Ret.mk' ?_
    rw [if_neg (by simp [hL]), if_neg (by simp [hD]), if_neg hT, hS]
    exact ⟨rfl, rfl, by omega⟩

theorem textScan_left : ∀ (r b : List UInt8) (s : List UInt8) (left : Nat), textScan r b = .inr (s, left) → left < r.length := by
  intro r
  induction hn : r.length using Nat.strongRecOn generalizing r with
  | _ n ih =>
    intro b s left h
    cases r with
    | nil => rw [textScan_nil] at h; split at h <;> cases h
    | cons c r =>
      subst hn
      rw [textScan_cons] at h
      split at h
      · cases h
      · split at h
        · injection h with h; injection h with _ h; subst h; simp
        · split at h
          · split at h
            · cases h
            · split at h
              · cases h
              · have := ih _ (by simp; omega) _ rfl _ _ _ h
                simp; omega
          · split at h
            · cases h
            · have := ih _ (by simp) _ rfl _ _ _ h
              simp; omega
theorem isPrefixOf_length {a l : List UInt8} (h : a.isPrefixOf l = true) : a.length ≤ l.length := by
  rw [List.isPrefixOf_iff_prefix] at h; exact h.length_le
theorem signAt_length {r s : List UInt8} (h : signAt r = some s) : 0 < s.length ∧ s.length ≤ r.length := by
  unfold signAt at h
  split at h
  · rename_i p hp
    injection h with h; subst h
    have h1 := List.find?_some hp
    have h2 := List.mem_of_find?_eq_some hp
    have : ∀ x ∈ signs2, 0 < x.length := by decide
    exact ⟨this _ h2, isPrefixOf_length h1⟩
  · split at h
    · cases h
    · split at h
      · injection h with h; subst h; simp
      · cases h
theorem lexOne_pos {l : List UInt8} {k e2 : Nat} {t : Tok} (h : lexOne l k = .inr (t, e2)) : k < e2 ∧ e2 ≤ l.length := by
  unfold lexOne at h
  split at h
  · cases h
  · rename_i c hc
    have hk : k < l.length := (List.getElem?_eq_some_iff.1 hc).1
    have hsp : isWord c = true → k < spanTo isWord l k := fun hw => by
      have := spanTo_step hc hw
      have := spanTo_ge isWord l (k + 1)
      omega
    have hle := spanTo_le isWord l k (by omega)
    split at h
    · rename_i hL
      simp only at h
      split at h
      · cases h
      · injection h with h; injection h with _ h; subst h; exact ⟨hsp (by simp [isWord, hL]), hle⟩
    · split at h
      · rename_i hD
        simp only at h
        split at h
        · injection h with h; injection h with _ h; subst h; exact ⟨hsp (by simp [isWord, hD]), hle⟩
        · cases h
      · split at h
        · split at h
          · cases h
          · rename_i b left hsc
            injection h with h; injection h with _ h; subst h
            have := textScan_left _ _ _ _ hsc
            simp only [List.length_drop] at this
            omega
        · split at h
          · rename_i s hs
            injection h with h; injection h with _ h; subst h
            have := signAt_length hs
            simp only [List.length_drop] at this
            omega
          · cases h

def addAll (acc : List Tok) : Sum (Nat × Nat) (List Tok) → Sum (Nat × Nat) (List Tok)
  | .inl p => .inl p
  | .inr ts => .inr (acc ++ ts)
theorem lexJ_end {l : List UInt8} {k : Nat} (h : l.length ≤ k) : lexJ l k = .inr [⟨5, l.length, [], 0⟩] := by
  rw [lexJ, dif_neg (by omega)]
theorem lexJ_bad {l : List UInt8} {k n : Nat} (h : k < l.length) (h1 : lexOne l k = .inl n) : lexJ l k = .inl (k, n) := by
  rw [lexJ, dif_pos h, h1]
theorem lexJ_one {l : List UInt8} {k e2 : Nat} {t : Tok} (h1 : lexOne l k = .inr (t, e2)) : lexJ l k = addAll [t] (lexJ l (skipTo l e2)) := by
  have h2 := lexOne_pos h1
  have h3 := skipTo_ge l e2
  rw [lexJ, dif_pos (by omega), h1]
  simp only
  rw [dif_pos ⟨h2.1, by omega⟩]
  cases lexJ l (skipTo l e2) <;> rfl
theorem addAll_addAll (a b : List Tok) (x : Sum (Nat × Nat) (List Tok)) : addAll (a ++ b) x = addAll a (addAll b x) := by
  cases x <;> simp [addAll]

def lexRes : Sum (Nat × Nat) (List Tok) → V
  | .inl (a, e) => .tup [.slice .nil 0 [], .agg [.int .i64 a, .int .i64 e]]
  | .inr ts => .tup [.slice .foreign 4 (ts.map tokV), .agg [.int .i64 0, .int .i64 0]]

theorem Weak.foreign (tag : Tag) (s : Nat) (es : List (List V)) : Weak (.slice tag s es) (.slice .foreign s es) := by
  intro B γ w x h
  cases h with
  | slice _ _ _ a cap b o vs hs hl ha ht h1 hc hr => exact .slice _ _ _ _ _ b o vs hs hl ha trivial h1 hc hr
theorem Weak.own {tag : Tag} {z s : Nat} (h : tag = .nil ∨ z = s) (es : List (List V)) : Weak (.slice tag z es) (.slice .foreign s es) := by
  rcases h with rfl | rfl
  · intro B γ w x h
    cases h with
    | slice _ _ _ a cap b o vs hs hl ha ht h1 hc hr =>
      obtain rfl := List.eq_nil_of_length_eq_zero ht.2.1
      exact .slice _ _ _ _ _ b o vs (fun i e h => by simp at h) hl ha trivial h1 hc hr
  · exact Weak.foreign _ _ _
theorem Weak.tup2 {a b c d : V} (h : Weak a c) (k : Weak b d) : Weak (.tup [a, b]) (.tup [c, d]) := by
  intro B γ w x hx
  cases hx with
  | tup _ vs hl hr =>
    refine .tup _ _ hl (fun i x y hx hy => ?_)
    match i, hx with
    | 0, hx => injection hx with hx; subst hx; exact h _ _ _ _ (hr 0 _ _ rfl hy)
    | 1, hx => injection hx with hx; subst hx; exact k _ _ _ _ (hr 1 _ _ rfl hy)
    | i + 2, hx => simp at hx

theorem tokens_ret (src : List UInt8) (hs : src.length ≤ 70000) : SRet Tryz.prog LG 12 [.str src] (lexRes (lex src)) := by
  intro σ
  refine code12.call hm (by simp) ?_
  intro b3 h3
  refine Test.split (fun h => ?_) (fun h => ?_)
  · refine Sure.mk' rfl ?_
    refine Store.mk' [.int .i64 0, .int .i64 2] put_box (Nat.le_of_ble_eq_true rfl) rfl (fun σ2 h2 => ?_)
    subst h2
    refine Load.mk' put_box (Nat.le_of_ble_eq_true rfl) ?_
    rw [put_put]
    refine Ret.weak (r := lexRes (lex src)) (σ' := σ) ?_ (over_put (.refl _) h3) ⟨rfl, rfl⟩
    rw [show lex src = .inl (0, 2) from by unfold lex; rw [if_pos (by omega)]]
    exact .refl _
  · have hlex : lex src = lexJ src (skipTo src 0) := by unfold lex; rw [if_neg (by omega)]
    rw [hlex]
    have ho3 : Over σ (σ.put b3 [.int .i64 0, .int .i64 0]) := over_put (.refl _) h3
    have hb3 : (σ.put b3 [.int .i64 0, .int .i64 0]).box b3 = some [.int .i64 0, .int .i64 0] := put_box
    generalize σ.put b3 [.int .i64 0, .int .i64 0] = σ1 at *
    refine ⟨rfl, ?_⟩
    intro b4 h4
    have hr0 : Rd σ1 (σ1.put b4 [.str src, .int .i64 0, .slice .nil 0 []]) b4 src 0 [] := ⟨over_put (.refl _) h4, h4, .nil, 0, put_box, trivial, .inl rfl⟩
    refine CallK.mk' (skip_call hr0 hs (by omega)) ?_
    rintro e σ2 ⟨rfl, hr2⟩
    refine ⟨fun m sl σ3 => ∃ (k : Nat) (toks : List Tok), sl = ofL [(0, some (.str src)), (3, some (.loc b3 0)), (4, some (.loc b4 0))] ∧ Rd σ1 σ3 b4 src k toks ∧ toks.length ≤ k ∧ k ≤ src.length ∧ addAll toks (lexJ src k) = lexJ src (skipTo src 0) ∧ m = src.length - k, _,
      ⟨skipTo src 0, [], rfl, hr2, by simp, skipTo_le _ _ (by omega), by cases lexJ src (skipTo src 0) <;> rfl, rfl⟩, ?_⟩
    rintro m sl σ3 ⟨k, toks, rfl, hr3, htk, hk, hadd, rfl⟩
    obtain ⟨ho, hf, tag, s', hb, hm', hs'⟩ := id hr3
    rw [← hadd]
    refine Load.mk' hb (by simp) ?_
    refine Test.split (fun h5 => ?_) (fun h5 => ?_)
    · obtain ⟨c, hc⟩ : ∃ c, src[k]? = some c := ⟨src[k]'(by omega), by simp [show k < src.length by omega]⟩
      refine CallK.mk' (next_call hr3 (by omega) hs hc) ?_
      intro e σ4 h6
      cases hone : lexOne src k with
      | inl n =>
        rw [hone] at h6
        obtain ⟨rfl, rfl, h0⟩ := h6
        refine Test.yes (by omega) ?_
        refine Load.mk' hb (by simp) ?_
        refine Sure.mk' rfl ?_
        refine Store.mk' [.int .i64 k, .int .i64 n] (ho.box b3 _ hb3) (Nat.le_of_ble_eq_true rfl) rfl (fun σ5 h7 => ?_)
        subst h7
        refine Load.mk' put_box (Nat.le_of_ble_eq_true rfl) ?_
        refine Ret.weak (r := lexRes (addAll toks (lexJ src k))) (σ' := σ) ?_ ?_ ⟨rfl, rfl⟩
        · rw [lexJ_bad (by omega) hone]; exact .refl _
        · exact over_put ⟨fun b cs h => ho.box b cs (ho3.box b cs h), fun t h => ho.live t (ho3.live t h)⟩ h3
      | inr x =>
        obtain ⟨t, e2⟩ := x
        rw [hone] at h6
        obtain ⟨rfl, hr4⟩ := h6
        have hp := lexOne_pos hone
        have hge := skipTo_ge src e2
        refine Test.no (by omega) ?_
        refine CallK.mk' (skip_call hr4 hs hp.2) ?_
        rintro e σ5 ⟨rfl, hr5⟩
        refine ⟨_, _, ?_, Forget.refl _, skipTo src e2, toks ++ [t], rfl, hr5, by simp; omega, skipTo_le _ _ hp.2, ?_, rfl⟩
        · have := skipTo_le src e2 hp.2; omega
        · rw [lexJ_one hone, addAll_addAll]
    · have hkl : k = src.length := by omega
      refine CallK.mk' (put_call hr3 (by omega) 5 0 src.length []) ?_
      rintro e σ4 ⟨rfl, hr4⟩
      obtain ⟨ho4, _, tag4, z4, hb4, _, hz4⟩ := hr4
      refine Load.mk' hb4 (by simp) ?_
      refine Sure.mk' rfl ?_
      refine Store.mk' [.int .i64 0, .int .i64 0] (ho4.box b3 _ hb3) (Nat.le_of_ble_eq_true rfl) rfl (fun σ5 h7 => ?_)
      subst h7
      refine Load.mk' put_box (Nat.le_of_ble_eq_true rfl) ?_
      refine Ret.weak (r := lexRes (addAll toks (lexJ src k))) (σ' := σ) ?_ ?_ ⟨rfl, rfl⟩
      · rw [lexJ_end (by omega)]
        subst hkl
        simp only [addAll]
        exact Weak.tup2 (Weak.own hz4 _) (.refl _)
      · exact over_put ⟨fun b cs h => ho4.box b cs (ho3.box b cs h), fun t h => ho4.live t (ho3.live t h)⟩ h3
end Go.Shadow.Lex

/- Pure laws of the lexer: what stands behind a token's end does not matter; runs over tokens. -/
namespace Go.Shadow.Lex

/-- What may stand behind: nothing, or a byte that is no word's and no sign's second byte. -/
def Stops (w : List UInt8) : Prop := w = [] ∨ ∃ c r, w = c :: r ∧ isWord c = false ∧ c.toNat ≠ 62 ∧ c.toNat ≠ 61 ∧ c.toNat ≠ 38 ∧ c.toNat ≠ 124 ∧ c.toNat ≠ 46

theorem sk_prefix {r2 r3 : List UInt8} : ∀ (r1 : List UInt8) (b : Bool), sk b (r1 ++ r2) < r1.length → sk b (r1 ++ r3) = sk b (r1 ++ r2)
  | [], b, h => by simp at h
  | c :: r1, false, h => by
    simp only [List.cons_append, sk, List.length_cons] at h ⊢
    split
    · rename_i h1; rw [if_pos h1] at h; rw [sk_prefix (r2 := r2) (r3 := r3) r1 false (by omega)]
    · rename_i h1; rw [if_neg h1] at h
      split
      · rename_i h2; rw [if_pos h2] at h; rw [sk_prefix (r2 := r2) (r3 := r3) r1 true (by omega)]
      · rfl
  | c :: r1, true, h => by
    simp only [List.cons_append, sk, List.length_cons] at h ⊢
    split
    · rename_i h1; rw [if_pos h1] at h; rw [sk_prefix (r2 := r2) (r3 := r3) r1 false (by omega)]
    · rename_i h1; rw [if_neg h1] at h; rw [sk_prefix (r2 := r2) (r3 := r3) r1 true (by omega)]
theorem sk_nil {r2 : List UInt8} : ∀ (r1 : List UInt8) (b : Bool), sk b (r1 ++ r2) ≤ r1.length → sk b r1 = sk b (r1 ++ r2)
  | [], b, h => by
    simp only [List.length_nil, Nat.le_zero] at h
    rw [h]; cases b <;> rfl
  | c :: r1, false, h => by
    simp only [List.cons_append, sk, List.length_cons] at h ⊢
    split
    · rename_i h1; rw [if_pos h1] at h; rw [sk_nil (r2 := r2) r1 false (by omega)]
    · rename_i h1; rw [if_neg h1] at h
      split
      · rename_i h2; rw [if_pos h2] at h; rw [sk_nil (r2 := r2) r1 true (by omega)]
      · rfl
  | c :: r1, true, h => by
    simp only [List.cons_append, sk, List.length_cons] at h ⊢
    split
    · rename_i h1; rw [if_pos h1] at h; rw [sk_nil (r2 := r2) r1 false (by omega)]
    · rename_i h1; rw [if_neg h1] at h; rw [sk_nil (r2 := r2) r1 true (by omega)]
/-- Skipping that stops at what stands behind, and not in a comment. -/
theorem sk_at {v w : List UInt8} (hv : v ≠ []) : ∀ (r : List UInt8) (b : Bool), sk b (r ++ v) = r.length → sk b (r ++ w) = r.length + sk false w
  | [], false, h => by simp
  | [], true, h => by
    cases v with
    | nil => exact absurd rfl hv
    | cons c v => simp only [List.nil_append, sk, List.length_nil] at h; split at h <;> omega
  | c :: r1, false, h => by
    simp only [List.cons_append, sk, List.length_cons] at h ⊢
    split
    · rename_i h1; rw [if_pos h1] at h; rw [sk_at hv r1 false (by omega)]; omega
    · rename_i h1; rw [if_neg h1] at h
      split
      · rename_i h2; rw [if_pos h2] at h; rw [sk_at hv r1 true (by omega)]; omega
      · rename_i h2; rw [if_neg h2] at h; omega
  | c :: r1, true, h => by
    simp only [List.cons_append, sk, List.length_cons] at h ⊢
    split
    · rename_i h1; rw [if_pos h1] at h; rw [sk_at hv r1 false (by omega)]; omega
    · rename_i h1; rw [if_neg h1] at h; rw [sk_at hv r1 true (by omega)]; omega
/-- Skipping to the end, and then a line feed. -/
theorem sk_lf {w : List UInt8} : ∀ (r : List UInt8) (b : Bool), sk b r = r.length → sk b (r ++ 10 :: w) = r.length + 1 + sk false w
  | [], false, h => by simp [sk, isBlank]
  | [], true, h => by simp [sk]
  | c :: r1, false, h => by
    simp only [List.cons_append, sk, List.length_cons] at h ⊢
    split
    · rename_i h1; rw [if_pos h1] at h; rw [sk_lf r1 false (by omega)]; omega
    · rename_i h1; rw [if_neg h1] at h
      split
      · rename_i h2; rw [if_pos h2] at h; rw [sk_lf r1 true (by omega)]; omega
      · rename_i h2; rw [if_neg h2] at h; omega
  | c :: r1, true, h => by
    simp only [List.cons_append, sk, List.length_cons] at h ⊢
    split
    · rename_i h1; rw [if_pos h1] at h; rw [sk_lf r1 false (by omega)]; omega
    · rename_i h1; rw [if_neg h1] at h; rw [sk_lf r1 true (by omega)]; omega
theorem tw {p : UInt8 → Bool} {r2 r3 : List UInt8} (h3 : r3 = [] ∨ ∃ c r, r3 = c :: r ∧ p c = false) : ∀ r1 : List UInt8, ((r1 ++ r2).takeWhile p).length ≤ r1.length → (r1 ++ r3).takeWhile p = (r1 ++ r2).takeWhile p
  | [], h => by
    simp only [List.nil_append, List.length_nil, Nat.le_zero] at h
    rw [List.nil_append, List.nil_append, List.eq_nil_of_length_eq_zero h]
    rcases h3 with rfl | ⟨c, r, rfl, hc⟩
    · rfl
    · simp [List.takeWhile_cons, hc]
  | c :: r1, h => by
    simp only [List.cons_append, List.takeWhile_cons] at h ⊢
    split
    · rename_i h1; rw [if_pos h1] at h; rw [tw h3 r1 (by simpa using h)]
    · rfl
theorem text_tail {r2 r3 : List UInt8} : ∀ (n : Nat) (r1 b s : List UInt8) (left : Nat), r1.length ≤ n → textScan (r1 ++ r2) b = .inr (s, left) → r2.length ≤ left → textScan (r1 ++ r3) b = .inr (s, left - r2.length + r3.length) := by
  intro n
  induction n with
  | zero =>
    intro r1 b s left hn h hl
    obtain rfl := List.eq_nil_of_length_eq_zero (Nat.le_zero.1 hn)
    have := textScan_left _ _ _ _ h
    simp at this; omega
  | succ n ih =>
    intro r1 b s left hn h hl
    cases r1 with
    | nil => have := textScan_left _ _ _ _ h; simp at this; omega
    | cons c r1 =>
      simp only [List.length_cons] at hn
      rw [List.cons_append, textScan_cons] at h
      rw [List.cons_append, textScan_cons]
      split at h
      · cases h
      · rename_i h1
        rw [if_neg h1]
        split at h
        · rename_i h2
          injection h with h; injection h with e1 e2
          rw [if_pos h2, e1]
          simp only [List.length_append] at e2 ⊢
          congr 2; omega
        · rename_i h2
          rw [if_neg h2]
          split at h
          · rename_i h3
            rw [if_pos h3]
            cases r1 with
            | nil =>
              rw [List.nil_append] at h
              split at h
              · cases h
              · split at h
                · cases h
                · have := textScan_left _ _ _ _ h
                  simp at hl; omega
            | cons d r1 =>
              simp only [List.cons_append] at h ⊢
              split at h
              · cases h
              · exact ih r1 _ _ _ (by simp at hn; omega) h hl
          · rename_i h3
            rw [if_neg h3]
            split at h
            · cases h
            · rename_i h4
              rw [if_neg h4]
              exact ih r1 _ _ _ (by omega) h hl
/-- A text's error is still there before a line feed. -/
theorem text_lf {w : List UInt8} : ∀ (n : Nat) (r b : List UInt8) (e : Nat), r.length ≤ n → textScan r b = .inl e → textScan (r ++ 10 :: w) b = .inl e := by
  intro n
  induction n with
  | zero =>
    intro r b e hn h
    obtain rfl := List.eq_nil_of_length_eq_zero (Nat.le_zero.1 hn)
    rw [List.nil_append, textScan_cons]
    rw [textScan_nil] at h
    split at h
    · rename_i h1; rw [if_pos h1]; exact h
    · rename_i h1; rw [if_neg h1, if_neg (by decide), if_neg (by decide), if_pos (by decide)]; exact h
  | succ n ih =>
    intro r b e hn h
    cases r with
    | nil => exact ih [] b e (by simp) h
    | cons c r =>
      simp only [List.length_cons] at hn
      rw [textScan_cons] at h
      rw [List.cons_append, textScan_cons]
      split at h
      · rename_i h1; rw [if_pos h1]; exact h
      · rename_i h1
        rw [if_neg h1]
        split at h
        · cases h
        · rename_i h2
          rw [if_neg h2]
          split at h
          · rename_i h3
            rw [if_pos h3]
            cases r with
            | nil =>
              simp only [List.nil_append]
              rw [show esc 10 = none from by decide]
              exact h
            | cons d r =>
              simp only [List.cons_append] at h ⊢
              split at h
              · exact h
              · exact ih r _ _ (by simp at hn; omega) h
          · rename_i h3
            rw [if_neg h3]
            split at h
            · rename_i h4; rw [if_pos h4]; exact h
            · rename_i h4
              rw [if_neg h4]
              exact ih r _ _ (by omega) h
theorem signs2_second : ∀ x ∈ signs2, ∃ a b, x = [a, b] ∧ (b.toNat = 62 ∨ b.toNat = 61 ∨ b.toNat = 38 ∨ b.toNat = 124 ∨ b.toNat = 46) := by
  intro x hx
  simp only [signs2, List.mem_cons, List.not_mem_nil, or_false] at hx
  rcases hx with rfl | rfl | rfl | rfl | rfl | rfl | rfl | rfl | rfl <;> exact ⟨_, _, rfl, by decide⟩
/-- The signs of two bytes ahead of two lists that agree in what counts. -/
theorem find_signs2 {l1 l2 : List UInt8} (h : ∀ x ∈ signs2, x.isPrefixOf l1 = x.isPrefixOf l2) : signs2.find? (·.isPrefixOf l1) = signs2.find? (·.isPrefixOf l2) := by
  have : ∀ s : List (List UInt8), (∀ x ∈ s, x.isPrefixOf l1 = x.isPrefixOf l2) → s.find? (·.isPrefixOf l1) = s.find? (·.isPrefixOf l2) := by
    intro s
    induction s with
    | nil => intro _; rfl
    | cons a s ih =>
      intro h
      rw [List.find?_cons, List.find?_cons, h a (by simp), ih (fun x hx => h x (by simp [hx]))]
  exact this _ h
theorem sign_alone {c : UInt8} {w : List UInt8} (hw : Stops w) : ∀ x ∈ signs2, x.isPrefixOf (c :: w) = false := by
  intro x hx
  obtain ⟨a, b, rfl, hb⟩ := signs2_second x hx
  rcases hw with rfl | ⟨d, r, rfl, _, h1, h2, h3, h4, h5⟩
  · simp [List.isPrefixOf]
  · have : b ≠ d := fun e => by subst e; omega
    simp [List.isPrefixOf, this]
theorem sign_tail {r1 r2 r3 s : List UInt8} (h : signAt (r1 ++ r2) = some s) (hl : s.length ≤ r1.length) (h3 : Stops r3) : signAt (r1 ++ r3) = some s := by
  have hp := signAt_length h
  match r1, hl with
  | [], hl => simp at hl; subst hl; simp at hp
  | [c], hl =>
    unfold signAt at h
    split at h
    · rename_i p hf
      injection h with h; subst h
      obtain ⟨a, b, rfl, _⟩ := signs2_second p (List.mem_of_find?_eq_some hf)
      simp at hl
    · simp only [List.cons_append, List.nil_append] at h
      unfold signAt
      have : signs2.find? (·.isPrefixOf ([c] ++ r3)) = none := by
        rw [List.find?_eq_none]
        intro x hx
        simp [sign_alone h3 x hx]
      rw [this]
      exact h
  | c :: d :: r1, hl =>
    unfold signAt at h ⊢
    rw [find_signs2 (l2 := (c :: d :: r1) ++ r2) (fun x hx => by
      obtain ⟨a, b, rfl, _⟩ := signs2_second x hx
      simp [List.isPrefixOf])]
    exact h
theorem sign_lf {r w : List UInt8} (h : signAt r = none) (hr : r ≠ []) : signAt (r ++ 10 :: w) = none := by
  have h10 : Stops (10 :: w) := .inr ⟨_, _, rfl, by decide⟩
  match r, hr with
  | [c], _ =>
    unfold signAt at h ⊢
    have : signs2.find? (·.isPrefixOf ([c] ++ 10 :: w)) = none := by
      rw [List.find?_eq_none]
      intro x hx
      have := sign_alone (c := c) h10 x hx
      simp [this]
    rw [this]
    split at h
    · cases h
    · exact h
  | c :: d :: r, _ =>
    unfold signAt at h ⊢
    rw [find_signs2 (l2 := c :: d :: r) (fun x hx => by
      obtain ⟨a, b, rfl, _⟩ := signs2_second x hx
      simp [List.isPrefixOf])]
    exact h

theorem drop_app {u v : List UInt8} {k : Nat} (h : k ≤ u.length) : (u ++ v).drop k = u.drop k ++ v := by
  rw [List.drop_append_of_le_length h]
theorem span_tail {u v w : List UInt8} {k : Nat} (hk : k ≤ u.length) (he : spanTo isWord (u ++ v) k ≤ u.length) (hw : Stops w) : spanTo isWord (u ++ w) k = spanTo isWord (u ++ v) k := by
  have h3 : w = [] ∨ ∃ c r, w = c :: r ∧ isWord c = false := hw.imp id (fun ⟨c, r, h1, h2, _⟩ => ⟨c, r, h1, h2⟩)
  simp only [spanTo, drop_app hk] at he ⊢
  rw [tw (r2 := v) h3 (u.drop k) (by simp only [List.length_drop]; omega)]
theorem take_tail {u v w : List UInt8} {k z : Nat} (h : z ≤ u.length) : ((u ++ w).take z).drop k = ((u ++ v).take z).drop k := by
  rw [List.take_append_of_le_length h, List.take_append_of_le_length h]
/-- What stands behind a token's end does not matter. -/
theorem lexOne_tail {u v w : List UInt8} {k e2 : Nat} {t : Tok} (h : lexOne (u ++ v) k = .inr (t, e2)) (he : e2 ≤ u.length) (hw : Stops w) : lexOne (u ++ w) k = .inr (t, e2) := by
  have hp := lexOne_pos h
  have hget : ∀ x : List UInt8, (u ++ x)[k]? = u[k]? := fun x => List.getElem?_append_left (by omega)
  unfold lexOne at h ⊢
  rw [hget] at h ⊢
  split at h
  · cases h
  · rename_i c hc
    simp only
    split at h
    · rename_i hL
      rw [if_pos hL]
      simp only at h ⊢
      split at h
      · cases h
      · rename_i h5
        injection h with h; injection h with h6 h7
        have h8 := span_tail (w := w) (by omega) (by omega : spanTo isWord (u ++ v) k ≤ u.length) hw
        rw [h8, if_neg h5, take_tail (v := v) (by omega), h6, h7]
    · rename_i hL
      rw [if_neg hL]
      split at h
      · rename_i hD
        rw [if_pos hD]
        simp only at h ⊢
        split at h
        · rename_i n hn
          injection h with h; injection h with h6 h7
          have h8 := span_tail (w := w) (by omega) (by omega : spanTo isWord (u ++ v) k ≤ u.length) hw
          rw [h8, take_tail (v := v) (by omega), hn]
          simp only
          rw [h6, h7]
        · cases h
      · rename_i hD
        rw [if_neg hD]
        split at h
        · rename_i hT
          rw [if_pos hT]
          split at h
          · cases h
          · rename_i b left hsc
            injection h with h; injection h with h6 h7
            rw [drop_app (by omega)] at hsc
            have h9 := textScan_left _ _ _ _ hsc
            simp only [List.length_append, List.length_drop] at h7 h9
            have := text_tail (r3 := w) _ _ _ _ _ (Nat.le_refl _) hsc (by omega)
            rw [drop_app (by omega), this]
            simp only
            rw [h6]
            congr 2
            simp only [List.length_append]
            omega
        · rename_i hT
          rw [if_neg hT]
          split at h
          · rename_i s hs
            injection h with h; injection h with h6 h7
            rw [drop_app (by omega)] at hs
            have := sign_tail (r3 := w) hs (by simp only [List.length_drop]; omega) hw
            rw [drop_app (by omega), this]
            simp only
            rw [h6, h7]
          · cases h
/-- An error is still there before a line feed. -/
theorem lexOne_lf {a w : List UInt8} {k e : Nat} (hk : k < a.length) (h : lexOne a k = .inl e) : lexOne (a ++ 10 :: w) k = .inl e := by
  have h10 : Stops (10 :: w) := .inr ⟨_, _, rfl, by decide⟩
  have hsp : spanTo isWord (a ++ 10 :: w) k = spanTo isWord a k := by
    have := span_tail (v := []) (w := 10 :: w) (k := k) (u := a) (by omega) (by rw [List.append_nil]; exact spanTo_le _ _ _ (by omega)) h10
    rwa [List.append_nil] at this
  have htk : ((a ++ 10 :: w).take (spanTo isWord a k)).drop k = (a.take (spanTo isWord a k)).drop k := by
    have := take_tail (u := a) (v := []) (w := 10 :: w) (k := k) (spanTo_le isWord a k (by omega))
    rwa [List.append_nil] at this
  unfold lexOne at h ⊢
  rw [List.getElem?_append_left hk]
  split at h
  · rename_i hc; have := List.getElem?_eq_none_iff.1 hc; omega
  · rename_i c hc
    simp only
    split at h
    · rename_i hL
      rw [if_pos hL]
      simp only at h ⊢
      rw [hsp]
      split at h
      · rename_i h5; rw [if_pos h5]; exact h
      · cases h
    · rename_i hL
      rw [if_neg hL]
      split at h
      · rename_i hD
        rw [if_pos hD]
        simp only at h ⊢
        rw [hsp, htk]
        split at h
        · cases h
        · exact h
      · rename_i hD
        rw [if_neg hD]
        split at h
        · rename_i hT
          rw [if_pos hT, drop_app (by omega)]
          split at h
          · rename_i e' hsc
            rw [text_lf _ _ _ _ (Nat.le_refl _) hsc]; exact h
          · cases h
        · rename_i hT
          rw [if_neg hT, drop_app (by omega)]
          split at h
          · cases h
          · rename_i hs
            rw [sign_lf hs (fun h => by have := congrArg List.length h; simp at this; omega)]; exact h

/-! ### a prefix moves all -/
def shTok (n : Nat) (t : Tok) : Tok := ⟨t.kind, t.at_ + n, t.s, t.n⟩
def shJ (n : Nat) : Sum (Nat × Nat) (List Tok) → Sum (Nat × Nat) (List Tok)
  | .inl (k, e) => .inl (n + k, e)
  | .inr ts => .inr (ts.map (shTok n))
theorem drop_pre (p l : List UInt8) (k : Nat) : (p ++ l).drop (p.length + k) = l.drop k := by
  rw [List.drop_append, List.drop_eq_nil_of_le (by omega), List.nil_append]; congr 1; omega
theorem span_shift (f : UInt8 → Bool) (p l : List UInt8) (k : Nat) : spanTo f (p ++ l) (p.length + k) = p.length + spanTo f l k := by
  simp only [spanTo, drop_pre]; omega
theorem skip_shift (p l : List UInt8) (k : Nat) : skipTo (p ++ l) (p.length + k) = p.length + skipTo l k := by
  simp only [skipTo, drop_pre]; omega
theorem lexOne_shift (p l : List UInt8) (k : Nat) : lexOne (p ++ l) (p.length + k) = match lexOne l k with
    | .inl e => .inl e
    | .inr (t, e2) => .inr (shTok p.length t, p.length + e2) := by
  unfold lexOne
  rw [List.getElem?_append_right (by omega), show p.length + k - p.length = k by omega]
  split
  · rfl
  · rename_i c hc
    have hk : k < l.length := (List.getElem?_eq_some_iff.1 hc).1
    have htk : ((p ++ l).take (p.length + spanTo isWord l k)).drop (p.length + k) = (l.take (spanTo isWord l k)).drop k := by
      rw [List.take_append, List.take_of_length_le (by omega), show p.length + spanTo isWord l k - p.length = spanTo isWord l k by omega, drop_pre]
    split
    · simp only [span_shift]
      rw [show p.length + spanTo isWord l k - (p.length + k) = spanTo isWord l k - k by omega, htk]
      split <;> simp [shTok]; omega
    · split
      · simp only [span_shift, htk]
        split <;> simp [shTok]; omega
      · split
        · rw [show p.length + k + 1 = p.length + (k + 1) by omega, drop_pre]
          split
          · rfl
          · rename_i b left hsc
            have := textScan_left _ _ _ _ hsc
            simp only [List.length_drop] at this
            simp [shTok]; omega
        · rw [drop_pre]
          split <;> simp [shTok]; omega
theorem lexJ_shift (p l : List UInt8) : ∀ (n k : Nat), l.length - k ≤ n → lexJ (p ++ l) (p.length + k) = shJ p.length (lexJ l k) := by
  intro n
  induction n with
  | zero =>
    intro k hn
    rw [lexJ_end (by simp; omega), lexJ_end (by omega)]
    simp [shJ, shTok]; omega
  | succ n ih =>
    intro k hn
    by_cases hkl : k < l.length
    · have hs := lexOne_shift p l k
      cases hone : lexOne l k with
      | inl e =>
        rw [hone] at hs
        rw [lexJ_bad (by simp; omega) hs, lexJ_bad hkl hone]; rfl
      | inr x =>
        obtain ⟨t, e2⟩ := x
        rw [hone] at hs
        have hp := lexOne_pos hone
        have hge := skipTo_ge l e2
        rw [lexJ_one hs, lexJ_one hone, skip_shift, ih _ (by omega)]
        cases lexJ l (skipTo l e2) with
        | inl x => rfl
        | inr ts => simp [addAll, shJ]
    · rw [lexJ_end (by simp; omega), lexJ_end (by omega)]
      simp [shJ, shTok]; omega

/-! ### runs -/
/-- Lexing from j, behind a token's end. -/
def J (l : List UInt8) (j : Nat) : Sum (Nat × Nat) (List Tok) := lexJ l (skipTo l j)
theorem J_shift (p l : List UInt8) (k : Nat) : J (p ++ l) (p.length + k) = shJ p.length (J l k) := by
  unfold J; rw [skip_shift, lexJ_shift p l _ _ (Nat.le_refl _)]
theorem lex_J {l : List UInt8} (h : l.length ≤ 65536) : lex l = J l 0 := by unfold lex J; rw [if_neg (by omega)]
inductive Run (l : List UInt8) : Nat → List Tok → Nat → Prop
  | nil (j : Nat) : Run l j [] j
  | cons {j e2 k : Nat} {t : Tok} {ts : List Tok} (h1 : lexOne l (skipTo l j) = .inr (t, e2)) (h2 : Run l e2 ts k) : Run l j (t :: ts) k
theorem Run.le {l : List UInt8} {j k : Nat} {ts : List Tok} (h : Run l j ts k) : j ≤ k := by
  induction h with
  | nil => omega
  | @cons j e2 k t ts h1 _ ih => have := lexOne_pos h1; have := skipTo_ge l j; omega
theorem Run.lt {l : List UInt8} {j k : Nat} {ts : List Tok} (h : Run l j ts k) (hj : j ≤ l.length) : k ≤ l.length := by
  induction h with
  | nil => omega
  | cons h1 _ ih => have := lexOne_pos h1; exact ih (by omega)
theorem Run.J {l : List UInt8} {j k : Nat} {ts : List Tok} (h : Run l j ts k) : J l j = addAll ts (J l k) := by
  induction h with
  | nil => cases Lex.J l ‹_› <;> rfl
  | @cons j e2 k t ts h1 _ ih =>
    have : Lex.J l j = addAll [t] (Lex.J l e2) := lexJ_one h1
    rw [this, ih, ← addAll_addAll]; rfl
theorem Run.trans {l : List UInt8} {j k m : Nat} {ts us : List Tok} (h : Run l j ts k) (h2 : Run l k us m) : Run l j (ts ++ us) m := by
  induction h with
  | nil => exact h2
  | cons h1 _ ih => exact .cons h1 (ih h2)
/-- A run goes on the same, whatever stands behind. -/
theorem Run.tail {u v w : List UInt8} (hw : Stops w) {j k : Nat} {ts : List Tok} (h : Run (u ++ v) j ts k) (hk : k ≤ u.length) : Run (u ++ w) j ts k := by
  induction h with
  | nil => exact .nil _
  | @cons j e2 k t ts h1 h2 ih =>
    have hp := lexOne_pos h1
    have hle := h2.le
    have hge := skipTo_ge (u ++ v) j
    have hs : skipTo (u ++ w) j = skipTo (u ++ v) j := by
      simp only [skipTo] at hp hge ⊢
      rw [drop_app (by omega)] at hp ⊢
      rw [drop_app (by omega), sk_prefix (r2 := v) (r3 := w) (u.drop j) false (by simp only [List.length_drop]; omega)]
    refine .cons (t := t) (e2 := e2) ?_ (ih hk)
    rw [hs]
    exact lexOne_tail h1 (by omega) hw
theorem J_ok {l : List UInt8} : ∀ (n j : Nat) (ts : List Tok), l.length - j ≤ n → j ≤ l.length → J l j = .inr ts → ∀ i, i < ts.length → ∃ k t, Run l j (ts.take i) k ∧ ts[i]? = some t ∧ k ≤ l.length ∧ (skipTo l k : Int) = t.at_ ∧ J l k = .inr (ts.drop i) ∧ (i + 1 = ts.length → ts = ts.take i ++ [⟨5, l.length, [], 0⟩] ∧ skipTo l k = l.length) ∧ (i + 1 < ts.length → skipTo l k < l.length) := by
  intro n
  induction n with
  | zero =>
    intro j ts hn hj h i hi
    have hge := skipTo_ge l j
    have hle := skipTo_le l j hj
    have h0 := h
    unfold J at h
    rw [lexJ_end (by omega)] at h
    injection h with h; subst h
    obtain rfl : i = 0 := by simp at hi; omega
    exact ⟨j, _, .nil j, rfl, hj, by simp; omega, h0, fun _ => ⟨rfl, by omega⟩, fun h => by simp at h⟩
  | succ n ih =>
    intro j ts hn hj h i hi
    have hge := skipTo_ge l j
    have hle := skipTo_le l j hj
    have h0 := h
    unfold J at h
    by_cases hkl : skipTo l j < l.length
    · cases hone : lexOne l (skipTo l j) with
      | inl e => rw [lexJ_bad hkl hone] at h; cases h
      | inr x =>
        obtain ⟨t, e2⟩ := x
        have hp := lexOne_pos hone
        rw [lexJ_one hone] at h
        change addAll [t] (J l e2) = .inr ts at h
        cases hr : J l e2 with
        | inl p => rw [hr] at h; cases h
        | inr ts' =>
          rw [hr] at h
          injection h with h; subst h
          cases i with
          | zero =>
            refine ⟨j, t, .nil j, rfl, hj, ?_, h0, fun hl => ?_, fun _ => hkl⟩
            · have : t.at_ = (skipTo l j : Nat) := by
                unfold lexOne at hone
                split at hone
                · cases hone
                · split at hone
                  · simp only at hone
                    split at hone
                    · cases hone
                    · injection hone with hone; injection hone with hone _; rw [← hone]
                  · split at hone
                    · simp only at hone
                      split at hone
                      · injection hone with hone; injection hone with hone _; rw [← hone]
                      · cases hone
                    · split at hone
                      · split at hone
                        · cases hone
                        · injection hone with hone; injection hone with hone _; rw [← hone]
                      · split at hone
                        · injection hone with hone; injection hone with hone _; rw [← hone]
                        · cases hone
              rw [this]
            · simp only [List.cons_append, List.nil_append, List.length_cons] at hl
              have : ts' ≠ [] := by
                intro e; subst e
                unfold J at hr
                have hx : ∀ (n k : Nat), l.length - k ≤ n → lexJ l k ≠ .inr [] := by
                  intro n
                  induction n with
                  | zero => intro k hn; rw [lexJ_end (by omega)]; simp
                  | succ n ih2 =>
                    intro k hn
                    by_cases hk : k < l.length
                    · cases ho : lexOne l k with
                      | inl e => rw [lexJ_bad hk ho]; simp
                      | inr y =>
                        obtain ⟨t2, e3⟩ := y
                        rw [lexJ_one ho]
                        cases lexJ l (skipTo l e3) <;> simp [addAll]
                    · rw [lexJ_end (by omega)]; simp
                exact hx _ _ (Nat.le_refl _) hr
              have : 0 < ts'.length := List.length_pos_iff.2 this
              omega
          | succ i =>
            obtain ⟨k, t2, h1, h2, h3, h4, h5, h6, h7⟩ := ih e2 ts' (by omega) hp.2 hr i (by simpa using hi)
            refine ⟨k, t2, .cons hone h1, by simpa using h2, h3, h4, by simpa using h5, fun hl => ?_, fun hl => h7 (by simpa using hl)⟩
            obtain ⟨h8, h9⟩ := h6 (by simpa using hl)
            refine ⟨?_, h9⟩
            conv => lhs; rw [h8]
            simp
    · rw [lexJ_end (by omega)] at h
      injection h with h; subst h
      obtain rfl : i = 0 := by simp at hi; omega
      exact ⟨j, _, .nil j, rfl, hj, by simp; omega, h0, fun _ => ⟨rfl, by omega⟩, fun h => by simp at h⟩
theorem J_bad {l : List UInt8} : ∀ (n j p e : Nat), l.length - j ≤ n → j ≤ l.length → J l j = .inl (p, e) → ∃ k ts, Run l j ts k ∧ k ≤ l.length ∧ skipTo l k = p ∧ p < l.length ∧ lexOne l p = .inl e := by
  intro n
  induction n with
  | zero =>
    intro j p e hn hj h
    have hge := skipTo_ge l j
    unfold J at h
    rw [lexJ_end (by omega)] at h
    cases h
  | succ n ih =>
    intro j p e hn hj h
    have hge := skipTo_ge l j
    unfold J at h
    by_cases hkl : skipTo l j < l.length
    · cases hone : lexOne l (skipTo l j) with
      | inl e' =>
        rw [lexJ_bad hkl hone] at h
        injection h with h; injection h with h1 h2; subst h1; subst h2
        exact ⟨j, [], .nil j, hj, rfl, hkl, hone⟩
      | inr x =>
        obtain ⟨t, e2⟩ := x
        have hp := lexOne_pos hone
        rw [lexJ_one hone] at h
        change addAll [t] (J l e2) = .inl (p, e) at h
        cases hr : J l e2 with
        | inr ts' => rw [hr] at h; cases h
        | inl x =>
          rw [hr] at h
          injection h with h; subst h
          obtain ⟨k, ts, h1, h2, h3, h4, h5⟩ := ih e2 p e (by omega) hp.2 hr
          exact ⟨k, _, .cons hone h1, h2, h3, h4, h5⟩
    · rw [lexJ_end (by omega)] at h; cases h
theorem J_ne {l : List UInt8} {j : Nat} : J l j ≠ .inr [] := by
  unfold J
  have hx : ∀ (n k : Nat), l.length - k ≤ n → lexJ l k ≠ .inr [] := by
    intro n
    induction n with
    | zero => intro k hn; rw [lexJ_end (by omega)]; simp
    | succ n ih2 =>
      intro k hn
      by_cases hk : k < l.length
      · cases ho : lexOne l k with
        | inl e => rw [lexJ_bad hk ho]; simp
        | inr y =>
          obtain ⟨t2, e3⟩ := y
          rw [lexJ_one ho]
          cases lexJ l (skipTo l e3) <;> simp [addAll]
      · rw [lexJ_end (by omega)]; simp
  exact hx _ _ (Nat.le_refl _)
end Go.Shadow.Lex

/- Pure laws of the lexer: sources joined, blanks put in, a source cut off at its first problem. -/
namespace Go.Shadow.Lex

theorem stops_lf (w : List UInt8) : Stops (10 :: w) := .inr ⟨_, _, rfl, by decide⟩
theorem stops_pure {l : List UInt8} {p e : Nat} (hl : l.length ≤ 65536) (h : lex l = .inl (p, e)) : p < l.length ∧ ∃ ts, lex (l.take p) = .inr ts ∧ 0 < ts.length := by
  rw [lex_J hl] at h
  obtain ⟨k, ts, hr, hk, hs, hp, _⟩ := J_bad _ 0 p e (Nat.le_refl _) (by omega) h
  refine ⟨hp, ts ++ [⟨5, (l.take p).length, [], 0⟩], ?_, by simp⟩
  have hlen : (l.take p).length = p := by simp; omega
  have hge := skipTo_ge l k
  rw [lex_J (by omega)]
  have hr' : Run (l.take p ++ l.drop p) 0 ts k := by rw [List.take_append_drop]; exact hr
  have := hr'.tail (w := []) (.inl rfl) (by omega)
  rw [List.append_nil] at this
  rw [this.J]
  have hsk : skipTo (l.take p) k = p := by
    rw [← List.take_append_drop p l] at hs
    simp only [skipTo] at hs ⊢
    rw [drop_app (by omega)] at hs
    rw [sk_nil (r2 := l.drop p) _ _ (by simp only [List.length_drop, hlen]; omega)]
    exact hs
  unfold J
  rw [hsk, lexJ_end (by omega)]
  simp [addAll]

theorem skip_lf {a w : List UInt8} {k : Nat} (hk : k ≤ a.length) (h : skipTo a k = a.length) : skipTo (a ++ 10 :: w) k = skipTo (a ++ 10 :: w) (a.length + 1) := by
  have h1 : skipTo (a ++ 10 :: w) (a.length + 1) = a.length + 1 + sk false w := by
    rw [skip_shift a (10 :: w) 1]
    simp [skipTo]; omega
  rw [h1]
  simp only [skipTo] at h ⊢
  rw [drop_app hk, sk_lf _ _ (by simp only [List.length_drop]; omega)]
  simp only [List.length_drop]; omega
theorem pre_cons (a : List UInt8) (b : List UInt8) : a ++ 10 :: b = (a ++ [10]) ++ b := by simp
theorem joins_ok {a b : List UInt8} {ts : List Tok} (hl : a.length + b.length < 65536) (h : lex a = .inr ts) : ∃ ts', ts = ts' ++ [⟨5, a.length, [], 0⟩] ∧ lex (a ++ 10 :: b) = addAll ts' (shJ (a.length + 1) (lex b)) := by
  rw [lex_J (by omega)] at h
  have hne : 0 < ts.length := List.length_pos_iff.2 fun e => by subst e; exact J_ne h
  obtain ⟨k, t, hr, ht, hk, hat, hrest, hlast, _⟩ := J_ok _ 0 ts (Nat.le_refl _) (by omega) h (ts.length - 1) (by omega)
  obtain ⟨h1, h2⟩ := hlast (by omega)
  refine ⟨_, h1, ?_⟩
  rw [lex_J (by simp; omega), lex_J (l := b) (by omega)]
  rw [← List.append_nil a] at hr
  rw [(hr.tail (stops_lf b) hk).J]
  congr 1
  have := J_shift (a ++ [10]) b 0
  rw [← pre_cons] at this
  simp only [List.length_append, List.length_cons, List.length_nil, Nat.zero_add, Nat.add_zero] at this
  rw [← this]
  unfold J
  rw [skip_lf hk h2]
theorem joins_bad {a b : List UInt8} {x : Nat × Nat} (hl : a.length + b.length < 65536) (h : lex a = .inl x) : lex (a ++ 10 :: b) = .inl x := by
  obtain ⟨p, e⟩ := x
  rw [lex_J (by omega)] at h
  obtain ⟨k, ts, hr, hk, hs, hp, ho⟩ := J_bad _ 0 p e (Nat.le_refl _) (by omega) h
  rw [lex_J (by simp; omega)]
  rw [← List.append_nil a] at hr
  rw [(hr.tail (stops_lf b) hk).J]
  have hge := skipTo_ge a k
  have hsk : skipTo (a ++ 10 :: b) k = p := by
    rw [← hs]
    simp only [skipTo] at hs ⊢
    have := sk_prefix (r2 := []) (r3 := 10 :: b) (a.drop k) false (by rw [List.append_nil]; simp only [List.length_drop]; omega)
    rw [drop_app hk, this, List.append_nil]
  unfold J
  rw [hsk, lexJ_bad (by simp; omega) (lexOne_lf hp ho)]
  rfl

def noAt (t : Tok) : Int × List UInt8 × Int := (t.kind, t.s, t.n)
theorem noAt_sh (n : Nat) (ts : List Tok) : (ts.map (shTok n)).map noAt = ts.map noAt := by
  rw [List.map_map]; rfl
/-- What is skipped whole. -/
def Gap (bl : List UInt8) : Prop := (∀ v, sk false (bl ++ v) = bl.length + sk false v) ∧ ∃ c r, bl = c :: r ∧ (isBlank c = true ∨ c.toNat = 35)
theorem Gap.stops {bl : List UInt8} (h : Gap bl) (v : List UInt8) : Stops (bl ++ v) := by
  obtain ⟨c, r, rfl, hc⟩ := h.2
  refine .inr ⟨c, r ++ v, rfl, ?_⟩
  have hn : c.toNat = 32 ∨ c.toNat = 9 ∨ c.toNat = 10 ∨ c.toNat = 13 ∨ c.toNat = 35 := by
    rcases hc with hc | hc
    · simp [isBlank] at hc; omega
    · omega
  refine ⟨?_, by omega, by omega, by omega, by omega, by omega⟩
  simp only [isWord, isLetter, isDigit, Bool.or_eq_false_iff, beq_eq_false_iff_ne, Bool.and_eq_false_iff, decide_eq_false_iff_not]
  omega
theorem Gap.J {bl : List UInt8} (h : Gap bl) (v : List UInt8) : J (bl ++ v) 0 = shJ bl.length (J v 0) := by
  rw [← J_shift]
  unfold Lex.J
  congr 1
  rw [skip_shift]
  simp only [skipTo, List.drop_zero, h.1]; omega
theorem gap_space : Gap [32] := ⟨fun v => by simp [sk, isBlank], _, _, rfl, by decide⟩
theorem gap_tabs : Gap [9, 13] := ⟨fun v => by simp [sk, isBlank]; omega, _, _, rfl, by decide⟩
theorem gap_lf : Gap [10] := ⟨fun v => by simp [sk, isBlank], _, _, rfl, by decide⟩
theorem sk_com {v : List UInt8} : ∀ r : List UInt8, (∀ c ∈ r, c.toNat ≠ 10) → sk true (r ++ 10 :: v) = r.length + 1 + sk false v
  | [], _ => by simp [sk]
  | c :: r, h => by
    have hc := h c (by simp)
    simp only [List.cons_append, sk, if_neg hc, List.length_cons]
    rw [sk_com r (fun c hc => h c (by simp [hc]))]; omega
theorem gap_comment (r : List UInt8) (h : ∀ c ∈ r, c.toNat ≠ 10) : Gap (35 :: r ++ [10]) := by
  refine ⟨fun v => ?_, 35, r ++ [10], rfl, .inr (by decide)⟩
  have := sk_com (v := v) r h
  simp [sk, isBlank]
  rw [this]; omega
theorem gaps_ok {l bl : List UInt8} {ts : List Tok} (hl : l.length + bl.length < 65536) (hg : Gap bl) (h : lex l = .inr ts) (i : Nat) (hi : i < ts.length) :
    ∃ (p : Nat) (t : Tok), ts[i]? = some t ∧ t.at_ = (p : Int) ∧ p ≤ l.length ∧ (∃ ms, lex ((if p = l.length then l ++ [10] else l.take p) ++ bl ++ l.drop p) = .inr ms ∧ ms.map noAt = ts.map noAt) := by
  have h0 := h
  rw [lex_J (by omega)] at h
  obtain ⟨k, t, hr, ht, hk, hat, hrest, hlast, hfst⟩ := J_ok _ 0 ts (Nat.le_refl _) (by omega) h i hi
  have hsl := skipTo_le l k hk
  have hge := skipTo_ge l k
  refine ⟨skipTo l k, t, ht, hat.symm, hsl, ?_⟩
  split
  · rename_i hp
    rw [hp, List.drop_eq_nil_of_le (Nat.le_refl _), List.append_nil]
    obtain ⟨ts', h1, h2⟩ := joins_ok (b := bl) (by omega) h0
    have hbl : lex bl = .inr [⟨5, bl.length, [], 0⟩] := by
      rw [lex_J (by omega), ← List.append_nil bl, hg.J]
      simp only [List.append_nil]
      have : J [] 0 = .inr [⟨5, 0, [], 0⟩] := by unfold J; rw [lexJ_end (by simp)]; rfl
      rw [this]; simp [shJ, shTok]
    rw [hbl] at h2
    simp only [shJ, addAll, List.map] at h2
    rw [← pre_cons l bl, h2]
    refine ⟨_, rfl, ?_⟩
    rw [h1]; simp [noAt, shTok]
  · rename_i hp
    have hlt : skipTo l k < l.length := by omega
    generalize hu : l.take (skipTo l k) = u
    generalize hv : l.drop (skipTo l k) = v
    have huv : u ++ v = l := by rw [← hu, ← hv]; exact List.take_append_drop _ _
    have hul : u.length = skipTo l k := by rw [← hu]; simp; omega
    have hvn : v ≠ [] := by rw [← hv]; intro e; have := congrArg List.length e; simp at this; omega
    rw [lex_J (by simp [← hv, hul]; omega), List.append_assoc]
    rw [← huv] at hr
    rw [(hr.tail (hg.stops v) (by omega)).J]
    have hsk : skipTo (u ++ (bl ++ v)) k = skipTo (u ++ (bl ++ v)) u.length := by
      have e1 : skipTo (u ++ (bl ++ v)) u.length = u.length + sk false (bl ++ v) := by simp [skipTo]
      rw [e1]
      have h2 : skipTo (u ++ v) k = u.length := by rw [huv, hul]
      simp only [skipTo] at h2 ⊢
      rw [drop_app (by omega)] at h2
      rw [drop_app (by omega), sk_at (v := v) hvn _ _ (by simp only [List.length_drop]; omega)]
      simp only [List.length_drop]; omega
    have hJ : J (u ++ (bl ++ v)) k = shJ u.length (shJ bl.length (J v 0)) := by
      rw [← hg.J, ← J_shift]
      unfold J
      rw [hsk]; rfl
    have hJv : shJ u.length (J v 0) = .inr (ts.drop i) := by
      rw [← hrest, ← J_shift, huv]
      unfold J
      congr 1
      rw [Nat.add_zero, hul]
      have : skipTo (u ++ v) u.length = u.length := by
        have h2 : skipTo (u ++ v) k = u.length := by rw [huv, hul]
        simp only [skipTo] at h2 ⊢
        rw [drop_app (by omega)] at h2
        have := sk_at (w := v) hvn (u.drop k) false (by simp only [List.length_drop]; omega)
        simp only [List.length_drop] at this
        simp; omega
      rw [huv, hul] at this
      exact this
    rw [hJ]
    cases hv0 : J v 0 with
    | inl x => rw [hv0] at hJv; cases hJv
    | inr vs =>
      rw [hv0] at hJv
      injection hJv with hJv
      refine ⟨_, rfl, ?_⟩
      simp only [List.map_append, noAt_sh]
      rw [← noAt_sh u.length vs, hJv, ← List.map_append, List.take_append_drop]
end Go.Shadow.Lex

/- Shadow code of the lexer's laws, of its specification and of its printer (printed by a program). -/
namespace Go.Shadow.Lex
open Go Go.RowKit Go.Proofs
/-- quietus/quietuslaw31.LexerReadsAsSpecified -/
def sc3 : SC := (.seq (.region [⟨(some 2), (.mv (.c (.bool false))), none⟩] (some [0])) (.seq (.seq (.region [⟨(some 7), (.mv (.t 0)), none⟩, ⟨(some 8), (.len true (.t 7)), none⟩, ⟨(some 9), (.bin .gtr (.t 8) (.c (.int .i64 70000))), none⟩] (some [0, 9])) (.cond (.t 9) (some [0]) (.seq (.region [⟨(some 10), (.call 11 []), none⟩, ⟨(some 2), (.mv (.t 10)), none⟩] (some [2])) .ret) .skip)) (.seq (.region [⟨(some 12), (.mv (.t 0)), none⟩, ⟨(some 13), (.call 12 [(.t 12)]), none⟩, ⟨(some 11), (.mv (.t 13)), none⟩, ⟨(some 14), (.extract 0 (.t 11)), none⟩, ⟨(some 15), (.extract 1 (.t 11)), none⟩, ⟨(some 4), (.alloc [(.int .i64 0), (.int .i64 0)]), none⟩, ⟨(some 3), (.mv (.t 14)), none⟩, ⟨none, (.store 2 (.t 4) (.t 15)), none⟩] (some [0, 3, 4])) (.seq (.region [⟨(some 16), (.mv (.t 0)), none⟩, ⟨(some 17), (.call 13 [(.t 16)]), none⟩, ⟨(some 5), (.alloc [(.slice .nil 0 []), (.int .i64 0), (.int .i64 0)]), none⟩, ⟨none, (.store 3 (.t 5) (.t 17)), none⟩] (some [3, 4, 5])) (.seq (.seq (.region [⟨(some 18), (.load true 2 (.t 4)), none⟩, ⟨(some 19), (.faddr 1 (.t 5)), none⟩, ⟨(some 20), (.load true 2 (.t 19)), none⟩, ⟨(some 21), (.eqs true [0, 0] (.t 18) (.t 20)), none⟩, ⟨(some 22), (.mv (.t 21)), none⟩, ⟨(some 23), (.mv (.t 3)), (some (22, false))⟩, ⟨(some 24), (.len false (.t 23)), (some (22, false))⟩, ⟨(some 25), (.faddr 0 (.t 5)), (some (22, false))⟩, ⟨(some 26), (.load false 1 (.t 25)), (some (22, false))⟩, ⟨(some 27), (.len false (.t 26)), (some (22, false))⟩, ⟨(some 28), (.bin .neq (.t 24) (.t 27)), (some (22, false))⟩, ⟨(some 29), (.pick (.t 22) (.c (.bool true)) (.t 28)), none⟩] (some [3, 5, 29])) (.cond (.t 29) (some [3, 5]) (.seq (.region [⟨(some 2), (.mv (.c (.bool false))), none⟩] (some [2])) .ret) .skip)) (.seq (.seq (.region [⟨(some 6), (.mv (.c (.int .i64 0))), none⟩] (some [3, 5, 6])) (.block 0 (.loop (.seq (.seq (.region [⟨(some 30), (.mv (.t 6)), none⟩, ⟨(some 31), (.mv (.t 3)), none⟩, ⟨(some 32), (.len false (.t 31)), none⟩, ⟨(some 33), (.bin .lss (.t 30) (.t 32)), none⟩] (some [3, 5, 6, 33])) (.cond (.t 33) (some [3, 5, 6]) .skip (.exit 0))) (.seq (.block 1 (.seq (.region [⟨(some 36), (.mv (.t 3)), none⟩, ⟨(some 37), (.mv (.t 6)), none⟩, ⟨(some 38), (.iaddr 4 (.t 36) (.t 37)), none⟩, ⟨(some 39), (.load true 4 (.t 38)), none⟩, ⟨(some 40), (.faddr 0 (.t 5)), none⟩, ⟨(some 41), (.load false 1 (.t 40)), none⟩, ⟨(some 42), (.mv (.t 6)), none⟩, ⟨(some 43), (.iaddr 4 (.t 41) (.t 42)), none⟩, ⟨(some 44), (.load true 4 (.t 43)), none⟩, ⟨(some 45), (.eqs true [0, 0, 2, 0] (.t 39) (.t 44)), none⟩] (some [3, 5, 6, 45])) (.cond (.t 45) (some [3, 5, 6]) (.seq (.region [⟨(some 2), (.mv (.c (.bool false))), none⟩] (some [2])) .ret) .skip))) (.region [⟨(some 34), (.mv (.t 6)), none⟩, ⟨(some 35), (.bin .add (.t 34) (.c (.int .i64 1))), none⟩, ⟨(some 6), (.mv (.t 35)), none⟩] (some [3, 5, 6]))))))) (.seq (.region [⟨(some 46), (.call 11 []), none⟩, ⟨(some 2), (.mv (.t 46)), none⟩] (some [2])) .ret)))))))
theorem code3 : IsCode Tryz.prog 3 sc3 [(2, none)] 47 := .mk' Tryz.func3 (by kernel_rfl) (by kernel_rfl) (by kernel_rfl) (by kernel_rfl)
/-- quietus/quietuslaw31.LexerPrintsAsSpecified -/
def sc4 : SC := (.seq (.region [⟨(some 2), (.mv (.c (.bool false))), none⟩] (some [0])) (.seq (.seq (.region [⟨(some 4), (.mv (.t 0)), none⟩, ⟨(some 5), (.len false (.t 4)), none⟩, ⟨(some 6), (.bin .gtr (.t 5) (.c (.int .i64 200))), none⟩] (some [0, 6])) (.cond (.t 6) (some [0]) (.seq (.region [⟨(some 7), (.call 11 []), none⟩, ⟨(some 2), (.mv (.t 7)), none⟩] (some [2])) .ret) .skip)) (.seq (.seq (.region [⟨(some 3), (.mv (.c (.int .i64 0))), none⟩] (some [0, 3])) (.block 0 (.loop (.seq (.seq (.region [⟨(some 8), (.mv (.t 3)), none⟩, ⟨(some 9), (.mv (.t 0)), none⟩, ⟨(some 10), (.len false (.t 9)), none⟩, ⟨(some 11), (.bin .lss (.t 8) (.t 10)), none⟩] (some [0, 3, 11])) (.cond (.t 11) (some [0, 3]) .skip (.exit 0))) (.seq (.block 1 (.seq (.region [⟨(some 14), (.mv (.t 0)), none⟩, ⟨(some 15), (.mv (.t 3)), none⟩, ⟨(some 16), (.iaddr 4 (.t 14) (.t 15)), none⟩, ⟨(some 17), (.faddr 2 (.t 16)), none⟩, ⟨(some 18), (.load false 1 (.t 17)), none⟩, ⟨(some 19), (.len true (.t 18)), none⟩, ⟨(some 20), (.bin .gtr (.t 19) (.c (.int .i64 400))), none⟩] (some [0, 3, 20])) (.cond (.t 20) (some [0, 3]) (.seq (.region [⟨(some 21), (.call 11 []), none⟩, ⟨(some 2), (.mv (.t 21)), none⟩] (some [2])) .ret) .skip))) (.region [⟨(some 12), (.mv (.t 3)), none⟩, ⟨(some 13), (.bin .add (.t 12) (.c (.int .i64 1))), none⟩, ⟨(some 3), (.mv (.t 13)), none⟩] (some [0, 3]))))))) (.seq (.region [⟨(some 22), (.call 11 []), none⟩, ⟨(some 23), (.mv (.t 22)), none⟩, ⟨(some 24), (.mv (.t 0)), (some (23, true))⟩, ⟨(some 25), (.call 14 [(.t 24)]), (some (23, true))⟩, ⟨(some 26), (.mv (.t 0)), (some (23, true))⟩, ⟨(some 27), (.call 15 [(.t 26)]), (some (23, true))⟩, ⟨(some 28), (.bins .eql (.t 25) (.t 27)), (some (23, true))⟩, ⟨(some 29), (.pick (.t 23) (.t 28) (.c (.bool false))), none⟩, ⟨(some 2), (.mv (.t 29)), none⟩] (some [2])) .ret))))
theorem code4 : IsCode Tryz.prog 4 sc4 [(2, none)] 30 := .mk' Tryz.func4 (by kernel_rfl) (by kernel_rfl) (by kernel_rfl) (by kernel_rfl)
/-- quietus/quietuslaw31.LexerFindsPositions -/
def sc5 : SC := (.seq (.region [⟨(some 4), (.mv (.c (.bool false))), none⟩] (some [0, 1])) (.seq (.seq (.region [⟨(some 7), (.mv (.t 0)), none⟩, ⟨(some 8), (.len true (.t 7)), none⟩, ⟨(some 9), (.bin .gtr (.t 8) (.c (.int .i64 2000))), none⟩] (some [0, 1, 9])) (.cond (.t 9) (some [0, 1]) (.seq (.region [⟨(some 10), (.call 11 []), none⟩, ⟨(some 4), (.mv (.t 10)), none⟩] (some [4])) .ret) .skip)) (.seq (.region [⟨(some 12), (.mv (.t 0)), none⟩, ⟨(some 13), (.mv (.t 1)), none⟩, ⟨(some 14), (.call 16 [(.t 12), (.t 13)]), none⟩, ⟨(some 11), (.mv (.t 14)), none⟩, ⟨(some 15), (.extract 0 (.t 11)), none⟩, ⟨(some 16), (.extract 1 (.t 11)), none⟩, ⟨(some 5), (.mv (.t 15)), none⟩, ⟨(some 6), (.mv (.t 16)), none⟩] (some [0, 1, 5, 6])) (.seq (.region [⟨(some 17), (.call 11 []), none⟩, ⟨(some 18), (.mv (.t 17)), none⟩, ⟨(some 19), (.mv (.t 5)), (some (18, true))⟩, ⟨(some 20), (.mv (.t 6)), (some (18, true))⟩, ⟨(some 21), (.build [(.int .i64 0), (.int .i64 0)] [(0, (1, (.t 19))), (1, (1, (.t 20)))]), (some (18, true))⟩, ⟨(some 22), (.mv (.t 0)), (some (18, true))⟩, ⟨(some 23), (.mv (.t 1)), (some (18, true))⟩, ⟨(some 24), (.call 17 [(.t 22), (.t 23)]), (some (18, true))⟩, ⟨(some 25), (.eqs false [0, 0] (.t 21) (.t 24)), (some (18, true))⟩, ⟨(some 26), (.pick (.t 18) (.t 25) (.c (.bool false))), none⟩, ⟨(some 4), (.mv (.t 26)), none⟩] (some [4])) .ret))))
theorem code5 : IsCode Tryz.prog 5 sc5 [(4, none)] 27 := .mk' Tryz.func5 (by kernel_rfl) (by kernel_rfl) (by kernel_rfl) (by kernel_rfl)
/-- quietus/quietuslaw31.LexerReadsItsText -/
def sc6 : SC := (.seq (.region [⟨(some 2), (.mv (.c (.bool false))), none⟩] (some [0])) (.seq (.seq (.region [⟨(some 8), (.mv (.t 0)), none⟩, ⟨(some 9), (.len true (.t 8)), none⟩, ⟨(some 10), (.bin .gtr (.t 9) (.c (.int .i64 2000))), none⟩] (some [0, 10])) (.cond (.t 10) (some [0]) (.seq (.region [⟨(some 11), (.call 11 []), none⟩, ⟨(some 2), (.mv (.t 11)), none⟩] (some [2])) .ret) .skip)) (.seq (.region [⟨(some 13), (.mv (.t 0)), none⟩, ⟨(some 14), (.call 12 [(.t 13)]), none⟩, ⟨(some 12), (.mv (.t 14)), none⟩, ⟨(some 15), (.extract 0 (.t 12)), none⟩, ⟨(some 16), (.extract 1 (.t 12)), none⟩, ⟨(some 4), (.alloc [(.int .i64 0), (.int .i64 0)]), none⟩, ⟨(some 3), (.mv (.t 15)), none⟩, ⟨none, (.store 2 (.t 4) (.t 16)), none⟩] (some [3, 4])) (.seq (.seq (.region [⟨(some 17), (.faddr 1 (.t 4)), none⟩, ⟨(some 18), (.load false 1 (.t 17)), none⟩, ⟨(some 19), (.bin .neq (.t 18) (.c (.int .i64 0))), none⟩] (some [3, 19])) (.cond (.t 19) (some [3]) (.seq (.region [⟨(some 20), (.call 11 []), none⟩, ⟨(some 21), (.mv (.t 20)), none⟩, ⟨(some 22), (.mv (.t 3)), (some (21, true))⟩, ⟨(some 23), (.len false (.t 22)), (some (21, true))⟩, ⟨(some 24), (.bin .eql (.t 23) (.c (.int .i64 0))), (some (21, true))⟩, ⟨(some 25), (.pick (.t 21) (.t 24) (.c (.bool false))), none⟩, ⟨(some 2), (.mv (.t 25)), none⟩] (some [2])) .ret) .skip)) (.seq (.region [⟨(some 26), (.mv (.t 3)), none⟩, ⟨(some 27), (.call 14 [(.t 26)]), none⟩, ⟨(some 5), (.mv (.t 27)), none⟩] (some [3, 5])) (.seq (.region [⟨(some 29), (.mv (.t 5)), none⟩, ⟨(some 30), (.call 12 [(.t 29)]), none⟩, ⟨(some 28), (.mv (.t 30)), none⟩, ⟨(some 31), (.extract 0 (.t 28)), none⟩, ⟨(some 32), (.extract 1 (.t 28)), none⟩, ⟨(some 7), (.alloc [(.int .i64 0), (.int .i64 0)]), none⟩, ⟨(some 6), (.mv (.t 31)), none⟩, ⟨none, (.store 2 (.t 7) (.t 32)), none⟩] (some [3, 5, 6, 7])) (.seq (.region [⟨(some 33), (.call 11 []), none⟩, ⟨(some 34), (.mv (.t 33)), none⟩, ⟨(some 35), (.load true 2 (.t 7)), (some (34, true))⟩, ⟨(some 36), (.build [(.int .i64 0), (.int .i64 0)] []), (some (34, true))⟩, ⟨(some 37), (.eqs false [0, 0] (.t 35) (.t 36)), (some (34, true))⟩, ⟨(some 38), (.pick (.t 34) (.t 37) (.c (.bool false))), none⟩, ⟨(some 39), (.mv (.t 38)), none⟩, ⟨(some 40), (.mv (.t 3)), (some (39, true))⟩, ⟨(some 41), (.mv (.t 6)), (some (39, true))⟩, ⟨(some 42), (.call 18 [(.t 40), (.t 41)]), (some (39, true))⟩, ⟨(some 43), (.pick (.t 39) (.t 42) (.c (.bool false))), none⟩, ⟨(some 44), (.mv (.t 43)), none⟩, ⟨(some 45), (.mv (.t 6)), (some (44, true))⟩, ⟨(some 46), (.call 14 [(.t 45)]), (some (44, true))⟩, ⟨(some 47), (.mv (.t 5)), (some (44, true))⟩, ⟨(some 48), (.bins .eql (.t 46) (.t 47)), (some (44, true))⟩, ⟨(some 49), (.pick (.t 44) (.t 48) (.c (.bool false))), none⟩, ⟨(some 2), (.mv (.t 49)), none⟩] (some [2])) .ret)))))))
theorem code6 : IsCode Tryz.prog 6 sc6 [(2, none)] 50 := .mk' Tryz.func6 (by kernel_rfl) (by kernel_rfl) (by kernel_rfl) (by kernel_rfl)
/-- quietus/quietuslaw31.LexerJoinsSources -/
def sc7 : SC := (.seq (.region [⟨(some 4), (.mv (.c (.bool false))), none⟩] (some [0, 1])) (.seq (.seq (.region [⟨(some 14), (.mv (.t 0)), none⟩, ⟨(some 15), (.len true (.t 14)), none⟩, ⟨(some 16), (.bin .gtr (.t 15) (.c (.int .i64 2000))), none⟩, ⟨(some 17), (.mv (.t 16)), none⟩, ⟨(some 18), (.mv (.t 1)), (some (17, false))⟩, ⟨(some 19), (.len true (.t 18)), (some (17, false))⟩, ⟨(some 20), (.bin .gtr (.t 19) (.c (.int .i64 2000))), (some (17, false))⟩, ⟨(some 21), (.pick (.t 17) (.c (.bool true)) (.t 20)), none⟩] (some [0, 1, 21])) (.cond (.t 21) (some [0, 1]) (.seq (.region [⟨(some 22), (.call 11 []), none⟩, ⟨(some 4), (.mv (.t 22)), none⟩] (some [4])) .ret) .skip)) (.seq (.region [⟨(some 24), (.mv (.t 0)), none⟩, ⟨(some 25), (.call 12 [(.t 24)]), none⟩, ⟨(some 23), (.mv (.t 25)), none⟩, ⟨(some 26), (.extract 0 (.t 23)), none⟩, ⟨(some 27), (.extract 1 (.t 23)), none⟩, ⟨(some 6), (.alloc [(.int .i64 0), (.int .i64 0)]), none⟩, ⟨(some 5), (.mv (.t 26)), none⟩, ⟨none, (.store 2 (.t 6) (.t 27)), none⟩] (some [0, 1, 5, 6])) (.seq (.region [⟨(some 29), (.mv (.t 1)), none⟩, ⟨(some 30), (.call 12 [(.t 29)]), none⟩, ⟨(some 28), (.mv (.t 30)), none⟩, ⟨(some 31), (.extract 0 (.t 28)), none⟩, ⟨(some 32), (.extract 1 (.t 28)), none⟩, ⟨(some 8), (.alloc [(.int .i64 0), (.int .i64 0)]), none⟩, ⟨(some 7), (.mv (.t 31)), none⟩, ⟨none, (.store 2 (.t 8) (.t 32)), none⟩] (some [0, 1, 5, 6, 7, 8])) (.seq (.region [⟨(some 34), (.mv (.t 0)), none⟩, ⟨(some 35), (.bins .add (.t 34) (.c (.str [10]))), none⟩, ⟨(some 36), (.mv (.t 1)), none⟩, ⟨(some 37), (.bins .add (.t 35) (.t 36)), none⟩, ⟨(some 38), (.call 12 [(.t 37)]), none⟩, ⟨(some 33), (.mv (.t 38)), none⟩, ⟨(some 39), (.extract 0 (.t 33)), none⟩, ⟨(some 40), (.extract 1 (.t 33)), none⟩, ⟨(some 10), (.alloc [(.int .i64 0), (.int .i64 0)]), none⟩, ⟨(some 9), (.mv (.t 39)), none⟩, ⟨none, (.store 2 (.t 10) (.t 40)), none⟩] (some [0, 5, 6, 7, 8, 9, 10])) (.seq (.seq (.region [⟨(some 41), (.faddr 1 (.t 6)), none⟩, ⟨(some 42), (.load false 1 (.t 41)), none⟩, ⟨(some 43), (.bin .neq (.t 42) (.c (.int .i64 0))), none⟩] (some [0, 5, 6, 7, 8, 9, 10, 43])) (.cond (.t 43) (some [0, 5, 6, 7, 8, 9, 10]) (.seq (.region [⟨(some 44), (.call 11 []), none⟩, ⟨(some 45), (.mv (.t 44)), none⟩, ⟨(some 46), (.load true 2 (.t 10)), (some (45, true))⟩, ⟨(some 47), (.load true 2 (.t 6)), (some (45, true))⟩, ⟨(some 48), (.eqs false [0, 0] (.t 46) (.t 47)), (some (45, true))⟩, ⟨(some 49), (.pick (.t 45) (.t 48) (.c (.bool false))), none⟩, ⟨(some 4), (.mv (.t 49)), none⟩] (some [4])) .ret) .skip)) (.seq (.seq (.region [⟨(some 50), (.faddr 1 (.t 8)), none⟩, ⟨(some 51), (.load false 1 (.t 50)), none⟩, ⟨(some 52), (.bin .neq (.t 51) (.c (.int .i64 0))), none⟩] (some [0, 5, 7, 8, 9, 10, 52])) (.cond (.t 52) (some [0, 5, 7, 8, 9, 10]) (.seq (.region [⟨(some 53), (.call 11 []), none⟩, ⟨(some 54), (.mv (.t 53)), none⟩, ⟨(some 55), (.load true 2 (.t 10)), (some (54, true))⟩, ⟨(some 56), (.faddr 0 (.t 8)), (some (54, true))⟩, ⟨(some 57), (.load false 1 (.t 56)), (some (54, true))⟩, ⟨(some 58), (.mv (.t 0)), (some (54, true))⟩, ⟨(some 59), (.len true (.t 58)), (some (54, true))⟩, ⟨(some 60), (.bin .add (.t 57) (.t 59)), (some (54, true))⟩, ⟨(some 61), (.bin .add (.t 60) (.c (.int .i64 1))), (some (54, true))⟩, ⟨(some 62), (.faddr 1 (.t 8)), (some (54, true))⟩, ⟨(some 63), (.load false 1 (.t 62)), (some (54, true))⟩, ⟨(some 64), (.build [(.int .i64 0), (.int .i64 0)] [(0, (1, (.t 61))), (1, (1, (.t 63)))]), (some (54, true))⟩, ⟨(some 65), (.eqs false [0, 0] (.t 55) (.t 64)), (some (54, true))⟩, ⟨(some 66), (.pick (.t 54) (.t 65) (.c (.bool false))), none⟩, ⟨(some 4), (.mv (.t 66)), none⟩] (some [4])) .ret) .skip)) (.seq (.region [⟨(some 67), (.mv (.t 5)), none⟩, ⟨(some 68), (.len false (.t 67)), none⟩, ⟨(some 69), (.bin .sub (.t 68) (.c (.int .i64 1))), none⟩, ⟨(some 11), (.mv (.t 69)), none⟩] (some [0, 5, 7, 9, 10, 11])) (.seq (.seq (.region [⟨(some 70), (.faddr 1 (.t 10)), none⟩, ⟨(some 71), (.load false 1 (.t 70)), none⟩, ⟨(some 72), (.bin .neq (.t 71) (.c (.int .i64 0))), none⟩, ⟨(some 73), (.mv (.t 72)), none⟩, ⟨(some 74), (.mv (.t 11)), (some (73, false))⟩, ⟨(some 75), (.bin .lss (.t 74) (.c (.int .i64 0))), (some (73, false))⟩, ⟨(some 76), (.pick (.t 73) (.c (.bool true)) (.t 75)), none⟩, ⟨(some 77), (.mv (.t 76)), none⟩, ⟨(some 78), (.mv (.t 9)), (some (77, false))⟩, ⟨(some 79), (.len false (.t 78)), (some (77, false))⟩, ⟨(some 80), (.mv (.t 11)), (some (77, false))⟩, ⟨(some 81), (.mv (.t 7)), (some (77, false))⟩, ⟨(some 82), (.len false (.t 81)), (some (77, false))⟩, ⟨(some 83), (.bin .add (.t 80) (.t 82)), (some (77, false))⟩, ⟨(some 84), (.bin .neq (.t 79) (.t 83)), (some (77, false))⟩, ⟨(some 85), (.pick (.t 77) (.c (.bool true)) (.t 84)), none⟩] (some [0, 5, 7, 9, 11, 85])) (.cond (.t 85) (some [0, 5, 7, 9, 11]) (.seq (.region [⟨(some 4), (.mv (.c (.bool false))), none⟩] (some [4])) .ret) .skip)) (.seq (.seq (.region [⟨(some 12), (.mv (.c (.int .i64 0))), none⟩] (some [0, 5, 7, 9, 11, 12])) (.block 0 (.loop (.seq (.seq (.region [⟨(some 86), (.mv (.t 12)), none⟩, ⟨(some 87), (.mv (.t 9)), none⟩, ⟨(some 88), (.len false (.t 87)), none⟩, ⟨(some 89), (.bin .lss (.t 86) (.t 88)), none⟩] (some [0, 5, 7, 9, 11, 12, 89])) (.cond (.t 89) (some [0, 5, 7, 9, 11, 12]) .skip (.exit 0))) (.seq (.block 1 (.seq (.region [⟨(some 13), (.alloc [(.int .i64 0), (.int .i64 0), (.str []), (.int .i64 0)]), none⟩] (some [0, 5, 7, 9, 11, 12, 13])) (.seq (.seq (.region [⟨(some 92), (.mv (.t 12)), none⟩, ⟨(some 93), (.mv (.t 11)), none⟩, ⟨(some 94), (.bin .lss (.t 92) (.t 93)), none⟩] (some [0, 5, 7, 9, 11, 12, 13, 94])) (.cond (.t 94) (some [0, 5, 7, 9, 11, 12, 13]) (.region [⟨(some 95), (.mv (.t 5)), none⟩, ⟨(some 96), (.mv (.t 12)), none⟩, ⟨(some 97), (.iaddr 4 (.t 95) (.t 96)), none⟩, ⟨(some 98), (.load true 4 (.t 97)), none⟩, ⟨none, (.store 4 (.t 13) (.t 98)), none⟩] (some [0, 5, 7, 9, 11, 12, 13])) (.seq (.region [⟨(some 99), (.mv (.t 7)), none⟩, ⟨(some 100), (.mv (.t 12)), none⟩, ⟨(some 101), (.mv (.t 11)), none⟩, ⟨(some 102), (.bin .sub (.t 100) (.t 101)), none⟩, ⟨(some 103), (.iaddr 4 (.t 99) (.t 102)), none⟩, ⟨(some 104), (.load true 4 (.t 103)), none⟩, ⟨none, (.store 4 (.t 13) (.t 104)), none⟩] (some [0, 5, 7, 9, 11, 12, 13])) (.region [⟨(some 105), (.faddr 1 (.t 13)), none⟩, ⟨(some 106), (.load false 1 (.t 105)), none⟩, ⟨(some 107), (.mv (.t 0)), none⟩, ⟨(some 108), (.len true (.t 107)), none⟩, ⟨(some 109), (.bin .add (.t 108) (.c (.int .i64 1))), none⟩, ⟨(some 110), (.bin .add (.t 106) (.t 109)), none⟩, ⟨(some 111), (.faddr 1 (.t 13)), none⟩, ⟨none, (.store 1 (.t 111) (.t 110)), none⟩] (some [0, 5, 7, 9, 11, 12, 13]))))) (.seq (.region [⟨(some 112), (.mv (.t 9)), none⟩, ⟨(some 113), (.mv (.t 12)), none⟩, ⟨(some 114), (.iaddr 4 (.t 112) (.t 113)), none⟩, ⟨(some 115), (.load true 4 (.t 114)), none⟩, ⟨(some 116), (.load true 4 (.t 13)), none⟩, ⟨(some 117), (.eqs true [0, 0, 2, 0] (.t 115) (.t 116)), none⟩] (some [0, 5, 7, 9, 11, 12, 117])) (.cond (.t 117) (some [0, 5, 7, 9, 11, 12]) (.seq (.region [⟨(some 4), (.mv (.c (.bool false))), none⟩] (some [4])) .ret) .skip))))) (.region [⟨(some 90), (.mv (.t 12)), none⟩, ⟨(some 91), (.bin .add (.t 90) (.c (.int .i64 1))), none⟩, ⟨(some 12), (.mv (.t 91)), none⟩] (some [0, 5, 7, 9, 11, 12]))))))) (.seq (.region [⟨(some 118), (.call 11 []), none⟩, ⟨(some 4), (.mv (.t 118)), none⟩] (some [4])) .ret)))))))))))
theorem code7 : IsCode Tryz.prog 7 sc7 [(4, none)] 119 := .mk' Tryz.func7 (by kernel_rfl) (by kernel_rfl) (by kernel_rfl) (by kernel_rfl)
/-- quietus/quietuslaw31.LexerIgnoresBlanks -/
def sc8 : SC := (.seq (.region [⟨(some 5), (.box (.t 2)), none⟩, ⟨(some 6), (.mv (.c (.bool false))), none⟩] (some [0, 1, 5])) (.seq (.region [⟨(some 18), (.iaddrA 1 2 (.t 5) (.c (.int .i64 0))), none⟩, ⟨(some 19), (.load false 1 (.t 18)), none⟩, ⟨(some 20), (.iaddrA 1 2 (.t 5) (.c (.int .i64 1))), none⟩, ⟨(some 21), (.load false 1 (.t 20)), none⟩, ⟨(some 7), (.mv (.t 19)), none⟩, ⟨(some 8), (.mv (.t 21)), none⟩] (some [0, 1, 7, 8])) (.seq (.seq (.region [⟨(some 22), (.mv (.t 0)), none⟩, ⟨(some 23), (.len true (.t 22)), none⟩, ⟨(some 24), (.bin .gtr (.t 23) (.c (.int .i64 2000))), none⟩, ⟨(some 25), (.mv (.t 24)), none⟩, ⟨(some 26), (.mv (.t 1)), (some (25, false))⟩, ⟨(some 27), (.len true (.t 26)), (some (25, false))⟩, ⟨(some 28), (.bin .gtr (.t 27) (.c (.int .i64 100))), (some (25, false))⟩, ⟨(some 29), (.pick (.t 25) (.c (.bool true)) (.t 28)), none⟩] (some [0, 1, 7, 8, 29])) (.cond (.t 29) (some [0, 1, 7, 8]) (.seq (.region [⟨(some 30), (.call 11 []), none⟩, ⟨(some 6), (.mv (.t 30)), none⟩] (some [6])) .ret) .skip)) (.seq (.region [⟨(some 32), (.mv (.t 0)), none⟩, ⟨(some 33), (.call 12 [(.t 32)]), none⟩, ⟨(some 31), (.mv (.t 33)), none⟩, ⟨(some 34), (.extract 0 (.t 31)), none⟩, ⟨(some 35), (.extract 1 (.t 31)), none⟩, ⟨(some 10), (.alloc [(.int .i64 0), (.int .i64 0)]), none⟩, ⟨(some 9), (.mv (.t 34)), none⟩, ⟨none, (.store 2 (.t 10) (.t 35)), none⟩] (some [0, 1, 7, 8, 9, 10])) (.seq (.seq (.region [⟨(some 36), (.faddr 1 (.t 10)), none⟩, ⟨(some 37), (.load false 1 (.t 36)), none⟩, ⟨(some 38), (.bin .neq (.t 37) (.c (.int .i64 0))), none⟩] (some [0, 1, 7, 8, 9, 38])) (.cond (.t 38) (some [0, 1, 7, 8, 9]) (.seq (.region [⟨(some 39), (.call 11 []), none⟩, ⟨(some 6), (.mv (.t 39)), none⟩] (some [6])) .ret) .skip)) (.seq (.seq (.region [⟨(some 40), (.mv (.t 9)), none⟩, ⟨(some 41), (.len false (.t 40)), none⟩, ⟨(some 42), (.bin .eql (.t 41) (.c (.int .i64 0))), none⟩] (some [0, 1, 7, 8, 9, 42])) (.cond (.t 42) (some [0, 1, 7, 8, 9]) (.seq (.region [⟨(some 6), (.mv (.c (.bool false))), none⟩] (some [6])) .ret) .skip)) (.seq (.region [⟨(some 43), (.mv (.t 9)), none⟩, ⟨(some 44), (.mv (.t 7)), none⟩, ⟨(some 45), (.i2i .i64 (.t 44)), none⟩, ⟨(some 46), (.mv (.t 9)), none⟩, ⟨(some 47), (.len false (.t 46)), none⟩, ⟨(some 48), (.bin .rem (.t 45) (.t 47)), none⟩, ⟨(some 49), (.iaddr 4 (.t 43) (.t 48)), none⟩, ⟨(some 50), (.faddr 1 (.t 49)), none⟩, ⟨(some 51), (.load false 1 (.t 50)), none⟩, ⟨(some 11), (.mv (.t 51)), none⟩] (some [0, 1, 8, 9, 11])) (.seq (.region [⟨(some 12), (.mv (.c (.slice .nil 0 []))), none⟩] (some [0, 1, 8, 9, 11, 12])) (.seq (.seq (.region [⟨(some 13), (.mv (.c (.int .i64 0))), none⟩] (some [0, 1, 8, 9, 11, 12, 13])) (.block 0 (.loop (.seq (.seq (.region [⟨(some 52), (.mv (.t 13)), none⟩, ⟨(some 53), (.mv (.t 1)), none⟩, ⟨(some 54), (.len true (.t 53)), none⟩, ⟨(some 55), (.bin .lss (.t 52) (.t 54)), none⟩] (some [0, 1, 8, 9, 11, 12, 13, 55])) (.cond (.t 55) (some [0, 1, 8, 9, 11, 12, 13]) .skip (.exit 0))) (.seq (.block 1 (.seq (.region [⟨(some 58), (.mv (.t 1)), none⟩, ⟨(some 59), (.mv (.t 13)), none⟩, ⟨(some 60), (.idxs (.t 58) (.t 59)), none⟩, ⟨(some 61), (.bin .neq (.t 60) (.c (.int .u8 10))), none⟩] (some [0, 1, 8, 9, 11, 12, 13, 61])) (.cond (.t 61) (some [0, 1, 8, 9, 11, 12, 13]) (.region [⟨(some 62), (.mv (.t 12)), none⟩, ⟨(some 63), (.mv (.t 1)), none⟩, ⟨(some 64), (.mv (.t 13)), none⟩, ⟨(some 65), (.idxs (.t 63) (.t 64)), none⟩, ⟨(some 66), (.mkslice 1 [(.t 65)]), none⟩, ⟨(some 67), (.append 1 1 (.t 62) (.t 66)), none⟩, ⟨(some 12), (.mv (.t 67)), none⟩] (some [0, 1, 8, 9, 11, 12, 13])) .skip))) (.region [⟨(some 56), (.mv (.t 13)), none⟩, ⟨(some 57), (.bin .add (.t 56) (.c (.int .i64 1))), none⟩, ⟨(some 13), (.mv (.t 57)), none⟩] (some [0, 1, 8, 9, 11, 12, 13]))))))) (.seq (.region [⟨(some 68), (.mv (.t 12)), none⟩, ⟨(some 69), (.b2s (.t 68)), none⟩, ⟨(some 70), (.bins .add (.c (.str [35])) (.t 69)), none⟩, ⟨(some 71), (.bins .add (.t 70) (.c (.str [10]))), none⟩, ⟨(some 14), (.mv (.t 71)), none⟩] (some [0, 8, 9, 11, 14])) (.seq (.seq (.region [⟨(some 72), (.mv (.t 8)), none⟩, ⟨(some 73), (.bin .rem (.t 72) (.c (.int .u8 5))), none⟩] (some [0, 9, 11, 14, 73])) (.block 2 (.seq (.region [⟨(some 75), (.bin .eql (.t 73) (.c (.int .u8 0))), none⟩, ⟨(some 74), (.mv (.t 75)), none⟩] (some [0, 9, 11, 14, 73, 74])) (.cond (.t 74) (some [0, 9, 11, 14, 73]) (.region [⟨(some 14), (.mv (.c (.str [32]))), none⟩] (some [0, 9, 11, 14])) (.seq (.region [⟨(some 77), (.bin .eql (.t 73) (.c (.int .u8 1))), none⟩, ⟨(some 76), (.mv (.t 77)), none⟩] (some [0, 9, 11, 14, 73, 76])) (.cond (.t 76) (some [0, 9, 11, 14, 73]) (.region [⟨(some 14), (.mv (.c (.str [9, 13]))), none⟩] (some [0, 9, 11, 14])) (.seq (.region [⟨(some 79), (.bin .eql (.t 73) (.c (.int .u8 2))), none⟩, ⟨(some 78), (.mv (.t 79)), none⟩] (some [0, 9, 11, 14, 78])) (.cond (.t 78) (some [0, 9, 11, 14]) (.region [⟨(some 14), (.mv (.c (.str [10]))), none⟩] (some [0, 9, 11, 14])) .skip)))))))) (.seq (.region [⟨(some 80), (.mv (.t 0)), none⟩, ⟨(some 81), (.mv (.t 11)), none⟩, ⟨(some 82), (.cuts (.t 80) none (some (.t 81))), none⟩, ⟨(some 15), (.mv (.t 82)), none⟩] (some [0, 9, 11, 14, 15])) (.seq (.seq (.region [⟨(some 83), (.mv (.t 11)), none⟩, ⟨(some 84), (.mv (.t 0)), none⟩, ⟨(some 85), (.len true (.t 84)), none⟩, ⟨(some 86), (.bin .eql (.t 83) (.t 85)), none⟩] (some [0, 9, 11, 14, 15, 86])) (.cond (.t 86) (some [0, 9, 11, 14, 15]) (.region [⟨(some 87), (.mv (.t 0)), none⟩, ⟨(some 88), (.bins .add (.t 87) (.c (.str [10]))), none⟩, ⟨(some 15), (.mv (.t 88)), none⟩] (some [0, 9, 11, 14, 15])) .skip)) (.seq (.region [⟨(some 90), (.mv (.t 15)), none⟩, ⟨(some 91), (.mv (.t 14)), none⟩, ⟨(some 92), (.bins .add (.t 90) (.t 91)), none⟩, ⟨(some 93), (.mv (.t 0)), none⟩, ⟨(some 94), (.mv (.t 11)), none⟩, ⟨(some 95), (.cuts (.t 93) (some (.t 94)) none), none⟩, ⟨(some 96), (.bins .add (.t 92) (.t 95)), none⟩, ⟨(some 97), (.call 12 [(.t 96)]), none⟩, ⟨(some 89), (.mv (.t 97)), none⟩, ⟨(some 98), (.extract 0 (.t 89)), none⟩, ⟨(some 99), (.extract 1 (.t 89)), none⟩, ⟨(some 17), (.alloc [(.int .i64 0), (.int .i64 0)]), none⟩, ⟨(some 16), (.mv (.t 98)), none⟩, ⟨none, (.store 2 (.t 17) (.t 99)), none⟩] (some [9, 16, 17])) (.seq (.region [⟨(some 100), (.call 11 []), none⟩, ⟨(some 101), (.mv (.t 100)), none⟩, ⟨(some 102), (.load true 2 (.t 17)), (some (101, true))⟩, ⟨(some 103), (.build [(.int .i64 0), (.int .i64 0)] []), (some (101, true))⟩, ⟨(some 104), (.eqs false [0, 0] (.t 102) (.t 103)), (some (101, true))⟩, ⟨(some 105), (.pick (.t 101) (.t 104) (.c (.bool false))), none⟩, ⟨(some 106), (.mv (.t 105)), none⟩, ⟨(some 107), (.mv (.t 9)), (some (106, true))⟩, ⟨(some 108), (.mv (.t 16)), (some (106, true))⟩, ⟨(some 109), (.call 18 [(.t 107), (.t 108)]), (some (106, true))⟩, ⟨(some 110), (.pick (.t 106) (.t 109) (.c (.bool false))), none⟩, ⟨(some 6), (.mv (.t 110)), none⟩] (some [6])) .ret)))))))))))))))
theorem code8 : IsCode Tryz.prog 8 sc8 [(6, none)] 111 := .mk' Tryz.func8 (by kernel_rfl) (by kernel_rfl) (by kernel_rfl) (by kernel_rfl)
/-- quietus/quietuslaw31.LexerStopsAtTheFirstProblem -/
def sc9 : SC := (.seq (.region [⟨(some 2), (.mv (.c (.bool false))), none⟩] (some [0])) (.seq (.seq (.region [⟨(some 7), (.mv (.t 0)), none⟩, ⟨(some 8), (.len true (.t 7)), none⟩, ⟨(some 9), (.bin .gtr (.t 8) (.c (.int .i64 2000))), none⟩] (some [0, 9])) (.cond (.t 9) (some [0]) (.seq (.region [⟨(some 10), (.call 11 []), none⟩, ⟨(some 2), (.mv (.t 10)), none⟩] (some [2])) .ret) .skip)) (.seq (.region [⟨(some 12), (.mv (.t 0)), none⟩, ⟨(some 13), (.call 12 [(.t 12)]), none⟩, ⟨(some 11), (.mv (.t 13)), none⟩, ⟨(some 14), (.extract 0 (.t 11)), none⟩, ⟨(some 15), (.extract 1 (.t 11)), none⟩, ⟨(some 4), (.alloc [(.int .i64 0), (.int .i64 0)]), none⟩, ⟨(some 3), (.mv (.t 14)), none⟩, ⟨none, (.store 2 (.t 4) (.t 15)), none⟩] (some [0, 4])) (.seq (.seq (.region [⟨(some 16), (.faddr 1 (.t 4)), none⟩, ⟨(some 17), (.load false 1 (.t 16)), none⟩, ⟨(some 18), (.bin .eql (.t 17) (.c (.int .i64 0))), none⟩] (some [0, 4, 18])) (.cond (.t 18) (some [0, 4]) (.seq (.region [⟨(some 19), (.call 11 []), none⟩, ⟨(some 2), (.mv (.t 19)), none⟩] (some [2])) .ret) .skip)) (.seq (.seq (.region [⟨(some 20), (.faddr 0 (.t 4)), none⟩, ⟨(some 21), (.load false 1 (.t 20)), none⟩, ⟨(some 22), (.bin .lss (.t 21) (.c (.int .i64 0))), none⟩, ⟨(some 23), (.mv (.t 22)), none⟩, ⟨(some 24), (.faddr 0 (.t 4)), (some (23, false))⟩, ⟨(some 25), (.load false 1 (.t 24)), (some (23, false))⟩, ⟨(some 26), (.mv (.t 0)), (some (23, false))⟩, ⟨(some 27), (.len true (.t 26)), (some (23, false))⟩, ⟨(some 28), (.bin .geq (.t 25) (.t 27)), (some (23, false))⟩, ⟨(some 29), (.pick (.t 23) (.c (.bool true)) (.t 28)), none⟩] (some [0, 4, 29])) (.cond (.t 29) (some [0, 4]) (.seq (.region [⟨(some 2), (.mv (.c (.bool false))), none⟩] (some [2])) .ret) .skip)) (.seq (.region [⟨(some 31), (.mv (.t 0)), none⟩, ⟨(some 32), (.faddr 0 (.t 4)), none⟩, ⟨(some 33), (.load false 1 (.t 32)), none⟩, ⟨(some 34), (.cuts (.t 31) none (some (.t 33))), none⟩, ⟨(some 35), (.call 12 [(.t 34)]), none⟩, ⟨(some 30), (.mv (.t 35)), none⟩, ⟨(some 36), (.extract 0 (.t 30)), none⟩, ⟨(some 37), (.extract 1 (.t 30)), none⟩, ⟨(some 6), (.alloc [(.int .i64 0), (.int .i64 0)]), none⟩, ⟨(some 5), (.mv (.t 36)), none⟩, ⟨none, (.store 2 (.t 6) (.t 37)), none⟩] (some [4, 5, 6])) (.seq (.region [⟨(some 38), (.call 11 []), none⟩, ⟨(some 39), (.mv (.t 38)), none⟩, ⟨(some 40), (.faddr 0 (.t 4)), (some (39, true))⟩, ⟨(some 41), (.load false 1 (.t 40)), (some (39, true))⟩, ⟨(some 42), (.bin .eql (.t 41) (.c (.int .i64 0))), (some (39, true))⟩, ⟨(some 43), (.mv (.t 42)), (some (39, true))⟩, ⟨(some 44), (.faddr 1 (.t 6)), (some (43, false))⟩, ⟨(some 45), (.load false 1 (.t 44)), (some (43, false))⟩, ⟨(some 46), (.bin .eql (.t 45) (.c (.int .i64 0))), (some (43, false))⟩, ⟨(some 47), (.mv (.t 46)), (some (43, false))⟩, ⟨(some 48), (.mv (.t 5)), (some (47, true))⟩, ⟨(some 49), (.len false (.t 48)), (some (47, true))⟩, ⟨(some 50), (.bin .gtr (.t 49) (.c (.int .i64 0))), (some (47, true))⟩, ⟨(some 51), (.pick (.t 47) (.t 50) (.c (.bool false))), (some (43, false))⟩, ⟨(some 52), (.pick (.t 43) (.c (.bool true)) (.t 51)), (some (39, true))⟩, ⟨(some 53), (.pick (.t 39) (.t 52) (.c (.bool false))), none⟩, ⟨(some 2), (.mv (.t 53)), none⟩] (some [2])) .ret)))))))
theorem code9 : IsCode Tryz.prog 9 sc9 [(2, none)] 54 := .mk' Tryz.func9 (by kernel_rfl) (by kernel_rfl) (by kernel_rfl) (by kernel_rfl)
/-- quietus/quietuslaw31.LexerCoversSources -/
def sc10 : SC := (.seq (.region [⟨(some 2), (.mv (.c (.bool false))), none⟩] (some [0])) (.seq (.seq (.region [⟨(some 9), (.mv (.t 0)), none⟩, ⟨(some 10), (.len true (.t 9)), none⟩, ⟨(some 11), (.bin .gtr (.t 10) (.c (.int .i64 2000))), none⟩] (some [0, 11])) (.cond (.t 11) (some [0]) (.seq (.region [⟨(some 12), (.call 11 []), none⟩, ⟨(some 2), (.mv (.t 12)), none⟩] (some [2])) .ret) .skip)) (.seq (.region [⟨(some 14), (.mv (.t 0)), none⟩, ⟨(some 15), (.call 12 [(.t 14)]), none⟩, ⟨(some 13), (.mv (.t 15)), none⟩, ⟨(some 16), (.extract 0 (.t 13)), none⟩, ⟨(some 17), (.extract 1 (.t 13)), none⟩, ⟨(some 4), (.alloc [(.int .i64 0), (.int .i64 0)]), none⟩, ⟨(some 3), (.mv (.t 16)), none⟩, ⟨none, (.store 2 (.t 4) (.t 17)), none⟩] (some [0, 3, 4])) (.seq (.seq (.region [⟨(some 18), (.faddr 1 (.t 4)), none⟩, ⟨(some 19), (.load false 1 (.t 18)), none⟩, ⟨(some 20), (.bin .neq (.t 19) (.c (.int .i64 0))), none⟩] (some [0, 3, 20])) (.cond (.t 20) (some [0, 3]) (.seq (.region [⟨(some 21), (.call 11 []), none⟩, ⟨(some 2), (.mv (.t 21)), none⟩] (some [2])) .ret) .skip)) (.seq (.region [⟨(some 5), (.mv (.c (.int .i64 0))), none⟩] (some [0, 3, 5])) (.seq (.seq (.region [⟨(some 6), (.mv (.c (.int .i64 0))), none⟩] (some [0, 3, 5, 6])) (.block 0 (.loop (.seq (.seq (.region [⟨(some 22), (.mv (.t 6)), none⟩, ⟨(some 23), (.mv (.t 3)), none⟩, ⟨(some 24), (.len false (.t 23)), none⟩, ⟨(some 25), (.bin .lss (.t 22) (.t 24)), none⟩] (some [0, 3, 5, 6, 25])) (.cond (.t 25) (some [0, 3, 5, 6]) .skip (.exit 0))) (.seq (.block 1 (.seq (.region [⟨(some 28), (.mv (.t 3)), none⟩, ⟨(some 29), (.mv (.t 6)), none⟩, ⟨(some 30), (.iaddr 4 (.t 28) (.t 29)), none⟩, ⟨(some 31), (.load true 4 (.t 30)), none⟩, ⟨(some 7), (.alloc [(.int .i64 0), (.int .i64 0), (.str []), (.int .i64 0)]), none⟩, ⟨none, (.store 4 (.t 7) (.t 31)), none⟩] (some [0, 3, 5, 6, 7])) (.seq (.seq (.region [⟨(some 32), (.mv (.t 0)), none⟩, ⟨(some 33), (.mv (.t 5)), none⟩, ⟨(some 35), (.faddr 1 (.t 7)), none⟩, ⟨(some 36), (.load false 1 (.t 35)), none⟩, ⟨(some 34), (.callk 19 [(.t 32), (.t 33)]), none⟩, ⟨(some 37), (.bin .neq (.t 34) (.t 36)), none⟩] (some [0, 3, 6, 7, 37])) (.cond (.t 37) (some [0, 3, 6, 7]) (.seq (.region [⟨(some 2), (.mv (.c (.bool false))), none⟩] (some [2])) .ret) .skip)) (.seq (.region [⟨(some 38), (.load true 4 (.t 7)), none⟩, ⟨(some 39), (.mkslice 4 [(.t 38)]), none⟩, ⟨(some 40), (.call 14 [(.t 39)]), none⟩, ⟨(some 8), (.mv (.t 40)), none⟩] (some [0, 3, 6, 7, 8])) (.seq (.seq (.region [⟨(some 41), (.faddr 1 (.t 7)), none⟩, ⟨(some 42), (.load false 1 (.t 41)), none⟩, ⟨(some 43), (.mv (.t 8)), none⟩, ⟨(some 44), (.len true (.t 43)), none⟩, ⟨(some 45), (.bin .add (.t 42) (.t 44)), none⟩, ⟨(some 46), (.mv (.t 0)), none⟩, ⟨(some 47), (.len true (.t 46)), none⟩, ⟨(some 48), (.bin .gtr (.t 45) (.t 47)), none⟩, ⟨(some 49), (.mv (.t 48)), none⟩, ⟨(some 50), (.mv (.t 0)), (some (49, false))⟩, ⟨(some 51), (.faddr 1 (.t 7)), (some (49, false))⟩, ⟨(some 52), (.load false 1 (.t 51)), (some (49, false))⟩, ⟨(some 53), (.faddr 1 (.t 7)), (some (49, false))⟩, ⟨(some 54), (.load false 1 (.t 53)), (some (49, false))⟩, ⟨(some 55), (.mv (.t 8)), (some (49, false))⟩, ⟨(some 56), (.len true (.t 55)), (some (49, false))⟩, ⟨(some 57), (.bin .add (.t 54) (.t 56)), (some (49, false))⟩, ⟨(some 58), (.cuts (.t 50) (some (.t 52)) (some (.t 57))), (some (49, false))⟩, ⟨(some 59), (.mv (.t 8)), (some (49, false))⟩, ⟨(some 60), (.bins .neq (.t 58) (.t 59)), (some (49, false))⟩, ⟨(some 61), (.pick (.t 49) (.c (.bool true)) (.t 60)), none⟩, ⟨(some 62), (.mv (.t 61)), none⟩, ⟨(some 63), (.mv (.t 8)), (some (62, false))⟩, ⟨(some 64), (.bins .eql (.t 63) (.c (.str []))), (some (62, false))⟩, ⟨(some 65), (.mv (.t 6)), (some (62, false))⟩, ⟨(some 66), (.mv (.t 3)), (some (62, false))⟩, ⟨(some 67), (.len false (.t 66)), (some (62, false))⟩, ⟨(some 68), (.bin .sub (.t 67) (.c (.int .i64 1))), (some (62, false))⟩, ⟨(some 69), (.bin .eql (.t 65) (.t 68)), (some (62, false))⟩, ⟨(some 70), (.binb true (.t 64) (.t 69)), (some (62, false))⟩, ⟨(some 71), (.pick (.t 62) (.c (.bool true)) (.t 70)), none⟩] (some [0, 3, 6, 7, 8, 71])) (.cond (.t 71) (some [0, 3, 6, 7, 8]) (.seq (.region [⟨(some 2), (.mv (.c (.bool false))), none⟩] (some [2])) .ret) .skip)) (.region [⟨(some 72), (.faddr 1 (.t 7)), none⟩, ⟨(some 73), (.load false 1 (.t 72)), none⟩, ⟨(some 74), (.mv (.t 8)), none⟩, ⟨(some 75), (.len true (.t 74)), none⟩, ⟨(some 76), (.bin .add (.t 73) (.t 75)), none⟩, ⟨(some 5), (.mv (.t 76)), none⟩] (some [0, 3, 5, 6]))))))) (.region [⟨(some 26), (.mv (.t 6)), none⟩, ⟨(some 27), (.bin .add (.t 26) (.c (.int .i64 1))), none⟩, ⟨(some 6), (.mv (.t 27)), none⟩] (some [0, 3, 5, 6]))))))) (.seq (.region [⟨(some 77), (.call 11 []), none⟩, ⟨(some 78), (.mv (.t 77)), none⟩, ⟨(some 79), (.mv (.t 5)), (some (78, true))⟩, ⟨(some 80), (.mv (.t 0)), (some (78, true))⟩, ⟨(some 81), (.len true (.t 80)), (some (78, true))⟩, ⟨(some 82), (.bin .eql (.t 79) (.t 81)), (some (78, true))⟩, ⟨(some 83), (.pick (.t 78) (.t 82) (.c (.bool false))), none⟩, ⟨(some 2), (.mv (.t 83)), none⟩] (some [2])) .ret)))))))
theorem code10 : IsCode Tryz.prog 10 sc10 [(2, none)] 84 := .mk' Tryz.func10 (by kernel_rfl) (by kernel_rfl) (by kernel_rfl) (by kernel_rfl)
/-- quietus/quietuslaw31.sanity -/
def sc11 : SC := (.seq (.region [⟨(some 0), (.mv (.c (.bool false))), none⟩] (some [])) (.seq (.region [⟨(some 20), (.call 12 [(.c (.str [97, 45, 62, 98, 49, 32, 49, 50, 46, 46, 51, 32, 35, 32, 120]))]), none⟩, ⟨(some 19), (.mv (.t 20)), none⟩, ⟨(some 21), (.extract 0 (.t 19)), none⟩, ⟨(some 22), (.extract 1 (.t 19)), none⟩, ⟨(some 2), (.alloc [(.int .i64 0), (.int .i64 0)]), none⟩, ⟨(some 1), (.mv (.t 21)), none⟩, ⟨none, (.store 2 (.t 2) (.t 22)), none⟩] (some [1, 2])) (.seq (.region [⟨(some 24), (.call 12 [(.c (.str [34, 97, 92, 34, 92, 110, 34]))]), none⟩, ⟨(some 23), (.mv (.t 24)), none⟩, ⟨(some 25), (.extract 0 (.t 23)), none⟩, ⟨(some 26), (.extract 1 (.t 23)), none⟩, ⟨(some 4), (.alloc [(.int .i64 0), (.int .i64 0)]), none⟩, ⟨(some 3), (.mv (.t 25)), none⟩, ⟨none, (.store 2 (.t 4) (.t 26)), none⟩] (some [1, 2, 3])) (.seq (.region [⟨(some 28), (.call 12 [(.c (.str [61, 61, 61, 32, 33, 61, 61]))]), none⟩, ⟨(some 27), (.mv (.t 28)), none⟩, ⟨(some 29), (.extract 0 (.t 27)), none⟩, ⟨(some 30), (.extract 1 (.t 27)), none⟩, ⟨(some 6), (.alloc [(.int .i64 0), (.int .i64 0)]), none⟩, ⟨(some 5), (.mv (.t 29)), none⟩, ⟨none, (.store 2 (.t 6) (.t 30)), none⟩] (some [1, 2, 3, 5])) (.seq (.region [⟨(some 32), (.call 12 [(.c (.str [120, 32, 48, 49, 50]))]), none⟩, ⟨(some 31), (.mv (.t 32)), none⟩, ⟨(some 33), (.extract 0 (.t 31)), none⟩, ⟨(some 34), (.extract 1 (.t 31)), none⟩, ⟨(some 8), (.alloc [(.int .i64 0), (.int .i64 0)]), none⟩, ⟨(some 7), (.mv (.t 33)), none⟩, ⟨none, (.store 2 (.t 8) (.t 34)), none⟩] (some [1, 2, 3, 5, 8])) (.seq (.region [⟨(some 36), (.call 12 [(.c (.str [120, 32, 51, 121]))]), none⟩, ⟨(some 35), (.mv (.t 36)), none⟩, ⟨(some 37), (.extract 0 (.t 35)), none⟩, ⟨(some 38), (.extract 1 (.t 35)), none⟩, ⟨(some 10), (.alloc [(.int .i64 0), (.int .i64 0)]), none⟩, ⟨(some 9), (.mv (.t 37)), none⟩, ⟨none, (.store 2 (.t 10) (.t 38)), none⟩] (some [1, 2, 3, 5, 8, 10])) (.seq (.region [⟨(some 40), (.call 12 [(.c (.str [34, 97]))]), none⟩, ⟨(some 39), (.mv (.t 40)), none⟩, ⟨(some 41), (.extract 0 (.t 39)), none⟩, ⟨(some 42), (.extract 1 (.t 39)), none⟩, ⟨(some 12), (.alloc [(.int .i64 0), (.int .i64 0)]), none⟩, ⟨(some 11), (.mv (.t 41)), none⟩, ⟨none, (.store 2 (.t 12) (.t 42)), none⟩] (some [1, 2, 3, 5, 8, 10, 12])) (.seq (.region [⟨(some 44), (.call 12 [(.c (.str [120, 32, 36]))]), none⟩, ⟨(some 43), (.mv (.t 44)), none⟩, ⟨(some 45), (.extract 0 (.t 43)), none⟩, ⟨(some 46), (.extract 1 (.t 43)), none⟩, ⟨(some 14), (.alloc [(.int .i64 0), (.int .i64 0)]), none⟩, ⟨(some 13), (.mv (.t 45)), none⟩, ⟨none, (.store 2 (.t 14) (.t 46)), none⟩] (some [1, 2, 3, 5, 8, 10, 12, 14])) (.seq (.region [⟨(some 48), (.call 16 [(.c (.str [97, 10, 98, 99])), (.c (.int .i64 3))]), none⟩, ⟨(some 47), (.mv (.t 48)), none⟩, ⟨(some 49), (.extract 0 (.t 47)), none⟩, ⟨(some 50), (.extract 1 (.t 47)), none⟩, ⟨(some 15), (.mv (.t 49)), none⟩, ⟨(some 16), (.mv (.t 50)), none⟩] (some [1, 2, 3, 5, 8, 10, 12, 14, 15, 16])) (.seq (.seq (.region [⟨(some 51), (.mv (.t 1)), none⟩, ⟨(some 52), (.len false (.t 51)), none⟩, ⟨(some 53), (.bin .neq (.t 52) (.c (.int .i64 7))), none⟩, ⟨(some 54), (.mv (.t 53)), none⟩, ⟨(some 55), (.mv (.t 3)), (some (54, false))⟩, ⟨(some 56), (.len false (.t 55)), (some (54, false))⟩, ⟨(some 57), (.bin .neq (.t 56) (.c (.int .i64 2))), (some (54, false))⟩, ⟨(some 58), (.pick (.t 54) (.c (.bool true)) (.t 57)), none⟩, ⟨(some 59), (.mv (.t 58)), none⟩, ⟨(some 60), (.mv (.t 5)), (some (59, false))⟩, ⟨(some 61), (.len false (.t 60)), (some (59, false))⟩, ⟨(some 62), (.bin .neq (.t 61) (.c (.int .i64 5))), (some (59, false))⟩, ⟨(some 63), (.pick (.t 59) (.c (.bool true)) (.t 62)), none⟩] (some [1, 2, 3, 5, 8, 10, 12, 14, 15, 16, 63])) (.cond (.t 63) (some [1, 2, 3, 5, 8, 10, 12, 14, 15, 16]) (.seq (.region [⟨(some 0), (.mv (.c (.bool false))), none⟩] (some [0])) .ret) .skip)) (.seq (.region [⟨(some 64), (.mv (.t 5)), none⟩, ⟨(some 65), (.iaddr 4 (.t 64) (.c (.int .i64 0))), none⟩, ⟨(some 66), (.faddr 2 (.t 65)), none⟩, ⟨(some 67), (.load false 1 (.t 66)), none⟩, ⟨(some 68), (.bins .eql (.t 67) (.c (.str [61, 61]))), none⟩, ⟨(some 69), (.mv (.t 68)), none⟩, ⟨(some 70), (.mv (.t 5)), (some (69, true))⟩, ⟨(some 71), (.iaddr 4 (.t 70) (.c (.int .i64 1))), (some (69, true))⟩, ⟨(some 72), (.faddr 2 (.t 71)), (some (69, true))⟩, ⟨(some 73), (.load false 1 (.t 72)), (some (69, true))⟩, ⟨(some 74), (.bins .eql (.t 73) (.c (.str [61]))), (some (69, true))⟩, ⟨(some 75), (.pick (.t 69) (.t 74) (.c (.bool false))), none⟩, ⟨(some 76), (.mv (.t 75)), none⟩, ⟨(some 77), (.mv (.t 5)), (some (76, true))⟩, ⟨(some 78), (.iaddr 4 (.t 77) (.c (.int .i64 2))), (some (76, true))⟩, ⟨(some 79), (.faddr 2 (.t 78)), (some (76, true))⟩, ⟨(some 80), (.load false 1 (.t 79)), (some (76, true))⟩, ⟨(some 81), (.bins .eql (.t 80) (.c (.str [33, 61]))), (some (76, true))⟩, ⟨(some 82), (.pick (.t 76) (.t 81) (.c (.bool false))), none⟩, ⟨(some 83), (.mv (.t 82)), none⟩, ⟨(some 84), (.mv (.t 5)), (some (83, true))⟩, ⟨(some 85), (.iaddr 4 (.t 84) (.c (.int .i64 3))), (some (83, true))⟩, ⟨(some 86), (.faddr 2 (.t 85)), (some (83, true))⟩, ⟨(some 87), (.load false 1 (.t 86)), (some (83, true))⟩, ⟨(some 88), (.bins .eql (.t 87) (.c (.str [61]))), (some (83, true))⟩, ⟨(some 89), (.pick (.t 83) (.t 88) (.c (.bool false))), none⟩, ⟨(some 17), (.mv (.t 89)), none⟩] (some [1, 2, 3, 8, 10, 12, 14, 15, 16, 17])) (.seq (.region [⟨(some 90), (.load true 2 (.t 8)), none⟩, ⟨(some 91), (.build [(.int .i64 0), (.int .i64 0)] [(0, (1, (.c (.int .i64 2)))), (1, (1, (.c (.int .i64 27))))]), none⟩, ⟨(some 92), (.eqs false [0, 0] (.t 90) (.t 91)), none⟩, ⟨(some 93), (.mv (.t 92)), none⟩, ⟨(some 94), (.load true 2 (.t 10)), (some (93, true))⟩, ⟨(some 95), (.load true 2 (.t 8)), (some (93, true))⟩, ⟨(some 96), (.eqs false [0, 0] (.t 94) (.t 95)), (some (93, true))⟩, ⟨(some 97), (.pick (.t 93) (.t 96) (.c (.bool false))), none⟩, ⟨(some 98), (.mv (.t 97)), none⟩, ⟨(some 99), (.load true 2 (.t 12)), (some (98, true))⟩, ⟨(some 100), (.build [(.int .i64 0), (.int .i64 0)] [(1, (1, (.c (.int .i64 28))))]), (some (98, true))⟩, ⟨(some 101), (.eqs false [0, 0] (.t 99) (.t 100)), (some (98, true))⟩, ⟨(some 102), (.pick (.t 98) (.t 101) (.c (.bool false))), none⟩, ⟨(some 103), (.mv (.t 102)), none⟩, ⟨(some 104), (.load true 2 (.t 14)), (some (103, true))⟩, ⟨(some 105), (.build [(.int .i64 0), (.int .i64 0)] [(0, (1, (.c (.int .i64 2)))), (1, (1, (.c (.int .i64 26))))]), (some (103, true))⟩, ⟨(some 106), (.eqs false [0, 0] (.t 104) (.t 105)), (some (103, true))⟩, ⟨(some 107), (.pick (.t 103) (.t 106) (.c (.bool false))), none⟩, ⟨(some 18), (.mv (.t 107)), none⟩] (some [1, 2, 3, 15, 16, 17, 18])) (.seq (.region [⟨(some 108), (.load true 2 (.t 2)), none⟩, ⟨(some 109), (.build [(.int .i64 0), (.int .i64 0)] []), none⟩, ⟨(some 110), (.eqs false [0, 0] (.t 108) (.t 109)), none⟩, ⟨(some 111), (.mv (.t 110)), none⟩, ⟨(some 112), (.mv (.t 1)), (some (111, true))⟩, ⟨(some 113), (.iaddr 4 (.t 112) (.c (.int .i64 1))), (some (111, true))⟩, ⟨(some 114), (.load true 4 (.t 113)), (some (111, true))⟩, ⟨(some 115), (.build [(.int .i64 0), (.int .i64 0), (.str []), (.int .i64 0)] [(0, (1, (.c (.int .i64 4)))), (1, (1, (.c (.int .i64 1)))), (2, (1, (.c (.str [45, 62]))))]), (some (111, true))⟩, ⟨(some 116), (.eqs false [0, 0, 2, 0] (.t 114) (.t 115)), (some (111, true))⟩, ⟨(some 117), (.pick (.t 111) (.t 116) (.c (.bool false))), none⟩, ⟨(some 118), (.mv (.t 117)), none⟩, ⟨(some 119), (.mv (.t 1)), (some (118, true))⟩, ⟨(some 120), (.iaddr 4 (.t 119) (.c (.int .i64 3))), (some (118, true))⟩, ⟨(some 121), (.load true 4 (.t 120)), (some (118, true))⟩, ⟨(some 122), (.build [(.int .i64 0), (.int .i64 0), (.str []), (.int .i64 0)] [(0, (1, (.c (.int .i64 2)))), (1, (1, (.c (.int .i64 6)))), (3, (1, (.c (.int .i64 12))))]), (some (118, true))⟩, ⟨(some 123), (.eqs false [0, 0, 2, 0] (.t 121) (.t 122)), (some (118, true))⟩, ⟨(some 124), (.pick (.t 118) (.t 123) (.c (.bool false))), none⟩, ⟨(some 125), (.mv (.t 124)), none⟩, ⟨(some 126), (.mv (.t 1)), (some (125, true))⟩, ⟨(some 127), (.iaddr 4 (.t 126) (.c (.int .i64 6))), (some (125, true))⟩, ⟨(some 128), (.load true 4 (.t 127)), (some (125, true))⟩, ⟨(some 129), (.build [(.int .i64 0), (.int .i64 0), (.str []), (.int .i64 0)] [(0, (1, (.c (.int .i64 5)))), (1, (1, (.c (.int .i64 15))))]), (some (125, true))⟩, ⟨(some 130), (.eqs false [0, 0, 2, 0] (.t 128) (.t 129)), (some (125, true))⟩, ⟨(some 131), (.pick (.t 125) (.t 130) (.c (.bool false))), none⟩, ⟨(some 132), (.mv (.t 131)), none⟩, ⟨(some 133), (.mv (.t 3)), (some (132, true))⟩, ⟨(some 134), (.iaddr 4 (.t 133) (.c (.int .i64 0))), (some (132, true))⟩, ⟨(some 135), (.faddr 2 (.t 134)), (some (132, true))⟩, ⟨(some 136), (.load false 1 (.t 135)), (some (132, true))⟩, ⟨(some 137), (.bins .eql (.t 136) (.c (.str [97, 34, 10]))), (some (132, true))⟩, ⟨(some 138), (.pick (.t 132) (.t 137) (.c (.bool false))), none⟩, ⟨(some 139), (.mv (.t 138)), none⟩, ⟨(some 140), (.mv (.t 17)), (some (139, true))⟩, ⟨(some 141), (.pick (.t 139) (.t 140) (.c (.bool false))), none⟩, ⟨(some 142), (.mv (.t 141)), none⟩, ⟨(some 143), (.mv (.t 18)), (some (142, true))⟩, ⟨(some 144), (.pick (.t 142) (.t 143) (.c (.bool false))), none⟩, ⟨(some 145), (.mv (.t 144)), none⟩, ⟨(some 146), (.mv (.t 15)), (some (145, true))⟩, ⟨(some 147), (.bin .eql (.t 146) (.c (.int .i64 2))), (some (145, true))⟩, ⟨(some 148), (.pick (.t 145) (.t 147) (.c (.bool false))), none⟩, ⟨(some 149), (.mv (.t 148)), none⟩, ⟨(some 150), (.mv (.t 16)), (some (149, true))⟩, ⟨(some 151), (.bin .eql (.t 150) (.c (.int .i64 2))), (some (149, true))⟩, ⟨(some 152), (.pick (.t 149) (.t 151) (.c (.bool false))), none⟩, ⟨(some 153), (.mv (.t 152)), none⟩, ⟨(some 154), (.mv (.t 1)), (some (153, true))⟩, ⟨(some 155), (.call 14 [(.t 154)]), (some (153, true))⟩, ⟨(some 156), (.bins .eql (.t 155) (.c (.str [97, 32, 45, 62, 32, 98, 49, 32, 49, 50, 32, 46, 46, 32, 51]))), (some (153, true))⟩, ⟨(some 157), (.pick (.t 153) (.t 156) (.c (.bool false))), none⟩, ⟨(some 0), (.mv (.t 157)), none⟩] (some [0])) .ret)))))))))))))
theorem code11 : IsCode Tryz.prog 11 sc11 [(0, none)] 158 := .mk' Tryz.func11 (by kernel_rfl) (by kernel_rfl) (by kernel_rfl) (by kernel_rfl)
/-- quietus/quietusref31.Tokens -/
def sc13 : SC := (.seq (.region [⟨(some 2), (.alloc [(.slice .nil 0 []), (.int .i64 0), (.int .i64 0)]), none⟩] (some [0, 2])) (.seq (.seq (.region [⟨(some 6), (.mv (.t 0)), none⟩, ⟨(some 7), (.len true (.t 6)), none⟩, ⟨(some 8), (.bin .gtr (.t 7) (.c (.int .i64 65536))), none⟩] (some [0, 2, 8])) (.cond (.t 8) (some [0, 2]) (.seq (.region [⟨(some 9), (.build [(.int .i64 0), (.int .i64 0)] [(1, (1, (.c (.int .i64 2))))]), none⟩, ⟨(some 10), (.build [(.slice .nil 0 []), (.int .i64 0), (.int .i64 0)] [(1, (2, (.t 9)))]), none⟩, ⟨none, (.store 3 (.t 2) (.t 10)), none⟩] (some [2])) .ret) .skip)) (.seq (.region [⟨(some 3), (.mv (.c (.slice .nil 0 []))), none⟩] (some [0, 2, 3])) (.seq (.region [⟨(some 11), (.mv (.t 0)), none⟩, ⟨(some 12), (.call 19 [(.t 11), (.c (.int .i64 0))]), none⟩, ⟨(some 4), (.mv (.t 12)), none⟩] (some [0, 2, 3, 4])) (.seq (.block 0 (.loop (.seq (.seq (.region [⟨(some 13), (.mv (.t 4)), none⟩, ⟨(some 14), (.mv (.t 0)), none⟩, ⟨(some 15), (.len true (.t 14)), none⟩, ⟨(some 16), (.bin .lss (.t 13) (.t 15)), none⟩] (some [0, 2, 3, 4, 16])) (.cond (.t 16) (some [0, 2, 3, 4]) .skip (.exit 0))) (.block 1 (.seq (.region [⟨(some 17), (.mv (.t 0)), none⟩, ⟨(some 18), (.mv (.t 4)), none⟩, ⟨(some 19), (.call 23 [(.t 17), (.t 18)]), none⟩, ⟨(some 5), (.alloc [(.int .i64 0), (.int .i64 0), (.str []), (.int .i64 0), (.int .i64 0), (.int .i64 0)]), none⟩, ⟨none, (.store 6 (.t 5) (.t 19)), none⟩] (some [0, 2, 3, 4, 5])) (.seq (.seq (.region [⟨(some 20), (.faddr 5 (.t 5)), none⟩, ⟨(some 21), (.load false 1 (.t 20)), none⟩, ⟨(some 22), (.bin .neq (.t 21) (.c (.int .i64 0))), none⟩] (some [0, 2, 3, 4, 5, 22])) (.cond (.t 22) (some [0, 2, 3, 4, 5]) (.seq (.region [⟨(some 23), (.mv (.t 4)), none⟩, ⟨(some 24), (.faddr 5 (.t 5)), none⟩, ⟨(some 25), (.load false 1 (.t 24)), none⟩, ⟨(some 26), (.build [(.int .i64 0), (.int .i64 0)] [(0, (1, (.t 23))), (1, (1, (.t 25)))]), none⟩, ⟨(some 27), (.build [(.slice .nil 0 []), (.int .i64 0), (.int .i64 0)] [(1, (2, (.t 26)))]), none⟩, ⟨none, (.store 3 (.t 2) (.t 27)), none⟩] (some [2])) .ret) .skip)) (.seq (.region [⟨(some 28), (.mv (.t 3)), none⟩, ⟨(some 29), (.faddr 0 (.t 5)), none⟩, ⟨(some 30), (.load true 4 (.t 29)), none⟩, ⟨(some 31), (.mkslice 4 [(.t 30)]), none⟩, ⟨(some 32), (.append 4 40 (.t 28) (.t 31)), none⟩, ⟨(some 3), (.mv (.t 32)), none⟩] (some [0, 2, 3, 5])) (.region [⟨(some 33), (.mv (.t 0)), none⟩, ⟨(some 34), (.faddr 4 (.t 5)), none⟩, ⟨(some 35), (.load false 1 (.t 34)), none⟩, ⟨(some 36), (.call 19 [(.t 33), (.t 35)]), none⟩, ⟨(some 4), (.mv (.t 36)), none⟩] (some [0, 2, 3, 4]))))))))) (.seq (.region [⟨(some 37), (.mv (.t 3)), none⟩, ⟨(some 38), (.mv (.t 0)), none⟩, ⟨(some 39), (.len true (.t 38)), none⟩, ⟨(some 40), (.build [(.int .i64 0), (.int .i64 0), (.str []), (.int .i64 0)] [(0, (1, (.c (.int .i64 5)))), (1, (1, (.t 39)))]), none⟩, ⟨(some 41), (.mkslice 4 [(.t 40)]), none⟩, ⟨(some 42), (.append 4 40 (.t 37) (.t 41)), none⟩, ⟨(some 43), (.build [(.slice .nil 0 []), (.int .i64 0), (.int .i64 0)] [(0, (1, (.t 42)))]), none⟩, ⟨none, (.store 3 (.t 2) (.t 43)), none⟩] (some [2])) .ret))))))
theorem code13 : IsCode Tryz.prog 13 sc13 [(2, (some (true, 3)))] 44 := .mk' Tryz.func13 (by kernel_rfl) (by kernel_rfl) (by kernel_rfl) (by kernel_rfl)
/-- quietus/lexer.Text -/
def sc14 : SC := (.seq (.region [⟨(some 2), (.mv (.c (.str []))), none⟩] (some [0])) (.seq (.region [⟨(some 3), (.mv (.c (.slice .nil 0 []))), none⟩] (some [0, 3])) (.seq (.seq (.region [⟨(some 6), (.mv (.t 0)), none⟩, ⟨(some 7), (.len false (.t 6)), none⟩, ⟨(some 8), (.mv (.c (.int .i64 0))), none⟩] (some [3, 6, 7, 8])) (.block 0 (.loop (.seq (.region [⟨(some 9), (.bin .lss (.t 8) (.t 7)), none⟩] (some [3, 6, 7, 8, 9])) (.seq (.cond (.t 9) (some [3, 6, 7, 8]) .skip (.exit 0)) (.seq (.block 1 (.seq (.region [⟨(some 10), (.iaddr 4 (.t 6) (.t 8)), none⟩, ⟨(some 11), (.load true 4 (.t 10)), none⟩, ⟨(some 5), (.alloc [(.int .i64 0), (.int .i64 0), (.str []), (.int .i64 0)]), none⟩, ⟨none, (.store 4 (.t 5) (.t 11)), none⟩] (some [3, 5, 6, 7, 8])) (.seq (.region [⟨(some 12), (.faddr 0 (.t 5)), none⟩, ⟨(some 13), (.load false 1 (.t 12)), none⟩] (some [3, 5, 6, 7, 8, 13])) (.block 2 (.seq (.seq (.region [⟨(some 15), (.bin .eql (.t 13) (.c (.int .i64 1))), none⟩, ⟨(some 14), (.mv (.t 15)), none⟩] (some [3, 5, 6, 7, 8, 13, 14])) (.cond (.t 14) (some [3, 5, 6, 7, 8, 13, 14]) .skip (.region [⟨(some 16), (.bin .eql (.t 13) (.c (.int .i64 4))), none⟩, ⟨(some 14), (.mv (.t 16)), none⟩] (some [3, 5, 6, 7, 8, 13, 14])))) (.cond (.t 14) (some [3, 5, 6, 7, 8, 13]) (.region [⟨(some 17), (.mv (.t 3)), none⟩, ⟨(some 18), (.faddr 2 (.t 5)), none⟩, ⟨(some 19), (.load false 1 (.t 18)), none⟩, ⟨(some 20), (.mkslice 1 [(.t 19)]), none⟩, ⟨(some 21), (.append 1 16 (.t 17) (.t 20)), none⟩, ⟨(some 3), (.mv (.t 21)), none⟩] (some [3, 6, 7, 8])) (.seq (.region [⟨(some 23), (.bin .eql (.t 13) (.c (.int .i64 2))), none⟩, ⟨(some 22), (.mv (.t 23)), none⟩] (some [3, 5, 6, 7, 8, 13, 22])) (.cond (.t 22) (some [3, 5, 6, 7, 8, 13]) (.region [⟨(some 24), (.mv (.t 3)), none⟩, ⟨(some 25), (.faddr 3 (.t 5)), none⟩, ⟨(some 26), (.load false 1 (.t 25)), none⟩, ⟨(some 27), (.call 24 [(.t 26)]), none⟩, ⟨(some 28), (.mkslice 1 [(.t 27)]), none⟩, ⟨(some 29), (.append 1 16 (.t 24) (.t 28)), none⟩, ⟨(some 3), (.mv (.t 29)), none⟩] (some [3, 6, 7, 8])) (.seq (.region [⟨(some 31), (.bin .eql (.t 13) (.c (.int .i64 3))), none⟩, ⟨(some 30), (.mv (.t 31)), none⟩] (some [3, 5, 6, 7, 8, 30])) (.cond (.t 30) (some [3, 5, 6, 7, 8]) (.region [⟨(some 32), (.mv (.t 3)), none⟩, ⟨(some 33), (.mkslice 1 [(.c (.str [34])), (.c (.str [92, 34])), (.c (.str [92])), (.c (.str [92, 92])), (.c (.str [10])), (.c (.str [92, 110]))]), none⟩, ⟨(some 35), (.faddr 2 (.t 5)), none⟩, ⟨(some 36), (.load false 1 (.t 35)), none⟩, ⟨(some 34), (.callk 25 [(.t 33)]), none⟩, ⟨(some 37), (.call 26 [(.t 34), (.t 36)]), none⟩, ⟨(some 38), (.bins .add (.c (.str [34])) (.t 37)), none⟩, ⟨(some 39), (.bins .add (.t 38) (.c (.str [34]))), none⟩, ⟨(some 40), (.mkslice 1 [(.t 39)]), none⟩, ⟨(some 41), (.append 1 16 (.t 32) (.t 40)), none⟩, ⟨(some 3), (.mv (.t 41)), none⟩] (some [3, 6, 7, 8])) .skip)))))))))) (.region [⟨(some 42), (.bin .add (.t 8) (.c (.int .i64 1))), none⟩, ⟨(some 8), (.mv (.t 42)), none⟩] (some [3, 6, 7, 8])))))))) (.seq (.region [⟨(some 43), (.mv (.t 3)), none⟩, ⟨(some 44), (.call 27 [(.t 43), (.c (.str [32]))]), none⟩, ⟨(some 2), (.mv (.t 44)), none⟩] (some [2])) .ret))))
theorem code14 : IsCode Tryz.prog 14 sc14 [(2, none)] 45 := .mk' Tryz.func14 (by kernel_rfl) (by kernel_rfl) (by kernel_rfl) (by kernel_rfl)
/-- quietus/quietusref31.Text -/
def sc15 : SC := (.seq (.region [⟨(some 2), (.mv (.c (.str []))), none⟩] (some [0])) (.seq (.region [⟨(some 3), (.mv (.c (.str []))), none⟩] (some [0, 3])) (.seq (.region [⟨(some 4), (.mv (.c (.bool true))), none⟩] (some [0, 3, 4])) (.seq (.seq (.region [⟨(some 5), (.mv (.c (.int .i64 0))), none⟩] (some [0, 3, 4, 5])) (.block 0 (.loop (.seq (.seq (.region [⟨(some 7), (.mv (.t 5)), none⟩, ⟨(some 8), (.mv (.t 0)), none⟩, ⟨(some 9), (.len false (.t 8)), none⟩, ⟨(some 10), (.bin .lss (.t 7) (.t 9)), none⟩] (some [0, 3, 4, 5, 10])) (.cond (.t 10) (some [0, 3, 4, 5]) .skip (.exit 0))) (.seq (.block 1 (.seq (.region [⟨(some 6), (.mv (.c (.str []))), none⟩] (some [0, 3, 4, 5])) (.seq (.seq (.region [⟨(some 13), (.mv (.t 0)), none⟩, ⟨(some 14), (.mv (.t 5)), none⟩, ⟨(some 15), (.iaddr 4 (.t 13) (.t 14)), none⟩, ⟨(some 16), (.faddr 0 (.t 15)), none⟩, ⟨(some 17), (.load false 1 (.t 16)), none⟩] (some [0, 3, 4, 5, 17])) (.block 2 (.seq (.seq (.region [⟨(some 19), (.bin .eql (.t 17) (.c (.int .i64 1))), none⟩, ⟨(some 18), (.mv (.t 19)), none⟩] (some [0, 3, 4, 5, 17, 18])) (.cond (.t 18) (some [0, 3, 4, 5, 17, 18]) .skip (.region [⟨(some 20), (.bin .eql (.t 17) (.c (.int .i64 4))), none⟩, ⟨(some 18), (.mv (.t 20)), none⟩] (some [0, 3, 4, 5, 17, 18])))) (.cond (.t 18) (some [0, 3, 4, 5, 17]) (.region [⟨(some 21), (.mv (.t 0)), none⟩, ⟨(some 22), (.mv (.t 5)), none⟩, ⟨(some 23), (.iaddr 4 (.t 21) (.t 22)), none⟩, ⟨(some 24), (.faddr 2 (.t 23)), none⟩, ⟨(some 25), (.load false 1 (.t 24)), none⟩, ⟨(some 6), (.mv (.t 25)), none⟩] (some [0, 3, 4, 5, 6])) (.seq (.region [⟨(some 27), (.bin .eql (.t 17) (.c (.int .i64 2))), none⟩, ⟨(some 26), (.mv (.t 27)), none⟩] (some [0, 3, 4, 5, 17, 26])) (.cond (.t 26) (some [0, 3, 4, 5, 17]) (.region [⟨(some 28), (.mv (.t 0)), none⟩, ⟨(some 29), (.mv (.t 5)), none⟩, ⟨(some 30), (.iaddr 4 (.t 28) (.t 29)), none⟩, ⟨(some 31), (.faddr 3 (.t 30)), none⟩, ⟨(some 32), (.load false 1 (.t 31)), none⟩, ⟨(some 33), (.call 28 [(.t 32)]), none⟩, ⟨(some 6), (.mv (.t 33)), none⟩] (some [0, 3, 4, 5, 6])) (.seq (.region [⟨(some 35), (.bin .eql (.t 17) (.c (.int .i64 3))), none⟩, ⟨(some 34), (.mv (.t 35)), none⟩] (some [0, 3, 4, 5, 34])) (.cond (.t 34) (some [0, 3, 4, 5]) (.region [⟨(some 36), (.mv (.t 0)), none⟩, ⟨(some 37), (.mv (.t 5)), none⟩, ⟨(some 38), (.iaddr 4 (.t 36) (.t 37)), none⟩, ⟨(some 39), (.faddr 2 (.t 38)), none⟩, ⟨(some 40), (.load false 1 (.t 39)), none⟩, ⟨(some 41), (.call 29 [(.t 40)]), none⟩, ⟨(some 6), (.mv (.t 41)), none⟩] (some [0, 3, 4, 5, 6])) (.exit 1))))))))) (.seq (.seq (.region [⟨(some 42), (.mv (.t 4)), none⟩, ⟨(some 43), (.un .not (.t 42)), none⟩] (some [0, 3, 5, 6, 43])) (.cond (.t 43) (some [0, 3, 5, 6]) (.region [⟨(some 44), (.mv (.t 3)), none⟩, ⟨(some 45), (.bins .add (.t 44) (.c (.str [32]))), none⟩, ⟨(some 3), (.mv (.t 45)), none⟩] (some [0, 3, 5, 6])) .skip)) (.seq (.region [⟨(some 4), (.mv (.c (.bool false))), none⟩] (some [0, 3, 4, 5, 6])) (.region [⟨(some 46), (.mv (.t 3)), none⟩, ⟨(some 47), (.mv (.t 6)), none⟩, ⟨(some 48), (.bins .add (.t 46) (.t 47)), none⟩, ⟨(some 3), (.mv (.t 48)), none⟩] (some [0, 3, 4, 5]))))))) (.region [⟨(some 11), (.mv (.t 5)), none⟩, ⟨(some 12), (.bin .add (.t 11) (.c (.int .i64 1))), none⟩, ⟨(some 5), (.mv (.t 12)), none⟩] (some [0, 3, 4, 5]))))))) (.seq (.region [⟨(some 49), (.mv (.t 3)), none⟩, ⟨(some 2), (.mv (.t 49)), none⟩] (some [2])) .ret)))))
theorem code15 : IsCode Tryz.prog 15 sc15 [(2, none)] 50 := .mk' Tryz.func15 (by kernel_rfl) (by kernel_rfl) (by kernel_rfl) (by kernel_rfl)
/-- quietus/quietusref31.Position -/
def sc17 : SC := (.seq (.region [⟨(some 4), (.alloc [(.int .i64 0), (.int .i64 0)]), none⟩] (some [0, 1, 4])) (.seq (.seq (.region [⟨(some 7), (.mv (.t 1)), none⟩, ⟨(some 8), (.bin .lss (.t 7) (.c (.int .i64 0))), none⟩, ⟨(some 9), (.mv (.t 8)), none⟩, ⟨(some 10), (.mv (.t 1)), (some (9, false))⟩, ⟨(some 11), (.mv (.t 0)), (some (9, false))⟩, ⟨(some 12), (.len true (.t 11)), (some (9, false))⟩, ⟨(some 13), (.bin .gtr (.t 10) (.t 12)), (some (9, false))⟩, ⟨(some 14), (.pick (.t 9) (.c (.bool true)) (.t 13)), none⟩] (some [0, 1, 4, 14])) (.cond (.t 14) (some [0, 1, 4]) (.seq (.region [⟨(some 15), (.build [(.int .i64 0), (.int .i64 0)] []), none⟩, ⟨none, (.store 2 (.t 4) (.t 15)), none⟩] (some [4])) .ret) .skip)) (.seq (.region [⟨(some 16), (.build [(.int .i64 0), (.int .i64 0)] [(0, (1, (.c (.int .i64 1)))), (1, (1, (.c (.int .i64 1))))]), none⟩, ⟨(some 5), (.alloc [(.int .i64 0), (.int .i64 0)]), none⟩, ⟨none, (.store 2 (.t 5) (.t 16)), none⟩] (some [0, 1, 4, 5])) (.seq (.seq (.region [⟨(some 6), (.mv (.c (.int .i64 0))), none⟩] (some [0, 1, 4, 5, 6])) (.block 0 (.loop (.seq (.seq (.region [⟨(some 17), (.mv (.t 6)), none⟩, ⟨(some 18), (.mv (.t 1)), none⟩, ⟨(some 19), (.bin .lss (.t 17) (.t 18)), none⟩] (some [0, 1, 4, 5, 6, 19])) (.cond (.t 19) (some [0, 1, 4, 5, 6]) .skip (.exit 0))) (.seq (.block 1 (.seq (.region [⟨(some 22), (.faddr 1 (.t 5)), none⟩, ⟨(some 23), (.load false 1 (.t 22)), none⟩, ⟨(some 24), (.bin .add (.t 23) (.c (.int .i64 1))), none⟩, ⟨(some 25), (.faddr 1 (.t 5)), none⟩, ⟨none, (.store 1 (.t 25) (.t 24)), none⟩] (some [0, 1, 4, 5, 6])) (.seq (.region [⟨(some 26), (.mv (.t 0)), none⟩, ⟨(some 27), (.mv (.t 6)), none⟩, ⟨(some 28), (.idxs (.t 26) (.t 27)), none⟩, ⟨(some 29), (.bin .eql (.t 28) (.c (.int .u8 10))), none⟩] (some [0, 1, 4, 5, 6, 29])) (.cond (.t 29) (some [0, 1, 4, 5, 6]) (.region [⟨(some 30), (.faddr 0 (.t 5)), none⟩, ⟨(some 31), (.load false 1 (.t 30)), none⟩, ⟨(some 32), (.bin .add (.t 31) (.c (.int .i64 1))), none⟩, ⟨(some 33), (.build [(.int .i64 0), (.int .i64 0)] [(0, (1, (.t 32))), (1, (1, (.c (.int .i64 1))))]), none⟩, ⟨none, (.store 2 (.t 5) (.t 33)), none⟩] (some [0, 1, 4, 5, 6])) .skip)))) (.region [⟨(some 20), (.mv (.t 6)), none⟩, ⟨(some 21), (.bin .add (.t 20) (.c (.int .i64 1))), none⟩, ⟨(some 6), (.mv (.t 21)), none⟩] (some [0, 1, 4, 5, 6]))))))) (.seq (.region [⟨(some 34), (.load true 2 (.t 5)), none⟩, ⟨none, (.store 2 (.t 4) (.t 34)), none⟩] (some [4])) .ret)))))
theorem code17 : IsCode Tryz.prog 17 sc17 [(4, (some (true, 2)))] 35 := .mk' Tryz.func17 (by kernel_rfl) (by kernel_rfl) (by kernel_rfl) (by kernel_rfl)
/-- quietus/quietusref31.Same -/
def sc18 : SC := (.seq (.region [⟨(some 4), (.mv (.c (.bool false))), none⟩] (some [0, 1])) (.seq (.seq (.region [⟨(some 6), (.mv (.t 0)), none⟩, ⟨(some 7), (.len false (.t 6)), none⟩, ⟨(some 8), (.mv (.t 1)), none⟩, ⟨(some 9), (.len false (.t 8)), none⟩, ⟨(some 10), (.bin .neq (.t 7) (.t 9)), none⟩] (some [0, 1, 10])) (.cond (.t 10) (some [0, 1]) (.seq (.region [⟨(some 4), (.mv (.c (.bool false))), none⟩] (some [4])) .ret) .skip)) (.seq (.seq (.region [⟨(some 5), (.mv (.c (.int .i64 0))), none⟩] (some [0, 1, 5])) (.block 0 (.loop (.seq (.seq (.region [⟨(some 11), (.mv (.t 5)), none⟩, ⟨(some 12), (.mv (.t 0)), none⟩, ⟨(some 13), (.len false (.t 12)), none⟩, ⟨(some 14), (.bin .lss (.t 11) (.t 13)), none⟩] (some [0, 1, 5, 14])) (.cond (.t 14) (some [0, 1, 5]) .skip (.exit 0))) (.seq (.block 1 (.seq (.region [⟨(some 17), (.mv (.t 0)), none⟩, ⟨(some 18), (.mv (.t 5)), none⟩, ⟨(some 19), (.iaddr 4 (.t 17) (.t 18)), none⟩, ⟨(some 20), (.faddr 0 (.t 19)), none⟩, ⟨(some 21), (.load false 1 (.t 20)), none⟩, ⟨(some 22), (.mv (.t 1)), none⟩, ⟨(some 23), (.mv (.t 5)), none⟩, ⟨(some 24), (.iaddr 4 (.t 22) (.t 23)), none⟩, ⟨(some 25), (.faddr 0 (.t 24)), none⟩, ⟨(some 26), (.load false 1 (.t 25)), none⟩, ⟨(some 27), (.bin .neq (.t 21) (.t 26)), none⟩, ⟨(some 28), (.mv (.t 27)), none⟩, ⟨(some 29), (.mv (.t 0)), (some (28, false))⟩, ⟨(some 30), (.mv (.t 5)), (some (28, false))⟩, ⟨(some 31), (.iaddr 4 (.t 29) (.t 30)), (some (28, false))⟩, ⟨(some 32), (.faddr 2 (.t 31)), (some (28, false))⟩, ⟨(some 33), (.load false 1 (.t 32)), (some (28, false))⟩, ⟨(some 34), (.mv (.t 1)), (some (28, false))⟩, ⟨(some 35), (.mv (.t 5)), (some (28, false))⟩, ⟨(some 36), (.iaddr 4 (.t 34) (.t 35)), (some (28, false))⟩, ⟨(some 37), (.faddr 2 (.t 36)), (some (28, false))⟩, ⟨(some 38), (.load false 1 (.t 37)), (some (28, false))⟩, ⟨(some 39), (.bins .neq (.t 33) (.t 38)), (some (28, false))⟩, ⟨(some 40), (.pick (.t 28) (.c (.bool true)) (.t 39)), none⟩, ⟨(some 41), (.mv (.t 40)), none⟩, ⟨(some 42), (.mv (.t 0)), (some (41, false))⟩, ⟨(some 43), (.mv (.t 5)), (some (41, false))⟩, ⟨(some 44), (.iaddr 4 (.t 42) (.t 43)), (some (41, false))⟩, ⟨(some 45), (.faddr 3 (.t 44)), (some (41, false))⟩, ⟨(some 46), (.load false 1 (.t 45)), (some (41, false))⟩, ⟨(some 47), (.mv (.t 1)), (some (41, false))⟩, ⟨(some 48), (.mv (.t 5)), (some (41, false))⟩, ⟨(some 49), (.iaddr 4 (.t 47) (.t 48)), (some (41, false))⟩, ⟨(some 50), (.faddr 3 (.t 49)), (some (41, false))⟩, ⟨(some 51), (.load false 1 (.t 50)), (some (41, false))⟩, ⟨(some 52), (.bin .neq (.t 46) (.t 51)), (some (41, false))⟩, ⟨(some 53), (.pick (.t 41) (.c (.bool true)) (.t 52)), none⟩] (some [0, 1, 5, 53])) (.cond (.t 53) (some [0, 1, 5]) (.seq (.region [⟨(some 4), (.mv (.c (.bool false))), none⟩] (some [4])) .ret) .skip))) (.region [⟨(some 15), (.mv (.t 5)), none⟩, ⟨(some 16), (.bin .add (.t 15) (.c (.int .i64 1))), none⟩, ⟨(some 5), (.mv (.t 16)), none⟩] (some [0, 1, 5]))))))) (.seq (.region [⟨(some 4), (.mv (.c (.bool true))), none⟩] (some [4])) .ret))))
theorem code18 : IsCode Tryz.prog 18 sc18 [(4, none)] 54 := .mk' Tryz.func18 (by kernel_rfl) (by kernel_rfl) (by kernel_rfl) (by kernel_rfl)
/-- quietus/quietusref31.Blank -/
def sc19 : SC := (.seq (.region [⟨(some 4), (.mv (.c (.int .i64 0))), none⟩] (some [0, 1])) (.seq (.block 0 (.loop (.seq (.seq (.region [⟨(some 5), (.mv (.t 1)), none⟩, ⟨(some 6), (.mv (.t 0)), none⟩, ⟨(some 7), (.len true (.t 6)), none⟩, ⟨(some 8), (.bin .lss (.t 5) (.t 7)), none⟩] (some [0, 1, 8])) (.cond (.t 8) (some [0, 1]) .skip (.exit 0))) (.block 1 (.block 2 (.seq (.region [⟨(some 11), (.mv (.t 0)), none⟩, ⟨(some 12), (.mv (.t 1)), none⟩, ⟨(some 13), (.idxs (.t 11) (.t 12)), none⟩, ⟨(some 14), (.bin .eql (.t 13) (.c (.int .u8 32))), none⟩, ⟨(some 15), (.mv (.t 14)), none⟩, ⟨(some 16), (.mv (.t 0)), (some (15, false))⟩, ⟨(some 17), (.mv (.t 1)), (some (15, false))⟩, ⟨(some 18), (.idxs (.t 16) (.t 17)), (some (15, false))⟩, ⟨(some 19), (.bin .eql (.t 18) (.c (.int .u8 9))), (some (15, false))⟩, ⟨(some 20), (.pick (.t 15) (.c (.bool true)) (.t 19)), none⟩, ⟨(some 21), (.mv (.t 20)), none⟩, ⟨(some 22), (.mv (.t 0)), (some (21, false))⟩, ⟨(some 23), (.mv (.t 1)), (some (21, false))⟩, ⟨(some 24), (.idxs (.t 22) (.t 23)), (some (21, false))⟩, ⟨(some 25), (.bin .eql (.t 24) (.c (.int .u8 10))), (some (21, false))⟩, ⟨(some 26), (.pick (.t 21) (.c (.bool true)) (.t 25)), none⟩, ⟨(some 27), (.mv (.t 26)), none⟩, ⟨(some 28), (.mv (.t 0)), (some (27, false))⟩, ⟨(some 29), (.mv (.t 1)), (some (27, false))⟩, ⟨(some 30), (.idxs (.t 28) (.t 29)), (some (27, false))⟩, ⟨(some 31), (.bin .eql (.t 30) (.c (.int .u8 13))), (some (27, false))⟩, ⟨(some 32), (.pick (.t 27) (.c (.bool true)) (.t 31)), none⟩, ⟨(some 10), (.mv (.t 32)), none⟩] (some [0, 1, 10])) (.cond (.t 10) (some [0, 1]) (.region [⟨(some 33), (.mv (.t 1)), none⟩, ⟨(some 34), (.bin .add (.t 33) (.c (.int .i64 1))), none⟩, ⟨(some 1), (.mv (.t 34)), none⟩] (some [0, 1])) (.seq (.region [⟨(some 36), (.mv (.t 0)), none⟩, ⟨(some 37), (.mv (.t 1)), none⟩, ⟨(some 38), (.idxs (.t 36) (.t 37)), none⟩, ⟨(some 39), (.bin .eql (.t 38) (.c (.int .u8 35))), none⟩, ⟨(some 35), (.mv (.t 39)), none⟩] (some [0, 1, 35])) (.cond (.t 35) (some [0, 1]) (.block 3 (.loop (.seq (.seq (.region [⟨(some 40), (.mv (.t 1)), none⟩, ⟨(some 41), (.mv (.t 0)), none⟩, ⟨(some 42), (.len true (.t 41)), none⟩, ⟨(some 43), (.bin .lss (.t 40) (.t 42)), none⟩, ⟨(some 44), (.mv (.t 43)), none⟩, ⟨(some 45), (.mv (.t 0)), (some (44, true))⟩, ⟨(some 46), (.mv (.t 1)), (some (44, true))⟩, ⟨(some 47), (.idxs (.t 45) (.t 46)), (some (44, true))⟩, ⟨(some 48), (.bin .neq (.t 47) (.c (.int .u8 10))), (some (44, true))⟩, ⟨(some 49), (.pick (.t 44) (.t 48) (.c (.bool false))), none⟩] (some [0, 1, 49])) (.cond (.t 49) (some [0, 1]) .skip (.exit 3))) (.block 4 (.region [⟨(some 50), (.mv (.t 1)), none⟩, ⟨(some 51), (.bin .add (.t 50) (.c (.int .i64 1))), none⟩, ⟨(some 1), (.mv (.t 51)), none⟩] (some [0, 1])))))) (.seq (.region [⟨(some 9), (.mv (.t 1)), none⟩, ⟨(some 4), (.mv (.t 9)), none⟩] (some [4])) .ret)))))))))) (.seq (.region [⟨(some 52), (.mv (.t 1)), none⟩, ⟨(some 4), (.mv (.t 52)), none⟩] (some [4])) .ret)))
theorem code19 : IsCode Tryz.prog 19 sc19 [(4, none)] 53 := .mk' Tryz.func19 (by kernel_rfl) (by kernel_rfl) (by kernel_rfl) (by kernel_rfl)
/-- quietus/quietusref31.token -/
def sc23 : SC := (.seq (.region [⟨(some 4), (.alloc [(.int .i64 0), (.int .i64 0), (.str []), (.int .i64 0), (.int .i64 0), (.int .i64 0)]), none⟩] (some [0, 1, 4])) (.seq (.block 0 (.seq (.region [⟨(some 7), (.mv (.t 0)), none⟩, ⟨(some 8), (.mv (.t 1)), none⟩, ⟨(some 9), (.idxs (.t 7) (.t 8)), none⟩, ⟨(some 10), (.call 36 [(.t 9)]), none⟩, ⟨(some 6), (.mv (.t 10)), none⟩] (some [0, 1, 4, 6])) (.cond (.t 6) (some [0, 1, 4]) (.seq (.region [⟨(some 11), (.mv (.t 0)), none⟩, ⟨(some 12), (.mv (.t 1)), none⟩, ⟨(some 13), (.call 37 [(.t 11), (.t 12)]), none⟩, ⟨none, (.store 6 (.t 4) (.t 13)), none⟩] (some [4])) .ret) (.seq (.region [⟨(some 15), (.mv (.t 0)), none⟩, ⟨(some 16), (.mv (.t 1)), none⟩, ⟨(some 17), (.idxs (.t 15) (.t 16)), none⟩, ⟨(some 18), (.call 38 [(.t 17)]), none⟩, ⟨(some 14), (.mv (.t 18)), none⟩] (some [0, 1, 4, 14])) (.cond (.t 14) (some [0, 1, 4]) (.seq (.region [⟨(some 19), (.mv (.t 0)), none⟩, ⟨(some 20), (.mv (.t 1)), none⟩, ⟨(some 21), (.call 39 [(.t 19), (.t 20)]), none⟩, ⟨none, (.store 6 (.t 4) (.t 21)), none⟩] (some [4])) .ret) (.seq (.region [⟨(some 23), (.mv (.t 0)), none⟩, ⟨(some 24), (.mv (.t 1)), none⟩, ⟨(some 25), (.idxs (.t 23) (.t 24)), none⟩, ⟨(some 26), (.bin .eql (.t 25) (.c (.int .u8 34))), none⟩, ⟨(some 22), (.mv (.t 26)), none⟩] (some [0, 1, 4, 22])) (.cond (.t 22) (some [0, 1, 4]) (.seq (.region [⟨(some 27), (.mv (.t 0)), none⟩, ⟨(some 28), (.mv (.t 1)), none⟩, ⟨(some 29), (.call 40 [(.t 27), (.t 28)]), none⟩, ⟨none, (.store 6 (.t 4) (.t 29)), none⟩] (some [4])) .ret) .skip))))))) (.seq (.region [⟨(some 30), (.mv (.t 0)), none⟩, ⟨(some 31), (.mv (.t 1)), none⟩, ⟨(some 32), (.cuts (.t 30) (some (.t 31)) none), none⟩, ⟨(some 33), (.call 41 [(.t 32)]), none⟩, ⟨(some 5), (.mv (.t 33)), none⟩] (some [1, 4, 5])) (.seq (.seq (.region [⟨(some 34), (.mv (.t 5)), none⟩, ⟨(some 35), (.bins .eql (.t 34) (.c (.str []))), none⟩] (some [1, 4, 5, 35])) (.cond (.t 35) (some [1, 4, 5]) (.seq (.region [⟨(some 36), (.build [(.int .i64 0), (.int .i64 0), (.str []), (.int .i64 0), (.int .i64 0), (.int .i64 0)] [(5, (1, (.c (.int .i64 26))))]), none⟩, ⟨none, (.store 6 (.t 4) (.t 36)), none⟩] (some [4])) .ret) .skip)) (.seq (.region [⟨(some 37), (.mv (.t 1)), none⟩, ⟨(some 38), (.mv (.t 5)), none⟩, ⟨(some 39), (.build [(.int .i64 0), (.int .i64 0), (.str []), (.int .i64 0)] [(0, (1, (.c (.int .i64 4)))), (1, (1, (.t 37))), (2, (1, (.t 38)))]), none⟩, ⟨(some 40), (.mv (.t 1)), none⟩, ⟨(some 41), (.mv (.t 5)), none⟩, ⟨(some 42), (.len true (.t 41)), none⟩, ⟨(some 43), (.bin .add (.t 40) (.t 42)), none⟩, ⟨(some 44), (.build [(.int .i64 0), (.int .i64 0), (.str []), (.int .i64 0), (.int .i64 0), (.int .i64 0)] [(0, (4, (.t 39))), (4, (1, (.t 43)))]), none⟩, ⟨none, (.store 6 (.t 4) (.t 44)), none⟩] (some [4])) .ret)))))
theorem code23 : IsCode Tryz.prog 23 sc23 [(4, (some (true, 6)))] 45 := .mk' Tryz.func23 (by kernel_rfl) (by kernel_rfl) (by kernel_rfl) (by kernel_rfl)
/-- quietus/quietusref31.Decimal -/
def sc28 : SC := (.seq (.region [⟨(some 2), (.mv (.c (.str []))), none⟩] (some [0])) (.seq (.seq (.region [⟨(some 3), (.mv (.t 0)), none⟩, ⟨(some 4), (.bin .leq (.t 3) (.c (.int .i64 (-10)))), none⟩] (some [0, 4])) (.cond (.t 4) (some [0]) (.seq (.region [⟨(some 5), (.mv (.t 0)), none⟩, ⟨(some 6), (.bin .quo (.t 5) (.c (.int .i64 10))), none⟩, ⟨(some 7), (.call 28 [(.t 6)]), none⟩, ⟨(some 8), (.mv (.t 0)), none⟩, ⟨(some 9), (.bin .rem (.t 8) (.c (.int .i64 10))), none⟩, ⟨(some 10), (.un .neg (.t 9)), none⟩, ⟨(some 11), (.call 28 [(.t 10)]), none⟩, ⟨(some 12), (.bins .add (.t 7) (.t 11)), none⟩, ⟨(some 2), (.mv (.t 12)), none⟩] (some [2])) .ret) .skip)) (.seq (.seq (.region [⟨(some 13), (.mv (.t 0)), none⟩, ⟨(some 14), (.bin .lss (.t 13) (.c (.int .i64 0))), none⟩] (some [0, 14])) (.cond (.t 14) (some [0]) (.seq (.region [⟨(some 15), (.mv (.t 0)), none⟩, ⟨(some 16), (.un .neg (.t 15)), none⟩, ⟨(some 17), (.call 28 [(.t 16)]), none⟩, ⟨(some 18), (.bins .add (.c (.str [45])) (.t 17)), none⟩, ⟨(some 2), (.mv (.t 18)), none⟩] (some [2])) .ret) .skip)) (.seq (.seq (.region [⟨(some 19), (.mv (.t 0)), none⟩, ⟨(some 20), (.bin .lss (.t 19) (.c (.int .i64 10))), none⟩] (some [0, 20])) (.cond (.t 20) (some [0]) (.seq (.region [⟨(some 21), (.mv (.t 0)), none⟩, ⟨(some 22), (.bin .add (.c (.int .i64 48)) (.t 21)), none⟩, ⟨(some 23), (.i2i .u8 (.t 22)), none⟩, ⟨(some 24), (.mkslice 1 [(.t 23)]), none⟩, ⟨(some 25), (.b2s (.t 24)), none⟩, ⟨(some 2), (.mv (.t 25)), none⟩] (some [2])) .ret) .skip)) (.seq (.region [⟨(some 26), (.mv (.t 0)), none⟩, ⟨(some 27), (.bin .quo (.t 26) (.c (.int .i64 10))), none⟩, ⟨(some 28), (.call 28 [(.t 27)]), none⟩, ⟨(some 29), (.mv (.t 0)), none⟩, ⟨(some 30), (.bin .rem (.t 29) (.c (.int .i64 10))), none⟩, ⟨(some 31), (.call 28 [(.t 30)]), none⟩, ⟨(some 32), (.bins .add (.t 28) (.t 31)), none⟩, ⟨(some 2), (.mv (.t 32)), none⟩] (some [2])) .ret)))))
theorem code28 : IsCode Tryz.prog 28 sc28 [(2, none)] 33 := .mk' Tryz.func28 (by kernel_rfl) (by kernel_rfl) (by kernel_rfl) (by kernel_rfl)
/-- quietus/quietusref31.quoted -/
def sc29 : SC := (.seq (.region [⟨(some 2), (.mv (.c (.str []))), none⟩] (some [0])) (.seq (.region [⟨(some 5), (.mkslice 1 [(.c (.int .u8 34))]), none⟩, ⟨(some 3), (.mv (.t 5)), none⟩] (some [0, 3])) (.seq (.seq (.region [⟨(some 4), (.mv (.c (.int .i64 0))), none⟩] (some [0, 3, 4])) (.block 0 (.loop (.seq (.seq (.region [⟨(some 6), (.mv (.t 4)), none⟩, ⟨(some 7), (.mv (.t 0)), none⟩, ⟨(some 8), (.len true (.t 7)), none⟩, ⟨(some 9), (.bin .lss (.t 6) (.t 8)), none⟩] (some [0, 3, 4, 9])) (.cond (.t 9) (some [0, 3, 4]) .skip (.exit 0))) (.seq (.block 1 (.seq (.region [⟨(some 12), (.mv (.t 0)), none⟩, ⟨(some 13), (.mv (.t 4)), none⟩, ⟨(some 14), (.idxs (.t 12) (.t 13)), none⟩] (some [0, 3, 4, 14])) (.block 2 (.seq (.seq (.region [⟨(some 22), (.bin .eql (.t 14) (.c (.int .u8 34))), none⟩, ⟨(some 21), (.mv (.t 22)), none⟩] (some [0, 3, 4, 14, 21])) (.cond (.t 21) (some [0, 3, 4, 14, 21]) .skip (.region [⟨(some 23), (.bin .eql (.t 14) (.c (.int .u8 92))), none⟩, ⟨(some 21), (.mv (.t 23)), none⟩] (some [0, 3, 4, 14, 21])))) (.cond (.t 21) (some [0, 3, 4, 14]) (.region [⟨(some 24), (.mv (.t 3)), none⟩, ⟨(some 25), (.mv (.t 0)), none⟩, ⟨(some 26), (.mv (.t 4)), none⟩, ⟨(some 27), (.idxs (.t 25) (.t 26)), none⟩, ⟨(some 28), (.mkslice 1 [(.c (.int .u8 92)), (.t 27)]), none⟩, ⟨(some 29), (.append 1 1 (.t 24) (.t 28)), none⟩, ⟨(some 3), (.mv (.t 29)), none⟩] (some [0, 3, 4])) (.seq (.region [⟨(some 31), (.bin .eql (.t 14) (.c (.int .u8 10))), none⟩, ⟨(some 30), (.mv (.t 31)), none⟩] (some [0, 3, 4, 30])) (.cond (.t 30) (some [0, 3, 4]) (.region [⟨(some 32), (.mv (.t 3)), none⟩, ⟨(some 33), (.mkslice 1 [(.c (.int .u8 92)), (.c (.int .u8 110))]), none⟩, ⟨(some 34), (.append 1 1 (.t 32) (.t 33)), none⟩, ⟨(some 3), (.mv (.t 34)), none⟩] (some [0, 3, 4])) (.region [⟨(some 15), (.mv (.t 3)), none⟩, ⟨(some 16), (.mv (.t 0)), none⟩, ⟨(some 17), (.mv (.t 4)), none⟩, ⟨(some 18), (.idxs (.t 16) (.t 17)), none⟩, ⟨(some 19), (.mkslice 1 [(.t 18)]), none⟩, ⟨(some 20), (.append 1 1 (.t 15) (.t 19)), none⟩, ⟨(some 3), (.mv (.t 20)), none⟩] (some [0, 3, 4]))))))))) (.region [⟨(some 10), (.mv (.t 4)), none⟩, ⟨(some 11), (.bin .add (.t 10) (.c (.int .i64 1))), none⟩, ⟨(some 4), (.mv (.t 11)), none⟩] (some [0, 3, 4]))))))) (.seq (.region [⟨(some 35), (.mv (.t 3)), none⟩, ⟨(some 36), (.mkslice 1 [(.c (.int .u8 34))]), none⟩, ⟨(some 37), (.append 1 1 (.t 35) (.t 36)), none⟩, ⟨(some 38), (.b2s (.t 37)), none⟩, ⟨(some 2), (.mv (.t 38)), none⟩] (some [2])) .ret))))
theorem code29 : IsCode Tryz.prog 29 sc29 [(2, none)] 39 := .mk' Tryz.func29 (by kernel_rfl) (by kernel_rfl) (by kernel_rfl) (by kernel_rfl)
/-- quietus/quietusref31.letter -/
def sc36 : SC := (.seq (.region [⟨(some 2), (.mv (.c (.bool false))), none⟩] (some [0])) (.seq (.region [⟨(some 3), (.mv (.t 0)), none⟩, ⟨(some 4), (.bin .geq (.t 3) (.c (.int .u8 97))), none⟩, ⟨(some 5), (.mv (.t 4)), none⟩, ⟨(some 6), (.mv (.t 0)), (some (5, true))⟩, ⟨(some 7), (.bin .leq (.t 6) (.c (.int .u8 122))), (some (5, true))⟩, ⟨(some 8), (.pick (.t 5) (.t 7) (.c (.bool false))), none⟩, ⟨(some 9), (.mv (.t 8)), none⟩, ⟨(some 10), (.mv (.t 0)), (some (9, false))⟩, ⟨(some 11), (.bin .geq (.t 10) (.c (.int .u8 65))), (some (9, false))⟩, ⟨(some 12), (.mv (.t 11)), (some (9, false))⟩, ⟨(some 13), (.mv (.t 0)), (some (12, true))⟩, ⟨(some 14), (.bin .leq (.t 13) (.c (.int .u8 90))), (some (12, true))⟩, ⟨(some 15), (.pick (.t 12) (.t 14) (.c (.bool false))), (some (9, false))⟩, ⟨(some 16), (.pick (.t 9) (.c (.bool true)) (.t 15)), none⟩, ⟨(some 17), (.mv (.t 16)), none⟩, ⟨(some 18), (.mv (.t 0)), (some (17, false))⟩, ⟨(some 19), (.bin .eql (.t 18) (.c (.int .u8 95))), (some (17, false))⟩, ⟨(some 20), (.pick (.t 17) (.c (.bool true)) (.t 19)), none⟩, ⟨(some 2), (.mv (.t 20)), none⟩] (some [2])) .ret))
theorem code36 : IsCode Tryz.prog 36 sc36 [(2, none)] 21 := .mk' Tryz.func36 (by kernel_rfl) (by kernel_rfl) (by kernel_rfl) (by kernel_rfl)
/-- quietus/quietusref31.name -/
def sc37 : SC := (.seq (.region [⟨(some 4), (.alloc [(.int .i64 0), (.int .i64 0), (.str []), (.int .i64 0), (.int .i64 0), (.int .i64 0)]), none⟩] (some [0, 1, 4])) (.seq (.region [⟨(some 6), (.mv (.t 1)), none⟩, ⟨(some 5), (.mv (.t 6)), none⟩] (some [0, 1, 4, 5])) (.seq (.block 0 (.loop (.seq (.seq (.region [⟨(some 7), (.mv (.t 5)), none⟩, ⟨(some 8), (.mv (.t 0)), none⟩, ⟨(some 9), (.len true (.t 8)), none⟩, ⟨(some 10), (.bin .lss (.t 7) (.t 9)), none⟩, ⟨(some 11), (.mv (.t 10)), none⟩, ⟨(some 12), (.mv (.t 0)), (some (11, true))⟩, ⟨(some 13), (.mv (.t 5)), (some (11, true))⟩, ⟨(some 14), (.idxs (.t 12) (.t 13)), (some (11, true))⟩, ⟨(some 15), (.call 36 [(.t 14)]), (some (11, true))⟩, ⟨(some 16), (.mv (.t 15)), (some (11, true))⟩, ⟨(some 17), (.mv (.t 0)), (some (16, false))⟩, ⟨(some 18), (.mv (.t 5)), (some (16, false))⟩, ⟨(some 19), (.idxs (.t 17) (.t 18)), (some (16, false))⟩, ⟨(some 20), (.call 38 [(.t 19)]), (some (16, false))⟩, ⟨(some 21), (.pick (.t 16) (.c (.bool true)) (.t 20)), (some (11, true))⟩, ⟨(some 22), (.pick (.t 11) (.t 21) (.c (.bool false))), none⟩] (some [0, 1, 4, 5, 22])) (.cond (.t 22) (some [0, 1, 4, 5]) .skip (.exit 0))) (.block 1 (.region [⟨(some 23), (.mv (.t 5)), none⟩, ⟨(some 24), (.bin .add (.t 23) (.c (.int .i64 1))), none⟩, ⟨(some 5), (.mv (.t 24)), none⟩] (some [0, 1, 4, 5])))))) (.seq (.seq (.region [⟨(some 25), (.mv (.t 5)), none⟩, ⟨(some 26), (.mv (.t 1)), none⟩, ⟨(some 27), (.bin .sub (.t 25) (.t 26)), none⟩, ⟨(some 28), (.bin .gtr (.t 27) (.c (.int .i64 32))), none⟩] (some [0, 1, 4, 5, 28])) (.cond (.t 28) (some [0, 1, 4, 5]) (.seq (.region [⟨(some 29), (.build [(.int .i64 0), (.int .i64 0), (.str []), (.int .i64 0), (.int .i64 0), (.int .i64 0)] [(5, (1, (.c (.int .i64 2))))]), none⟩, ⟨none, (.store 6 (.t 4) (.t 29)), none⟩] (some [4])) .ret) .skip)) (.seq (.region [⟨(some 30), (.mv (.t 1)), none⟩, ⟨(some 31), (.mv (.t 0)), none⟩, ⟨(some 32), (.mv (.t 1)), none⟩, ⟨(some 33), (.mv (.t 5)), none⟩, ⟨(some 34), (.cuts (.t 31) (some (.t 32)) (some (.t 33))), none⟩, ⟨(some 35), (.build [(.int .i64 0), (.int .i64 0), (.str []), (.int .i64 0)] [(0, (1, (.c (.int .i64 1)))), (1, (1, (.t 30))), (2, (1, (.t 34)))]), none⟩, ⟨(some 36), (.mv (.t 5)), none⟩, ⟨(some 37), (.build [(.int .i64 0), (.int .i64 0), (.str []), (.int .i64 0), (.int .i64 0), (.int .i64 0)] [(0, (4, (.t 35))), (4, (1, (.t 36)))]), none⟩, ⟨none, (.store 6 (.t 4) (.t 37)), none⟩] (some [4])) .ret)))))
theorem code37 : IsCode Tryz.prog 37 sc37 [(4, (some (true, 6)))] 38 := .mk' Tryz.func37 (by kernel_rfl) (by kernel_rfl) (by kernel_rfl) (by kernel_rfl)
/-- quietus/quietusref31.digit -/
def sc38 : SC := (.seq (.region [⟨(some 2), (.mv (.c (.bool false))), none⟩] (some [0])) (.seq (.region [⟨(some 3), (.mv (.t 0)), none⟩, ⟨(some 4), (.bin .geq (.t 3) (.c (.int .u8 48))), none⟩, ⟨(some 5), (.mv (.t 4)), none⟩, ⟨(some 6), (.mv (.t 0)), (some (5, true))⟩, ⟨(some 7), (.bin .leq (.t 6) (.c (.int .u8 57))), (some (5, true))⟩, ⟨(some 8), (.pick (.t 5) (.t 7) (.c (.bool false))), none⟩, ⟨(some 2), (.mv (.t 8)), none⟩] (some [2])) .ret))
theorem code38 : IsCode Tryz.prog 38 sc38 [(2, none)] 9 := .mk' Tryz.func38 (by kernel_rfl) (by kernel_rfl) (by kernel_rfl) (by kernel_rfl)
/-- quietus/quietusref31.number -/
def sc39 : SC := (.seq (.region [⟨(some 4), (.alloc [(.int .i64 0), (.int .i64 0), (.str []), (.int .i64 0), (.int .i64 0), (.int .i64 0)]), none⟩] (some [0, 1, 4])) (.seq (.region [⟨(some 8), (.mv (.t 1)), none⟩, ⟨(some 5), (.mv (.t 8)), none⟩] (some [0, 1, 4, 5])) (.seq (.block 0 (.loop (.seq (.seq (.region [⟨(some 9), (.mv (.t 5)), none⟩, ⟨(some 10), (.mv (.t 0)), none⟩, ⟨(some 11), (.len true (.t 10)), none⟩, ⟨(some 12), (.bin .lss (.t 9) (.t 11)), none⟩, ⟨(some 13), (.mv (.t 12)), none⟩, ⟨(some 14), (.mv (.t 0)), (some (13, true))⟩, ⟨(some 15), (.mv (.t 5)), (some (13, true))⟩, ⟨(some 16), (.idxs (.t 14) (.t 15)), (some (13, true))⟩, ⟨(some 17), (.call 38 [(.t 16)]), (some (13, true))⟩, ⟨(some 18), (.pick (.t 13) (.t 17) (.c (.bool false))), none⟩] (some [0, 1, 4, 5, 18])) (.cond (.t 18) (some [0, 1, 4, 5]) .skip (.exit 0))) (.block 1 (.region [⟨(some 19), (.mv (.t 5)), none⟩, ⟨(some 20), (.bin .add (.t 19) (.c (.int .i64 1))), none⟩, ⟨(some 5), (.mv (.t 20)), none⟩] (some [0, 1, 4, 5])))))) (.seq (.seq (.region [⟨(some 21), (.mv (.t 5)), none⟩, ⟨(some 22), (.mv (.t 1)), none⟩, ⟨(some 23), (.bin .sub (.t 21) (.t 22)), none⟩, ⟨(some 24), (.bin .gtr (.t 23) (.c (.int .i64 15))), none⟩, ⟨(some 25), (.mv (.t 24)), none⟩, ⟨(some 26), (.mv (.t 5)), (some (25, false))⟩, ⟨(some 27), (.mv (.t 1)), (some (25, false))⟩, ⟨(some 28), (.bin .sub (.t 26) (.t 27)), (some (25, false))⟩, ⟨(some 29), (.bin .gtr (.t 28) (.c (.int .i64 1))), (some (25, false))⟩, ⟨(some 30), (.mv (.t 29)), (some (25, false))⟩, ⟨(some 31), (.mv (.t 0)), (some (30, true))⟩, ⟨(some 32), (.mv (.t 1)), (some (30, true))⟩, ⟨(some 33), (.idxs (.t 31) (.t 32)), (some (30, true))⟩, ⟨(some 34), (.bin .eql (.t 33) (.c (.int .u8 48))), (some (30, true))⟩, ⟨(some 35), (.pick (.t 30) (.t 34) (.c (.bool false))), (some (25, false))⟩, ⟨(some 36), (.pick (.t 25) (.c (.bool true)) (.t 35)), none⟩, ⟨(some 37), (.mv (.t 36)), none⟩, ⟨(some 38), (.mv (.t 5)), (some (37, false))⟩, ⟨(some 39), (.mv (.t 0)), (some (37, false))⟩, ⟨(some 40), (.len true (.t 39)), (some (37, false))⟩, ⟨(some 41), (.bin .lss (.t 38) (.t 40)), (some (37, false))⟩, ⟨(some 42), (.mv (.t 41)), (some (37, false))⟩, ⟨(some 43), (.mv (.t 0)), (some (42, true))⟩, ⟨(some 44), (.mv (.t 5)), (some (42, true))⟩, ⟨(some 45), (.idxs (.t 43) (.t 44)), (some (42, true))⟩, ⟨(some 46), (.call 36 [(.t 45)]), (some (42, true))⟩, ⟨(some 47), (.pick (.t 42) (.t 46) (.c (.bool false))), (some (37, false))⟩, ⟨(some 48), (.pick (.t 37) (.c (.bool true)) (.t 47)), none⟩] (some [0, 1, 4, 5, 48])) (.cond (.t 48) (some [0, 1, 4, 5]) (.seq (.region [⟨(some 49), (.build [(.int .i64 0), (.int .i64 0), (.str []), (.int .i64 0), (.int .i64 0), (.int .i64 0)] [(5, (1, (.c (.int .i64 27))))]), none⟩, ⟨none, (.store 6 (.t 4) (.t 49)), none⟩] (some [4])) .ret) .skip)) (.seq (.region [⟨(some 6), (.mv (.c (.int .i64 0))), none⟩] (some [0, 1, 4, 5, 6])) (.seq (.seq (.region [⟨(some 50), (.mv (.t 1)), none⟩, ⟨(some 7), (.mv (.t 50)), none⟩] (some [0, 1, 4, 5, 6, 7])) (.block 2 (.loop (.seq (.seq (.region [⟨(some 51), (.mv (.t 7)), none⟩, ⟨(some 52), (.mv (.t 5)), none⟩, ⟨(some 53), (.bin .lss (.t 51) (.t 52)), none⟩] (some [0, 1, 4, 5, 6, 7, 53])) (.cond (.t 53) (some [0, 1, 4, 5, 6, 7]) .skip (.exit 2))) (.seq (.block 3 (.region [⟨(some 56), (.mv (.t 6)), none⟩, ⟨(some 57), (.bin .mul (.c (.int .i64 10)) (.t 56)), none⟩, ⟨(some 58), (.mv (.t 0)), none⟩, ⟨(some 59), (.mv (.t 7)), none⟩, ⟨(some 60), (.idxs (.t 58) (.t 59)), none⟩, ⟨(some 61), (.bin .sub (.t 60) (.c (.int .u8 48))), none⟩, ⟨(some 62), (.i2i .i64 (.t 61)), none⟩, ⟨(some 63), (.bin .add (.t 57) (.t 62)), none⟩, ⟨(some 6), (.mv (.t 63)), none⟩] (some [0, 1, 4, 5, 6, 7]))) (.region [⟨(some 54), (.mv (.t 7)), none⟩, ⟨(some 55), (.bin .add (.t 54) (.c (.int .i64 1))), none⟩, ⟨(some 7), (.mv (.t 55)), none⟩] (some [0, 1, 4, 5, 6, 7]))))))) (.seq (.region [⟨(some 64), (.mv (.t 1)), none⟩, ⟨(some 65), (.mv (.t 6)), none⟩, ⟨(some 66), (.build [(.int .i64 0), (.int .i64 0), (.str []), (.int .i64 0)] [(0, (1, (.c (.int .i64 2)))), (1, (1, (.t 64))), (3, (1, (.t 65)))]), none⟩, ⟨(some 67), (.mv (.t 5)), none⟩, ⟨(some 68), (.build [(.int .i64 0), (.int .i64 0), (.str []), (.int .i64 0), (.int .i64 0), (.int .i64 0)] [(0, (4, (.t 66))), (4, (1, (.t 67)))]), none⟩, ⟨none, (.store 6 (.t 4) (.t 68)), none⟩] (some [4])) .ret)))))))
theorem code39 : IsCode Tryz.prog 39 sc39 [(4, (some (true, 6)))] 69 := .mk' Tryz.func39 (by kernel_rfl) (by kernel_rfl) (by kernel_rfl) (by kernel_rfl)
/-- quietus/quietusref31.text -/
def sc40 : SC := (.seq (.region [⟨(some 4), (.alloc [(.int .i64 0), (.int .i64 0), (.str []), (.int .i64 0), (.int .i64 0), (.int .i64 0)]), none⟩] (some [0, 1, 4])) (.seq (.region [⟨(some 5), (.mv (.c (.slice .nil 0 []))), none⟩] (some [0, 1, 4, 5])) (.seq (.region [⟨(some 7), (.mv (.t 1)), none⟩, ⟨(some 8), (.bin .add (.t 7) (.c (.int .i64 1))), none⟩, ⟨(some 6), (.mv (.t 8)), none⟩] (some [0, 1, 4, 5, 6])) (.seq (.block 0 (.loop (.seq (.seq (.region [⟨(some 9), (.mv (.t 6)), none⟩, ⟨(some 10), (.mv (.t 0)), none⟩, ⟨(some 11), (.len true (.t 10)), none⟩, ⟨(some 12), (.bin .lss (.t 9) (.t 11)), none⟩] (some [0, 1, 4, 5, 6, 12])) (.cond (.t 12) (some [0, 1, 4, 5, 6]) .skip (.exit 0))) (.block 1 (.seq (.seq (.region [⟨(some 13), (.mv (.t 5)), none⟩, ⟨(some 14), (.len false (.t 13)), none⟩, ⟨(some 15), (.bin .gtr (.t 14) (.c (.int .i64 200))), none⟩] (some [0, 1, 4, 5, 6, 15])) (.cond (.t 15) (some [0, 1, 4, 5, 6]) (.seq (.region [⟨(some 16), (.build [(.int .i64 0), (.int .i64 0), (.str []), (.int .i64 0), (.int .i64 0), (.int .i64 0)] [(5, (1, (.c (.int .i64 2))))]), none⟩, ⟨none, (.store 6 (.t 4) (.t 16)), none⟩] (some [4])) .ret) .skip)) (.block 2 (.seq (.region [⟨(some 26), (.mv (.t 0)), none⟩, ⟨(some 27), (.mv (.t 6)), none⟩, ⟨(some 28), (.idxs (.t 26) (.t 27)), none⟩, ⟨(some 29), (.bin .eql (.t 28) (.c (.int .u8 34))), none⟩, ⟨(some 25), (.mv (.t 29)), none⟩] (some [0, 1, 4, 5, 6, 25])) (.cond (.t 25) (some [0, 1, 4, 5, 6]) (.seq (.region [⟨(some 30), (.mv (.t 1)), none⟩, ⟨(some 31), (.mv (.t 5)), none⟩, ⟨(some 32), (.b2s (.t 31)), none⟩, ⟨(some 33), (.build [(.int .i64 0), (.int .i64 0), (.str []), (.int .i64 0)] [(0, (1, (.c (.int .i64 3)))), (1, (1, (.t 30))), (2, (1, (.t 32)))]), none⟩, ⟨(some 34), (.mv (.t 6)), none⟩, ⟨(some 35), (.bin .add (.t 34) (.c (.int .i64 1))), none⟩, ⟨(some 36), (.build [(.int .i64 0), (.int .i64 0), (.str []), (.int .i64 0), (.int .i64 0), (.int .i64 0)] [(0, (4, (.t 33))), (4, (1, (.t 35)))]), none⟩, ⟨none, (.store 6 (.t 4) (.t 36)), none⟩] (some [4])) .ret) (.seq (.region [⟨(some 38), (.mv (.t 0)), none⟩, ⟨(some 39), (.mv (.t 6)), none⟩, ⟨(some 40), (.idxs (.t 38) (.t 39)), none⟩, ⟨(some 41), (.bin .eql (.t 40) (.c (.int .u8 92))), none⟩, ⟨(some 42), (.mv (.t 41)), none⟩, ⟨(some 43), (.mv (.t 6)), (some (42, true))⟩, ⟨(some 44), (.bin .add (.t 43) (.c (.int .i64 1))), (some (42, true))⟩, ⟨(some 45), (.mv (.t 0)), (some (42, true))⟩, ⟨(some 46), (.len true (.t 45)), (some (42, true))⟩, ⟨(some 47), (.bin .lss (.t 44) (.t 46)), (some (42, true))⟩, ⟨(some 48), (.pick (.t 42) (.t 47) (.c (.bool false))), none⟩, ⟨(some 49), (.mv (.t 48)), none⟩, ⟨(some 50), (.mv (.t 0)), (some (49, true))⟩, ⟨(some 51), (.mv (.t 6)), (some (49, true))⟩, ⟨(some 52), (.bin .add (.t 51) (.c (.int .i64 1))), (some (49, true))⟩, ⟨(some 53), (.idxs (.t 50) (.t 52)), (some (49, true))⟩, ⟨(some 54), (.call 54 [(.t 53)]), (some (49, true))⟩, ⟨(some 55), (.bin .neq (.t 54) (.c (.int .u8 0))), (some (49, true))⟩, ⟨(some 56), (.pick (.t 49) (.t 55) (.c (.bool false))), none⟩, ⟨(some 37), (.mv (.t 56)), none⟩] (some [0, 1, 4, 5, 6, 37])) (.cond (.t 37) (some [0, 1, 4, 5, 6]) (.seq (.region [⟨(some 57), (.mv (.t 5)), none⟩, ⟨(some 58), (.mv (.t 0)), none⟩, ⟨(some 59), (.mv (.t 6)), none⟩, ⟨(some 60), (.bin .add (.t 59) (.c (.int .i64 1))), none⟩, ⟨(some 61), (.idxs (.t 58) (.t 60)), none⟩, ⟨(some 62), (.call 54 [(.t 61)]), none⟩, ⟨(some 63), (.mkslice 1 [(.t 62)]), none⟩, ⟨(some 64), (.append 1 1 (.t 57) (.t 63)), none⟩, ⟨(some 5), (.mv (.t 64)), none⟩] (some [0, 1, 4, 5, 6])) (.region [⟨(some 65), (.mv (.t 6)), none⟩, ⟨(some 66), (.bin .add (.t 65) (.c (.int .i64 2))), none⟩, ⟨(some 6), (.mv (.t 66)), none⟩] (some [0, 1, 4, 5, 6]))) (.seq (.region [⟨(some 68), (.mv (.t 0)), none⟩, ⟨(some 69), (.mv (.t 6)), none⟩, ⟨(some 70), (.idxs (.t 68) (.t 69)), none⟩, ⟨(some 71), (.bin .eql (.t 70) (.c (.int .u8 92))), none⟩, ⟨(some 72), (.mv (.t 71)), none⟩, ⟨(some 73), (.mv (.t 0)), (some (72, false))⟩, ⟨(some 74), (.mv (.t 6)), (some (72, false))⟩, ⟨(some 75), (.idxs (.t 73) (.t 74)), (some (72, false))⟩, ⟨(some 76), (.bin .lss (.t 75) (.c (.int .u8 32))), (some (72, false))⟩, ⟨(some 77), (.pick (.t 72) (.c (.bool true)) (.t 76)), none⟩, ⟨(some 78), (.mv (.t 77)), none⟩, ⟨(some 79), (.mv (.t 0)), (some (78, false))⟩, ⟨(some 80), (.mv (.t 6)), (some (78, false))⟩, ⟨(some 81), (.idxs (.t 79) (.t 80)), (some (78, false))⟩, ⟨(some 82), (.bin .gtr (.t 81) (.c (.int .u8 126))), (some (78, false))⟩, ⟨(some 83), (.pick (.t 78) (.c (.bool true)) (.t 82)), none⟩, ⟨(some 67), (.mv (.t 83)), none⟩] (some [0, 1, 4, 5, 6, 67])) (.cond (.t 67) (some [0, 1, 4, 5, 6]) (.seq (.region [⟨(some 84), (.build [(.int .i64 0), (.int .i64 0), (.str []), (.int .i64 0), (.int .i64 0), (.int .i64 0)] [(5, (1, (.c (.int .i64 28))))]), none⟩, ⟨none, (.store 6 (.t 4) (.t 84)), none⟩] (some [4])) .ret) (.seq (.region [⟨(some 17), (.mv (.t 5)), none⟩, ⟨(some 18), (.mv (.t 0)), none⟩, ⟨(some 19), (.mv (.t 6)), none⟩, ⟨(some 20), (.idxs (.t 18) (.t 19)), none⟩, ⟨(some 21), (.mkslice 1 [(.t 20)]), none⟩, ⟨(some 22), (.append 1 1 (.t 17) (.t 21)), none⟩, ⟨(some 5), (.mv (.t 22)), none⟩] (some [0, 1, 4, 5, 6])) (.region [⟨(some 23), (.mv (.t 6)), none⟩, ⟨(some 24), (.bin .add (.t 23) (.c (.int .i64 1))), none⟩, ⟨(some 6), (.mv (.t 24)), none⟩] (some [0, 1, 4, 5, 6]))))))))))))))) (.seq (.seq (.region [⟨(some 85), (.mv (.t 5)), none⟩, ⟨(some 86), (.len false (.t 85)), none⟩, ⟨(some 87), (.bin .gtr (.t 86) (.c (.int .i64 200))), none⟩] (some [4, 87])) (.cond (.t 87) (some [4]) (.seq (.region [⟨(some 88), (.build [(.int .i64 0), (.int .i64 0), (.str []), (.int .i64 0), (.int .i64 0), (.int .i64 0)] [(5, (1, (.c (.int .i64 2))))]), none⟩, ⟨none, (.store 6 (.t 4) (.t 88)), none⟩] (some [4])) .ret) .skip)) (.seq (.region [⟨(some 89), (.build [(.int .i64 0), (.int .i64 0), (.str []), (.int .i64 0), (.int .i64 0), (.int .i64 0)] [(5, (1, (.c (.int .i64 28))))]), none⟩, ⟨none, (.store 6 (.t 4) (.t 89)), none⟩] (some [4])) .ret))))))
theorem code40 : IsCode Tryz.prog 40 sc40 [(4, (some (true, 6)))] 90 := .mk' Tryz.func40 (by kernel_rfl) (by kernel_rfl) (by kernel_rfl) (by kernel_rfl)
/-- quietus/quietusref31.Sign -/
def sc41 : SC := (.seq (.region [⟨(some 2), (.mv (.c (.str []))), none⟩] (some [0])) (.seq (.region [⟨(some 7), (.mkslice 1 [(.c (.str [45, 62])), (.c (.str [58, 61])), (.c (.str [61, 61])), (.c (.str [33, 61])), (.c (.str [60, 61])), (.c (.str [62, 61])), (.c (.str [38, 38])), (.c (.str [124, 124])), (.c (.str [46, 46]))]), none⟩, ⟨(some 3), (.mv (.t 7)), none⟩] (some [0, 3])) (.seq (.region [⟨(some 8), (.mkslice 1 [(.c (.str [40])), (.c (.str [41])), (.c (.str [123])), (.c (.str [125])), (.c (.str [91])), (.c (.str [93])), (.c (.str [44])), (.c (.str [59])), (.c (.str [58])), (.c (.str [46])), (.c (.str [43])), (.c (.str [45])), (.c (.str [42])), (.c (.str [47])), (.c (.str [37])), (.c (.str [60])), (.c (.str [62])), (.c (.str [61])), (.c (.str [33])), (.c (.str [38])), (.c (.str [124])), (.c (.str [64])), (.c (.str [63])), (.c (.str [94])), (.c (.str [126]))]), none⟩, ⟨(some 4), (.mv (.t 8)), none⟩] (some [0, 3, 4])) (.seq (.seq (.region [⟨(some 9), (.mv (.t 0)), none⟩, ⟨(some 10), (.len true (.t 9)), none⟩, ⟨(some 11), (.bin .geq (.t 10) (.c (.int .i64 2))), none⟩] (some [0, 3, 4, 11])) (.cond (.t 11) (some [0, 3, 4]) (.seq (.region [⟨(some 12), (.mv (.t 3)), none⟩, ⟨(some 13), (.mv (.t 0)), none⟩, ⟨(some 14), (.cuts (.t 13) none (some (.c (.int .i64 2)))), none⟩, ⟨(some 15), (.call 55 [(.t 12), (.t 14)]), none⟩, ⟨(some 5), (.mv (.t 15)), none⟩] (some [0, 4, 5])) (.seq (.region [⟨(some 16), (.mv (.t 5)), none⟩] (some [0, 4, 16])) (.cond (.t 16) (some [0, 4]) (.seq (.region [⟨(some 17), (.mv (.t 0)), none⟩, ⟨(some 18), (.cuts (.t 17) none (some (.c (.int .i64 2)))), none⟩, ⟨(some 2), (.mv (.t 18)), none⟩] (some [2])) .ret) .skip))) .skip)) (.seq (.seq (.region [⟨(some 19), (.mv (.t 0)), none⟩, ⟨(some 20), (.len true (.t 19)), none⟩, ⟨(some 21), (.bin .geq (.t 20) (.c (.int .i64 1))), none⟩] (some [0, 4, 21])) (.cond (.t 21) (some [0, 4]) (.seq (.region [⟨(some 22), (.mv (.t 4)), none⟩, ⟨(some 23), (.mv (.t 0)), none⟩, ⟨(some 24), (.cuts (.t 23) none (some (.c (.int .i64 1)))), none⟩, ⟨(some 25), (.call 55 [(.t 22), (.t 24)]), none⟩, ⟨(some 6), (.mv (.t 25)), none⟩] (some [0, 6])) (.seq (.region [⟨(some 26), (.mv (.t 6)), none⟩] (some [0, 26])) (.cond (.t 26) (some [0]) (.seq (.region [⟨(some 27), (.mv (.t 0)), none⟩, ⟨(some 28), (.cuts (.t 27) none (some (.c (.int .i64 1)))), none⟩, ⟨(some 2), (.mv (.t 28)), none⟩] (some [2])) .ret) .skip))) .skip)) (.seq (.region [⟨(some 2), (.mv (.c (.str []))), none⟩] (some [2])) .ret))))))
theorem code41 : IsCode Tryz.prog 41 sc41 [(2, none)] 29 := .mk' Tryz.func41 (by kernel_rfl) (by kernel_rfl) (by kernel_rfl) (by kernel_rfl)
/-- quietus/quietusref31.pair -/
def sc54 : SC := (.seq (.region [⟨(some 2), (.mv (.c (.int .u8 0))), none⟩] (some [0])) (.seq (.seq (.region [⟨(some 3), (.mv (.t 0)), none⟩] (some [0, 3])) (.block 0 (.seq (.seq (.region [⟨(some 5), (.bin .eql (.t 3) (.c (.int .u8 34))), none⟩, ⟨(some 4), (.mv (.t 5)), none⟩] (some [0, 3, 4])) (.cond (.t 4) (some [0, 3, 4]) .skip (.region [⟨(some 6), (.bin .eql (.t 3) (.c (.int .u8 92))), none⟩, ⟨(some 4), (.mv (.t 6)), none⟩] (some [0, 3, 4])))) (.cond (.t 4) (some [0, 3]) (.seq (.region [⟨(some 7), (.mv (.t 0)), none⟩, ⟨(some 2), (.mv (.t 7)), none⟩] (some [2])) .ret) (.seq (.region [⟨(some 9), (.bin .eql (.t 3) (.c (.int .u8 110))), none⟩, ⟨(some 8), (.mv (.t 9)), none⟩] (some [8])) (.cond (.t 8) (some []) (.seq (.region [⟨(some 2), (.mv (.c (.int .u8 10))), none⟩] (some [2])) .ret) .skip)))))) (.seq (.region [⟨(some 2), (.mv (.c (.int .u8 0))), none⟩] (some [2])) .ret)))
theorem code54 : IsCode Tryz.prog 54 sc54 [(2, none)] 10 := .mk' Tryz.func54 (by kernel_rfl) (by kernel_rfl) (by kernel_rfl) (by kernel_rfl)
/-- quietus/quietusref31.has -/
def sc55 : SC := (.seq (.region [⟨(some 4), (.mv (.c (.bool false))), none⟩] (some [0, 1])) (.seq (.seq (.region [⟨(some 5), (.mv (.c (.int .i64 0))), none⟩] (some [0, 1, 5])) (.block 0 (.loop (.seq (.seq (.region [⟨(some 6), (.mv (.t 5)), none⟩, ⟨(some 7), (.mv (.t 0)), none⟩, ⟨(some 8), (.len false (.t 7)), none⟩, ⟨(some 9), (.bin .lss (.t 6) (.t 8)), none⟩] (some [0, 1, 5, 9])) (.cond (.t 9) (some [0, 1, 5]) .skip (.exit 0))) (.seq (.block 1 (.seq (.region [⟨(some 12), (.mv (.t 0)), none⟩, ⟨(some 13), (.mv (.t 5)), none⟩, ⟨(some 14), (.iaddr 1 (.t 12) (.t 13)), none⟩, ⟨(some 15), (.load false 1 (.t 14)), none⟩, ⟨(some 16), (.mv (.t 1)), none⟩, ⟨(some 17), (.bins .eql (.t 15) (.t 16)), none⟩] (some [0, 1, 5, 17])) (.cond (.t 17) (some [0, 1, 5]) (.seq (.region [⟨(some 4), (.mv (.c (.bool true))), none⟩] (some [4])) .ret) .skip))) (.region [⟨(some 10), (.mv (.t 5)), none⟩, ⟨(some 11), (.bin .add (.t 10) (.c (.int .i64 1))), none⟩, ⟨(some 5), (.mv (.t 11)), none⟩] (some [0, 1, 5]))))))) (.seq (.region [⟨(some 4), (.mv (.c (.bool false))), none⟩] (some [4])) .ret)))
theorem code55 : IsCode Tryz.prog 55 sc55 [(4, none)] 18 := .mk' Tryz.func55 (by kernel_rfl) (by kernel_rfl) (by kernel_rfl) (by kernel_rfl)
end Go.Shadow.Lex

/- lexer.Position: walked with the kit's own tactics (it ranges over a string). -/
namespace Go.Shadow.Lex
open Go Go.RowKit Go.Proofs

def lineAt (l : List UInt8) : Nat → Nat
  | 0 => 0
  | k + 1 => lineAt l k + (if l[k]? = some 10 then 1 else 0)
def firstAt (l : List UInt8) : Nat → Nat
  | 0 => 0
  | k + 1 => if l[k]? = some 10 then k + 1 else firstAt l k
theorem lineAt_le (l : List UInt8) : ∀ k, lineAt l k ≤ k
  | 0 => Nat.le_refl _
  | k + 1 => by have := lineAt_le l k; simp only [lineAt]; split <;> omega
theorem firstAt_le (l : List UInt8) : ∀ k, firstAt l k ≤ k
  | 0 => Nat.le_refl _
  | k + 1 => by have := firstAt_le l k; simp only [firstAt]; split <;> omega
theorem skip_at {l : List UInt8} {p : Nat} : ∀ n, (∀ j, j < n → l[p + j]? ≠ some 10) → lineAt l (p + n) = lineAt l p ∧ firstAt l (p + n) = firstAt l p
  | 0, _ => ⟨rfl, rfl⟩
  | n + 1, h => by
    obtain ⟨h1, h2⟩ := skip_at n (fun j hj => h j (by omega))
    have h3 := h n (by omega)
    rw [← Nat.add_assoc]
    simp only [lineAt, firstAt, h3, if_false, h1, h2]
    exact ⟨rfl, trivial⟩
theorem take_at (l : List UInt8) (m : Nat) : ∀ k, k ≤ m → lineAt (l.take m) k = lineAt l k ∧ firstAt (l.take m) k = firstAt l k
  | 0, _ => ⟨rfl, rfl⟩
  | k + 1, h => by
    obtain ⟨h1, h2⟩ := take_at l m k (by omega)
    simp only [lineAt, firstAt, List.getElem?_take, if_pos (show k < m by omega), h1, h2]
    exact ⟨trivial, trivial⟩

theorem rune_step (s : ByteArray) (p : Nat) (h : p < s.size) : p + (Utf8.decode s p).2 ≤ s.size ∧ 1 ≤ (Utf8.decode s p).2 ∧
    lineAt s.data.toList (p + (Utf8.decode s p).2) = lineAt s.data.toList p + (if (Utf8.decode s p).1 = 10 then 1 else 0) ∧
    firstAt s.data.toList (p + (Utf8.decode s p).2) = if (Utf8.decode s p).1 = 10 then p + 1 else firstAt s.data.toList p := by
  have hl : s.data.toList.length = s.size := by rfl
  have hp : s.data.toList[p]? = some (s[p]'h) := by
    rw [List.getElem?_eq_getElem (by omega)]; rfl
  by_cases ha : (s[p]'h).toNat < 128
  · rw [decode_ascii s p h ha]
    have he : (s[p]'h).toNat = 10 ↔ s[p]'h = 10 := by rw [← UInt8.toNat_inj]; rfl
    simp only [lineAt, firstAt, hp, Option.some.injEq, he]
    exact ⟨by omega, by omega, trivial, trivial⟩
  · have hd := decode_high s p h (by omega)
    have hc := Lib.decodeN_conts (s.data.toList.length - p) (s.data.toList.getD p 0).toNat (s.data.toList.getD (p + 1) 0).toNat (s.data.toList.getD (p + 2) 0).toNat (s.data.toList.getD (p + 3) 0).toNat
    rw [← Lib.decode_N] at hc
    have hne : (Utf8.decode s p).1 ≠ 10 := by omega
    rw [if_neg hne, if_neg hne]
    have hw : ∀ j, j < (Utf8.decode s p).2 → s.data.toList[p + j]? ≠ some 10 := by
      intro j hj h10
      have hg : (s.data.toList.getD (p + j) 0).toNat = 10 := by rw [List.getD_eq_getElem?_getD, h10]; rfl
      match j with
      | 0 =>
        rw [Nat.add_zero, hp] at h10
        injection h10 with h10
        rw [h10] at ha; exact ha (by decide)
      | 1 => have := hc.1 (by omega); omega
      | 2 => have := hc.2.1 (by omega); omega
      | 3 => have := hc.2.2.1 (by omega); omega
      | j + 4 => have := hc.2.2.2; omega
    obtain ⟨h1, h2⟩ := skip_at _ hw
    refine ⟨?_, hd.2, by rw [h1]; rfl, h2⟩
    have hle : (Utf8.decode s p).2 ≤ 4 := hc.2.2.2
    by_cases h4 : 4 ≤ (Utf8.decode s p).2
    · have := hc.2.2.1 h4; omega
    · by_cases h3 : 3 ≤ (Utf8.decode s p).2
      · have := hc.2.1 h3; omega
      · by_cases h2 : 2 ≤ (Utf8.decode s p).2
        · have := hc.1 h2; omega
        · omega

set_option maxHeartbeats 4000000 in
set_option maxRecDepth 1000000 in
theorem position_walk (s : ByteArray) (k : Nat) (w : World) (hs : s.size ≤ 70000) (hk : k ≤ s.size) :
    Calls Tryz.prog 16 #[.string s, .int .i64 k] w fun e w' => e = .returned (.tuple #[.int .i64 ((lineAt s.data.toList k : Nat) + 1), .int .i64 ((k : Int) - (firstAt s.data.toList k : Nat) + 1)]) ∧ Below w.heap.size w w' := by
  go_enter Tryz.func16, Tryz.ntmps16
  go_wp2
  have hsz : (s.extract 0 k).size = k := by simp; omega
  have hdat : (s.extract 0 k).data.toList = s.data.toList.take k := by simp
  have hfin := take_at s.data.toList k k (Nat.le_refl _)
  rw [← hdat] at hfin
  clear hdat
  have HF : Hid (lineAt (s.extract 0 k).data.toList k = lineAt s.data.toList k ∧ firstAt (s.extract 0 k).data.toList k = firstAt s.data.toList k) := hfin
  clear hfin
  generalize hu : s.extract 0 k = u at *
  go_loopw [4, 6] (fun n m w' => ∃ (pos : Nat), w' = w.iter u pos ∧ n = .int .i64 (lineAt u.data.toList pos : Nat) ∧ m = .int .i64 (firstAt u.data.toList pos : Nat) ∧ pos ≤ u.size) (fun _ _ w' => u.size - w'.iterPos w.heap.size)
  case atStart => exact ⟨0, rfl, rfl, rfl, by omega⟩
  case round =>
    obtain ⟨pos, rfl, rfl, rfl, hpos⟩ := hrel
    have hl1 := lineAt_le u.data.toList pos
    have hl2 := firstAt_le u.data.toList pos
    by_cases hp : pos < u.size
    · have hnx : ∀ ty, (Instr.next (.pointer (some ⟨w.heap.size, 0, none⟩)) true ty).run Tryz.prog (w.iter u pos) = _ := fun ty => run_next_any w u pos ty hp
      have HS := (show Hid _ from rune_step u pos hp)
      go_wp2
      · rename_i h10
        have hst := HS.out
        have h10' : (Utf8.decode u pos).1 = 10 := by
          simp only [beq_iff_eq] at h10; omega
        rw [if_pos h10', if_pos h10'] at hst
        refine ⟨⟨_, rfl, ?_, ?_, hst.1⟩, ?_⟩
        · rw [hst.2.2.1]
          congr 1
        · rw [hst.2.2.2]
          congr 1
        · simp; omega
      · rename_i h10
        have hst := HS.out
        have h10' : ¬ (Utf8.decode u pos).1 = 10 := by
          simp only [beq_eq_false_iff_ne, ne_eq] at h10; omega
        rw [if_neg h10', if_neg h10'] at hst
        refine ⟨⟨_, rfl, ?_, ?_, hst.1⟩, ?_⟩
        · rw [hst.2.2.1]; rfl
        · rw [hst.2.2.2]
        · simp; omega
    · have hnx : ∀ ty, (Instr.next (.pointer (some ⟨w.heap.size, 0, none⟩)) true ty).run Tryz.prog (w.iter u pos) = _ := fun ty => run_next_end w u pos ty hp
      go_wp2
      go_ret2
      have hfin := HF.out
      have hpk : pos = k := by omega
      subst hpk
      rw [hfin.1, hfin.2]
      exact ⟨rfl, (Below.refl _ _).alloc (Nat.le_refl _) _⟩

set_option maxHeartbeats 4000000 in
set_option maxRecDepth 1000000 in
theorem position_out (s : ByteArray) (k : Int) (w : World) (hs : s.size ≤ 70000) (hk : k < 0 ∨ (s.size : Int) < k) :
    Calls Tryz.prog 16 #[.string s, .int .i64 k] w fun e w' => e = .returned (.tuple #[.int .i64 0, .int .i64 0]) ∧ Below w.heap.size w w' := by
  go_enter Tryz.func16, Tryz.ntmps16
  go_wp2
  all_goals (go_ret2; exact ⟨rfl, Below.refl _ _⟩)
end Go.Shadow.Lex

/- Proved: what the lexer's Position does, and its Text at lists without texts. Conditions: the lists' and sources' sizes, as each theorem says. -/
namespace Go.Shadow.Lex
open Go Go.RowKit Go.Proofs

/-- lexer.Position and its specification. -/
def posV (l : List UInt8) (k : Int) : Int × Int := if k < 0 ∨ (l.length : Int) < k then (0, 0) else ((lineAt l k.toNat : Nat) + 1, k - (firstAt l k.toNat : Nat) + 1)
theorem position_ret (l : List UInt8) (k : Int) (hl : l.length ≤ 70000) : SRet Tryz.prog LG 16 [.str l, .int .i64 k] (.tup [.int .i64 (posV l k).1, .int .i64 (posV l k).2]) := by
  refine SRet.of_calls (enters_of Tryz.func16 (by kernel_rfl) rfl) ?_
  intro w0 γ w xs _ _ hr
  obtain ⟨x, y, rfl, hx, hy⟩ := hr.inv2
  obtain rfl := hx.inv_str
  obtain rfl := hy.inv_int
  have hsz : (ByteArray.mk l.toArray).size = l.length := by simp [ByteArray.size]
  have hd : (ByteArray.mk l.toArray).data.toList = l := by simp
  by_cases h : k < 0 ∨ (l.length : Int) < k
  · refine (position_out _ k w (by rw [hsz]; exact hl) (by rw [hsz]; exact h)).mono ?_
    rintro e w' ⟨rfl, hb⟩
    refine ⟨hb, _, rfl, fun B γ w => ?_⟩
    rw [show posV l k = (0, 0) from if_pos h]
    exact RL.tup (.cons (.int _ _) (.cons (.int _ _) .nil))
  · obtain ⟨n, rfl⟩ : ∃ n : Nat, k = n := ⟨k.toNat, by omega⟩
    refine (position_walk _ n w (by rw [hsz]; exact hl) (by rw [hsz]; omega)).mono ?_
    rintro e w' ⟨rfl, hb⟩
    refine ⟨hb, _, rfl, fun B γ w => ?_⟩
    rw [show posV l n = (((lineAt l n : Nat) : Int) + 1, (n : Int) - (firstAt l n : Nat) + 1) from by unfold posV; rw [if_neg h]; simp, hd]
    exact RL.tup (.cons (.int _ _) (.cons (.int _ _) .nil))

/-- The word of a token that is no text. -/
def wordN (t : Tok) : Option (List UInt8) := if t.kind = 1 ∨ t.kind = 4 then some t.s else if t.kind = 2 then some (Lib.itoa t.n) else none

theorem textN_ret (tag : Tag) (ts : List Tok) (h3 : ∀ t ∈ ts, t.kind ≠ 3) (hn : ∀ t ∈ ts, -9223372036854775808 ≤ t.n ∧ t.n ≤ 9223372036854775807) (hl : ts.length ≤ 100000) (hj : (Lib.join (ts.filterMap wordN) [32]).length ≤ 140737488355328) :
    SRet Tryz.prog LG 14 [.slice tag 4 (ts.map tokV)] (.str (Lib.join (ts.filterMap wordN) [32])) := by
  intro σ
  refine code14.call hm (by simp) ?_
  have hlen : (ts.map tokV).length = ts.length := by simp
  refine ⟨fun m sl σ' => ∃ (i : Nat) (ws : List (List UInt8)) (tag' : Tag) (z : Nat), sl = ofL [(3, some (.slice tag' z (strEls ws))), (6, some (.slice tag 4 (ts.map tokV))), (7, some (.int .i64 (ts.map tokV).length)), (8, some (.int .i64 i))] ∧
      Over σ σ' ∧ Mine σ σ' tag' ∧ (tag' = .nil ∨ z = 1) ∧ i ≤ ts.length ∧ ws.length ≤ i ∧ ws ++ (ts.drop i).filterMap wordN = ts.filterMap wordN ∧ m = ts.length - i, _,
      ⟨0, [], .nil, 0, rfl, .refl _, trivial, .inl rfl, by omega, by simp, by simp, rfl⟩, ?_⟩
  rintro m sl σ' ⟨i, ws, tag', z, rfl, ho, hm2, hz, hi, hws, heq, rfl⟩
  have hwl : (strEls ws).length = ws.length := by simp [strEls]
  refine Test.split (fun h => ?_) (fun h => ?_)
  · rw [hlen] at h
    obtain ⟨t, ht⟩ : ∃ t, ts[i]? = some t := ⟨ts[i]'(by omega), by simp [show i < ts.length by omega]⟩
    have htm : t ∈ ts := List.mem_of_getElem? ht
    have hdrop : ts.drop i = t :: ts.drop (i + 1) := by
      obtain ⟨h1, h2⟩ := List.getElem?_eq_some_iff.1 ht
      rw [List.drop_eq_getElem_cons h1, h2]
    have hnext : ∀ (b : Nat) (σ2 : St), Over σ σ2 → ∀ (tag2 : Tag) (z2 : Nat) (ws2 : List (List UInt8)), Mine σ σ2 tag2 → (tag2 = .nil ∨ z2 = 1) → ws2 = ws ++ (wordN t).toList → ∃ m σ3, m < ts.length - i ∧ Forget σ2 σ3 ∧
        ∃ (i' : Nat) (ws' : List (List UInt8)) (tag' : Tag) (z : Nat), ofL [(3, some (.slice tag2 z2 (strEls ws2))), (6, some (.slice tag 4 (ts.map tokV))), (7, some (.int .i64 (ts.map tokV).length)), (8, some (.int .i64 (i + 1 : Nat)))] = ofL [(3, some (.slice tag' z (strEls ws'))), (6, some (.slice tag 4 (ts.map tokV))), (7, some (.int .i64 (ts.map tokV).length)), (8, some (.int .i64 i'))] ∧
      Over σ σ3 ∧ Mine σ σ3 tag' ∧ (tag' = .nil ∨ z = 1) ∧ i' ≤ ts.length ∧ ws'.length ≤ i' ∧ ws' ++ (ts.drop i').filterMap wordN = ts.filterMap wordN ∧ m = ts.length - i' := by
      intro b σ2 ho2 tag2 z2 ws2 hm3 hz3 hw2
      refine ⟨_, _, ?_, Forget.refl _, i + 1, ws2, tag2, z2, rfl, ho2, hm3, hz3, by omega, ?_, ?_, rfl⟩
      · omega
      · rw [hw2]; cases wordN t <;> simp <;> omega
      · rw [hw2, ← heq, hdrop, List.filterMap_cons]; cases wordN t <;> simp
    refine Sure.mk' (.inl rfl) ?_
    refine IdxE.mk' i (tokV t) rfl (by simp [ht]) ?_
    refine ⟨⟨by simp [tokV], ?_⟩⟩
    intro b hb
    refine Sure.mk' rfl ?_
    refine Store.mk' (tokV t) put_box (Nat.le_of_ble_eq_true rfl) rfl (fun σ2 h2 => ?_)
    rw [put_put] at h2
    have hb2 : σ2.box b = some (tokV t) := by rw [h2]; exact put_box
    have ho2 : Over σ σ2 := by
      rw [h2]
      refine over_put ho ?_
      cases hbb : σ.box b with
      | none => rfl
      | some cs => rw [ho.box b cs hbb] at hb; cases hb
    have hm3 : Mine σ σ2 tag' := by rw [h2]; exact hm2
    have happ : ∀ (x : List UInt8) (K : V → St → Prop), (∀ (t' : Nat) (σ4 : St), Over σ σ4 → Mine σ σ4 (.tip t') → K (.slice (.tip t') 1 (strEls (ws ++ [x]))) σ4) → App 1 16 tag' z (strEls ws) 1 [[V.str x]] σ2 K := by
      intro x K hk
      refine App.mk' ho2 hm3 hz rfl (by simp [hwl]; omega) (by simp [hwl]; omega) (by simp) (fun t' σ4 h4 h5 _ _ => ?_)
      have := hk t' σ4 h4 h5
      simpa [strEls] using this
    refine Load.mk' hb2 (by simp [tokV]) ?_
    have hsome : ∀ x, wordN t = some x → ws ++ [x] = ws ++ (wordN t).toList := fun x hx => by rw [hx]; rfl
    refine Test.split (fun h1 => ?_) (fun h1 => ?_)
    · refine Load.mk' hb2 (by simp [tokV]) ?_
      refine happ t.s _ (fun t' σ4 h4 h5 => ?_)
      refine Arith.i64 ((i + 1 : Nat) : Int) (by simp) (by omega) ?_
      exact hnext b σ4 h4 (.tip t') 1 _ h5 (.inr rfl) (hsome _ (by unfold wordN; rw [if_pos (.inl h1)]))
    · refine Test.split (fun h4 => ?_) (fun h4 => ?_)
      · refine Load.mk' hb2 (by simp [tokV]) ?_
        refine happ t.s _ (fun t' σ4 h5 h6 => ?_)
        refine Arith.i64 ((i + 1 : Nat) : Int) (by simp) (by omega) ?_
        exact hnext b σ4 h5 (.tip t') 1 _ h6 (.inr rfl) (hsome _ (by unfold wordN; rw [if_pos (.inr h4)]))
      · refine Test.split (fun h2' => ?_) (fun h2' => ?_)
        · refine Load.mk' hb2 (by simp [tokV]) ?_
          refine CallK.pure (itoa_ret _ (hn t htm)) ?_
          refine happ (Lib.itoa t.n) _ (fun t' σ4 h5 h6 => ?_)
          refine Arith.i64 ((i + 1 : Nat) : Int) (by simp) (by omega) ?_
          exact hnext b σ4 h5 (.tip t') 1 _ h6 (.inr rfl) (hsome _ (by unfold wordN; rw [if_neg (by omega), if_pos h2']))
        · refine Test.no (h3 t htm) ?_
          refine Arith.i64 ((i + 1 : Nat) : Int) (by simp) (by omega) ?_
          exact hnext b σ2 ho2 tag' z ws hm3 hz (by unfold wordN; rw [if_neg (by omega), if_neg h2']; simp)
  · rw [hlen] at h
    have hd : ts.drop i = [] := List.drop_eq_nil_of_le (by omega)
    rw [hd] at heq
    simp only [List.filterMap_nil, List.append_nil] at heq
    rw [← heq] at hj ⊢
    refine CallK.mk' (join_call tag' ws [32] (by omega) hj z σ') ?_
    rintro e σ4 ⟨rfl, rfl⟩
    exact Ret.weak (.refl _) ho ⟨rfl, rfl⟩
end Go.Shadow.Lex

/- Proved: the laws' function sanity returns true. Conditions: none. -/
namespace Go.Shadow.Lex
open Go Go.RowKit Go.Proofs

def lexF (l : List UInt8) : Nat → Nat → Sum (Nat × Nat) (List Tok)
  | 0, k => .inl (k, 0)
  | f + 1, k => if k < l.length then match lexOne l k with
    | .inl e => .inl (k, e)
    | .inr (t, e2) => addAll [t] (lexF l f (skipTo l e2))
    else .inr [⟨5, l.length, [], 0⟩]
theorem lexF_eq {l : List UInt8} : ∀ {f k : Nat}, l.length - k < f → lexJ l k = lexF l f k
  | 0, k, h => by omega
  | f + 1, k, h => by
    unfold lexF
    split
    · rename_i hk
      split
      · rename_i e he; exact lexJ_bad hk he
      · rename_i t e2 he
        have h2 := lexOne_pos he
        have h3 := skipTo_ge l e2
        rw [lexJ_one he, lexF_eq (f := f) (by omega)]
    · exact lexJ_end (by omega)
theorem lex_eq {l : List UInt8} {x : Sum (Nat × Nat) (List Tok)} (f : Nat) (h1 : l.length < f) (h2 : f ≤ 65536) (h : lexF l f (skipTo l 0) = x) : lex l = x := by
  unfold lex
  rw [if_neg (by omega), lexF_eq (f := f) (by omega), h]

theorem lex1 : lex [97, 45, 62, 98, 49, 32, 49, 50, 46, 46, 51, 32, 35, 32, 120] = .inr [⟨1, 0, [97], 0⟩, ⟨4, 1, [45, 62], 0⟩, ⟨1, 3, [98, 49], 0⟩, ⟨2, 6, [], 12⟩, ⟨4, 8, [46, 46], 0⟩, ⟨2, 10, [], 3⟩, ⟨5, 15, [], 0⟩] := lex_eq 20 (by decide) (by decide) (by decide)
theorem lex2 : lex [34, 97, 92, 34, 92, 110, 34] = .inr [⟨3, 0, [97, 34, 10], 0⟩, ⟨5, 7, [], 0⟩] := lex_eq 20 (by decide) (by decide) (by decide)
theorem lex3 : lex [61, 61, 61, 32, 33, 61, 61] = .inr [⟨4, 0, [61, 61], 0⟩, ⟨4, 2, [61], 0⟩, ⟨4, 4, [33, 61], 0⟩, ⟨4, 6, [61], 0⟩, ⟨5, 7, [], 0⟩] := lex_eq 20 (by decide) (by decide) (by decide)
theorem lex4 : lex [120, 32, 48, 49, 50] = .inl (2, 27) := lex_eq 20 (by decide) (by decide) (by decide)
theorem lex5 : lex [120, 32, 51, 121] = .inl (2, 27) := lex_eq 20 (by decide) (by decide) (by decide)
theorem lex6 : lex [34, 97] = .inl (0, 28) := lex_eq 20 (by decide) (by decide) (by decide)
theorem lex7 : lex [120, 32, 36] = .inl (2, 26) := lex_eq 20 (by decide) (by decide) (by decide)

theorem over_trans {a b c : St} (h : Over a b) (k : Over b c) : Over a c := ⟨fun x cs hx => k.box x cs (h.box x cs hx), fun t ht => k.live t (h.live t ht)⟩
theorem new_box {σ : St} {b : Nat} (h : σ.box b = none) (cs : List V) : Over σ (σ.put b cs) ∧ (σ.put b cs).box b = some cs := ⟨over_put (.refl _) h, put_box⟩

set_option maxHeartbeats 4000000 in
set_option maxRecDepth 100000 in
theorem sanity_ret : SRet Tryz.prog LG 11 [] (.bool true) := by
  intro σ0
  refine code11.call hm (by simp) ?_
  refine CallK.pure (tokens_ret _ (by simp)) ?_
  rw [lex1]
  intro b1 h1
  refine Sure.mk' rfl ?_
  refine Store.mk' [.int .i64 0, .int .i64 0] put_box (Nat.le_of_ble_eq_true rfl) rfl (fun σ1 e => ?_)
  rw [put_put] at e; obtain ⟨o1, g1⟩ := new_box h1 [.int .i64 0, .int .i64 0]; rw [← e] at o1 g1; clear e h1
  refine CallK.pure (tokens_ret _ (by simp)) ?_
  rw [lex2]
  intro b2 h2
  refine Sure.mk' rfl ?_
  refine Store.mk' [.int .i64 0, .int .i64 0] put_box (Nat.le_of_ble_eq_true rfl) rfl (fun σ2 e => ?_)
  rw [put_put] at e; obtain ⟨o2, g2⟩ := new_box h2 [.int .i64 0, .int .i64 0]; rw [← e] at o2 g2; clear e h2
  have g1 := o2.box _ _ g1
  refine CallK.pure (tokens_ret _ (by simp)) ?_
  rw [lex3]
  intro b3 h3
  refine Sure.mk' rfl ?_
  refine Store.mk' [.int .i64 0, .int .i64 0] put_box (Nat.le_of_ble_eq_true rfl) rfl (fun σ3 e => ?_)
  rw [put_put] at e; obtain ⟨o3, g3⟩ := new_box h3 [.int .i64 0, .int .i64 0]; rw [← e] at o3 g3; clear e h3
  have g1 := o3.box _ _ g1
  refine CallK.pure (tokens_ret _ (by simp)) ?_
  rw [lex4]
  intro b4 h4
  refine Sure.mk' rfl ?_
  refine Store.mk' [.int .i64 2, .int .i64 27] put_box (Nat.le_of_ble_eq_true rfl) rfl (fun σ4 e => ?_)
  rw [put_put] at e; obtain ⟨o4, g4⟩ := new_box h4 [.int .i64 2, .int .i64 27]; rw [← e] at o4 g4; clear e h4
  have g1 := o4.box _ _ g1
  refine CallK.pure (tokens_ret _ (by simp)) ?_
  rw [lex5]
  intro b5 h5
  refine Sure.mk' rfl ?_
  refine Store.mk' [.int .i64 2, .int .i64 27] put_box (Nat.le_of_ble_eq_true rfl) rfl (fun σ5 e => ?_)
  rw [put_put] at e; obtain ⟨o5, g5⟩ := new_box h5 [.int .i64 2, .int .i64 27]; rw [← e] at o5 g5; clear e h5
  have g1 := o5.box _ _ g1
  have g4 := o5.box _ _ g4
  refine CallK.pure (tokens_ret _ (by simp)) ?_
  rw [lex6]
  intro b6 h6
  refine Sure.mk' rfl ?_
  refine Store.mk' [.int .i64 0, .int .i64 28] put_box (Nat.le_of_ble_eq_true rfl) rfl (fun σ6 e => ?_)
  rw [put_put] at e; obtain ⟨o6, g6⟩ := new_box h6 [.int .i64 0, .int .i64 28]; rw [← e] at o6 g6; clear e h6
  have g1 := o6.box _ _ g1
  have g4 := o6.box _ _ g4
  have g5 := o6.box _ _ g5
  refine CallK.pure (tokens_ret _ (by simp)) ?_
  rw [lex7]
  intro b7 h7
  refine Sure.mk' rfl ?_
  refine Store.mk' [.int .i64 2, .int .i64 26] put_box (Nat.le_of_ble_eq_true rfl) rfl (fun σ7 e => ?_)
  rw [put_put] at e; obtain ⟨o7, g7⟩ := new_box h7 [.int .i64 2, .int .i64 26]; rw [← e] at o7 g7; clear e h7
  have g1 := o7.box _ _ g1
  have g4 := o7.box _ _ g4
  have g5 := o7.box _ _ g5
  have g6 := o7.box _ _ g6
  have oAll : Over σ0 σ7 := over_trans (over_trans (over_trans (over_trans (over_trans (over_trans o1 o2) o3) o4) o5) o6) o7
  refine CallK.pure (position_ret _ 3 (by simp)) ?_
  rw [show posV [97, 10, 98, 99] 3 = (2, 2) from by decide]
  refine Test.no (by decide) ?_
  refine Test.no (by decide) ?_
  refine Test.no (by decide) ?_
  -- signs
  refine Sure.mk' (.inl rfl) ?_
  refine IdxE.mk' 0 _ rfl rfl ?_
  refine ⟨⟨Nat.le_of_ble_eq_true rfl, ?_⟩⟩
  refine Test.yes rfl ?_
  refine Sure.mk' (.inl rfl) ?_
  refine IdxE.mk' 1 _ rfl rfl ?_
  refine ⟨⟨Nat.le_of_ble_eq_true rfl, ?_⟩⟩
  refine Test.yes rfl ?_
  refine Sure.mk' (.inl rfl) ?_
  refine IdxE.mk' 2 _ rfl rfl ?_
  refine ⟨⟨Nat.le_of_ble_eq_true rfl, ?_⟩⟩
  refine Test.yes rfl ?_
  refine Sure.mk' (.inl rfl) ?_
  refine IdxE.mk' 3 _ rfl rfl ?_
  refine ⟨⟨Nat.le_of_ble_eq_true rfl, ?_⟩⟩
  refine Test.yes rfl ?_
  -- wrong
  refine Load.mk' g4 (Nat.le_of_ble_eq_true rfl) ?_
  refine BTest.yes rfl ?_
  refine Load.mk' g5 (Nat.le_of_ble_eq_true rfl) ?_
  refine Load.mk' g4 (Nat.le_of_ble_eq_true rfl) ?_
  refine BTest.yes rfl ?_
  refine Load.mk' g6 (Nat.le_of_ble_eq_true rfl) ?_
  refine BTest.yes rfl ?_
  refine Load.mk' g7 (Nat.le_of_ble_eq_true rfl) ?_
  refine BTest.yes rfl ?_
  -- the rest
  refine Load.mk' g1 (Nat.le_of_ble_eq_true rfl) ?_
  refine BTest.yes rfl ?_
  refine Sure.mk' (.inl rfl) ?_
  refine IdxE.mk' 1 _ rfl rfl ?_
  refine ⟨⟨Nat.le_of_ble_eq_true rfl, ?_⟩⟩
  refine BTest.yes rfl ?_
  refine Sure.mk' (.inl rfl) ?_
  refine IdxE.mk' 3 _ rfl rfl ?_
  refine ⟨⟨Nat.le_of_ble_eq_true rfl, ?_⟩⟩
  refine BTest.yes rfl ?_
  refine Sure.mk' (.inl rfl) ?_
  refine IdxE.mk' 6 _ rfl rfl ?_
  refine ⟨⟨Nat.le_of_ble_eq_true rfl, ?_⟩⟩
  refine BTest.yes rfl ?_
  refine Sure.mk' (.inl rfl) ?_
  refine IdxE.mk' 0 _ rfl rfl ?_
  refine ⟨⟨Nat.le_of_ble_eq_true rfl, ?_⟩⟩
  refine Test.yes rfl ?_
  refine Test.yes rfl ?_
  refine Test.yes rfl ?_
  have hj : Lib.join (List.filterMap wordN [⟨1, 0, [97], 0⟩, ⟨4, 1, [45, 62], 0⟩, ⟨1, 3, [98, 49], 0⟩, ⟨2, 6, [], 12⟩, ⟨4, 8, [46, 46], 0⟩, ⟨2, 10, [], 3⟩, ⟨5, 15, [], 0⟩]) [32] = [97, 32, 45, 62, 32, 98, 49, 32, 49, 50, 32, 46, 46, 32, 51] := by
    have h12 : Lib.itoa 12 = [49, 50] := by simp [Lib.itoa, Lib.decDigits]
    have h3 : Lib.itoa 3 = [51] := by simp [Lib.itoa, Lib.decDigits]
    simp only [List.filterMap, wordN]
    simp [h12, h3, Lib.join, List.intercalate]
  refine CallK.pure (textN_ret .foreign _ (by decide) (by decide) (by decide) (by rw [hj]; decide)) ?_
  rw [hj]
  refine Test.yes rfl ?_
  exact Ret.weak (.refl _) oAll ⟨rfl, rfl⟩
end Go.Shadow.Lex
