/- Proved: what the lexer's class, span, put, skip and name do, as shadow contracts. Conditions: sources of at most 70000 bytes. -/
import Derived.Test.YtgebphnfnmeaaaaGreatDoorLc0
import Derived.Test.YtgebphnfnmeaaaaGreatDoorLp1
import Derived.Test.YtgebphnfnmeaaaaGreatDoorLl0
namespace Go.Shadow.Lex
open Go Go.RowKit Go.Proofs
theorem hm : Tryz.prog.follows .mixedOrders = true := by kernel_rfl


theorem class_ret (c : UInt8) : SRet Tryz.prog LG 31 [.int .u8 c.toNat] (.int .i64 (cls c)) := by
  intro σ
  refine code31.call hm (by simp) ?_
  have hc := c.toNat_lt
  repeat' (first
    | refine Test.split (fun h => ?_) (fun h => ?_)
    | refine Ret.mk' ⟨rfl, ?_⟩)
  all_goals (refine congrArg (fun x => SEnd.ret (V.int .i64 x)) ?_; simp only [cls, isLetter, isDigit, isBlank]; grind)

def tokV (t : Tok) : List V := [.int .i64 t.kind, .int .i64 t.at_, .str t.s, .int .i64 t.n]
/-- The reader in its box. -/
structure Rd (σ0 σ : St) (b : Nat) (src : List UInt8) (k : Nat) (toks : List Tok) : Prop where
  over : Over σ0 σ
  fresh : σ0.box b = none
  box : ∃ tag s', σ.box b = some [.str src, .int .i64 k, .slice tag s' (toks.map tokV)] ∧ Mine σ0 σ tag ∧ (tag = .nil ∨ s' = 4)

theorem span_call {σ0 σ : St} {b : Nat} {src : List UInt8} {k : Nat} {toks : List Tok} (hr : Rd σ0 σ b src k toks) (hs : src.length ≤ 70000) (hk : k ≤ src.length) :
    SCall Tryz.prog LG 49 [.loc b 0, .int .i64 2] σ fun e σ' => σ' = σ ∧ e = .ret (.int .i64 (spanTo isWord src k)) := by
  obtain ⟨ho, hf, tag, s', hb, hm', hs'⟩ := hr
  refine code49.call hm (by simp) ?_
  refine Load.mk' hb (by simp) ?_
  refine ⟨fun m sl σ' => σ' = σ ∧ ∃ j : Nat, sl = ofL [(0, some (.loc b 0)), (1, some (.int .i64 2)), (5, some (.int .i64 j))] ∧ j ≤ src.length ∧ spanTo isWord src j = spanTo isWord src k ∧ m = src.length - j, _, ⟨rfl, k, rfl, hk, rfl, rfl⟩, ?_⟩
  rintro m sl σ' ⟨rfl, j, rfl, hj, hsp, rfl⟩
  refine Load.mk' hb (by simp) ?_
  refine Test.split (fun h => ?_) (fun h => ?_)
  · refine Load.mk' hb (by simp) ?_
    obtain ⟨c, hc⟩ : ∃ c, src[j]? = some c := ⟨src[j]'(by omega), by simp [show j < src.length by omega]⟩
    refine Idx.mk' j c rfl hc ?_
    refine CallK.pure (class_ret c) ?_
    refine Test.split (fun h => ?_) (fun h => ?_)
    · refine Arith.i64 (((j + 1 : Nat) : Int)) (by simp) (by omega) ?_
      refine ⟨_, _, ?_, Forget.refl _, rfl, j + 1, rfl, by omega, ?_, rfl⟩
      · omega
      · rw [spanTo_step hc, hsp]
        simp only [cls] at h
        grind [isWord]
    · refine Ret.mk' ⟨rfl, ?_⟩
      rw [← hsp, spanTo_stop hc]
      simp only [cls] at h
      grind [isWord]
  · refine Ret.mk' ⟨rfl, ?_⟩
    rw [← hsp, spanTo_end (by omega)]

theorem put_box {σ : St} {b : Nat} {cs : List V} : (σ.put b cs).box b = some cs := by simp [St.put]
theorem put_put {σ : St} {b : Nat} {cs cs' : List V} : (σ.put b cs).put b cs' = σ.put b cs' := by
  simp only [St.put, St.mk.injEq, and_true]
  funext x
  split <;> rfl
theorem over_put {σ0 σ : St} {b : Nat} {cs : List V} (h : Over σ0 σ) (hf : σ0.box b = none) : Over σ0 (σ.put b cs) := by
  refine ⟨fun b' cs' hb => ?_, h.live⟩
  have : b' ≠ b := by rintro rfl; rw [hf] at hb; cases hb
  simp [St.put, this, h.box b' cs' hb]
theorem Rd.put {σ0 σ : St} {b : Nat} {src : List UInt8} {k k' : Nat} {toks : List Tok} (hr : Rd σ0 σ b src k toks) {tag : Tag} {s' : Nat} (hb : σ.box b = some [.str src, .int .i64 k, .slice tag s' (toks.map tokV)]) (hm : Mine σ0 σ tag) (hs : tag = .nil ∨ s' = 4) :
    Rd σ0 (σ.put b [.str src, .int .i64 k', .slice tag s' (toks.map tokV)]) b src k' toks := ⟨over_put hr.over hr.fresh, hr.fresh, tag, s', put_box, hm, hs⟩

theorem put_call {σ0 σ : St} {b : Nat} {src : List UInt8} {k : Nat} {toks : List Tok} (hr : Rd σ0 σ b src k toks) (hn : toks.length ≤ 70000) (kind n : Int) (e2 : Nat) (s : List UInt8) :
    SCall Tryz.prog LG 22 [.loc b 0, .int .i64 kind, .int .i64 e2, .str s, .int .i64 n] σ fun e σ' => e = .ret (.int .i64 0) ∧ Rd σ0 σ' b src e2 (toks ++ [(⟨kind, k, s, n⟩ : Tok)]) := by
  obtain ⟨ho, hf, tag, s', hb, hm', hs'⟩ := hr
  refine code22.call hm (by simp) ?_
  refine Load.mk' hb (by simp) ?_
  refine Load.mk' hb (by simp) ?_
  refine App.mk' ho hm' hs' rfl (by simp; omega) (by simp; omega) (by simp) (fun t' σ1 ho1 hm1 hbox _ => ?_)
  rw [← hbox] at hb
  refine Sure.mk' rfl ?_
  refine Store.mk' [.str src, .int .i64 k, .slice (.tip t') 4 ((toks ++ [(⟨kind, k, s, n⟩ : Tok)]).map tokV)] hb (by simp [V.cells]) (by simp [setL, tokV]; rfl) (fun σ2 h2 => ?_)
  refine Sure.mk' rfl ?_
  have hb2 : σ2.box b = some [.str src, .int .i64 k, .slice (.tip t') 4 ((toks ++ [(⟨kind, k, s, n⟩ : Tok)]).map tokV)] := by rw [h2]; exact put_box
  refine Store.mk' [.str src, .int .i64 e2, .slice (.tip t') 4 ((toks ++ [(⟨kind, k, s, n⟩ : Tok)]).map tokV)] hb2 (by simp [V.cells]) rfl (fun σ3 h3 => ?_)
  refine Ret.mk' ⟨rfl, ?_⟩
  subst h3; subst h2
  rw [put_put]
  exact ⟨over_put ho1 hf, hf, .tip t', 4, put_box, hm1, .inr rfl⟩

theorem indexByte_line (l : List UInt8) : Lib.indexByte l 10 = if (l.takeWhile (·.toNat != 10)).length < l.length then ((l.takeWhile (·.toNat != 10)).length : Int) else -1 := by
  induction l with
  | nil => rfl
  | cons c l ih =>
    simp only [Lib.indexByte]
    by_cases hc : c = 10
    · subst hc; simp
    · have hc' : c.toNat ≠ 10 := fun e => hc (UInt8.toNat_inj.1 e)
      simp only [beq_iff_eq, hc, if_false, ih, List.takeWhile_cons, bne_iff_ne, ne_eq, hc', not_false_eq_true, if_true, List.length_cons]
      split <;> split <;> first | omega | (split <;> omega) | skip

theorem skip_call {σ0 σ : St} {b : Nat} {src : List UInt8} {k : Nat} {toks : List Tok} (hr : Rd σ0 σ b src k toks) (hs : src.length ≤ 70000) (hk : k ≤ src.length) :
    SCall Tryz.prog LG 20 [.loc b 0] σ fun e σ' => e = .ret (.tup []) ∧ Rd σ0 σ' b src (skipTo src k) toks := by
  refine code20.call hm (by simp) ?_
  refine ⟨fun m sl σ' => ∃ j : Nat, sl = ofL [(0, some (.loc b 0))] ∧ Rd σ0 σ' b src j toks ∧ j ≤ src.length ∧ skipTo src j = skipTo src k ∧ m = src.length - j, _, ⟨k, rfl, hr, hk, rfl, rfl⟩, ?_⟩
  rintro m sl σ' ⟨j, rfl, hr', hj, hsp, rfl⟩
  obtain ⟨ho, hf, tag, s', hb, hm', hs'⟩ := id hr'
  refine Load.mk' hb (by simp) ?_
  refine Load.mk' hb (by simp) ?_
  refine Test.split (fun h => ?_) (fun h => ?_)
  · refine Load.mk' hb (by simp) ?_
    refine Load.mk' hb (by simp) ?_
    obtain ⟨c, hc⟩ : ∃ c, src[j]? = some c := ⟨src[j]'(by omega), by simp [show j < src.length by omega]⟩
    refine Idx.mk' j c rfl hc ?_
    refine Test.split (fun h => ?_) (fun h => ?_)
    · refine Load.mk' hb (by simp) ?_
      refine Load.mk' hb (by simp) ?_
      refine CutR.mk' j rfl hj ?_
      refine CallK.pure (indexByte_ret _ 10) ?_
      have hlt := skipTo_comment hc (by omega)
      have htw := takeWhile_length_le (·.toNat != 10) (src.drop j)
      rw [indexByte_line]
      generalize hn : ((src.drop j).takeWhile (·.toNat != 10)).length = n at *
      simp only [List.length_drop] at htw
      simp only [List.length_drop]
      by_cases hn2 : n < src.length - j
      · rw [if_pos hn2]
        refine Test.no (by omega) ?_
        refine Load.mk' hb (by simp) ?_
        refine Arith.i64 (((j + n : Nat) : Int)) (by simp) (by omega) ?_
        refine Sure.mk' rfl ?_
        refine Store.mk' [.str src, .int .i64 (j + n : Nat), .slice tag s' (toks.map tokV)] hb (by simp [V.cells]) rfl (fun σ3 h3 => ?_)
        refine ⟨_, _, ?_, Forget.refl _, j + n, rfl, ?_, by omega, ?_, rfl⟩
        · omega
        · subst h3; exact hr'.put hb hm' hs'
        · rw [← hsp]; exact hlt.1
      · rw [if_neg hn2]
        refine Test.yes (by omega) ?_
        refine Load.mk' hb (by simp) ?_
        refine Load.mk' hb (by simp) ?_
        refine Arith.i64 (n : Int) (by omega) (by omega) ?_
        refine Load.mk' hb (by simp) ?_
        refine Arith.i64 (((j + n : Nat) : Int)) (by simp) (by omega) ?_
        refine Sure.mk' rfl ?_
        refine Store.mk' [.str src, .int .i64 (j + n : Nat), .slice tag s' (toks.map tokV)] hb (by simp [V.cells]) rfl (fun σ3 h3 => ?_)
        refine ⟨_, _, ?_, Forget.refl _, j + n, rfl, ?_, by omega, ?_, rfl⟩
        · omega
        · subst h3; exact hr'.put hb hm' hs'
        · rw [← hsp]; exact hlt.1
    · refine CallK.pure (class_ret c) ?_
      refine Test.split (fun h => ?_) (fun h => ?_)
      · refine Load.mk' hb (by simp) ?_
        refine Arith.i64 (((j + 1 : Nat) : Int)) (by simp) (by omega) ?_
        refine Sure.mk' rfl ?_
        refine Store.mk' [.str src, .int .i64 (j + 1 : Nat), .slice tag s' (toks.map tokV)] hb (by simp [V.cells]) rfl (fun σ3 h3 => ?_)
        refine ⟨_, _, ?_, Forget.refl _, j + 1, rfl, ?_, by omega, ?_, rfl⟩
        · omega
        · subst h3; exact hr'.put hb hm' hs'
        · rw [← hsp]; refine skipTo_blank hc ?_
          simp only [cls] at h
          grind
      · refine Ret.mk' ⟨rfl, ?_⟩
        rw [← hsp, skipTo_stop hc]
        · exact hr'
        · simp only [cls] at h
          grind [isBlank, isLetter, isDigit]
        · omega
  · refine Ret.mk' ⟨rfl, ?_⟩
    rw [← hsp, skipTo_end (by omega)]
    exact hr'

theorem name_call {σ0 σ : St} {b : Nat} {src : List UInt8} {k : Nat} {toks : List Tok} {c : UInt8} (hr : Rd σ0 σ b src k toks) (hn : toks.length ≤ 70000) (hs : src.length ≤ 70000) (hc : src[k]? = some c) :
    SCall Tryz.prog LG 32 [.loc b 0] σ fun e σ' => if isLetter c then
      (if 32 < spanTo isWord src k - k then σ' = σ ∧ e = .ret (.tup [.bool true, .int .i64 2]) else e = .ret (.tup [.bool true, .int .i64 0]) ∧ Rd σ0 σ' b src (spanTo isWord src k) (toks ++ [⟨1, k, (src.take (spanTo isWord src k)).drop k, 0⟩]))
      else σ' = σ ∧ e = .ret (.tup [.bool false, .int .i64 0]) := by
  obtain ⟨ho, hf, tag, s', hb, hm', hs'⟩ := id hr
  have hk : k < src.length := (List.getElem?_eq_some_iff.1 hc).1
  have h1 := spanTo_ge isWord src k
  have h2 := spanTo_le isWord src k (by omega)
  refine code32.call hm (by simp) ?_
  refine Load.mk' hb (by simp) ?_
  refine Load.mk' hb (by simp) ?_
  refine Idx.mk' k c rfl hc ?_
  refine CallK.pure (class_ret c) ?_
  refine Test.split (fun h => ?_) (fun h => ?_)
  · refine Ret.mk' ?_
    have : isLetter c = false := by simp only [cls] at h; grind
    rw [this]
    exact ⟨rfl, rfl⟩
  · have hL : isLetter c = true := by simp only [cls] at h; grind
    simp only [hL, if_true]
    refine CallK.mk' (span_call hr hs (by omega)) ?_
    rintro e σ' ⟨rfl, rfl⟩
    refine Load.mk' hb (by simp) ?_
    refine Arith.i64 (((spanTo isWord src k - k : Nat) : Int)) (by omega) (by omega) ?_
    refine Test.split (fun h => ?_) (fun h => ?_)
    · refine Ret.mk' ?_
      rw [if_pos (by omega)]
      exact ⟨rfl, rfl⟩
    · refine Load.mk' hb (by simp) ?_
      refine Load.mk' hb (by simp) ?_
      refine Cut.mk' k (spanTo isWord src k) rfl rfl (by omega) (by omega) ?_
      refine CallK.mk' (put_call hr hn 1 0 (spanTo isWord src k) _) ?_
      rintro e σ'' ⟨rfl, hr2⟩
      refine Ret.mk' ?_
      rw [if_neg (by omega)]
      exact ⟨rfl, hr2⟩
end Go.Shadow.Lex
