/- Proved: what the lexer's sign does, as a shadow contract. Conditions: sources of at most 70000 bytes. -/
import Derived.Test.YtgebphnfnmeaaaaGreatDoorLw1
namespace Go.Shadow.Lex
open Go Go.RowKit Go.Proofs

theorem fields_signs : Lib.fields [45, 62, 32, 58, 61, 32, 61, 61, 32, 33, 61, 32, 60, 61, 32, 62, 61, 32, 38, 38, 32, 124, 124, 32, 46, 46] = signs2 := by decide

theorem find_drop {l : List (List UInt8)} {p : List UInt8 → Bool} {j : Nat} {s : List UInt8} (h : l[j]? = some s) (hp : p s = false) (hb : ∀ i x, i < j → l[i]? = some x → p x = false) : ∀ i x, i < j + 1 → l[i]? = some x → p x = false := by
  intro i x hi hx
  by_cases e : i = j
  · subst e; rw [h] at hx; cases hx; exact hp
  · exact hb i x (by omega) hx
theorem find_at {l : List (List UInt8)} {p : List UInt8 → Bool} : ∀ {j : Nat} {s : List UInt8}, l[j]? = some s → p s = true → (∀ i x, i < j → l[i]? = some x → p x = false) → l.find? p = some s := by
  induction l with
  | nil => intro j s h; simp at h
  | cons a l ih =>
    intro j s h hp hb
    cases j with
    | zero => simp at h; subst h; simp [hp]
    | succ j =>
      have ha := hb 0 a (by omega) rfl
      rw [List.find?_cons, ha]
      exact ih (by simpa using h) hp (fun i x hi hx => hb (i + 1) x (by omega) (by simpa using hx))
theorem find_none {l : List (List UInt8)} {p : List UInt8 → Bool} (h : ∀ i x, i < l.length → l[i]? = some x → p x = false) : l.find? p = none := by
  rw [List.find?_eq_none]
  intro x hx
  obtain ⟨i, hi, rfl⟩ := List.mem_iff_getElem.1 hx
  rw [h i _ hi (List.getElem?_eq_getElem hi)]; simp

theorem index_mem (l : List UInt8) (c : UInt8) : 0 ≤ Lib.indexByte l c ↔ c ∈ l := by
  induction l with
  | nil => simp [Lib.indexByte]
  | cons a l ih =>
    simp only [Lib.indexByte, List.mem_cons]
    by_cases h : a = c
    · subst h; simp
    · simp only [beq_iff_eq, h, if_false, ← ih, show ¬ c = a from fun e => h e.symm, false_or]
      split <;> omega

theorem sign_call {σ0 σ : St} {b : Nat} {src : List UInt8} {k : Nat} {toks : List Tok} {c : UInt8} (hr : Rd σ0 σ b src k toks) (hn : toks.length ≤ 70000) (hs : src.length ≤ 70000) (hc : src[k]? = some c) :
    SCall Tryz.prog LG 35 [.loc b 0] σ (ReadPost σ0 σ b src toks (match signAt (src.drop k) with
      | some s => some (.inr (⟨4, k, s, 0⟩, k + s.length))
      | none => none)) := by
  obtain ⟨ho, hf, tag, s', hb, hm', hs'⟩ := id hr
  have hk : k < src.length := (List.getElem?_eq_some_iff.1 hc).1
  refine code35.call hm (by simp) ?_
  refine Load.mk' hb (by simp) ?_
  refine Load.mk' hb (by simp) ?_
  refine CutR.mk' k rfl (by omega) ?_
  refine CallK.mk' (fields_call _ (by simp) (by intro j b h; rcases j with _ | _ | _ | _ | _ | _ | _ | _ | _ | _ | _ | _ | _ | _ | _ | _ | _ | _ | _ | _ | _ | _ | _ | _ | _ | _ | j <;> simp at h <;> subst h <;> decide) _) ?_
  rintro e σ' ⟨rfl, rfl⟩
  rw [fields_signs]
  refine ⟨fun m sl σ1 => σ1 = σ' ∧ ∃ j : Nat, sl = ofL [(0, some (.loc b 0)), (4, some (.str (src.drop k))), (16, some (.slice .foreign 1 (strEls signs2))), (17, some (.int .i64 9)), (18, some (.int .i64 j))] ∧ j ≤ 9 ∧
      (∀ i x, i < j → signs2[i]? = some x → List.isPrefixOf x (src.drop k) = false) ∧ m = 9 - j, _, ⟨rfl, 0, rfl, by omega, fun i x h => by omega, rfl⟩, ?_⟩
  rintro m sl σ1 ⟨rfl, j, rfl, hj, hbef, rfl⟩
  refine Test.split (fun h => ?_) (fun h => ?_)
  · refine Sure.mk' (.inl rfl) ?_
    obtain ⟨s, hsj⟩ : ∃ s, signs2[j]? = some s := ⟨signs2[j]'(by simp [signs2]; omega), by simp⟩
    refine IdxE.mk' j [.str s] rfl (by simp [strEls, hsj]) ?_
    refine ⟨⟨by simp, ?_⟩⟩
    refine CallK.pure (hasPrefix_ret _ _) ?_
    have h2 : s.length = 2 := by
      have : ∀ x ∈ signs2, x.length = 2 := by decide
      exact this s (List.mem_of_getElem? hsj)
    cases hp : List.isPrefixOf s (src.drop k) with
    | true =>
      rw [show Lib.hasPrefix (src.drop k) s = true from hp]
      refine Load.mk' hb (by simp) ?_
      refine Arith.i64 ((k + 2 : Nat) : Int) (by simp) (by omega) ?_
      refine CallK.mk' (put_call hr hn 4 0 (k + 2) s) ?_
      rintro e σ'' ⟨rfl, hr2⟩
      refine Ret.mk' ?_
      rw [show signAt (src.drop k) = some s from by unfold signAt; rw [find_at (p := (·.isPrefixOf (src.drop k))) hsj hp hbef]]
      refine ⟨rfl, ?_⟩
      rw [h2]; exact hr2
    | false =>
      rw [show Lib.hasPrefix (src.drop k) s = false from hp]
      refine Arith.i64 ((j + 1 : Nat) : Int) (by simp) (by omega) ?_
      exact ⟨_, _, by omega, Forget.refl _, rfl, j + 1, rfl, by omega, find_drop (p := (·.isPrefixOf (src.drop k))) hsj hp hbef, rfl⟩
  · have hnone : signs2.find? (·.isPrefixOf (src.drop k)) = none := find_none (fun i x hi hx => hbef i x (by simp [signs2] at hi; omega) hx)
    refine CutL.mk' 1 rfl (by simp; omega) ?_
    rw [show (src.drop k).take 1 = [c] from by rw [drop_cons hc]; rfl]
    refine CallK.pure (containsOne_ret _ c) ?_
    by_cases hcs : c ∈ signs1
    · rw [show decide (0 ≤ Lib.indexByte [40, 41, 123, 125, 91, 93, 44, 59, 58, 46, 43, 45, 42, 47, 37, 60, 62, 61, 33, 38, 124, 64, 63, 94, 126] c) = true from by rw [decide_eq_true_eq, index_mem]; exact hcs]
      refine Load.mk' hb (by simp) ?_
      refine Arith.i64 ((k + 1 : Nat) : Int) (by simp) (by omega) ?_
      refine CutL.mk' 1 rfl (by simp; omega) ?_
      rw [show (src.drop k).take 1 = [c] from by rw [drop_cons hc]; rfl]
      refine CallK.mk' (put_call hr hn 4 0 (k + 1) [c]) ?_
      rintro e σ'' ⟨rfl, hr2⟩
      refine Ret.mk' ?_
      rw [show signAt (src.drop k) = some [c] from by unfold signAt; rw [hnone, drop_cons hc]; simp [hcs]]
      exact ⟨rfl, hr2⟩
    · rw [show decide (0 ≤ Lib.indexByte [40, 41, 123, 125, 91, 93, 44, 59, 58, 46, 43, 45, 42, 47, 37, 60, 62, 61, 33, 38, 124, 64, 63, 94, 126] c) = false from by rw [decide_eq_false_iff_not, index_mem]; exact hcs]
      refine Ret.mk' ?_
      rw [show signAt (src.drop k) = none from by unfold signAt; rw [hnone, drop_cons hc]; simp [hcs]]
      exact ⟨rfl, rfl⟩
end Go.Shadow.Lex
