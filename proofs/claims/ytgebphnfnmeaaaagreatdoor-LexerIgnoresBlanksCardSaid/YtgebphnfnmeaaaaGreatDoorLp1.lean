/- The lexer in plain Lean: against the library's own words. -/
import Derived.Test.YtgebphnfnmeaaaaGreatDoorLp0
import Derived.Lib.AtoiAll
import Derived.Lib.Bytealg
namespace Go.Shadow.Lex
open Go

theorem digitsVal_bound (s : List UInt8) : ∀ acc, s.all isDigit = true → s.foldl (fun n (c : UInt8) => 10 * n + (c.toNat - 48)) acc < (acc + 1) * 10 ^ s.length := by
  induction s with
  | nil => intro acc _; simp
  | cons c s ih =>
    intro acc h
    simp only [List.all_cons, Bool.and_eq_true] at h
    have hd : c.toNat - 48 ≤ 9 := by have := h.1; simp [isDigit] at this; omega
    have := ih (10 * acc + (c.toNat - 48)) h.2
    simp only [List.foldl_cons, List.length_cons, Nat.pow_succ]
    calc _ < _ := this
      _ ≤ ((acc + 1) * 10) * 10 ^ s.length := Nat.mul_le_mul_right _ (by omega)
      _ = _ := by rw [Nat.mul_assoc, Nat.mul_comm (10 ^ s.length) 10]
theorem parse_digits (s : List UInt8) : ∀ acc, s.all isDigit = true → (acc + 1) * 10 ^ s.length ≤ 1000000000000000000 → Lib.parseUint10 acc s = .ok (s.foldl (fun n (c : UInt8) => 10 * n + (c.toNat - 48)) acc) := by
  induction s with
  | nil => intro acc _ _; rfl
  | cons c s ih =>
    intro acc h hb
    simp only [List.all_cons, Bool.and_eq_true] at h
    have h1 : 48 ≤ c.toNat ∧ c.toNat ≤ 57 := by simpa [isDigit] using h.1
    have hp : 1 ≤ 10 ^ s.length := Nat.one_le_pow _ _ (by omega)
    simp only [List.length_cons, Nat.pow_succ] at hb
    have hb2 : (acc + 1) * 10 * 10 ^ s.length ≤ 1000000000000000000 := by rw [Nat.mul_assoc, Nat.mul_comm 10]; exact hb
    have hb3 : (acc + 1) * 10 * 1 ≤ (acc + 1) * 10 * 10 ^ s.length := Nat.mul_le_mul_left _ hp
    simp only [Lib.parseUint10, h1, and_self, if_true, List.foldl_cons]
    rw [if_neg (by omega), if_neg (by omega), Nat.mul_comm acc 10]
    refine ih _ h.2 (Nat.le_trans (Nat.mul_le_mul_right _ ?_) hb2)
    omega
theorem parse_other (s : List UInt8) : ∀ acc u, Lib.parseUint10 acc s = .ok u → s.all isDigit = true := by
  induction s with
  | nil => intro _ _ _; rfl
  | cons c s ih =>
    intro acc u h
    simp only [Lib.parseUint10] at h
    split at h
    · rename_i h1
      split at h
      · cases h
      · split at h
        · cases h
        · simp only [List.all_cons, Bool.and_eq_true]
          exact ⟨by simp [isDigit, h1], ih _ _ h⟩
    · cases h

theorem atoi_digit {c : UInt8} {r : List UInt8} (hc : isDigit c = true) :
    (∀ v, Lib.atoiAll (c :: r) = .ok v → ∃ u, Lib.parseUint10 0 (c :: r) = .ok u ∧ v = (u : Int)) ∧ ∀ u, Lib.parseUint10 0 (c :: r) = .ok u → u < 9223372036854775808 → Lib.atoiAll (c :: r) = .ok (u : Int) := by
  have h1 : 48 ≤ c.toNat ∧ c.toNat ≤ 57 := by simpa [isDigit] using hc
  have h2 : ¬ c.toNat = 43 := by omega
  have h3 : ¬ c.toNat = 45 := by omega
  simp only [Lib.atoiAll, Lib.parseMag, h2, h3, or_self, if_false, reduceCtorEq]
  rcases Lib.parseUint10 0 (c :: r) with u | _ | _
  · refine ⟨fun v h => ?_, fun u' h hu => ?_⟩
    · simp only [false_and, not_false_eq_true, true_and, if_false] at h
      split at h
      · cases h
      · injection h with h; exact ⟨u, rfl, h.symm⟩
    · injection h with h; subst h
      simp only [false_and, not_false_eq_true, true_and, if_false]
      rw [if_neg (by omega)]
  · exact ⟨fun v h => (by cases h), fun u h => (by cases h)⟩
  · exact ⟨fun v h => (by cases h), fun u h => (by cases h)⟩
theorem atoi_ok {c : UInt8} {r : List UInt8} {v : Int} (hc : isDigit c = true) (h : Lib.atoiAll (c :: r) = .ok v) : (c :: r).all isDigit = true ∧ ((c :: r).length ≤ 15 → v = digitsVal (c :: r)) := by
  obtain ⟨u, hp, rfl⟩ := (atoi_digit hc).1 v h
  have ha := parse_other _ _ _ hp
  refine ⟨ha, fun hl => ?_⟩
  have := parse_digits (c :: r) 0 ha (by
    have : 10 ^ (c :: r).length ≤ 10 ^ 15 := Nat.pow_le_pow_right (by omega) hl
    omega)
  rw [this] at hp
  injection hp with hp
  rw [← hp]; rfl
theorem atoi_bad {c : UInt8} {r : List UInt8} (hc : isDigit c = true) (h : ∀ v, Lib.atoiAll (c :: r) ≠ .ok v) : numVal (c :: r) = none := by
  unfold numVal
  rw [if_neg]
  rintro ⟨ha, hl, _⟩
  have hp := parse_digits (c :: r) 0 ha (by
    have : 10 ^ (c :: r).length ≤ 10 ^ 15 := Nat.pow_le_pow_right (by omega) hl
    omega)
  have hb := digitsVal_bound (c :: r) 0 ha
  have : 10 ^ (c :: r).length ≤ 10 ^ 15 := Nat.pow_le_pow_right (by omega) hl
  exact h _ ((atoi_digit hc).2 _ hp (by omega))
end Go.Shadow.Lex
