/- Proved: the row of LexerIgnoresBlanks: for every input the call returns true, and each argument reads as it did. Conditions: those of the row (laid). -/
import Derived.Test.YtgebphnfnmeaaaaGreatDoorLg3
import Derived.Test.YtgebphnfnmeaaaaGreatDoorLr0
import Derived.Test.YtgebphnfnmeaaaaGreatDoorSh18
import Derived.WideKeyPair
set_option linter.unusedVariables false
namespace Go.Shadow.Lex.R8
open Go Go.ChangeShapes Go.WideShapes Go.ChangeAt Go.RowKit Go.Proofs Go.Proofs.YtgebphnfnmeaaaaGreatDoor
open Go.ChangeMaps (open_string shut_string)

open Go.WideMaps (ArrKey open_pair shut_pair)
theorem arr45 : ArrKey Tryz.prog 45 5 2 := ⟨Tryz.underlying45, by kernel_rfl, by kernel_rfl, by kernel_rfl⟩
theorem u8_wf {a : Int} (h : (Lit.int .u8 a).wf = true) : 0 ≤ a ∧ a < 256 := by
  simp [Lit.wf, IntKind.min, IntKind.max, IntKind.signed, IntKind.bits] at h; omega
theorem R_pair {B : Nat} {γ : Gh} {w : World} {a b : Int} (ha : 0 ≤ a ∧ a < 256) (hb : 0 ≤ b ∧ b < 256) : R B γ w (.agg [.int .u8 a.toNat, .int .u8 b.toNat]) (.agg #[.int .u8 a, .int .u8 b]) := by
  rw [show ((a.toNat : Nat) : Int) = a by omega, show ((b.toNat : Nat) : Int) = b by omega]
  refine .agg _ _ rfl (fun j x hj => ?_) (fun i x y hx hy => ?_)
  · match j, hj with
    | 0, hj => injection hj with hj; subst hj; rfl
    | 1, hj => injection hj with hj; subst hj; rfl
    | j + 2, hj => simp at hj
  · match i, hx with
    | 0, hx => injection hx with hx; subst hx; injection hy with hy; subst hy; exact .int _ _
    | 1, hx => injection hx with hx; subst hx; injection hy with hy; subst hy; exact .int _ _
    | i + 2, hx => simp at hx

theorem walk (a0 : ByteArray) (y0 : a0.size ≤ maxLen) (a1 : ByteArray) (y1 : a1.size ≤ maxLen) (a2 b2 : Int) (y2 : 0 ≤ a2 ∧ a2 < 256) (z2 : 0 ≤ b2 ∧ b2 < 256) (W : World) (hL : laidMetH Tryz.prog laidAll W) :
    Calls Tryz.prog 8 #[.string a0, .string a1, .agg #[.int .u8 a2, .int .u8 b2]] W fun e W' => e = .returned (.bool true) ∧ Below W.heap.size W W' := by
  refine (law8 a0.data.toList a1.data.toList a2.toNat b2.toNat (by omega) (by omega)).run (enters_of Tryz.func8 (by kernel_rfl) rfl) (lexPre_of hL) (fun g cs h => by cases h) ?_ (fun B γ w x h => h.bool_eq)
  exact (.cons (.str _ _ rfl) (.cons (.str _ _ rfl) (.cons (R_pair y2 z2) .nil)))

set_option maxRecDepth 100000 in
theorem lifted (os : Os) (started : os.Started) (H : Type) (enc : TypeId × Value → H) :
    ReturnsInHanded {} Tryz.checked os 8 .any (fun w args => (Rows.lexerIgnoresBlanksSpec.pre enc Tryz.prog Tryz.f8 [] false w args ∧ laidMetH Tryz.prog laidAll w) ∧ sizedMet enc Tryz.prog Tryz.f8 (OpenSpec.ofChange Rows.lexerIgnoresBlanksSpec) false w args)
      (Rows.lexerIgnoresBlanksSpec.post enc Tryz.prog Tryz.f8 false true false false) := by
  refine returnsInHanded_of_change_and (C := Tryz.checked) (X := fun w _ => laidMetH Tryz.prog laidAll w) (fun _ _ _ hh h => h.of_heap hh) own started (by kernel_rfl) Tryz.func8
    (ChangeSpec.witness_shaped (enc := enc) (C := Tryz.checked) (os := os) (X := fun w _ => laidMetH Tryz.prog laidAll w) false (World.doorLaid Tryz.prog 400 os) #[.string ByteArray.empty, .string ByteArray.empty, .agg #[.int .u8 0, .int .u8 0]] 8 rfl (World.shaped_of_RefB (by kernel_rfl) (by kernel_rfl)) (by kernel_rfl) (by kernel_rfl) (by kernel_rfl) (door_met os _)) ?_
  intro W base args ds gs before hval0 hW _ _ hL _
  have hval : ∀ (j : Nat) t v, Tryz.f8.params[j]? = some t → args[j]? = some v → Value.okWide Tryz.prog W .any base t v := hval0
  have hW' := hW
  obtain ⟨p, q, hA0, hV, rfl, hfz, hnd⟩ := hW
  have hA : DataW.TrodAll enc Tryz.prog W 0 (fun _ => true) true Tryz.f8.params.toList args.toList ds p := hA0
  rw [Tryz.params8] at hA hval
  obtain ⟨v0, vs0, d0, ds0, p0, q0, hargs, rfl, rfl, h0, r0⟩ := trodAll_cons hA
  obtain ⟨v1, vs1, d1, ds1, p1, q1, rfl, rfl, rfl, h1, r1⟩ := trodAll_cons r0
  obtain ⟨v2, vs2, d2, ds2, p2, q2, rfl, rfl, rfl, h2, r2⟩ := trodAll_cons r1
  obtain ⟨rfl, rfl, rfl⟩ := trodAll_nil r2
  obtain rfl : args = #[v0, v1, v2] := by cases args; simp_all
  obtain ⟨rfl, rfl⟩ := trodVars_none hV
  obtain ⟨a0, rfl, rfl, rfl, y0⟩ := open_string Tryz.underlying9 (hval 0 9 v0 rfl rfl) h0
  obtain ⟨a1, rfl, rfl, rfl, y1⟩ := open_string Tryz.underlying9 (hval 1 9 v1 rfl rfl) h1
  obtain ⟨a2, b2, rfl, rfl, rfl, w2, v2⟩ := open_pair arr45 Tryz.underlying5 (hval 2 45 v2 rfl rfl) h2
  clear hA0 hval0
  refine (walk a0 y0 a1 y1 a2 b2 (u8_wf w2) (u8_wf v2) W hL).mono fun e W' ⟨he, bel⟩ => ?_
  subst he
  exact ⟨_, rfl, _, _, _, [], _, [], hW', trodAll_mk1 (shut_bool Tryz.underlying4 _), (trodAll_cons_mk (shut_string Tryz.underlying9 y0) (trodAll_cons_mk (shut_string Tryz.underlying9 y1) (trodAll_cons_mk (shut_pair arr45 Tryz.underlying5 w2 v2) trodAll_mk0))), rfl, bel.frame _, fun h => by cases h⟩

theorem over : Rows.lexerIgnoresBlanksRow.holds Tryz.pinned (OpenSpec.ofChange Rows.lexerIgnoresBlanksSpec) :=
  OpenClaim.holds_of_wide 8 Tryz.f8 rfl rfl rfl rfl rfl rfl rfl ⟨rfl, rfl, rfl, rfl, rfl⟩ rfl rfl rfl rfl rfl (by kernel_rfl) Tryz.func8 (by kernel_rfl)
    (of_decide_eq_true (by kernel_rfl)) (by unfold Func.isWrapper; first | (rw [if_pos (by decide +kernel)]; kernel_rfl) | (rw [if_neg (by decide +kernel)]; exact ⟨rfl, rfl⟩))
    (fun os started H enc _ => lifted os started H enc)
end Go.Shadow.Lex.R8
