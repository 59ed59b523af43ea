/- Proved: the tied card of ParseMatchesSpec. Conditions: none beyond the card's own. -/
import Derived.Test.YtaefelmojpkpaaaGreatDoorBa5
import Derived.Test.YtaefelmojpkpaaaGreatDoorRows
import Derived.ProofKit
import Derived.LaidMore
import Derived.OpenShut
import Derived.ShutString
import Derived.ChangeOld
import Derived.Lib.LaidU8
import Derived.Stop.LaidErr
import Derived.Stop.Joined
import Derived.MakeChecks
import Derived.Test.YtaefelmojpkpaaaGreatDoorCards
import Derived.Test.YtaefelmojpkpaaaGreatDoorTie
import Derived.SevenTiedAt

/- The specification's readers of expressions, as shadow contracts. Conditions: as each theorem says. -/
namespace Go.Shadow.Lex
open Go Go.RowKit Go.Proofs

/-- What is got: an expression, the index behind it, an error. -/
def gotV (x : Ex) (tq E : Int) : List V := exV x ++ [.int .i64 tq, .int .i64 E]
abbrev noGot : List V := [.int .i64 0, .int .i64 0, .str [], .slice .nil 0 [], .int .i64 0, .int .i64 0, .int .i64 0]
theorem weak_got {op n a tq E : Int} {s : List UInt8} {t : Tag} {z : Nat} {kids : List Ex} {es : List (List V)} (hes : es = kids.map exV) (hz : z = 5 ∨ es = []) : Weak (.agg [.int .i64 op, .int .i64 n, .str s, .slice t z es, .int .i64 a, .int .i64 tq, .int .i64 E]) (.agg (gotV (.mk op n s kids a) tq E)) := by
  refine weak_agg rfl (fun i y hy => ?_) (fun i x y hx hy => ?_)
  · match i, hy with
    | 0, hy | 1, hy | 2, hy | 3, hy | 4, hy | 5, hy | 6, hy => simp [gotV, exV] at hy; subst hy; rfl
    | _ + 7, hy => simp [gotV, exV] at hy
  · match i, hx, hy with
    | 0, hx, hy | 1, hx, hy | 2, hx, hy | 4, hx, hy | 5, hx, hy | 6, hx, hy => simp [gotV, exV] at hx hy; subst hx; subst hy; exact Weak.refl _
    | 3, hx, hy => simp [gotV, exV] at hx hy; subst hx; subst hy; exact weak_nil5 hes hz
    | _ + 7, hx, hy => simp [gotV, exV] at hy
theorem weakL_got {op n a tq E : Int} {s : List UInt8} {t : Tag} {z : Nat} {kids : List Ex} {es : List (List V)} (hes : es = kids.map exV) (hz : z = 5 ∨ es = []) : WeakL [.int .i64 op, .int .i64 n, .str s, .slice t z es, .int .i64 a, .int .i64 tq, .int .i64 E] (gotV (.mk op n s kids a) tq E) := by
  refine ⟨rfl, fun i y hy => ?_, fun i x y hx hy => ?_⟩
  · match i, hy with
    | 0, hy | 1, hy | 2, hy | 3, hy | 4, hy | 5, hy | 6, hy => simp [gotV, exV] at hy; subst hy; rfl
    | _ + 7, hy => simp [gotV, exV] at hy
  · match i, hx, hy with
    | 0, hx, hy | 1, hx, hy | 2, hx, hy | 4, hx, hy | 5, hx, hy | 6, hx, hy => simp [gotV, exV] at hx hy; subst hx; subst hy; exact Weak.refl _
    | 3, hx, hy => simp [gotV, exV] at hx hy; subst hx; subst hy; exact weak_nil5 hes hz
    | _ + 7, hx, hy => simp [gotV, exV] at hy
theorem weak_err {tq E : Int} : Weak (.agg [.int .i64 0, .int .i64 0, .str [], .slice .nil 0 [], .int .i64 0, .int .i64 tq, .int .i64 E]) (.agg (gotV .none tq E)) := weak_got (kids := []) rfl (.inr rfl)
theorem ov_none {σ σ1 : St} (o : Over σ σ1) {b : Nat} (h : σ1.box b = none) : σ.box b = none := by
  cases hc : σ.box b with
  | none => rfl
  | some cs => rw [o.box b cs hc] at h; cases h

theorem ended_kind {ts : List Tok} (he : Ended ts) {k : Nat} (hk : k < ts.length) (h : (hd (ts.drop k)).kind ≠ 5) : k + 1 < ts.length ∧ (ts.drop k).tail = ts.drop (k + 1) := by
  refine ⟨?_, by simp⟩
  obtain ⟨i, e, rfl, h1, _⟩ := he
  simp only [List.length_append, List.length_cons, List.length_nil] at hk ⊢
  by_cases hki : k = i.length
  · subst hki
    simp [hd, h1] at h
  · omega
theorem ended_sign {ts : List Tok} (he : Ended ts) {k : Nat} (hk : k < ts.length) {s : List UInt8} (h : isS s (ts.drop k) = true) : k + 1 < ts.length ∧ (ts.drop k).tail = ts.drop (k + 1) :=
  ended_kind he hk (by rw [(hd_sign h).1]; decide)

theorem errR {E : Int} (h : E = 5 ∨ E = 2) : E ≠ 0 := by omega
def GotP (nt : NT) (d : Int) (ts : List Tok) (k : Nat) (σ : St) (e : SEnd) (σ' : St) : Prop := σ' = σ ∧ ∃ (x : Ex) (tq : Nat) (E : Int), e = .ret (.agg (gotV x tq E)) ∧ tq < ts.length ∧ k ≤ tq ∧
  ((E = 0 ∧ k < tq ∧ PE nt d (ts.drop k) (.ok x (ts.drop tq))) ∨ (E ≠ 0 ∧ x = .none ∧ PE nt d (ts.drop k) (.err E (ts.drop tq))))

/-- Readers of smaller rank. -/
structure GotTo (ts : List Tok) (m : Nat) : Prop where
  expr : ∀ (σ : St) (k : Nat) (d : Int), k < ts.length → 0 ≤ d → d ≤ 31 → (ts.length - k) * 40 + 20 ≤ m → SCall Tryz.prog LG 31 [TS ts, .int .i64 k, .int .i64 d] σ (GotP .expr d ts k σ)
  lvl : ∀ (σ : St) (k n : Nat) (d : Int), k < ts.length → 0 ≤ d → d ≤ 30 → 1 ≤ n → n ≤ 7 → (ts.length - k) * 40 + 2 * (9 - n) ≤ m → SCall Tryz.prog LG 59 [TS ts, .int .i64 k, .int .i64 n, .int .i64 d] σ (GotP (.lvl n) d ts k σ)
  bang : ∀ (σ : St) (k : Nat) (d : Int), k < ts.length → 0 ≤ d → d ≤ 30 → (ts.length - k) * 40 + 11 ≤ m → SCall Tryz.prog LG 85 [TS ts, .int .i64 k, .int .i64 d] σ (GotP (.lvl 3) d ts k σ)
  neg : ∀ (σ : St) (k : Nat) (d : Int), k < ts.length → 0 ≤ d → d ≤ 30 → (ts.length - k) * 40 + 3 ≤ m → SCall Tryz.prog LG 84 [TS ts, .int .i64 k, .int .i64 d] σ (GotP .neg d ts k σ)
  atom : ∀ (σ : St) (k : Nat) (d : Int), k < ts.length → 0 ≤ d → d ≤ 30 → isS [45] (ts.drop k) = false → (ts.length - k) * 40 + 2 ≤ m → SCall Tryz.prog LG 104 [TS ts, .int .i64 k, .int .i64 d] σ (GotP .atom d ts k σ)
  args : ∀ (σ : St) (k : Nat) (d : Int), k < ts.length → 0 ≤ d → d ≤ 30 → (hd (ts.drop k)).kind = 1 → isS [40] (ts.drop (k + 1)) = true → (ts.length - k) * 40 + 1 ≤ m → SCall Tryz.prog LG 117 [TS ts, .int .i64 k, .int .i64 d] σ (GotP .atom d ts k σ)

section
variable {ts : List Tok} (he : Ended ts) (hlen : ts.length ≤ 1000000) {m : Nat} (ih : ∀ k, k < m → GotTo ts k)
include he hlen ih

theorem exprR_walk {σ : St} {k : Nat} {d : Int} (hk : k < ts.length) (h0 : 0 ≤ d) (h1 : d ≤ 31) (hm' : (ts.length - k) * 40 + 20 ≤ m) : SCall Tryz.prog LG 31 [TS ts, .int .i64 k, .int .i64 d] σ (GotP .expr d ts k σ) := by
  refine code31.call hm (by simp) ?_
  intro b6 f6
  have o1 : Over σ (σ.put b6 noGot) := over_put (.refl _) f6
  have h6 : (σ.put b6 noGot).box b6 = some noGot := put_box
  generalize σ.put b6 noGot = σ1 at o1 h6
  refine CallK.pure (first_ret hk d true) ?_
  cases hf : first (ts.drop k) d true with
  | some E =>
    have hE := errR (first_err hf)
    refine Test.yes hE ?_
    refine Sure.mk' rfl ?_
    refine Store.mk' ([.int .i64 0, .int .i64 0, .str [], .slice .nil 0 [], .int .i64 0, .int .i64 k, .int .i64 E]) h6 (Nat.le_refl _) rfl (fun σr er => ?_)
    refine Load.mk' (by rw [er]; exact put_box) (Nat.le_refl _) ?_
    exact Ret.weak weak_err (σ' := σ) (by rw [er]; exact over_put o1 f6) ⟨rfl, ⟨_, k, E, rfl, hk, Nat.le_refl _, .inr ⟨hE, rfl, .expr_first hf⟩⟩⟩
  | none =>
    have hdm := first_le hf
    refine Test.no (by simp) ?_
    refine CallK.mk' ((ih (m - 1) (by omega)).lvl _ k 1 d hk h0 hdm (by omega) (by omega) (by omega)) ?_
    rintro e σ2 ⟨rfl, x, tq, E, rfl, hto, hkt, hr⟩
    obtain ⟨op, n, s, kids, a⟩ := x
    intro b8 hb8
    refine Sure.mk' rfl ?_
    refine Store.mk' (gotV (.mk op n s kids a) tq E) put_box (Nat.le_refl _) rfl (fun σ3 eb8 => ?_)
    rw [put_put] at eb8
    have q3 := over_put (cs := gotV (.mk op n s kids a) tq E) (Over.refl _) hb8
    rw [← eb8] at q3
    have o3 := over_tr o1 q3
    have h83 : (σ3).box b8 = some (gotV (.mk op n s kids a) tq E) := by rw [eb8]; exact put_box
    clear eb8
    have h63 := q3.box _ _ h6
    refine Load.mk' h83 (by simp [gotV, exV]) ?_
    refine Test.split (fun hE => ?_) (fun hE => ?_)
    · refine Load.mk' h83 (Nat.le_refl _) ?_
      rcases hr with ⟨h, _⟩ | ⟨_, hx, hr⟩
      · exact absurd h hE
      refine Sure.mk' rfl ?_
      refine Store.mk' ((gotV (.mk op n s kids a) tq E)) h63 (Nat.le_refl _) rfl (fun σr er => ?_)
      refine Load.mk' (by rw [er]; exact put_box) (Nat.le_refl _) ?_
      exact Ret.weak (.refl _) (σ' := σ) (by rw [er]; exact over_put o3 f6) ⟨rfl, ⟨_, tq, E, rfl, hto, hkt, .inr ⟨hE, hx, .expr_err hf hr⟩⟩⟩
    rcases hr with ⟨rfl, hkt, hr⟩ | ⟨h, _⟩
    rotate_left
    · exact absurd h hE
    refine Load.mk' h83 (by simp [gotV, exV]) ?_
    refine CallK.pure (sign_ret hto _) ?_
    cases hq : isS [63] (ts.drop tq)
    · refine Load.mk' h83 (Nat.le_refl _) ?_
      refine Sure.mk' rfl ?_
      refine Store.mk' ((gotV (.mk op n s kids a) tq 0)) h63 (Nat.le_refl _) rfl (fun σr er => ?_)
      refine Load.mk' (by rw [er]; exact put_box) (Nat.le_refl _) ?_
      exact Ret.weak (.refl _) (σ' := σ) (by rw [er]; exact over_put o3 f6) ⟨rfl, ⟨_, tq, 0, rfl, hto, by omega, .inl ⟨rfl, hkt, .expr_one hf hr hq⟩⟩⟩
    obtain ⟨hto1, htl⟩ := ended_sign he hto hq
    refine Load.mk' h83 (by simp [gotV, exV]) ?_
    refine Arith.i64 ((tq + 1 : Nat) : Int) (by simp) (by omega) ?_
    refine Arith.i64 (d + 1) rfl (by omega) ?_
    refine CallK.mk' ((ih (m - 1) (by omega)).expr _ (tq + 1) (d + 1) hto1 (by omega) (by omega) (by omega)) ?_
    rintro e σ4 ⟨rfl, x2, to2, E2, rfl, hto2, hkt2, hr2⟩
    rw [← htl] at hr2
    obtain ⟨op2, n2, s2, kids2, a2⟩ := x2
    intro b10 hb10
    refine Sure.mk' rfl ?_
    refine Store.mk' (gotV (.mk op2 n2 s2 kids2 a2) to2 E2) put_box (Nat.le_refl _) rfl (fun σ5 eb10 => ?_)
    rw [put_put] at eb10
    have q5 := over_put (cs := gotV (.mk op2 n2 s2 kids2 a2) to2 E2) (Over.refl _) hb10
    rw [← eb10] at q5
    have o5 := over_tr o3 q5
    have h105 : (σ5).box b10 = some (gotV (.mk op2 n2 s2 kids2 a2) to2 E2) := by rw [eb10]; exact put_box
    clear eb10
    have h65 := q5.box _ _ h63
    have h85 := q5.box _ _ h83
    refine Load.mk' h105 (by simp [gotV, exV]) ?_
    refine Test.split (fun hE => ?_) (fun hE => ?_)
    · refine Load.mk' h105 (Nat.le_refl _) ?_
      rcases hr2 with ⟨h, _⟩ | ⟨_, hx, hr2⟩
      · exact absurd h hE
      refine Sure.mk' rfl ?_
      refine Store.mk' ((gotV (.mk op2 n2 s2 kids2 a2) to2 E2)) h65 (Nat.le_refl _) rfl (fun σr er => ?_)
      refine Load.mk' (by rw [er]; exact put_box) (Nat.le_refl _) ?_
      exact Ret.weak (.refl _) (σ' := σ) (by rw [er]; exact over_put o5 f6) ⟨rfl, ⟨_, to2, E2, rfl, hto2, by omega, .inr ⟨hE, hx, .if_err1 hf hr hq hr2⟩⟩⟩
    rcases hr2 with ⟨rfl, hkt2, hr2⟩ | ⟨h, _⟩
    rotate_left
    · exact absurd h hE
    refine Load.mk' h105 (by simp [gotV, exV]) ?_
    refine CallK.pure (sign_ret hto2 _) ?_
    cases hc : isS [58] (ts.drop to2)
    · refine Load.mk' h105 (by simp [gotV, exV]) ?_
      refine Sure.mk' rfl ?_
      refine Store.mk' ([.int .i64 0, .int .i64 0, .str [], .slice .nil 0 [], .int .i64 0, .int .i64 to2, .int .i64 5]) h65 (Nat.le_refl _) rfl (fun σr er => ?_)
      refine Load.mk' (by rw [er]; exact put_box) (Nat.le_refl _) ?_
      exact Ret.weak weak_err (σ' := σ) (by rw [er]; exact over_put o5 f6) ⟨rfl, ⟨_, to2, 5, rfl, hto2, by omega, .inr ⟨by decide, rfl, .if_colon hf hr hq hr2 hc⟩⟩⟩
    obtain ⟨hto3, htl2⟩ := ended_sign he hto2 hc
    refine Load.mk' h105 (by simp [gotV, exV]) ?_
    refine Arith.i64 ((to2 + 1 : Nat) : Int) (by simp) (by omega) ?_
    refine Arith.i64 (d + 1) rfl (by omega) ?_
    refine CallK.mk' ((ih (m - 1) (by omega)).expr _ (to2 + 1) (d + 1) hto3 (by omega) (by omega) (by omega)) ?_
    rintro e σ6 ⟨rfl, x3, to3, E3, rfl, hto4, hkt3, hr3⟩
    rw [← htl2] at hr3
    obtain ⟨op3, n3, s3, kids3, a3⟩ := x3
    intro b12 hb12
    refine Sure.mk' rfl ?_
    refine Store.mk' (gotV (.mk op3 n3 s3 kids3 a3) to3 E3) put_box (Nat.le_refl _) rfl (fun σ7 eb12 => ?_)
    rw [put_put] at eb12
    have q7 := over_put (cs := gotV (.mk op3 n3 s3 kids3 a3) to3 E3) (Over.refl _) hb12
    rw [← eb12] at q7
    have o7 := over_tr o5 q7
    have h127 : (σ7).box b12 = some (gotV (.mk op3 n3 s3 kids3 a3) to3 E3) := by rw [eb12]; exact put_box
    clear eb12
    have h67 := q7.box _ _ h65
    have h87 := q7.box _ _ h85
    have h107 := q7.box _ _ h105
    refine Load.mk' h127 (by simp [gotV, exV]) ?_
    refine Test.split (fun hE => ?_) (fun hE => ?_)
    · refine Load.mk' h127 (Nat.le_refl _) ?_
      rcases hr3 with ⟨h, _⟩ | ⟨_, hx, hr3⟩
      · exact absurd h hE
      refine Sure.mk' rfl ?_
      refine Store.mk' ((gotV (.mk op3 n3 s3 kids3 a3) to3 E3)) h67 (Nat.le_refl _) rfl (fun σr er => ?_)
      refine Load.mk' (by rw [er]; exact put_box) (Nat.le_refl _) ?_
      exact Ret.weak (.refl _) (σ' := σ) (by rw [er]; exact over_put o7 f6) ⟨rfl, ⟨_, to3, E3, rfl, hto4, by omega, .inr ⟨hE, hx, .if_err2 hf hr hq hr2 hc hr3⟩⟩⟩
    rcases hr3 with ⟨rfl, hkt3, hr3⟩ | ⟨h, _⟩
    rotate_left
    · exact absurd h hE
    refine Load.mk' h87 (by simp [gotV, exV]) ?_
    refine Load.mk' h87 (by simp [gotV, exV]) ?_
    refine Load.mk' h107 (by simp [gotV, exV]) ?_
    refine Load.mk' h127 (by simp [gotV, exV]) ?_
    refine Load.mk' h127 (by simp [gotV, exV]) ?_
    refine Sure.mk' rfl ?_
    refine Store.mk' ([.int .i64 20, .int .i64 0, .str [], .slice .full 5 [exV (.mk op n s kids a), exV (.mk op2 n2 s2 kids2 a2), exV (.mk op3 n3 s3 kids3 a3)], .int .i64 a, .int .i64 to3, .int .i64 0]) h67 (Nat.le_refl _) rfl (fun σr er => ?_)
    refine Load.mk' (by rw [er]; exact put_box) (Nat.le_refl _) ?_
    exact Ret.weak (weak_got (kids := [.mk op n s kids a, .mk op2 n2 s2 kids2 a2, .mk op3 n3 s3 kids3 a3]) rfl (.inl rfl)) (σ' := σ) (by rw [er]; exact over_put o7 f6) ⟨rfl, ⟨_, to3, 0, rfl, hto4, by omega, .inl ⟨rfl, by omega, .if_ok hf hr hq hr2 hc hr3⟩⟩⟩

theorem bangR_walk {σ : St} {k : Nat} {d : Int} (hk : k < ts.length) (h0 : 0 ≤ d) (h1 : d ≤ 30) (hm' : (ts.length - k) * 40 + 11 ≤ m) : SCall Tryz.prog LG 85 [TS ts, .int .i64 k, .int .i64 d] σ (GotP (.lvl 3) d ts k σ) := by
  refine code85.call hm (by simp) ?_
  intro b6 f6
  have o1 : Over σ (σ.put b6 noGot) := over_put (.refl _) f6
  have h6 : (σ.put b6 noGot).box b6 = some noGot := put_box
  generalize σ.put b6 noGot = σ1 at o1 h6
  refine CallK.pure (sign_ret hk _) ?_
  cases hq : isS [33] (ts.drop k)
  · refine CallK.mk' ((ih (m - 1) (by omega)).lvl _ k 4 d hk h0 h1 (by omega) (by omega) (by omega)) ?_
    rintro e σ2 ⟨rfl, x, tq, E, rfl, hto, hkt, hr⟩
    obtain ⟨op, n, s, kids, a⟩ := x
    refine Sure.mk' rfl ?_
    refine Store.mk' ((gotV (.mk op n s kids a) tq E)) h6 (Nat.le_refl _) rfl (fun σr er => ?_)
    refine Load.mk' (by rw [er]; exact put_box) (Nat.le_refl _) ?_
    exact Ret.weak (.refl _) (σ' := σ) (by rw [er]; exact over_put o1 f6) ⟨rfl, ⟨_, tq, E, rfl, hto, hkt, hr.imp (fun h => ⟨h.1, h.2.1, .lvl3 hq h.2.2⟩) (fun h => ⟨h.1, h.2.1, .lvl3 hq h.2.2⟩)⟩⟩
  obtain ⟨hk1, htl⟩ := ended_sign he hk hq
  refine Arith.i64 ((k + 1 : Nat) : Int) (by simp) (by omega) ?_
  refine Arith.i64 (d + 1) rfl (by omega) ?_
  refine CallK.pure (first_ret hk1 (d + 1) true) ?_
  cases hf : first (ts.drop (k + 1)) (d + 1) true with
  | some E =>
    have hE := errR (first_err hf)
    refine Test.yes hE ?_
    refine Arith.i64 ((k + 1 : Nat) : Int) (by simp) (by omega) ?_
    refine Sure.mk' rfl ?_
    refine Store.mk' ([.int .i64 0, .int .i64 0, .str [], .slice .nil 0 [], .int .i64 0, .int .i64 (k + 1 : Nat), .int .i64 E]) h6 (Nat.le_refl _) rfl (fun σr er => ?_)
    refine Load.mk' (by rw [er]; exact put_box) (Nat.le_refl _) ?_
    exact Ret.weak weak_err (σ' := σ) (by rw [er]; exact over_put o1 f6) ⟨rfl, ⟨_, k + 1, E, rfl, hk1, by omega, .inr ⟨hE, rfl, by rw [← htl] at hf ⊢; exact .bang_first hq hf⟩⟩⟩
  | none =>
    have hdm := first_le hf
    refine Test.no (by simp) ?_
    refine Arith.i64 ((k + 1 : Nat) : Int) (by simp) (by omega) ?_
    refine Arith.i64 (d + 1) rfl (by omega) ?_
    refine CallK.mk' ((ih (m - 1) (by omega)).bang _ (k + 1) (d + 1) hk1 (by omega) hdm (by omega)) ?_
    rintro e σ2 ⟨rfl, x, tq, E, rfl, hto, hkt, hr⟩
    obtain ⟨op, n, s, kids, a⟩ := x
    rw [← htl] at hr hf
    intro b9 hb9
    refine Sure.mk' rfl ?_
    refine Store.mk' (gotV (.mk op n s kids a) tq E) put_box (Nat.le_refl _) rfl (fun σ3 eb9 => ?_)
    rw [put_put] at eb9
    have q3 := over_put (cs := gotV (.mk op n s kids a) tq E) (Over.refl _) hb9
    rw [← eb9] at q3
    have o3 := over_tr o1 q3
    have h93 : (σ3).box b9 = some (gotV (.mk op n s kids a) tq E) := by rw [eb9]; exact put_box
    clear eb9
    have h63 := q3.box _ _ h6
    refine Load.mk' h93 (by simp [gotV, exV]) ?_
    refine Test.split (fun hE => ?_) (fun hE => ?_)
    · refine Load.mk' h93 (Nat.le_refl _) ?_
      rcases hr with ⟨h, _⟩ | ⟨_, hx, hr⟩
      · exact absurd h hE
      refine Sure.mk' rfl ?_
      refine Store.mk' ((gotV (.mk op n s kids a) tq E)) h63 (Nat.le_refl _) rfl (fun σr er => ?_)
      refine Load.mk' (by rw [er]; exact put_box) (Nat.le_refl _) ?_
      exact Ret.weak (.refl _) (σ' := σ) (by rw [er]; exact over_put o3 f6) ⟨rfl, ⟨_, tq, E, rfl, hto, by omega, .inr ⟨hE, hx, .bang_err hq hf hr⟩⟩⟩
    rcases hr with ⟨rfl, hkt, hr⟩ | ⟨h, _⟩
    rotate_left
    · exact absurd h hE
    obtain ⟨t, ht, hdr⟩ := get_drop hk
    refine Sure.mk' (.inl rfl) ?_
    refine IdxE.mk' k (tokV t) rfl (tokV_get ht) ?_
    refine ⟨by simp [tokV], ?_⟩
    refine Load.mk' h93 (by simp [gotV, exV]) ?_
    refine Load.mk' h93 (by simp [gotV, exV]) ?_
    have hat : (hd (ts.drop k)).at_ = t.at_ := by rw [hdr]; rfl
    have hPE := PE.bang_ok hq hf hr
    rw [hat] at hPE
    refine Sure.mk' rfl ?_
    refine Store.mk' ([.int .i64 5, .int .i64 0, .str [], .slice .full 5 [exV (.mk op n s kids a)], .int .i64 t.at_, .int .i64 tq, .int .i64 0]) h63 (Nat.le_refl _) rfl (fun σr er => ?_)
    refine Load.mk' (by rw [er]; exact put_box) (Nat.le_refl _) ?_
    exact Ret.weak (weak_got (kids := [.mk op n s kids a]) rfl (.inl rfl)) (σ' := σ) (by rw [er]; exact over_put o3 f6) ⟨rfl, ⟨_, tq, 0, rfl, hto, by omega, .inl ⟨rfl, by omega, hPE⟩⟩⟩

theorem negR_walk {σ : St} {k : Nat} {d : Int} (hk : k < ts.length) (h0 : 0 ≤ d) (h1 : d ≤ 30) (hm' : (ts.length - k) * 40 + 3 ≤ m) : SCall Tryz.prog LG 84 [TS ts, .int .i64 k, .int .i64 d] σ (GotP .neg d ts k σ) := by
  refine code84.call hm (by simp) ?_
  intro b6 f6
  have o1 : Over σ (σ.put b6 noGot) := over_put (.refl _) f6
  have h6 : (σ.put b6 noGot).box b6 = some noGot := put_box
  generalize σ.put b6 noGot = σ1 at o1 h6
  refine CallK.pure (sign_ret hk _) ?_
  cases hq : isS [45] (ts.drop k)
  · refine CallK.mk' ((ih (m - 1) (by omega)).atom _ k d hk h0 h1 hq (by omega)) ?_
    rintro e σ2 ⟨rfl, x, tq, E, rfl, hto, hkt, hr⟩
    obtain ⟨op, n, s, kids, a⟩ := x
    refine Sure.mk' rfl ?_
    refine Store.mk' ((gotV (.mk op n s kids a) tq E)) h6 (Nat.le_refl _) rfl (fun σr er => ?_)
    refine Load.mk' (by rw [er]; exact put_box) (Nat.le_refl _) ?_
    exact Ret.weak (.refl _) (σ' := σ) (by rw [er]; exact over_put o1 f6) ⟨rfl, ⟨_, tq, E, rfl, hto, hkt, hr.imp (fun h => ⟨h.1, h.2.1, .neg_no hq h.2.2⟩) (fun h => ⟨h.1, h.2.1, .neg_no hq h.2.2⟩)⟩⟩
  obtain ⟨hk1, htl⟩ := ended_sign he hk hq
  refine Arith.i64 ((k + 1 : Nat) : Int) (by simp) (by omega) ?_
  refine Arith.i64 (d + 1) rfl (by omega) ?_
  refine CallK.pure (first_ret hk1 (d + 1) false) ?_
  cases hf : first (ts.drop (k + 1)) (d + 1) false with
  | some E =>
    have hE := errR (first_err hf)
    refine Test.yes hE ?_
    refine Arith.i64 ((k + 1 : Nat) : Int) (by simp) (by omega) ?_
    refine Sure.mk' rfl ?_
    refine Store.mk' ([.int .i64 0, .int .i64 0, .str [], .slice .nil 0 [], .int .i64 0, .int .i64 (k + 1 : Nat), .int .i64 E]) h6 (Nat.le_refl _) rfl (fun σr er => ?_)
    refine Load.mk' (by rw [er]; exact put_box) (Nat.le_refl _) ?_
    exact Ret.weak weak_err (σ' := σ) (by rw [er]; exact over_put o1 f6) ⟨rfl, ⟨_, k + 1, E, rfl, hk1, by omega, .inr ⟨hE, rfl, by rw [← htl] at hf ⊢; exact .neg_first hq hf⟩⟩⟩
  | none =>
    have hdm := first_le hf
    refine Test.no (by simp) ?_
    refine Arith.i64 ((k + 1 : Nat) : Int) (by simp) (by omega) ?_
    refine Arith.i64 (d + 1) rfl (by omega) ?_
    refine CallK.mk' ((ih (m - 1) (by omega)).neg _ (k + 1) (d + 1) hk1 (by omega) hdm (by omega)) ?_
    rintro e σ2 ⟨rfl, x, tq, E, rfl, hto, hkt, hr⟩
    obtain ⟨op, n, s, kids, a⟩ := x
    rw [← htl] at hr hf
    intro b9 hb9
    refine Sure.mk' rfl ?_
    refine Store.mk' (gotV (.mk op n s kids a) tq E) put_box (Nat.le_refl _) rfl (fun σ3 eb9 => ?_)
    rw [put_put] at eb9
    have q3 := over_put (cs := gotV (.mk op n s kids a) tq E) (Over.refl _) hb9
    rw [← eb9] at q3
    have o3 := over_tr o1 q3
    have h93 : (σ3).box b9 = some (gotV (.mk op n s kids a) tq E) := by rw [eb9]; exact put_box
    clear eb9
    have h63 := q3.box _ _ h6
    refine Load.mk' h93 (by simp [gotV, exV]) ?_
    refine Test.split (fun hE => ?_) (fun hE => ?_)
    · refine Load.mk' h93 (Nat.le_refl _) ?_
      rcases hr with ⟨h, _⟩ | ⟨_, hx, hr⟩
      · exact absurd h hE
      refine Sure.mk' rfl ?_
      refine Store.mk' ((gotV (.mk op n s kids a) tq E)) h63 (Nat.le_refl _) rfl (fun σr er => ?_)
      refine Load.mk' (by rw [er]; exact put_box) (Nat.le_refl _) ?_
      exact Ret.weak (.refl _) (σ' := σ) (by rw [er]; exact over_put o3 f6) ⟨rfl, ⟨_, tq, E, rfl, hto, by omega, .inr ⟨hE, hx, .neg_err hq hf hr⟩⟩⟩
    rcases hr with ⟨rfl, hkt, hr⟩ | ⟨h, _⟩
    rotate_left
    · exact absurd h hE
    obtain ⟨t, ht, hdr⟩ := get_drop hk
    refine Sure.mk' (.inl rfl) ?_
    refine IdxE.mk' k (tokV t) rfl (tokV_get ht) ?_
    refine ⟨by simp [tokV], ?_⟩
    refine Load.mk' h93 (by simp [gotV, exV]) ?_
    refine Load.mk' h93 (by simp [gotV, exV]) ?_
    have hat : (hd (ts.drop k)).at_ = t.at_ := by rw [hdr]; rfl
    have hPE := PE.neg_ok hq hf hr
    rw [hat] at hPE
    refine Sure.mk' rfl ?_
    refine Store.mk' ([.int .i64 6, .int .i64 0, .str [], .slice .full 5 [exV (.mk op n s kids a)], .int .i64 t.at_, .int .i64 tq, .int .i64 0]) h63 (Nat.le_refl _) rfl (fun σr er => ?_)
    refine Load.mk' (by rw [er]; exact put_box) (Nat.le_refl _) ?_
    exact Ret.weak (weak_got (kids := [.mk op n s kids a]) rfl (.inl rfl)) (σ' := σ) (by rw [er]; exact over_put o3 f6) ⟨rfl, ⟨_, tq, 0, rfl, hto, by omega, .inl ⟨rfl, by omega, hPE⟩⟩⟩

theorem binary_walk {σ : St} {k n : Nat} {d : Int} (hk : k < ts.length) (h0 : 0 ≤ d) (h1 : d ≤ 30) (hn1 : 1 ≤ n) (hn7 : n ≤ 7) (hm' : (ts.length - k) * 40 + 2 * (9 - n) ≤ m) : SCall Tryz.prog LG 59 [TS ts, .int .i64 k, .int .i64 n, .int .i64 d] σ (GotP (.lvl n) d ts k σ) := by
  refine code59.call hm (by simp) ?_
  intro b8 f8
  have o1 : Over σ (σ.put b8 noGot) := over_put (.refl _) f8
  have h8 : (σ.put b8 noGot).box b8 = some noGot := put_box
  generalize σ.put b8 noGot = σ1 at o1 h8
  refine Test.split (fun h7 => ?_) (fun h7 => ?_)
  · obtain rfl : n = 7 := by omega
    refine CallK.mk' ((ih (m - 1) (by omega)).neg _ k d hk h0 h1 (by omega)) ?_
    rintro e σ2 ⟨rfl, x, tq, E, rfl, hto, hkt, hr⟩
    obtain ⟨op, n, s, kids, a⟩ := x
    refine Sure.mk' rfl ?_
    refine Store.mk' ((gotV (.mk op n s kids a) tq E)) h8 (Nat.le_refl _) rfl (fun σr er => ?_)
    refine Load.mk' (by rw [er]; exact put_box) (Nat.le_refl _) ?_
    exact Ret.weak (.refl _) (σ' := σ) (by rw [er]; exact over_put o1 f8) ⟨rfl, ⟨_, tq, E, rfl, hto, hkt, hr.imp (fun h => ⟨h.1, h.2.1, .lvl7 h.2.2⟩) (fun h => ⟨h.1, h.2.1, .lvl7 h.2.2⟩)⟩⟩
  refine Test.split (fun h3 => ?_) (fun h3 => ?_)
  · obtain rfl : n = 3 := by omega
    refine CallK.mk' ((ih (m - 1) (by omega)).bang _ k d hk h0 h1 (by omega)) ?_
    rintro e σ2 ⟨rfl, x, tq, E, rfl, hto, hkt, hr⟩
    obtain ⟨op, n, s, kids, a⟩ := x
    refine Sure.mk' rfl ?_
    refine Store.mk' ((gotV (.mk op n s kids a) tq E)) h8 (Nat.le_refl _) rfl (fun σr er => ?_)
    refine Load.mk' (by rw [er]; exact put_box) (Nat.le_refl _) ?_
    exact Ret.weak (.refl _) (σ' := σ) (by rw [er]; exact over_put o1 f8) ⟨rfl, ⟨_, tq, E, rfl, hto, hkt, hr⟩⟩
  have hn : n ≠ 3 ∧ n < 7 := ⟨by omega, by omega⟩
  refine Arith.i64 ((n + 1 : Nat) : Int) (by simp) (by omega) ?_
  refine CallK.mk' ((ih (m - 1) (by omega)).lvl _ k (n + 1) d hk h0 h1 (by omega) (by omega) (by omega)) ?_
  rintro e σ2 ⟨rfl, x, tq, E, rfl, hto, hkt, hr⟩
  obtain ⟨op, nn, s, kids, a⟩ := x
  intro b9 hb9
  refine Sure.mk' rfl ?_
  refine Store.mk' (gotV (.mk op nn s kids a) tq E) put_box (Nat.le_refl _) rfl (fun σ3 eb9 => ?_)
  rw [put_put] at eb9
  have q3 := over_put (cs := gotV (.mk op nn s kids a) tq E) (Over.refl _) hb9
  rw [← eb9] at q3
  have o3 := over_tr o1 q3
  have h93 : (σ3).box b9 = some (gotV (.mk op nn s kids a) tq E) := by rw [eb9]; exact put_box
  clear eb9
  have h83 := q3.box _ _ h8
  have n89 := box_ne h8 hb9
  have f9 := ov_none o1 hb9
  clear hb9
  refine ⟨fun q sl σ' => ∃ (x : Ex) (j : Nat) (E : Int), sl = ofL [(0, some (TS ts)), (2, some (.int .i64 n)), (3, some (.int .i64 d)), (8, some (.loc b8 0)), (9, some (.loc b9 0))] ∧ Over σ σ' ∧ σ'.box b8 = some noGot ∧ σ'.box b9 = some (gotV x j E) ∧ j < ts.length ∧ k ≤ j ∧
      ((E ≠ 0 ∧ x = .none ∧ PE (.lvl n) d (ts.drop k) (.err E (ts.drop j))) ∨ (E = 0 ∧ k < j ∧ ∀ r, PE (.more n x) d (ts.drop j) r → PE (.lvl n) d (ts.drop k) r)) ∧ q = ts.length - j,
    _, ⟨.mk op nn s kids a, tq, E, rfl, o3, h83, h93, hto, hkt, ?_, rfl⟩, ?_⟩
  · rcases hr with ⟨rfl, hlt, hr⟩ | ⟨hE, hx, hr⟩
    · exact .inr ⟨rfl, hlt, fun r hr2 => .lvl_ok hn hr hr2⟩
    · exact .inl ⟨hE, hx, .lvl_err hn hr⟩
  clear h83 h93 o3 q3 h8 o1 hr hto hkt
  rintro q sl σ' ⟨x, j, E, rfl, o, h8, h9, hj, hkj, hr, rfl⟩
  obtain ⟨op, nn, s, kids, a⟩ := x
  refine Load.mk' h9 (by simp [gotV, exV]) ?_
  refine Test.split (fun hE => ?_) (fun hE => ?_)
  rotate_left
  · rcases hr with ⟨hE', hx, hr⟩ | ⟨h, _⟩
    rotate_left
    · exact absurd h hE
    refine Load.mk' h9 (Nat.le_refl _) ?_
    refine Sure.mk' rfl ?_
    refine Store.mk' ((gotV (.mk op nn s kids a) j E)) h8 (Nat.le_refl _) rfl (fun σr er => ?_)
    refine Load.mk' (by rw [er]; exact put_box) (Nat.le_refl _) ?_
    exact Ret.weak (.refl _) (σ' := σ) (by rw [er]; exact over_put o f8) ⟨rfl, ⟨_, j, E, rfl, hj, hkj, .inr ⟨hE', hx, hr⟩⟩⟩
  rcases hr with ⟨hE', _⟩ | ⟨rfl, hlt, hr⟩
  · exact absurd hE hE'
  refine Load.mk' h9 (by simp [gotV, exV]) ?_
  refine CallK.pure (level_ret hj) ?_
  obtain ⟨lv, op', hlv⟩ : ∃ lv op' : Int, lvV (opOf (ts.drop j)) = .agg [.int .i64 lv, .int .i64 op'] := by
    unfold lvV
    cases opOf (ts.drop j) with
    | none => exact ⟨_, _, rfl⟩
    | some x => exact ⟨_, _, rfl⟩
  have hop : lv = n → opOf (ts.drop j) = some (op', n) := by
    intro hl
    unfold lvV at hlv
    cases ho : opOf (ts.drop j) with
    | none => rw [ho] at hlv; injection hlv with hlv; simp at hlv; omega
    | some x =>
      rw [ho] at hlv; injection hlv with hlv; simp at hlv
      obtain ⟨x1, x2⟩ := x
      obtain ⟨g1, g2⟩ := hlv
      simp only at g1 g2
      subst g2
      have : x2 = n := by omega
      rw [this]
  have hnop : lv ≠ n → ∀ op, opOf (ts.drop j) ≠ some (op, n) := by
    intro hl op ho
    unfold lvV at hlv
    rw [ho] at hlv; injection hlv with hlv; simp at hlv
    exact hl hlv.1.symm
  rw [hlv]
  intro b10 hb10
  refine Sure.mk' rfl ?_
  refine Store.mk' ([.int .i64 lv, .int .i64 op']) put_box (Nat.le_refl _) rfl (fun σ4 eb10 => ?_)
  rw [put_put] at eb10
  have q4 := over_put (cs := [.int .i64 lv, .int .i64 op']) (Over.refl _) hb10
  rw [← eb10] at q4
  have o4 := over_tr o q4
  have h104 : (σ4).box b10 = some ([.int .i64 lv, .int .i64 op']) := by rw [eb10]; exact put_box
  clear eb10
  have h84 := q4.box _ _ h8
  have h94 := q4.box _ _ h9
  refine Load.mk' h104 (by simp) ?_
  refine Test.split (fun hl => ?_) (fun hl => ?_)
  · refine Load.mk' h94 (Nat.le_refl _) ?_
    refine Sure.mk' rfl ?_
    refine Store.mk' ((gotV (.mk op nn s kids a) j 0)) h84 (Nat.le_refl _) rfl (fun σr er => ?_)
    refine Load.mk' (by rw [er]; exact put_box) (Nat.le_refl _) ?_
    exact Ret.weak (.refl _) (σ' := σ) (by rw [er]; exact over_put o4 f8) ⟨rfl, ⟨_, j, 0, rfl, hj, hkj, .inl ⟨rfl, hlt, hr _ (.more_end (hnop hl))⟩⟩⟩
  have hl : lv = n := by
    apply Classical.byContradiction
    intro h; exact hl h
  have hop := hop hl
  obtain ⟨sg, hsg, hsl⟩ := of_opOf hop
  obtain ⟨hj1, htl⟩ := ended_sign he hj hsl
  refine Load.mk' h94 (by simp [gotV, exV]) ?_
  refine Arith.i64 ((j + 1 : Nat) : Int) (by simp) (by omega) ?_
  refine Arith.i64 ((n + 1 : Nat) : Int) (by simp) (by omega) ?_
  refine CallK.mk' ((ih (m - 1) (by omega)).lvl _ (j + 1) (n + 1) d hj1 h0 h1 (by omega) (by omega) (by omega)) ?_
  rintro e σ5 ⟨rfl, x2, to2, E2, rfl, hto2, hkt2, hr2⟩
  rw [← htl] at hr2
  obtain ⟨op2, n2, s2, kids2, a2⟩ := x2
  intro b11 hb11
  refine Sure.mk' rfl ?_
  refine Store.mk' (gotV (.mk op2 n2 s2 kids2 a2) to2 E2) put_box (Nat.le_refl _) rfl (fun σ6 eb11 => ?_)
  rw [put_put] at eb11
  have q6 := over_put (cs := gotV (.mk op2 n2 s2 kids2 a2) to2 E2) (Over.refl _) hb11
  rw [← eb11] at q6
  have o6 := over_tr o4 q6
  have h116 : (σ6).box b11 = some (gotV (.mk op2 n2 s2 kids2 a2) to2 E2) := by rw [eb11]; exact put_box
  clear eb11
  have h86 := q6.box _ _ h84
  have h96 := q6.box _ _ h94
  have h106 := q6.box _ _ h104
  refine Load.mk' h116 (by simp [gotV, exV]) ?_
  refine Test.split (fun hE2 => ?_) (fun hE2 => ?_)
  · refine Load.mk' h116 (Nat.le_refl _) ?_
    rcases hr2 with ⟨h, _⟩ | ⟨_, hx, hr2⟩
    · exact absurd h hE2
    refine Sure.mk' rfl ?_
    refine Store.mk' ((gotV (.mk op2 n2 s2 kids2 a2) to2 E2)) h86 (Nat.le_refl _) rfl (fun σr er => ?_)
    refine Load.mk' (by rw [er]; exact put_box) (Nat.le_refl _) ?_
    exact Ret.weak (.refl _) (σ' := σ) (by rw [er]; exact over_put o6 f8) ⟨rfl, ⟨_, to2, E2, rfl, hto2, by omega, .inr ⟨hE2, hx, hr _ (.more_err hop hr2)⟩⟩⟩
  rcases hr2 with ⟨rfl, hkt2, hr2⟩ | ⟨h, _⟩
  rotate_left
  · exact absurd h hE2
  refine Load.mk' h106 (by simp) ?_
  refine Load.mk' h96 (by simp [gotV, exV]) ?_
  refine Load.mk' h96 (by simp [gotV, exV]) ?_
  refine Load.mk' h116 (by simp [gotV, exV]) ?_
  refine Load.mk' h116 (by simp [gotV, exV]) ?_
  refine Sure.mk' rfl ?_
  refine Store.mk' [.int .i64 op', .int .i64 0, .str [], .slice .full 5 [exV (.mk op nn s kids a), exV (.mk op2 n2 s2 kids2 a2)], .int .i64 a, .int .i64 to2, .int .i64 0] h96 (Nat.le_refl _) rfl (fun σ7 e7 => ?_)
  have h97 : σ7.box b9 = some [.int .i64 op', .int .i64 0, .str [], .slice .full 5 [exV (.mk op nn s kids a), exV (.mk op2 n2 s2 kids2 a2)], .int .i64 a, .int .i64 to2, .int .i64 0] := by rw [e7]; exact put_box
  have h87 : σ7.box b8 = some noGot := by rw [e7, put_ne n89]; exact h86
  have o7 : Over σ σ7 := by rw [e7]; exact over_put o6 f9
  refine Test.split (fun hn4 => ?_) (fun hn4 => ?_)
  · refine Load.mk' h97 (Nat.le_refl _) ?_
    obtain rfl : n = 4 := by omega
    refine Sure.mk' rfl ?_
    refine Store.mk' ([.int .i64 op', .int .i64 0, .str [], .slice .full 5 [exV (.mk op nn s kids a), exV (.mk op2 n2 s2 kids2 a2)], .int .i64 a, .int .i64 to2, .int .i64 0]) h87 (Nat.le_refl _) rfl (fun σr er => ?_)
    refine Load.mk' (by rw [er]; exact put_box) (Nat.le_refl _) ?_
    exact Ret.weak (weak_got (kids := [.mk op nn s kids a, .mk op2 n2 s2 kids2 a2]) rfl (.inl rfl)) (σ' := σ) (by rw [er]; exact over_put o7 f8) ⟨rfl, ⟨_, to2, 0, rfl, hto2, by omega, .inl ⟨rfl, by omega, hr _ (.more_last hop hr2)⟩⟩⟩
  · have hrk : ts.length - to2 < ts.length - j := by omega
    refine ⟨_, σ7.put b9 (gotV (.mk op' 0 [] [.mk op nn s kids a, .mk op2 n2 s2 kids2 a2] a) to2 0), hrk, Forget.put h97 (weakL_got (kids := [.mk op nn s kids a, .mk op2 n2 s2 kids2 a2]) rfl (.inl rfl)), _, to2, 0, rfl, over_put o7 f9, by rw [put_ne n89]; exact h87, put_box, hto2, by omega, .inr ⟨rfl, by omega, fun r hr3 => hr _ (.more_go (by omega) hop hr2 hr3)⟩, rfl⟩

set_option maxRecDepth 10000 in
theorem argsR_walk {σ : St} {k : Nat} {d : Int} (hk : k < ts.length) (h0 : 0 ≤ d) (h1 : d ≤ 30) (hk1 : (hd (ts.drop k)).kind = 1) (hop : isS [40] (ts.drop (k + 1)) = true) (hm' : (ts.length - k) * 40 + 1 ≤ m) : SCall Tryz.prog LG 117 [TS ts, .int .i64 k, .int .i64 d] σ (GotP .atom d ts k σ) := by
  refine code117.call hm (by simp) ?_
  intro b6 f6
  have o1 : Over σ (σ.put b6 noGot) := over_put (.refl _) f6
  have h6 : (σ.put b6 noGot).box b6 = some noGot := put_box
  generalize σ.put b6 noGot = σ1 at o1 h6
  obtain ⟨t, ht, hdr⟩ := get_drop hk
  have hthd : hd (ts.drop k) = t := by rw [hdr]; rfl
  obtain ⟨hkn, htl⟩ := ended_kind he hk (by rw [hk1]; decide)
  obtain ⟨hkn2, htl2⟩ := ended_sign he hkn hop
  refine Sure.mk' (.inl rfl) ?_
  refine IdxE.mk' k (tokV t) rfl (tokV_get ht) ?_
  refine ⟨by simp [tokV], ?_⟩
  refine Sure.mk' (.inl rfl) ?_
  refine IdxE.mk' k (tokV t) rfl (tokV_get ht) ?_
  refine ⟨by simp [tokV], ?_⟩
  intro b7 hb7
  refine Sure.mk' rfl ?_
  refine Store.mk' ([.int .i64 4, .int .i64 0, .str t.s, .slice .nil 0 [], .int .i64 t.at_]) put_box (Nat.le_refl _) rfl (fun σ2 eb7 => ?_)
  rw [put_put] at eb7
  have q2 := over_put (cs := [.int .i64 4, .int .i64 0, .str t.s, .slice .nil 0 [], .int .i64 t.at_]) (Over.refl _) hb7
  rw [← eb7] at q2
  have o2 := over_tr o1 q2
  have h72 : (σ2).box b7 = some ([.int .i64 4, .int .i64 0, .str t.s, .slice .nil 0 [], .int .i64 t.at_]) := by rw [eb7]; exact put_box
  clear eb7
  have h62 := q2.box _ _ h6
  have n67 := box_ne h6 hb7
  have f7 := ov_none o1 hb7
  clear hb7 h6 o1 q2
  refine Arith.i64 ((k + 2 : Nat) : Int) (by simp) (by omega) ?_
  refine CallK.pure (sign_ret hkn2 _) ?_
  have hPE0 : ∀ x, PE (.args t.s t.at_ []) d (ts.drop (k + 2)) x → PE .atom d (ts.drop k) x := by
    intro x hx
    refine .atom_call hk1 (by rw [htl]; exact hop) ?_
    rw [hthd, htl, htl2]; exact hx
  cases hc : isS [41] (ts.drop (k + 2))
  rotate_left
  · refine Load.mk' h72 (Nat.le_refl _) ?_
    obtain ⟨hkn3, htl3⟩ := ended_sign he hkn2 hc
    refine Arith.i64 ((k + 3 : Nat) : Int) (by omega) (by omega) ?_
    have hPE := hPE0 _ (.args_end hc)
    rw [htl3] at hPE
    refine Sure.mk' rfl ?_
    refine Store.mk' ([.int .i64 4, .int .i64 0, .str t.s, .slice .nil 0 [], .int .i64 t.at_, .int .i64 (k + 3 : Nat), .int .i64 0]) h62 (Nat.le_refl _) rfl (fun σr er => ?_)
    refine Load.mk' (by rw [er]; exact put_box) (Nat.le_refl _) ?_
    exact Ret.weak (weak_got (kids := []) rfl (.inr rfl)) (σ' := σ) (by rw [er]; exact over_put o2 f6) ⟨rfl, ⟨_, k + 3, 0, rfl, hkn3, by omega, .inl ⟨rfl, by omega, hPE⟩⟩⟩
  refine ⟨fun q sl σ' => ∃ (kids : List Ex) (j : Nat) (tag : Tag) (z : Nat), sl = ofL [(0, some (TS ts)), (2, some (.int .i64 d)), (6, some (.loc b6 0)), (7, some (.loc b7 0)), (8, some (.int .i64 j))] ∧ Over σ σ' ∧ σ'.box b6 = some noGot ∧
      σ'.box b7 = some [.int .i64 4, .int .i64 0, .str t.s, .slice tag z (kids.map exV), .int .i64 t.at_] ∧ Mine σ σ' tag ∧ (tag = .nil ∨ z = 5) ∧ (z = 5 ∨ kids.map exV = []) ∧ kids.length ≤ 40 ∧ j < ts.length ∧ k + 2 ≤ j ∧
      (∃ l, argL kids l = ts.drop j ∧ isS [41] l = false ∧ (kids ≠ [] → isS [44] l = true) ∧ ∀ x, PE (.args t.s t.at_ kids) d l x → PE .atom d (ts.drop k) x) ∧ q = ts.length - j,
    _, ⟨[], k + 2, .nil, 0, rfl, o2, h62, h72, trivial, .inl rfl, .inr rfl, by simp, hkn2, by omega, ⟨ts.drop (k + 2), rfl, hc, fun h => absurd rfl h, hPE0⟩, rfl⟩, ?_⟩
  clear h62 h72 o2 hc hPE0
  rintro q sl σ' ⟨kids, j, tag, z, rfl, o, h6, h7, hM, hz, hz5, hk40, hj, hkj, ⟨l, hl, hc, hcm, hPE⟩, rfl⟩
  refine Arith.i64 (d + 1) rfl (by omega) ?_
  refine CallK.pure (first_ret hj (d + 1) true) ?_
  have hfull : kids.length = 40 → ∀ E, first (ts.drop j) 0 true = some E ∨ (first (ts.drop j) 0 true = none ∧ E = 2) → PE .atom d (ts.drop k) (.err E (ts.drop j)) := by
    intro h40 E hE
    have hx := hPE _ (.args_full hc hcm h40)
    rw [hl] at hx
    rcases hE with hE | ⟨hE, rfl⟩
    · rw [hE] at hx; exact hx
    · rw [hE] at hx; exact hx
  have hfirst0 : ∀ {E}, first (ts.drop j) (d + 1) true = some E → E = 5 → first (ts.drop j) 0 true = some 5 := by
    intro E h hE
    subst hE
    unfold first at h ⊢
    split at h
    · rename_i hc; rw [if_pos hc]
    · split at h
      · injection h with h; omega
      · cases h
  have hfirstn : (first (ts.drop j) (d + 1) true = none ∨ first (ts.drop j) (d + 1) true = some 2) → first (ts.drop j) 0 true = none := by
    intro h
    unfold first at h ⊢
    split at h
    · rcases h with h | h
      · cases h
      · injection h with h; omega
    · rename_i hc
      rw [if_neg hc, if_neg (by omega)]
  -- the rest of a round: an operand is read
  have hexpr : ∀ {E : Int}, first (ts.drop j) (d + 1) true = some E → E = 5 → PE .expr (d + 1) (ts.drop j) (.err 5 (ts.drop j)) := by
    intro E h hE
    subst hE
    exact .expr_first h
  cases hf : first (ts.drop j) (d + 1) true with
  | some E =>
    rcases first_err hf with rfl | rfl
    · refine Test.no (by simp) ?_
      refine Test.no (by simp) ?_
      refine Arith.i64 (d + 1) rfl (by omega) ?_
      refine CallK.mk' ((ih (m - 1) (by omega)).expr _ j (d + 1) hj (by omega) (by omega) (by omega)) ?_
      rintro e σ2 ⟨rfl, x, tq, E, rfl, htq, hkt, hr⟩
      have hdet := hexpr hf rfl
      rcases hr with ⟨rfl, hlt, hr⟩ | ⟨hE, hx, hr⟩
      · have := hr.det hdet; cases this
      obtain ⟨op, n, s, kk, a⟩ := x
      intro b11 hb11
      refine Sure.mk' rfl ?_
      refine Store.mk' (gotV (.mk op n s kk a) tq E) put_box (Nat.le_refl _) rfl (fun σ3 eb11 => ?_)
      rw [put_put] at eb11
      have q3 := over_put (cs := gotV (.mk op n s kk a) tq E) (Over.refl _) hb11
      rw [← eb11] at q3
      have o3 := over_tr o q3
      have h113 : (σ3).box b11 = some (gotV (.mk op n s kk a) tq E) := by rw [eb11]; exact put_box
      clear eb11
      have h63 := q3.box _ _ h6
      refine Load.mk' h113 (by simp [gotV, exV]) ?_
      refine Test.yes hE ?_
      refine Load.mk' h113 (Nat.le_refl _) ?_
      have hPE' : PE .atom d (ts.drop k) (.err E (ts.drop tq)) := by
        by_cases h40 : kids.length = 40
        · have := hr.det hdet
          injection this with h1 h2
          rw [h1, h2]
          exact hfull h40 5 (.inl (hfirst0 hf rfl))
        · exact hPE _ (.args_err hc hcm h40 (by rw [hl]; exact hr))
      refine Sure.mk' rfl ?_
      refine Store.mk' ((gotV (.mk op n s kk a) tq E)) h63 (Nat.le_refl _) rfl (fun σr er => ?_)
      refine Load.mk' (by rw [er]; exact put_box) (Nat.le_refl _) ?_
      exact Ret.weak (.refl _) (σ' := σ) (by rw [er]; exact over_put o3 f6) ⟨rfl, ⟨_, tq, E, rfl, htq, by omega, .inr ⟨hE, hx, hPE'⟩⟩⟩
    · refine Test.no (by simp) ?_
      refine Test.yes (by simp) ?_
      have hPE' : PE .atom d (ts.drop k) (.err 2 (ts.drop j)) := by
        by_cases h40 : kids.length = 40
        · exact hfull h40 2 (.inr ⟨hfirstn (.inr hf), rfl⟩)
        · exact hPE _ (.args_err hc hcm h40 (by rw [hl]; exact .expr_first hf))
      refine Sure.mk' rfl ?_
      refine Store.mk' ([.int .i64 0, .int .i64 0, .str [], .slice .nil 0 [], .int .i64 0, .int .i64 j, .int .i64 2]) h6 (Nat.le_refl _) rfl (fun σr er => ?_)
      refine Load.mk' (by rw [er]; exact put_box) (Nat.le_refl _) ?_
      exact Ret.weak weak_err (σ' := σ) (by rw [er]; exact over_put o f6) ⟨rfl, ⟨_, j, 2, rfl, hj, by omega, .inr ⟨by decide, rfl, hPE'⟩⟩⟩
  | none =>
    refine Test.yes (by simp) ?_
    refine Load.mk' h7 (by simp) ?_
    refine Test.split (fun h40 => ?_) (fun h40 => ?_)
    · have hPE' := hfull (by simp at h40; omega) 2 (.inr ⟨hfirstn (.inl hf), rfl⟩)
      refine Sure.mk' rfl ?_
      refine Store.mk' ([.int .i64 0, .int .i64 0, .str [], .slice .nil 0 [], .int .i64 0, .int .i64 j, .int .i64 2]) h6 (Nat.le_refl _) rfl (fun σr er => ?_)
      refine Load.mk' (by rw [er]; exact put_box) (Nat.le_refl _) ?_
      exact Ret.weak weak_err (σ' := σ) (by rw [er]; exact over_put o f6) ⟨rfl, ⟨_, j, 2, rfl, hj, by omega, .inr ⟨by decide, rfl, hPE'⟩⟩⟩
    have hn40 : kids.length ≠ 40 := by simp at h40; omega
    have hk39 : kids.length ≤ 39 := by omega
    refine Test.no (by simp) ?_
    refine Arith.i64 (d + 1) rfl (by omega) ?_
    refine CallK.mk' ((ih (m - 1) (by omega)).expr _ j (d + 1) hj (by omega) (by omega) (by omega)) ?_
    rintro e σ2 ⟨rfl, x, tq, E, rfl, htq, hkt, hr⟩
    obtain ⟨op, n, s, kk, a⟩ := x
    intro b11 hb11
    refine Sure.mk' rfl ?_
    refine Store.mk' (gotV (.mk op n s kk a) tq E) put_box (Nat.le_refl _) rfl (fun σ3 eb11 => ?_)
    rw [put_put] at eb11
    have q3 := over_put (cs := gotV (.mk op n s kk a) tq E) (Over.refl _) hb11
    rw [← eb11] at q3
    have o3 := over_tr o q3
    have h113 : (σ3).box b11 = some (gotV (.mk op n s kk a) tq E) := by rw [eb11]; exact put_box
    clear eb11
    have h63 := q3.box _ _ h6
    have h73 := q3.box _ _ h7
    have hM3 := hM.over q3
    have n711 := box_ne h7 hb11
    refine Load.mk' h113 (by simp [gotV, exV]) ?_
    refine Test.split (fun hE => ?_) (fun hE => ?_)
    · refine Load.mk' h113 (Nat.le_refl _) ?_
      rcases hr with ⟨h, _⟩ | ⟨_, hx, hr⟩
      · exact absurd h hE
      refine Sure.mk' rfl ?_
      refine Store.mk' ((gotV (.mk op n s kk a) tq E)) h63 (Nat.le_refl _) rfl (fun σr er => ?_)
      refine Load.mk' (by rw [er]; exact put_box) (Nat.le_refl _) ?_
      exact Ret.weak (.refl _) (σ' := σ) (by rw [er]; exact over_put o3 f6) ⟨rfl, ⟨_, tq, E, rfl, htq, by omega, .inr ⟨hE, hx, hPE _ (.args_err hc hcm hn40 (by rw [hl]; exact hr))⟩⟩⟩
    rcases hr with ⟨rfl, hlt, hr⟩ | ⟨h, _⟩
    rotate_left
    · exact absurd h hE
    have hgo : ∀ x, PE (.args t.s t.at_ (kids ++ [.mk op n s kk a])) d (ts.drop tq) x → PE .atom d (ts.drop k) x := fun x hx => hPE _ (.args_go hc hcm hn40 (by rw [hl]; exact hr) hx)
    have hmeas : ∀ {j' : Nat}, j' < ts.length → tq < j' → ts.length - j' < ts.length - j := fun h1 h2 => by omega
    have hktq : k + 2 ≤ tq := by omega
    refine Load.mk' h73 (by simp) ?_
    refine Load.mk' h113 (by simp [gotV, exV]) ?_
    refine App.mk' o3 hM3 hz rfl (by simp only [List.length_map, List.length_cons, List.length_nil]; exact (small_app hk39).1) (by simp only [List.length_map, List.length_cons, List.length_nil]; exact (small_app hk39).2) (List.cons_ne_nil _ _) (fun t' σ4 o4 m4 b4 _ => ?_)
    refine Sure.mk' rfl ?_
    refine Store.mk' [.int .i64 4, .int .i64 0, .str t.s, .slice (.tip t') 5 (kids.map exV ++ [exV (.mk op n s kk a)]), .int .i64 t.at_] (by rw [b4]; exact h73) (by simp [V.cells]) rfl (fun σ5 e5 => ?_)
    have o5 : Over σ σ5 := by rw [e5]; exact over_put o4 f7
    have h65 : σ5.box b6 = some noGot := by rw [e5, put_ne n67, b4]; exact h63
    have h75 : σ5.box b7 = some [.int .i64 4, .int .i64 0, .str t.s, .slice (.tip t') 5 (kids.map exV ++ [exV (.mk op n s kk a)]), .int .i64 t.at_] := by rw [e5]; exact put_box
    have h115 : σ5.box b11 = some (gotV (.mk op n s kk a) tq 0) := by rw [e5, put_ne (Ne.symm n711), b4]; exact h113
    have m5 : Mine σ σ5 (.tip t') := by rw [e5]; exact m4
    clear e5 b4 o4 m4 h63 h73 h113
    refine Load.mk' h115 (by simp [gotV, exV]) ?_
    refine CallK.pure (sign_ret htq _) ?_
    cases hcl : isS [41] (ts.drop tq)
    rotate_left
    · obtain ⟨htq1, htl1⟩ := ended_sign he htq hcl
      have hfin := hgo _ (.args_end hcl)
      rw [htl1] at hfin
      refine Load.mk' h75 (Nat.le_refl _) ?_
      refine Load.mk' h115 (by simp [gotV, exV]) ?_
      refine Arith.i64 ((tq + 1 : Nat) : Int) (by simp) (by omega) ?_
      refine Sure.mk' rfl ?_
      refine Store.mk' ([.int .i64 4, .int .i64 0, .str t.s, .slice (.tip t') 5 (kids.map exV ++ [exV (.mk op n s kk a)]), .int .i64 t.at_, .int .i64 (tq + 1 : Nat), .int .i64 0]) h65 (Nat.le_refl _) rfl (fun σr er => ?_)
      refine Load.mk' (by rw [er]; exact put_box) (Nat.le_refl _) ?_
      exact Ret.weak (weak_got (kids := kids ++ [.mk op n s kk a]) (by simp) (.inl rfl)) (σ' := σ) (by rw [er]; exact over_put o5 f6) ⟨rfl, ⟨_, tq + 1, 0, rfl, htq1, by omega, .inl ⟨rfl, by omega, hfin⟩⟩⟩
    refine Load.mk' h115 (by simp [gotV, exV]) ?_
    refine CallK.pure (sign_ret htq _) ?_
    cases hcm2 : isS [44] (ts.drop tq)
    · refine Load.mk' h115 (by simp [gotV, exV]) ?_
      have hfin := hgo _ (.args_comma hcl (by simp) hcm2)
      refine Sure.mk' rfl ?_
      refine Store.mk' ([.int .i64 0, .int .i64 0, .str [], .slice .nil 0 [], .int .i64 0, .int .i64 tq, .int .i64 5]) h65 (Nat.le_refl _) rfl (fun σr er => ?_)
      refine Load.mk' (by rw [er]; exact put_box) (Nat.le_refl _) ?_
      exact Ret.weak weak_err (σ' := σ) (by rw [er]; exact over_put o5 f6) ⟨rfl, ⟨_, tq, 5, rfl, htq, by omega, .inr ⟨by decide, rfl, hfin⟩⟩⟩
    obtain ⟨htq1, htl1⟩ := ended_sign he htq hcm2
    refine Load.mk' h115 (by simp [gotV, exV]) ?_
    refine Arith.i64 ((tq + 1 : Nat) : Int) (by simp) (by omega) ?_
    have hms := hmeas htq1 (by omega)
    refine ⟨ts.length - (tq + 1), σ5, hms, Forget.refl _, kids ++ [.mk op n s kk a], tq + 1, .tip t', 5, rfl, o5, h65, by rw [List.map_append]; exact h75, m5, .inr rfl, .inl rfl, by simp only [List.length_append, List.length_cons, List.length_nil]; omega, htq1, by omega, ⟨ts.drop tq, ?_, hcl, fun _ => hcm2, hgo⟩, rfl⟩
    unfold argL
    rw [if_neg (by simp)]
    exact htl1

theorem atomR_walk {σ : St} {k : Nat} {d : Int} (hk : k < ts.length) (h0 : 0 ≤ d) (h1 : d ≤ 30) (hno : isS [45] (ts.drop k) = false) (hm' : (ts.length - k) * 40 + 2 ≤ m) : SCall Tryz.prog LG 104 [TS ts, .int .i64 k, .int .i64 d] σ (GotP .atom d ts k σ) := by
  refine code104.call hm (by simp) ?_
  intro b6 f6
  have o1 : Over σ (σ.put b6 noGot) := over_put (.refl _) f6
  have h6 : (σ.put b6 noGot).box b6 = some noGot := put_box
  generalize σ.put b6 noGot = σ1 at o1 h6
  obtain ⟨t, ht, hdr⟩ := get_drop hk
  have hthd : hd (ts.drop k) = t := by rw [hdr]; rfl
  have htok : (t.kind = 2 → t.s = []) ∧ (t.kind ≠ 2 → t.n = 0) := by
    obtain ⟨i, e, hl, _, _, h3⟩ := id he
    exact (h3 t (List.mem_of_getElem? ht)).1
  refine Sure.mk' (.inl rfl) ?_
  refine IdxE.mk' k (tokV t) rfl (tokV_get ht) ?_
  refine ⟨by simp [tokV], ?_⟩
  intro b7 hb7
  refine Sure.mk' rfl ?_
  refine Store.mk' (tokV t) put_box (by simp [V.cells, tokV]) (by simp [setL, V.cells, tokV]) (fun σ2 e2 => ?_)
  rw [put_put] at e2
  have q2 := over_put (cs := tokV t) (Over.refl _) hb7
  rw [← e2] at q2
  have o2 := over_tr o1 q2
  have h72 : σ2.box b7 = some (tokV t) := by rw [e2]; exact put_box
  have h62 := q2.box _ _ h6
  clear e2 q2 o1 h6 hb7
  refine CallK.pure (sign_ret hk _) ?_
  cases hop : isS [40] (ts.drop k)
  rotate_left
  · obtain ⟨hk1, htl⟩ := ended_sign he hk hop
    refine Arith.i64 ((k + 1 : Nat) : Int) (by simp) (by omega) ?_
    refine Arith.i64 (d + 1) rfl (by omega) ?_
    refine CallK.mk' ((ih (m - 1) (by omega)).expr _ (k + 1) (d + 1) hk1 (by omega) (by omega) (by omega)) ?_
    rintro e σ3 ⟨rfl, x, tq, E, rfl, htq, hkt, hr⟩
    rw [← htl] at hr
    obtain ⟨op, n, s, kids, a⟩ := x
    intro b9 hb9
    refine Sure.mk' rfl ?_
    refine Store.mk' (gotV (.mk op n s kids a) tq E) put_box (Nat.le_refl _) rfl (fun σ4 eb9 => ?_)
    rw [put_put] at eb9
    have q4 := over_put (cs := gotV (.mk op n s kids a) tq E) (Over.refl _) hb9
    rw [← eb9] at q4
    have o4 := over_tr o2 q4
    have h94 : (σ4).box b9 = some (gotV (.mk op n s kids a) tq E) := by rw [eb9]; exact put_box
    clear eb9
    have h64 := q4.box _ _ h62
    refine Load.mk' h94 (by simp [gotV, exV]) ?_
    refine Test.split (fun hE => ?_) (fun hE => ?_)
    · refine Load.mk' h94 (Nat.le_refl _) ?_
      rcases hr with ⟨h, _⟩ | ⟨_, hx, hr⟩
      · exact absurd h hE
      refine Sure.mk' rfl ?_
      refine Store.mk' ((gotV (.mk op n s kids a) tq E)) h64 (Nat.le_refl _) rfl (fun σr er => ?_)
      refine Load.mk' (by rw [er]; exact put_box) (Nat.le_refl _) ?_
      exact Ret.weak (.refl _) (σ' := σ) (by rw [er]; exact over_put o4 f6) ⟨rfl, ⟨_, tq, E, rfl, htq, by omega, .inr ⟨hE, hx, .paren_err hop hr⟩⟩⟩
    rcases hr with ⟨rfl, hkt, hr⟩ | ⟨h, _⟩
    rotate_left
    · exact absurd h hE
    refine Load.mk' h94 (by simp [gotV, exV]) ?_
    refine CallK.pure (sign_ret htq _) ?_
    cases hc : isS [41] (ts.drop tq)
    · refine Load.mk' h94 (by simp [gotV, exV]) ?_
      refine Sure.mk' rfl ?_
      refine Store.mk' ([.int .i64 0, .int .i64 0, .str [], .slice .nil 0 [], .int .i64 0, .int .i64 tq, .int .i64 5]) h64 (Nat.le_refl _) rfl (fun σr er => ?_)
      refine Load.mk' (by rw [er]; exact put_box) (Nat.le_refl _) ?_
      exact Ret.weak weak_err (σ' := σ) (by rw [er]; exact over_put o4 f6) ⟨rfl, ⟨_, tq, 5, rfl, htq, by omega, .inr ⟨by decide, rfl, .paren_bad hop hr hc⟩⟩⟩
    obtain ⟨htq1, htl1⟩ := ended_sign he htq hc
    have hPE := PE.paren_ok hop hr hc
    rw [htl1] at hPE
    refine Load.mk' h94 (by simp [gotV, exV]) ?_
    refine Load.mk' h94 (by simp [gotV, exV]) ?_
    refine Arith.i64 ((tq + 1 : Nat) : Int) (by simp) (by omega) ?_
    refine Sure.mk' rfl ?_
    refine Store.mk' ((gotV (.mk op n s kids a) (tq + 1 : Nat) 0)) h64 (Nat.le_refl _) rfl (fun σr er => ?_)
    refine Load.mk' (by rw [er]; exact put_box) (Nat.le_refl _) ?_
    exact Ret.weak (.refl _) (σ' := σ) (by rw [er]; exact over_put o4 f6) ⟨rfl, ⟨_, tq + 1, 0, rfl, htq1, by omega, .inl ⟨rfl, by omega, hPE⟩⟩⟩
  refine Load.mk' h72 (by simp [tokV]) ?_
  refine Test.split (fun k2 => ?_) (fun k2 => ?_)
  · obtain ⟨hk1, htl⟩ := ended_kind he hk (by rw [hthd, show t.kind = 2 from k2]; decide)
    have hPE : PE .atom d (ts.drop k) _ := .atom_num (by rw [hthd]; exact k2)
    rw [hthd, htl] at hPE
    refine Load.mk' h72 (by simp [tokV]) ?_
    refine Load.mk' h72 (by simp [tokV]) ?_
    refine Arith.i64 ((k + 1 : Nat) : Int) (by simp) (by omega) ?_
    refine Sure.mk' rfl ?_
    refine Store.mk' ([.int .i64 1, .int .i64 t.n, .str [], .slice .nil 0 [], .int .i64 t.at_, .int .i64 (k + 1 : Nat), .int .i64 0]) h62 (Nat.le_refl _) rfl (fun σr er => ?_)
    refine Load.mk' (by rw [er]; exact put_box) (Nat.le_refl _) ?_
    exact Ret.weak (weak_got (kids := []) rfl (.inr rfl)) (σ' := σ) (by rw [er]; exact over_put o2 f6) ⟨rfl, ⟨_, k + 1, 0, rfl, hk1, by omega, .inl ⟨rfl, by omega, hPE⟩⟩⟩
  refine Load.mk' h72 (by simp [tokV]) ?_
  refine Test.split (fun k3 => ?_) (fun k3 => ?_)
  · obtain ⟨hk1, htl⟩ := ended_kind he hk (by rw [hthd, show t.kind = 3 from k3]; decide)
    have hPE : PE .atom d (ts.drop k) _ := .atom_text (by rw [hthd]; exact k3)
    rw [hthd, htl] at hPE
    refine Load.mk' h72 (by simp [tokV]) ?_
    refine Load.mk' h72 (by simp [tokV]) ?_
    refine Arith.i64 ((k + 1 : Nat) : Int) (by simp) (by omega) ?_
    refine Sure.mk' rfl ?_
    refine Store.mk' ([.int .i64 2, .int .i64 0, .str t.s, .slice .nil 0 [], .int .i64 t.at_, .int .i64 (k + 1 : Nat), .int .i64 0]) h62 (Nat.le_refl _) rfl (fun σr er => ?_)
    refine Load.mk' (by rw [er]; exact put_box) (Nat.le_refl _) ?_
    exact Ret.weak (weak_got (kids := []) rfl (.inr rfl)) (σ' := σ) (by rw [er]; exact over_put o2 f6) ⟨rfl, ⟨_, k + 1, 0, rfl, hk1, by omega, .inl ⟨rfl, by omega, hPE⟩⟩⟩
  refine Load.mk' h72 (by simp [tokV]) ?_
  refine Test.split (fun k1 => ?_) (fun k1 => ?_)
  · have hbeg : begins (ts.drop k) = false := by
      rw [hdr] at hop hno ⊢
      have k1 : t.kind ≠ 1 := k1
      have k2 : t.kind ≠ 2 := k2
      have k3 : t.kind ≠ 3 := k3
      simp [begins, hop, hno, k1, k2, k3]
    refine Sure.mk' rfl ?_
    refine Store.mk' ([.int .i64 0, .int .i64 0, .str [], .slice .nil 0 [], .int .i64 0, .int .i64 k, .int .i64 5]) h62 (Nat.le_refl _) rfl (fun σr er => ?_)
    refine Load.mk' (by rw [er]; exact put_box) (Nat.le_refl _) ?_
    exact Ret.weak weak_err (σ' := σ) (by rw [er]; exact over_put o2 f6) ⟨rfl, ⟨_, k, 5, rfl, hk, Nat.le_refl _, .inr ⟨by decide, rfl, .atom_bad hbeg⟩⟩⟩
  have k1 : t.kind = 1 := by
    apply Classical.byContradiction
    intro h; exact k1 h
  obtain ⟨hk1, htl⟩ := ended_kind he hk (by rw [hthd, k1]; decide)
  refine Arith.i64 ((k + 1 : Nat) : Int) (by simp) (by omega) ?_
  refine CallK.pure (sign_ret hk1 _) ?_
  cases hcall : isS [40] (ts.drop (k + 1))
  · have hPE : PE .atom d (ts.drop k) _ := .atom_name (by rw [hthd]; exact k1) (by rw [htl]; exact hcall)
    rw [hthd, htl] at hPE
    refine Load.mk' h72 (by simp [tokV]) ?_
    refine Load.mk' h72 (by simp [tokV]) ?_
    refine Arith.i64 ((k + 1 : Nat) : Int) (by simp) (by omega) ?_
    refine Sure.mk' rfl ?_
    refine Store.mk' ([.int .i64 3, .int .i64 0, .str t.s, .slice .nil 0 [], .int .i64 t.at_, .int .i64 (k + 1 : Nat), .int .i64 0]) h62 (Nat.le_refl _) rfl (fun σr er => ?_)
    refine Load.mk' (by rw [er]; exact put_box) (Nat.le_refl _) ?_
    exact Ret.weak (weak_got (kids := []) rfl (.inr rfl)) (σ' := σ) (by rw [er]; exact over_put o2 f6) ⟨rfl, ⟨_, k + 1, 0, rfl, hk1, by omega, .inl ⟨rfl, by omega, hPE⟩⟩⟩
  refine CallK.mk' ((ih (m - 1) (by omega)).args _ k d hk h0 h1 (by rw [hthd]; exact k1) hcall (by omega)) ?_
  rintro e σ3 ⟨rfl, x, tq, E, rfl, htq, hkt, hr⟩
  obtain ⟨op, n, s, kids, a⟩ := x
  refine Sure.mk' rfl ?_
  refine Store.mk' ((gotV (.mk op n s kids a) tq E)) h62 (Nat.le_refl _) rfl (fun σr er => ?_)
  refine Load.mk' (by rw [er]; exact put_box) (Nat.le_refl _) ?_
  exact Ret.weak (.refl _) (σ' := σ) (by rw [er]; exact over_put o2 f6) ⟨rfl, ⟨_, tq, E, rfl, htq, hkt, hr⟩⟩
end

theorem gotTo {ts : List Tok} (he : Ended ts) (hlen : ts.length ≤ 1000000) : ∀ m, GotTo ts m := by
  intro m
  induction m using Nat.strongRecOn with
  | _ m ih =>
    exact ⟨fun σ k d hk h0 h1 hm => exprR_walk he hlen ih hk h0 h1 hm, fun σ k n d hk h0 h1 hn1 hn7 hm => binary_walk he hlen ih hk h0 h1 hn1 hn7 hm, fun σ k d hk h0 h1 hm => bangR_walk he hlen ih hk h0 h1 hm,
      fun σ k d hk h0 h1 hm => negR_walk he hlen ih hk h0 h1 hm, fun σ k d hk h0 h1 hno hm => atomR_walk he hlen ih hk h0 h1 hno hm, fun σ k d hk h0 h1 h2 h3 hm => argsR_walk he hlen ih hk h0 h1 h2 h3 hm⟩
theorem exprR_call {ts : List Tok} (he : Ended ts) (hlen : ts.length ≤ 1000000) {σ : St} {k : Nat} {d : Int} (hk : k < ts.length) (h0 : 0 ≤ d) (h1 : d ≤ 31) : SCall Tryz.prog LG 31 [TS ts, .int .i64 k, .int .i64 d] σ (GotP .expr d ts k σ) :=
  (gotTo he hlen _).expr σ k d hk h0 h1 (Nat.le_refl _)
end Go.Shadow.Lex

/- The specification's readers of arguments and forms, as shadow contracts. Conditions: as each theorem says. -/
namespace Go.Shadow.Lex
open Go Go.RowKit Go.Proofs

abbrev noGar : List V := [.int .i64 0, .int .i64 0, .str [], .int .i64 0, .int .i64 0, .str [], .slice .nil 0 [], .int .i64 0, .int .i64 0, .int .i64 0, .int .i64 0]
def Ar.none : Ar := ⟨0, 0, [], .none, 0⟩
def garV (a : Ar) (tq E : Int) : List V := arV a ++ [.int .i64 tq, .int .i64 E]
theorem weak_gar {k n : Int} {s : List UInt8} {op en ea : Int} {es : List UInt8} {kids : List Ex} {xs : List (List V)} {tag : Tag} {z : Nat} {a tq E : Int} (hes : xs = kids.map exV) (hz : z = 5 ∨ xs = []) :
    Weak (.agg [.int .i64 k, .int .i64 n, .str s, .int .i64 op, .int .i64 en, .str es, .slice tag z xs, .int .i64 ea, .int .i64 a, .int .i64 tq, .int .i64 E]) (.agg (garV ⟨k, n, s, .mk op en es kids ea, a⟩ tq E)) := by
  refine weak_agg rfl (fun i y hy => ?_) (fun i x y hx hy => ?_)
  · match i, hy with
    | 0, hy | 1, hy | 2, hy | 3, hy | 4, hy | 5, hy | 6, hy | 7, hy | 8, hy | 9, hy | 10, hy => simp [garV, arV, exV] at hy; subst hy; rfl
    | _ + 11, hy => simp [garV, arV, exV] at hy
  · match i, hx, hy with
    | 0, hx, hy | 1, hx, hy | 2, hx, hy | 3, hx, hy | 4, hx, hy | 5, hx, hy | 7, hx, hy | 8, hx, hy | 9, hx, hy | 10, hx, hy => simp [garV, arV, exV] at hx hy; subst hx; subst hy; exact Weak.refl _
    | 6, hx, hy => simp [garV, arV, exV] at hx hy; subst hx; subst hy; exact weak_nil5 hes hz
    | _ + 11, hx, hy => simp [garV, arV, exV] at hy
theorem weak_gerr {tq E : Int} : Weak (.agg [.int .i64 0, .int .i64 0, .str [], .int .i64 0, .int .i64 0, .str [], .slice .nil 0 [], .int .i64 0, .int .i64 0, .int .i64 tq, .int .i64 E]) (.agg (garV .none tq E)) := weak_gar (kids := []) rfl (.inr rfl)

def ArgP (ts : List Tok) (k : Nat) (σ : St) (e : SEnd) (σ' : St) : Prop := σ' = σ ∧ ∃ (x : Ar) (tq : Nat) (E : Int), e = .ret (.agg (garV x tq E)) ∧ tq < ts.length ∧ k ≤ tq ∧
  ((E = 0 ∧ k < tq ∧ PA (ts.drop k) (.ok x (ts.drop tq))) ∨ (E ≠ 0 ∧ x = .none ∧ PA (ts.drop k) (.err E (ts.drop tq))))

set_option maxRecDepth 4000 in
theorem argR_call {ts : List Tok} (he : Ended ts) (hlen : ts.length ≤ 1000000) {σ : St} {k : Nat} (hk : k < ts.length) (hs : argStart (ts.drop k)) : SCall Tryz.prog LG 57 [TS ts, .int .i64 k] σ (ArgP ts k σ) := by
  refine code57.call hm (by simp) ?_
  intro b4 f4
  have o1 : Over σ (σ.put b4 noGar) := over_put (.refl _) f4
  have h4 : (σ.put b4 noGar).box b4 = some noGar := put_box
  generalize σ.put b4 noGar = σ1 at o1 h4
  obtain ⟨t, ht, hdr⟩ := get_drop hk
  have hthd : hd (ts.drop k) = t := by rw [hdr]; rfl
  have htok : (t.kind = 2 → t.s = []) ∧ (t.kind ≠ 2 → t.n = 0) := by
    obtain ⟨i, e, hl, _, _, h3⟩ := id he
    exact (h3 t (List.mem_of_getElem? ht)).1
  refine Sure.mk' (.inl rfl) ?_
  refine IdxE.mk' k (tokV t) rfl (tokV_get ht) ?_
  refine ⟨by simp [tokV], ?_⟩
  intro b5 hb5
  refine Sure.mk' rfl ?_
  refine Store.mk' (tokV t) put_box (by simp [V.cells, tokV]) (by simp [setL, V.cells, tokV]) (fun σ2 e2 => ?_)
  rw [put_put] at e2
  have q2 := over_put (cs := tokV t) (Over.refl _) hb5
  rw [← e2] at q2
  have o2 := over_tr o1 q2
  have h52 : σ2.box b5 = some (tokV t) := by rw [e2]; exact put_box
  have h42 := q2.box _ _ h4
  clear e2 q2 o1 h4 hb5
  have hcs := argStart_cases hs
  rw [hthd] at hcs
  refine Load.mk' h52 (by simp [tokV]) ?_
  have hkd : ∀ {G : Prop}, ((t.kind = 1 ∨ t.kind = 2 ∨ t.kind = 3) → G) → (¬ (t.kind = 1 ∨ t.kind = 2 ∨ t.kind = 3) → t.kind = 4 → G) → G := by
    intro G h1 h2
    by_cases h : t.kind = 1 ∨ t.kind = 2 ∨ t.kind = 3
    · exact h1 h
    · refine h2 h ?_
      rcases hcs with h' | h' | h' | h' | h' | h'
      · exact absurd (.inl h') h
      · exact absurd (.inr (.inl h')) h
      · exact absurd (.inr (.inr h')) h
      all_goals have := (hd_sign h').1; rw [hthd] at this; exact this
  refine hkd (fun hk3 => ?_) (fun hk3 hk4 => ?_)
  · refine Test.yes (by omega) ?_
    refine Load.mk' h52 (by simp [tokV]) ?_
    refine Test.yes (by omega) ?_
    refine Load.mk' h52 (by simp [tokV]) ?_
    refine Load.mk' h52 (by simp [tokV]) ?_
    refine Load.mk' h52 (by simp [tokV]) ?_
    refine Load.mk' h52 (by simp [tokV]) ?_
    obtain ⟨hk1, htl⟩ := ended_kind he hk (by rw [hthd]; omega)
    have hPA : PA (ts.drop k) _ := .tok (by rw [hthd]; exact hk3)
    rw [hthd, htl] at hPA
    refine Arith.i64 ((k + 1 : Nat) : Int) (by simp) (by omega) ?_
    refine Sure.mk' rfl ?_
    refine Store.mk' ([.int .i64 t.kind, .int .i64 t.n, .str t.s, .int .i64 0, .int .i64 0, .str [], .slice .nil 0 [], .int .i64 0, .int .i64 t.at_, .int .i64 (k + 1 : Nat), .int .i64 0]) h42 (Nat.le_refl _) rfl (fun σr er => ?_)
    refine Load.mk' (by rw [er]; exact put_box) (Nat.le_refl _) ?_
    exact Ret.weak (weak_gar (kids := []) rfl (.inr rfl)) (σ' := σ) (by rw [er]; exact over_put o2 f4) ⟨rfl, ⟨_, k + 1, 0, rfl, hk1, by omega, .inl ⟨rfl, by omega, hPA⟩⟩⟩
  have hsg : isS [45] (ts.drop k) = true ∨ isS [45, 62] (ts.drop k) = true ∨ isS [40] (ts.drop k) = true := by
    rcases hcs with h | h | h | h
    · exact absurd (.inl h) hk3
    · exact absurd (.inr (.inl h)) hk3
    · exact absurd (.inr (.inr h)) hk3
    · exact h
  obtain ⟨hk1, htl⟩ := ended_kind he hk (by rw [hthd, hk4]; decide)
  refine Test.yes (by omega) ?_
  refine Load.mk' h52 (by simp [tokV]) ?_
  refine Test.no (by omega) ?_
  refine CallK.pure (sign_ret hk _) ?_
  cases harr : isS [45, 62] (ts.drop k)
  rotate_left
  · have hPA : PA (ts.drop k) _ := .arrow harr
    rw [hthd, htl] at hPA
    refine Load.mk' h52 (by simp [tokV]) ?_
    refine Arith.i64 ((k + 1 : Nat) : Int) (by simp) (by omega) ?_
    refine Sure.mk' rfl ?_
    refine Store.mk' ([.int .i64 4, .int .i64 0, .str [], .int .i64 0, .int .i64 0, .str [], .slice .nil 0 [], .int .i64 0, .int .i64 t.at_, .int .i64 (k + 1 : Nat), .int .i64 0]) h42 (Nat.le_refl _) rfl (fun σr er => ?_)
    refine Load.mk' (by rw [er]; exact put_box) (Nat.le_refl _) ?_
    exact Ret.weak (weak_gar (kids := []) rfl (.inr rfl)) (σ' := σ) (by rw [er]; exact over_put o2 f4) ⟨rfl, ⟨_, k + 1, 0, rfl, hk1, by omega, .inl ⟨rfl, by omega, hPA⟩⟩⟩
  refine CallK.pure (sign_ret hk _) ?_
  cases hneg : isS [45] (ts.drop k)
  rotate_left
  · obtain ⟨t2, ht2, hdr2⟩ := get_drop hk1
    have hthd2 : hd (ts.drop k).tail = t2 := by rw [htl, hdr2]; rfl
    have hr2 : 0 ≤ t2.n ∧ t2.n ≤ 999999999999999 := by
      obtain ⟨i, e, hl, _, _, h3⟩ := id he
      exact (h3 t2 (List.mem_of_getElem? ht2)).2
    refine Arith.i64 ((k + 1 : Nat) : Int) (by simp) (by omega) ?_
    refine Sure.mk' (.inl rfl) ?_
    refine IdxE.mk' (k + 1) (tokV t2) rfl (tokV_get ht2) ?_
    refine ⟨by simp [tokV], ?_⟩
    refine Test.split (fun hn => ?_) (fun hn => ?_)
    · have hPA := PA.neg_bad hneg (by rw [hthd2]; exact hn)
      rw [htl] at hPA
      refine Arith.i64 ((k + 1 : Nat) : Int) (by simp) (by omega) ?_
      refine Sure.mk' rfl ?_
      refine Store.mk' ([.int .i64 0, .int .i64 0, .str [], .int .i64 0, .int .i64 0, .str [], .slice .nil 0 [], .int .i64 0, .int .i64 0, .int .i64 (k + 1 : Nat), .int .i64 5]) h42 (Nat.le_refl _) rfl (fun σr er => ?_)
      refine Load.mk' (by rw [er]; exact put_box) (Nat.le_refl _) ?_
      exact Ret.weak weak_gerr (σ' := σ) (by rw [er]; exact over_put o2 f4) ⟨rfl, ⟨_, k + 1, 5, rfl, hk1, by omega, .inr ⟨by decide, rfl, hPA⟩⟩⟩
    have hn : t2.kind = 2 := by
      apply Classical.byContradiction
      intro h; exact hn h
    obtain ⟨hk2, htl2⟩ := ended_kind he hk1 (by rw [← htl, hthd2, hn]; decide)
    have hPA := PA.neg_ok hneg (by rw [hthd2]; exact hn)
    rw [hthd2, hthd, htl, htl2] at hPA
    refine Arith.i64 ((k + 1 : Nat) : Int) (by simp) (by omega) ?_
    refine Sure.mk' (.inl rfl) ?_
    refine IdxE.mk' (k + 1) (tokV t2) rfl (tokV_get ht2) ?_
    refine ⟨by simp [tokV], ?_⟩
    refine Arith.i64 (-t2.n) (by simp) (by omega) ?_
    refine Load.mk' h52 (by simp [tokV]) ?_
    refine Arith.i64 ((k + 1 + 1 : Nat) : Int) (by omega) (by omega) ?_
    refine Sure.mk' rfl ?_
    refine Store.mk' ([.int .i64 2, .int .i64 (-t2.n), .str [], .int .i64 0, .int .i64 0, .str [], .slice .nil 0 [], .int .i64 0, .int .i64 t.at_, .int .i64 (k + 1 + 1 : Nat), .int .i64 0]) h42 (Nat.le_refl _) rfl (fun σr er => ?_)
    refine Load.mk' (by rw [er]; exact put_box) (Nat.le_refl _) ?_
    exact Ret.weak (weak_gar (kids := []) rfl (.inr rfl)) (σ' := σ) (by rw [er]; exact over_put o2 f4) ⟨rfl, ⟨_, k + 1 + 1, 0, rfl, hk2, by omega, .inl ⟨rfl, by omega, hPA⟩⟩⟩
  have hop : isS [40] (ts.drop k) = true := by
    rcases hsg with h | h | h
    · rw [hneg] at h; cases h
    · rw [harr] at h; cases h
    · exact h
  refine Arith.i64 ((k + 1 : Nat) : Int) (by simp) (by omega) ?_
  refine CallK.mk' (exprR_call he hlen hk1 (by omega) (by omega)) ?_
  rintro e σ3 ⟨rfl, x, tq, E, rfl, htq, hkt, hr⟩
  rw [← htl] at hr
  obtain ⟨op, n, s, kids, a⟩ := x
  intro b8 hb8
  refine Sure.mk' rfl ?_
  refine Store.mk' (gotV (.mk op n s kids a) tq E) put_box (Nat.le_refl _) rfl (fun σ4 eb8 => ?_)
  rw [put_put] at eb8
  have q4 := over_put (cs := gotV (.mk op n s kids a) tq E) (Over.refl _) hb8
  rw [← eb8] at q4
  have o4 := over_tr o2 q4
  have h84 : (σ4).box b8 = some (gotV (.mk op n s kids a) tq E) := by rw [eb8]; exact put_box
  clear eb8
  have h44 := q4.box _ _ h42
  have h54 := q4.box _ _ h52
  refine Load.mk' h84 (by simp [gotV, exV]) ?_
  refine Test.split (fun hE => ?_) (fun hE => ?_)
  · refine Load.mk' h84 (by simp [gotV, exV]) ?_
    refine Load.mk' h84 (by simp [gotV, exV]) ?_
    rcases hr with ⟨h, _⟩ | ⟨_, hx, hr⟩
    · exact absurd h hE
    refine Sure.mk' rfl ?_
    refine Store.mk' ([.int .i64 0, .int .i64 0, .str [], .int .i64 0, .int .i64 0, .str [], .slice .nil 0 [], .int .i64 0, .int .i64 0, .int .i64 tq, .int .i64 E]) h44 (Nat.le_refl _) rfl (fun σr er => ?_)
    refine Load.mk' (by rw [er]; exact put_box) (Nat.le_refl _) ?_
    exact Ret.weak weak_gerr (σ' := σ) (by rw [er]; exact over_put o4 f4) ⟨rfl, ⟨_, tq, E, rfl, htq, by omega, .inr ⟨hE, rfl, .paren_err hop hr⟩⟩⟩
  rcases hr with ⟨rfl, hkt, hr⟩ | ⟨h, _⟩
  rotate_left
  · exact absurd h hE
  refine Load.mk' h84 (by simp [gotV, exV]) ?_
  refine CallK.pure (sign_ret htq _) ?_
  cases hc : isS [41] (ts.drop tq)
  · refine Load.mk' h84 (by simp [gotV, exV]) ?_
    refine Sure.mk' rfl ?_
    refine Store.mk' ([.int .i64 0, .int .i64 0, .str [], .int .i64 0, .int .i64 0, .str [], .slice .nil 0 [], .int .i64 0, .int .i64 0, .int .i64 tq, .int .i64 5]) h44 (Nat.le_refl _) rfl (fun σr er => ?_)
    refine Load.mk' (by rw [er]; exact put_box) (Nat.le_refl _) ?_
    exact Ret.weak weak_gerr (σ' := σ) (by rw [er]; exact over_put o4 f4) ⟨rfl, ⟨_, tq, 5, rfl, htq, by omega, .inr ⟨by decide, rfl, .paren_bad hop hr hc⟩⟩⟩
  obtain ⟨htq1, htl1⟩ := ended_sign he htq hc
  have hPA := PA.paren_ok hop hr hc
  rw [hthd, htl1] at hPA
  refine Load.mk' h84 (by simp [gotV, exV]) ?_
  refine Load.mk' h54 (by simp [tokV]) ?_
  refine Load.mk' h84 (by simp [gotV, exV]) ?_
  refine Arith.i64 ((tq + 1 : Nat) : Int) (by simp) (by omega) ?_
  refine Sure.mk' rfl ?_
  refine Store.mk' ([.int .i64 5, .int .i64 0, .str [], .int .i64 op, .int .i64 n, .str s, .slice .foreign 5 (exVs kids), .int .i64 a, .int .i64 t.at_, .int .i64 (tq + 1 : Nat), .int .i64 0]) h44 (Nat.le_refl _) rfl (fun σr er => ?_)
  refine Load.mk' (by rw [er]; exact put_box) (Nat.le_refl _) ?_
  exact Ret.weak (weak_gar (exVs_map _) (.inl rfl)) (σ' := σ) (by rw [er]; exact over_put o4 f4) ⟨rfl, ⟨_, tq + 1, 0, rfl, htq1, by omega, .inl ⟨rfl, by omega, hPA⟩⟩⟩

/-! ### forms -/
abbrev noPart : List V := [.str [], .slice .nil 0 [], .slice .nil 0 [], .int .i64 0, .int .i64 0, .int .i64 0, .int .i64 0]
def Fo.none : Fo := .mk [] [] [] 0
def gfoV (g : Fo) (tq n E : Int) : List V := foV g ++ [.int .i64 tq, .int .i64 n, .int .i64 E]
theorem weak_gfo {w : List UInt8} {args : List Ar} {bs : List Fo} {a tq n E : Int} {t1 t2 : Tag} {z1 z2 : Nat} {es1 es2 : List (List V)} (h1 : es1 = args.map arV) (h2 : es2 = bs.map foV) (hz1 : z1 = 9 ∨ es1 = []) (hz2 : z2 = 4 ∨ es2 = []) :
    Weak (.agg [.str w, .slice t1 z1 es1, .slice t2 z2 es2, .int .i64 a, .int .i64 tq, .int .i64 n, .int .i64 E]) (.agg (gfoV (.mk w args bs a) tq n E)) := by
  subst h1; subst h2
  refine weak_agg rfl (fun i y hy => ?_) (fun i x y hx hy => ?_)
  · match i, hy with
    | 0, hy | 1, hy | 2, hy | 3, hy | 4, hy | 5, hy | 6, hy => simp [gfoV, foV] at hy; subst hy; rfl
    | _ + 7, hy => simp [gfoV, foV] at hy
  · match i, hx, hy with
    | 0, hx, hy | 3, hx, hy | 4, hx, hy | 5, hx, hy | 6, hx, hy => simp [gfoV, foV] at hx hy; subst hx; subst hy; exact Weak.refl _
    | 1, hx, hy => simp [gfoV, foV] at hx hy; subst hx; subst hy; exact weak_es hz1
    | 2, hx, hy => simp [gfoV, foV] at hx hy; subst hx; subst hy; rw [foVs_map]; exact weak_es hz2
    | _ + 7, hx, hy => simp [gfoV, foV] at hy
theorem weak_gferr {tq E : Int} : Weak (.agg [.str [], .slice .nil 0 [], .slice .nil 0 [], .int .i64 0, .int .i64 tq, .int .i64 0, .int .i64 E]) (.agg (gfoV .none tq 0 E)) := weak_gfo (args := []) (bs := []) rfl rfl (.inr rfl) (.inr rfl)

def FormP (d n : Int) (ts : List Tok) (k : Nat) (σ : St) (e : SEnd) (σ' : St) : Prop := σ' = σ ∧ ∃ (g : Fo) (tq : Nat) (n' E : Int), e = .ret (.agg (gfoV g tq n' E)) ∧ tq < ts.length ∧ k ≤ tq ∧
  ((E = 0 ∧ k < tq ∧ 0 ≤ n' ∧ n' ≤ 2000 ∧ PF .form d n (ts.drop k) (.ok g n' (ts.drop tq))) ∨ (E ≠ 0 ∧ g = .none ∧ n' = 0 ∧ PF .form d n (ts.drop k) (.err E (ts.drop tq))))
def FormsR (ts : List Tok) (m : Nat) : Prop := ∀ (σ : St) (k : Nat) (d n : Int), k < ts.length → 0 ≤ d → d ≤ 31 → 0 ≤ n → n ≤ 2000 → ts.length - k ≤ m → SCall Tryz.prog LG 30 [TS ts, .int .i64 k, .int .i64 d, .int .i64 n] σ (FormP d n ts k σ)

def scC0 : SC := match sc30 with
  | .seq _ (.seq _ (.seq _ (.seq _ (.seq _ r)))) => r
  | _ => .skip
section
variable {ts : List Tok} (he : Ended ts) (hlen : ts.length ≤ 1000000) {m : Nat} (ih : ∀ k, k < m → FormsR ts k)
include he hlen ih

set_option maxRecDepth 10000 in
theorem bodyR_walk {σ σ1 : St} {k j : Nat} {d n n0 : Int} {b8 b9 : Nat} (o : Over σ σ1) (f8 : σ.box b8 = Option.none) (f9 : σ.box b9 = Option.none) (n89 : b8 ≠ b9) (h8 : σ1.box b8 = some noPart) (hj : j < ts.length) (hkj : k < j) (hbr : isS [123] (ts.drop j) = true) (h0 : 0 ≤ d) (h1 : d ≤ 30) (hn0 : 0 ≤ n) (hn : n ≤ 2000) (hm' : ts.length - k ≤ m)
    {w : List UInt8} {args : List Ar} {a : Int} {t1 : Tag} {z1 : Nat} (h9 : σ1.box b9 = some [.str w, .slice t1 z1 (args.map arV), .slice .nil 0 [], .int .i64 a, .int .i64 j, .int .i64 n, .int .i64 0]) (hz1 : z1 = 9 ∨ args.map arV = [])
    (hPF : ∀ x, PF (.args w a args) d n (ts.drop j) x → PF .form d n0 (ts.drop k) x) :
    swpE Tryz.prog LG scC0 (retE [(8, some (true, 7))] (FormP d n0 ts k σ)) (ofL [(0, some (TS ts)), (2, some (.int .i64 d)), (8, some (.loc b8 0)), (9, some (.loc b9 0))]) σ1 := by
  obtain ⟨hj1, htlj⟩ := ended_sign he hj hbr
  have hPF : ∀ x, PF (.body w a args []) d n (ts.drop (j + 1)) x → PF .form d n0 (ts.drop k) x := fun x hx => hPF x (.args_body hbr (by rw [htlj]; exact hx))
  refine Load.mk' h9 (by simp) ?_
  refine Arith.i64 ((j + 1 : Nat) : Int) (by simp) (by omega) ?_
  refine Sure.mk' rfl ?_
  refine Store.mk' [.str w, .slice t1 z1 (args.map arV), .slice .nil 0 [], .int .i64 a, .int .i64 (j + 1 : Nat), .int .i64 n, .int .i64 0] h9 (by simp [V.cells]) rfl (fun σ2 e2 => ?_)
  have o2 : Over σ σ2 := by rw [e2]; exact over_put o f9
  have h82 : σ2.box b8 = some noPart := by rw [e2, put_ne n89]; exact h8
  have h92 : σ2.box b9 = some [.str w, .slice t1 z1 (args.map arV), .slice .nil 0 [], .int .i64 a, .int .i64 (j + 1 : Nat), .int .i64 n, .int .i64 0] := by rw [e2]; exact put_box
  clear e2 o h8 h9
  refine ⟨fun q sl σ' => ∃ (bs : List Fo) (j : Nat) (nc : Int) (tag : Tag) (z : Nat), sl = ofL [(0, some (TS ts)), (2, some (.int .i64 d)), (8, some (.loc b8 0)), (9, some (.loc b9 0))] ∧ Over σ σ' ∧ σ'.box b8 = some noPart ∧
      σ'.box b9 = some [.str w, .slice t1 z1 (args.map arV), .slice tag z (bs.map foV), .int .i64 a, .int .i64 j, .int .i64 nc, .int .i64 0] ∧ Mine σ σ' tag ∧ (tag = .nil ∨ z = 4) ∧ (z = 4 ∨ bs.map foV = []) ∧ bs.length ≤ j ∧ j < ts.length ∧ k < j ∧ 0 ≤ nc ∧ nc ≤ 2000 ∧
      (∀ x, PF (.body w a args bs) d nc (ts.drop j) x → PF .form d n0 (ts.drop k) x) ∧ q = ts.length - j,
    _, ⟨[], j + 1, n, .nil, 0, rfl, o2, h82, h92, trivial, .inl rfl, .inr rfl, by simp, hj1, by omega, hn0, hn, hPF, rfl⟩, ?_⟩
  clear h82 h92 o2 hPF hn0 hn hj hkj hbr hj1 htlj
  rintro q sl σ' ⟨bs, j, nc, tag, z, rfl, o, h8, h9, hM, hz, hz4, hbl, hj, hkj, hn0, hn, hPF, rfl⟩
  refine Load.mk' h9 (by simp) ?_
  refine CallK.pure (sign_ret hj _) ?_
  cases hc : isS [125] (ts.drop j)
  rotate_left
  · obtain ⟨hj1, htl1⟩ := ended_sign he hj hc
    have hfin := hPF _ (.body_end hc)
    rw [htl1] at hfin
    refine Load.mk' h9 (by simp) ?_
    refine Arith.i64 ((j + 1 : Nat) : Int) (by simp) (by omega) ?_
    refine Sure.mk' rfl ?_
    refine Store.mk' [.str w, .slice t1 z1 (args.map arV), .slice tag z (bs.map foV), .int .i64 a, .int .i64 (j + 1 : Nat), .int .i64 nc, .int .i64 0] h9 (by simp [V.cells]) rfl (fun σ3 e3 => ?_)
    have o3 : Over σ σ3 := by rw [e3]; exact over_put o f9
    have h83 : σ3.box b8 = some noPart := by rw [e3, put_ne n89]; exact h8
    refine Load.mk' (by rw [e3]; exact put_box) (Nat.le_refl _) ?_
    refine Sure.mk' rfl ?_
    refine Store.mk' ([.str w, .slice t1 z1 (args.map arV), .slice tag z (bs.map foV), .int .i64 a, .int .i64 (j + 1 : Nat), .int .i64 nc, .int .i64 0]) h83 (Nat.le_refl _) rfl (fun σr er => ?_)
    refine Load.mk' (by rw [er]; exact put_box) (Nat.le_refl _) ?_
    exact Ret.weak (weak_gfo rfl rfl hz1 hz4) (σ' := σ) (by rw [er]; exact over_put o3 f8) ⟨rfl, ⟨_, j + 1, nc, 0, rfl, hj1, by omega, .inl ⟨rfl, by omega, hn0, hn, hfin⟩⟩⟩
  refine Load.mk' h9 (by simp) ?_
  refine Arith.i64 (d + 1) rfl (by omega) ?_
  refine Load.mk' h9 (by simp) ?_
  refine CallK.mk' (ih (ts.length - j) (by omega) _ j (d + 1) nc hj (by omega) (by omega) hn0 hn (Nat.le_refl _)) ?_
  rintro e σ2 ⟨rfl, x, tq, n', E, rfl, htq, hkt, hr⟩
  obtain ⟨w2, as2, bs2, a2⟩ := x
  intro b16 hb16
  refine Sure.mk' rfl ?_
  refine Store.mk' (gfoV (.mk w2 as2 bs2 a2) tq n' E) put_box (Nat.le_refl _) rfl (fun σ3 eb16 => ?_)
  rw [put_put] at eb16
  have q3 := over_put (cs := gfoV (.mk w2 as2 bs2 a2) tq n' E) (Over.refl _) hb16
  rw [← eb16] at q3
  have o3 := over_tr o q3
  have h163 : (σ3).box b16 = some (gfoV (.mk w2 as2 bs2 a2) tq n' E) := by rw [eb16]; exact put_box
  clear eb16
  have h83 := q3.box _ _ h8
  have h93 := q3.box _ _ h9
  have hM3 := hM.over q3
  have n916 := box_ne h9 hb16
  refine Load.mk' h163 (by simp [gfoV, foV]) ?_
  refine Test.split (fun hE => ?_) (fun hE => ?_)
  · refine Load.mk' h163 (Nat.le_refl _) ?_
    rcases hr with ⟨h, _⟩ | ⟨_, hx, hn', hr⟩
    · exact absurd h hE
    refine Sure.mk' rfl ?_
    refine Store.mk' ((gfoV (.mk w2 as2 bs2 a2) tq n' E)) h83 (Nat.le_refl _) rfl (fun σr er => ?_)
    refine Load.mk' (by rw [er]; exact put_box) (Nat.le_refl _) ?_
    exact Ret.weak (.refl _) (σ' := σ) (by rw [er]; exact over_put o3 f8) ⟨rfl, ⟨_, tq, n', E, rfl, htq, by omega, .inr ⟨hE, hx, hn', hPF _ (.body_err hc hr)⟩⟩⟩
  rcases hr with ⟨rfl, hlt, hn0', hn', hr⟩ | ⟨h, _⟩
  rotate_left
  · exact absurd h hE
  have hsm := len_small (show bs.length ≤ 1000000 by omega) (Nat.le_refl _) (show 72 ≤ 1000 by decide)
  have hms : ts.length - tq < ts.length - j := by omega
  have hktq : k < tq := by omega
  have hbl' : bs.length + 1 ≤ tq := by omega
  refine Load.mk' h93 (by simp) ?_
  refine Load.mk' h163 (by simp [gfoV, foV]) ?_
  refine App.mk' o3 hM3 hz rfl (by simp only [List.length_map, List.length_cons, List.length_nil]; exact hsm.1) (by simp only [List.length_map, List.length_cons, List.length_nil]; exact hsm.2) (List.cons_ne_nil _ _) (fun t' σ4 o4 m4 b4 _ => ?_)
  refine Sure.mk' rfl ?_
  refine Store.mk' [.str w, .slice t1 z1 (args.map arV), .slice (.tip t') 4 (bs.map foV ++ [foV (.mk w2 as2 bs2 a2)]), .int .i64 a, .int .i64 j, .int .i64 nc, .int .i64 0] (by rw [b4]; exact h93) (by simp [V.cells]) rfl (fun σ5 e5 => ?_)
  have o5 : Over σ σ5 := by rw [e5]; exact over_put o4 f9
  have h85 : σ5.box b8 = some noPart := by rw [e5, put_ne n89, b4]; exact h83
  have h95 : σ5.box b9 = some [.str w, .slice t1 z1 (args.map arV), .slice (.tip t') 4 (bs.map foV ++ [foV (.mk w2 as2 bs2 a2)]), .int .i64 a, .int .i64 j, .int .i64 nc, .int .i64 0] := by rw [e5]; exact put_box
  have h165 : σ5.box b16 = some (gfoV (.mk w2 as2 bs2 a2) tq n' 0) := by rw [e5, put_ne (Ne.symm n916), b4]; exact h163
  have m5 : Mine σ σ5 (.tip t') := by rw [e5]; exact m4
  clear e5 b4 o4 m4 h83 h93 h163
  refine Load.mk' h165 (by simp [gfoV, foV]) ?_
  refine Sure.mk' rfl ?_
  refine Store.mk' [.str w, .slice t1 z1 (args.map arV), .slice (.tip t') 4 (bs.map foV ++ [foV (.mk w2 as2 bs2 a2)]), .int .i64 a, .int .i64 tq, .int .i64 nc, .int .i64 0] h95 (by simp [V.cells]) rfl (fun σ6 e6 => ?_)
  have o6 : Over σ σ6 := by rw [e6]; exact over_put o5 f9
  have h86 : σ6.box b8 = some noPart := by rw [e6, put_ne n89]; exact h85
  have h96 : σ6.box b9 = some [.str w, .slice t1 z1 (args.map arV), .slice (.tip t') 4 (bs.map foV ++ [foV (.mk w2 as2 bs2 a2)]), .int .i64 a, .int .i64 tq, .int .i64 nc, .int .i64 0] := by rw [e6]; exact put_box
  have h166 : σ6.box b16 = some (gfoV (.mk w2 as2 bs2 a2) tq n' 0) := by rw [e6, put_ne (Ne.symm n916)]; exact h165
  have m6 : Mine σ σ6 (.tip t') := by rw [e6]; exact m5
  clear e6 o5 m5 h85 h95 h165
  refine Load.mk' h166 (by simp [gfoV, foV]) ?_
  refine Sure.mk' rfl ?_
  refine Store.mk' [.str w, .slice t1 z1 (args.map arV), .slice (.tip t') 4 (bs.map foV ++ [foV (.mk w2 as2 bs2 a2)]), .int .i64 a, .int .i64 tq, .int .i64 n', .int .i64 0] h96 (by simp [V.cells]) rfl (fun σ7 e7 => ?_)
  refine ⟨ts.length - tq, σ7, hms, Forget.refl _, bs ++ [.mk w2 as2 bs2 a2], tq, n', .tip t', 4, rfl, by rw [e7]; exact over_put o6 f9, by rw [e7, put_ne n89]; exact h86, by rw [e7, List.map_append]; exact put_box, by rw [e7]; exact m6, .inr rfl, .inl rfl, by simp only [List.length_append, List.length_cons, List.length_nil]; exact hbl', htq, hktq, hn0', hn', fun x hx => hPF _ (.body_go hc hr hx), rfl⟩

set_option maxRecDepth 10000 in
theorem formR_walk {σ : St} {k : Nat} {d n : Int} (hk : k < ts.length) (h0 : 0 ≤ d) (h1 : d ≤ 31) (hn0 : 0 ≤ n) (hn : n ≤ 2000) (hm' : ts.length - k ≤ m) : SCall Tryz.prog LG 30 [TS ts, .int .i64 k, .int .i64 d, .int .i64 n] σ (FormP d n ts k σ) := by
  refine code30.call hm (by simp) ?_
  intro b8 f8
  have o1 : Over σ (σ.put b8 noPart) := over_put (.refl _) f8
  have h8 : (σ.put b8 noPart).box b8 = some noPart := put_box
  generalize σ.put b8 noPart = σ1 at o1 h8
  obtain ⟨t, ht, hdr⟩ := get_drop hk
  have hthd : hd (ts.drop k) = t := by rw [hdr]; rfl
  refine Sure.mk' (.inl rfl) ?_
  refine IdxE.mk' k (tokV t) rfl (tokV_get ht) ?_
  refine ⟨by simp [tokV], ?_⟩
  refine Test.split (fun hk1 => ?_) (fun hk1 => ?_)
  · refine Sure.mk' rfl ?_
    refine Store.mk' ([.str [], .slice .nil 0 [], .slice .nil 0 [], .int .i64 0, .int .i64 k, .int .i64 0, .int .i64 5]) h8 (Nat.le_refl _) rfl (fun σr er => ?_)
    refine Load.mk' (by rw [er]; exact put_box) (Nat.le_refl _) ?_
    exact Ret.weak weak_gferr (σ' := σ) (by rw [er]; exact over_put o1 f8) ⟨rfl, ⟨_, k, 0, 5, rfl, hk, Nat.le_refl _, .inr ⟨by decide, rfl, rfl, .form_bad (by rw [hthd]; exact hk1)⟩⟩⟩
  have hk1 : (hd (ts.drop k)).kind = 1 := by
    rw [hthd]
    apply Classical.byContradiction
    intro h; exact hk1 h
  obtain ⟨hk2, htl⟩ := ended_kind he hk (by rw [hk1]; decide)
  have hlim : ∀ {G : Prop}, (d > 30 ∨ n ≥ 2000 → G) → (¬ (d > 30 ∨ n ≥ 2000) → G) → G := fun h1 h2 => if h : d > 30 ∨ n ≥ 2000 then h1 h else h2 h
  refine hlim (fun hl => ?_) (fun hl => ?_)
  · refine Test.split (fun h30 => ?_) (fun h30 => ?_)
    · refine Sure.mk' rfl ?_
      refine Store.mk' ([.str [], .slice .nil 0 [], .slice .nil 0 [], .int .i64 0, .int .i64 k, .int .i64 0, .int .i64 2]) h8 (Nat.le_refl _) rfl (fun σr er => ?_)
      refine Load.mk' (by rw [er]; exact put_box) (Nat.le_refl _) ?_
      exact Ret.weak weak_gferr (σ' := σ) (by rw [er]; exact over_put o1 f8) ⟨rfl, ⟨_, k, 0, 2, rfl, hk, Nat.le_refl _, .inr ⟨by decide, rfl, rfl, .form_limit hk1 hl⟩⟩⟩
    · refine Test.yes (by omega) ?_
      refine Sure.mk' rfl ?_
      refine Store.mk' ([.str [], .slice .nil 0 [], .slice .nil 0 [], .int .i64 0, .int .i64 k, .int .i64 0, .int .i64 2]) h8 (Nat.le_refl _) rfl (fun σr er => ?_)
      refine Load.mk' (by rw [er]; exact put_box) (Nat.le_refl _) ?_
      exact Ret.weak weak_gferr (σ' := σ) (by rw [er]; exact over_put o1 f8) ⟨rfl, ⟨_, k, 0, 2, rfl, hk, Nat.le_refl _, .inr ⟨by decide, rfl, rfl, .form_limit hk1 hl⟩⟩⟩
  refine Test.no (by omega) ?_
  refine Test.no (by omega) ?_
  refine Sure.mk' (.inl rfl) ?_
  refine IdxE.mk' k (tokV t) rfl (tokV_get ht) ?_
  refine ⟨by simp [tokV], ?_⟩
  refine Sure.mk' (.inl rfl) ?_
  refine IdxE.mk' k (tokV t) rfl (tokV_get ht) ?_
  refine ⟨by simp [tokV], ?_⟩
  refine Arith.i64 ((k + 1 : Nat) : Int) (by simp) (by omega) ?_
  refine Arith.i64 (n + 1) rfl (by omega) ?_
  intro b9 hb9
  refine Sure.mk' rfl ?_
  refine Store.mk' ([.str t.s, .slice .nil 0 [], .slice .nil 0 [], .int .i64 t.at_, .int .i64 (k + 1 : Nat), .int .i64 (n + 1), .int .i64 0]) put_box (Nat.le_refl _) rfl (fun σ2 eb9 => ?_)
  rw [put_put] at eb9
  have q2 := over_put (cs := [.str t.s, .slice .nil 0 [], .slice .nil 0 [], .int .i64 t.at_, .int .i64 (k + 1 : Nat), .int .i64 (n + 1), .int .i64 0]) (Over.refl _) hb9
  rw [← eb9] at q2
  have o2 := over_tr o1 q2
  have h92 : (σ2).box b9 = some ([.str t.s, .slice .nil 0 [], .slice .nil 0 [], .int .i64 t.at_, .int .i64 (k + 1 : Nat), .int .i64 (n + 1), .int .i64 0]) := by rw [eb9]; exact put_box
  clear eb9
  have h82 := q2.box _ _ h8
  have n89 := box_ne h8 hb9
  have f9 := ov_none o1 hb9
  clear hb9 h8 o1 q2
  have hPF0 : ∀ x, PF (.args t.s t.at_ []) d (n + 1) (ts.drop (k + 1)) x → PF .form d n (ts.drop k) x := by
    intro x hx
    refine .form_go hk1 hl ?_
    rw [hthd, htl]; exact hx
  refine ⟨fun q sl σ' => ∃ (args : List Ar) (j : Nat) (tag : Tag) (z : Nat), sl = ofL [(0, some (TS ts)), (2, some (.int .i64 d)), (8, some (.loc b8 0)), (9, some (.loc b9 0))] ∧ Over σ σ' ∧ σ'.box b8 = some noPart ∧
      σ'.box b9 = some [.str t.s, .slice tag z (args.map arV), .slice .nil 0 [], .int .i64 t.at_, .int .i64 j, .int .i64 (n + 1), .int .i64 0] ∧ Mine σ σ' tag ∧ (tag = .nil ∨ z = 9) ∧ (z = 9 ∨ args.map arV = []) ∧ args.length ≤ 40 ∧ j < ts.length ∧ k < j ∧
      (∀ x, PF (.args t.s t.at_ args) d (n + 1) (ts.drop j) x → PF .form d n (ts.drop k) x) ∧ q = ts.length - j,
    _, ⟨[], k + 1, .nil, 0, rfl, o2, h82, h92, trivial, .inl rfl, .inr rfl, by simp, hk2, by omega, hPF0, rfl⟩, ?_⟩
  clear h82 h92 o2 hPF0
  rintro q sl σ' ⟨args, j, tag, z, rfl, o, h8, h9, hM, hz, hz9, hk40, hj, hkj, hPF, rfl⟩
  refine Load.mk' h9 (by simp) ?_
  refine CallK.pure (sign_ret hj _) ?_
  cases hq1 : isS [59] (ts.drop j)
  rotate_left
  · obtain ⟨hj1, htl1⟩ := ended_sign he hj hq1
    have hfin := hPF _ (.args_end hq1)
    rw [htl1] at hfin
    refine Load.mk' h9 (by simp) ?_
    refine Arith.i64 ((j + 1 : Nat) : Int) (by simp) (by omega) ?_
    refine Sure.mk' rfl ?_
    refine Store.mk' [.str t.s, .slice tag z (args.map arV), .slice .nil 0 [], .int .i64 t.at_, .int .i64 (j + 1 : Nat), .int .i64 (n + 1), .int .i64 0] h9 (by simp [V.cells]) rfl (fun σ3 e3 => ?_)
    have o3 : Over σ σ3 := by rw [e3]; exact over_put o f9
    have h83 : σ3.box b8 = some noPart := by rw [e3, put_ne n89]; exact h8
    refine Load.mk' (by rw [e3]; exact put_box) (Nat.le_refl _) ?_
    refine Sure.mk' rfl ?_
    refine Store.mk' ([.str t.s, .slice tag z (args.map arV), .slice .nil 0 [], .int .i64 t.at_, .int .i64 (j + 1 : Nat), .int .i64 (n + 1), .int .i64 0]) h83 (Nat.le_refl _) rfl (fun σr er => ?_)
    refine Load.mk' (by rw [er]; exact put_box) (Nat.le_refl _) ?_
    exact Ret.weak (weak_gfo (bs := []) rfl rfl hz9 (.inr rfl)) (σ' := σ) (by rw [er]; exact over_put o3 f8) ⟨rfl, ⟨_, j + 1, n + 1, 0, rfl, hj1, by omega, .inl ⟨rfl, by omega, by omega, by omega, hfin⟩⟩⟩
  refine Load.mk' h9 (by simp) ?_
  refine CallK.pure (sign_ret hj _) ?_
  cases hq2 : isS [123] (ts.drop j)
  rotate_left
  · exact bodyR_walk he hlen ih o f8 f9 n89 h8 hj hkj hq2 h0 (by omega) (by omega) (by omega) hm' h9 hz9 hPF
  refine Load.mk' h9 (by simp) ?_
  refine CallK.pure (beginsR_ret hj) ?_
  refine Load.mk' h9 (by simp) ?_
  refine CallK.pure (sign_ret hj _) ?_
  have hstart : ∀ {G : Prop}, (begins (ts.drop j) = false → isS [45, 62] (ts.drop j) = false → G) → (argStart (ts.drop j) → G) → G := by
    intro G h1 h2
    cases hx : begins (ts.drop j)
    · cases hy : isS [45, 62] (ts.drop j)
      · exact h1 hx hy
      · exact h2 (.inr hy)
    · exact h2 (.inl hx)
  refine hstart (fun hx hy => ?_) (fun hst => ?_)
  · rw [hx, hy]
    refine Load.mk' h9 (by simp) ?_
    refine Sure.mk' rfl ?_
    refine Store.mk' ([.str [], .slice .nil 0 [], .slice .nil 0 [], .int .i64 0, .int .i64 j, .int .i64 0, .int .i64 5]) h8 (Nat.le_refl _) rfl (fun σr er => ?_)
    refine Load.mk' (by rw [er]; exact put_box) (Nat.le_refl _) ?_
    exact Ret.weak weak_gferr (σ' := σ) (by rw [er]; exact over_put o f8) ⟨rfl, ⟨_, j, 0, 5, rfl, hj, by omega, .inr ⟨by decide, rfl, rfl, hPF _ (.args_bad hq1 hq2 hx hy)⟩⟩⟩
  cases hx : begins (ts.drop j)
  · have hy : isS [45, 62] (ts.drop j) = true := by
      rcases hst with h | h
      · rw [hx] at h; cases h
      · exact h
    rw [hy]
    refine Load.mk' h9 (by simp) ?_
    refine Test.split (fun h40 => ?_) (fun h40 => ?_)
    · refine Load.mk' h9 (by simp) ?_
      refine Sure.mk' rfl ?_
      refine Store.mk' ([.str [], .slice .nil 0 [], .slice .nil 0 [], .int .i64 0, .int .i64 j, .int .i64 0, .int .i64 2]) h8 (Nat.le_refl _) rfl (fun σr er => ?_)
      refine Load.mk' (by rw [er]; exact put_box) (Nat.le_refl _) ?_
      exact Ret.weak weak_gferr (σ' := σ) (by rw [er]; exact over_put o f8) ⟨rfl, ⟨_, j, 0, 2, rfl, hj, by omega, .inr ⟨by decide, rfl, rfl, hPF _ (.args_limit hq1 hq2 hst (by simp at h40; omega))⟩⟩⟩
    have hn40 : args.length ≠ 40 := by simp at h40; omega
    have hk39 : args.length ≤ 39 := by omega
    refine Load.mk' h9 (by simp) ?_
    refine CallK.mk' (argR_call he hlen hj hst) ?_
    rintro e σ2 ⟨rfl, x, tq, E, rfl, htq, hkt, hr⟩
    obtain ⟨ak, an, as0, ⟨op, nn, s, kk, a⟩, aat⟩ := x
    intro b14 hb14
    refine Sure.mk' rfl ?_
    refine Store.mk' (garV ⟨ak, an, as0, .mk op nn s kk a, aat⟩ tq E) put_box (Nat.le_refl _) rfl (fun σ3 eb14 => ?_)
    rw [put_put] at eb14
    have q3 := over_put (cs := garV ⟨ak, an, as0, .mk op nn s kk a, aat⟩ tq E) (Over.refl _) hb14
    rw [← eb14] at q3
    have o3 := over_tr o q3
    have h143 : (σ3).box b14 = some (garV ⟨ak, an, as0, .mk op nn s kk a, aat⟩ tq E) := by rw [eb14]; exact put_box
    clear eb14
    have h83 := q3.box _ _ h8
    have h93 := q3.box _ _ h9
    have hM3 := hM.over q3
    have n914 := box_ne h9 hb14
    refine Load.mk' h143 (by simp [garV, arV, exV]) ?_
    refine Test.split (fun hE => ?_) (fun hE => ?_)
    · refine Load.mk' h143 (by simp [garV, arV, exV]) ?_
      refine Load.mk' h143 (by simp [garV, arV, exV]) ?_
      rcases hr with ⟨h, _⟩ | ⟨_, hx, hr⟩
      · exact absurd h hE
      refine Sure.mk' rfl ?_
      refine Store.mk' ([.str [], .slice .nil 0 [], .slice .nil 0 [], .int .i64 0, .int .i64 tq, .int .i64 0, .int .i64 E]) h83 (Nat.le_refl _) rfl (fun σr er => ?_)
      refine Load.mk' (by rw [er]; exact put_box) (Nat.le_refl _) ?_
      exact Ret.weak weak_gferr (σ' := σ) (by rw [er]; exact over_put o3 f8) ⟨rfl, ⟨_, tq, 0, E, rfl, htq, by omega, .inr ⟨hE, rfl, rfl, hPF _ (.args_err hq1 hq2 hst hn40 hr)⟩⟩⟩
    rcases hr with ⟨rfl, hlt, hr⟩ | ⟨h, _⟩
    rotate_left
    · exact absurd h hE
    have hms : ts.length - tq < ts.length - j := by omega
    have hktq : k < tq := by omega
    have hsm := len_small hk39 (by decide) (show 104 ≤ 1000 by decide)
    refine Load.mk' h93 (by simp) ?_
    refine Load.mk' h143 (by simp [garV, arV, exV]) ?_
    refine App.mk' o3 hM3 hz rfl (by simp only [List.length_map, List.length_cons, List.length_nil]; exact hsm.1) (by simp only [List.length_map, List.length_cons, List.length_nil]; exact hsm.2) (List.cons_ne_nil _ _) (fun t' σ4 o4 m4 b4 _ => ?_)
    refine Sure.mk' rfl ?_
    refine Store.mk' [.str t.s, .slice (.tip t') 9 (args.map arV ++ [arV ⟨ak, an, as0, .mk op nn s kk a, aat⟩]), .slice .nil 0 [], .int .i64 t.at_, .int .i64 j, .int .i64 (n + 1), .int .i64 0] (by rw [b4]; exact h93) (by simp [V.cells]) rfl (fun σ5 e5 => ?_)
    have o5 : Over σ σ5 := by rw [e5]; exact over_put o4 f9
    have h85 : σ5.box b8 = some noPart := by rw [e5, put_ne n89, b4]; exact h83
    have h95 : σ5.box b9 = some [.str t.s, .slice (.tip t') 9 (args.map arV ++ [arV ⟨ak, an, as0, .mk op nn s kk a, aat⟩]), .slice .nil 0 [], .int .i64 t.at_, .int .i64 j, .int .i64 (n + 1), .int .i64 0] := by rw [e5]; exact put_box
    have h145 : σ5.box b14 = some (garV ⟨ak, an, as0, .mk op nn s kk a, aat⟩ tq 0) := by rw [e5, put_ne (Ne.symm n914), b4]; exact h143
    have m5 : Mine σ σ5 (.tip t') := by rw [e5]; exact m4
    clear e5 b4 o4 m4 h83 h93 h143
    refine Load.mk' h145 (by simp [garV, arV, exV]) ?_
    refine Sure.mk' rfl ?_
    refine Store.mk' [.str t.s, .slice (.tip t') 9 (args.map arV ++ [arV ⟨ak, an, as0, .mk op nn s kk a, aat⟩]), .slice .nil 0 [], .int .i64 t.at_, .int .i64 tq, .int .i64 (n + 1), .int .i64 0] h95 (by simp [V.cells]) rfl (fun σ6 e6 => ?_)
    refine ⟨ts.length - tq, σ6, hms, Forget.refl _, args ++ [⟨ak, an, as0, .mk op nn s kk a, aat⟩], tq, .tip t', 9, rfl, by rw [e6]; exact over_put o5 f9, by rw [e6, put_ne n89]; exact h85, by rw [e6, List.map_append]; exact put_box, by rw [e6]; exact m5, .inr rfl, .inl rfl, by simp only [List.length_append, List.length_cons, List.length_nil]; omega, htq, hktq, fun x hx => hPF _ (.args_go hq1 hq2 hst hn40 hr hx), rfl⟩
  · refine Load.mk' h9 (by simp) ?_
    refine Test.split (fun h40 => ?_) (fun h40 => ?_)
    · refine Load.mk' h9 (by simp) ?_
      refine Sure.mk' rfl ?_
      refine Store.mk' ([.str [], .slice .nil 0 [], .slice .nil 0 [], .int .i64 0, .int .i64 j, .int .i64 0, .int .i64 2]) h8 (Nat.le_refl _) rfl (fun σr er => ?_)
      refine Load.mk' (by rw [er]; exact put_box) (Nat.le_refl _) ?_
      exact Ret.weak weak_gferr (σ' := σ) (by rw [er]; exact over_put o f8) ⟨rfl, ⟨_, j, 0, 2, rfl, hj, by omega, .inr ⟨by decide, rfl, rfl, hPF _ (.args_limit hq1 hq2 hst (by simp at h40; omega))⟩⟩⟩
    have hn40 : args.length ≠ 40 := by simp at h40; omega
    have hk39 : args.length ≤ 39 := by omega
    refine Load.mk' h9 (by simp) ?_
    refine CallK.mk' (argR_call he hlen hj hst) ?_
    rintro e σ2 ⟨rfl, x, tq, E, rfl, htq, hkt, hr⟩
    obtain ⟨ak, an, as0, ⟨op, nn, s, kk, a⟩, aat⟩ := x
    intro b14 hb14
    refine Sure.mk' rfl ?_
    refine Store.mk' (garV ⟨ak, an, as0, .mk op nn s kk a, aat⟩ tq E) put_box (Nat.le_refl _) rfl (fun σ3 eb14 => ?_)
    rw [put_put] at eb14
    have q3 := over_put (cs := garV ⟨ak, an, as0, .mk op nn s kk a, aat⟩ tq E) (Over.refl _) hb14
    rw [← eb14] at q3
    have o3 := over_tr o q3
    have h143 : (σ3).box b14 = some (garV ⟨ak, an, as0, .mk op nn s kk a, aat⟩ tq E) := by rw [eb14]; exact put_box
    clear eb14
    have h83 := q3.box _ _ h8
    have h93 := q3.box _ _ h9
    have hM3 := hM.over q3
    have n914 := box_ne h9 hb14
    refine Load.mk' h143 (by simp [garV, arV, exV]) ?_
    refine Test.split (fun hE => ?_) (fun hE => ?_)
    · refine Load.mk' h143 (by simp [garV, arV, exV]) ?_
      refine Load.mk' h143 (by simp [garV, arV, exV]) ?_
      rcases hr with ⟨h, _⟩ | ⟨_, hx, hr⟩
      · exact absurd h hE
      refine Sure.mk' rfl ?_
      refine Store.mk' ([.str [], .slice .nil 0 [], .slice .nil 0 [], .int .i64 0, .int .i64 tq, .int .i64 0, .int .i64 E]) h83 (Nat.le_refl _) rfl (fun σr er => ?_)
      refine Load.mk' (by rw [er]; exact put_box) (Nat.le_refl _) ?_
      exact Ret.weak weak_gferr (σ' := σ) (by rw [er]; exact over_put o3 f8) ⟨rfl, ⟨_, tq, 0, E, rfl, htq, by omega, .inr ⟨hE, rfl, rfl, hPF _ (.args_err hq1 hq2 hst hn40 hr)⟩⟩⟩
    rcases hr with ⟨rfl, hlt, hr⟩ | ⟨h, _⟩
    rotate_left
    · exact absurd h hE
    have hms : ts.length - tq < ts.length - j := by omega
    have hktq : k < tq := by omega
    have hsm := len_small hk39 (by decide) (show 104 ≤ 1000 by decide)
    refine Load.mk' h93 (by simp) ?_
    refine Load.mk' h143 (by simp [garV, arV, exV]) ?_
    refine App.mk' o3 hM3 hz rfl (by simp only [List.length_map, List.length_cons, List.length_nil]; exact hsm.1) (by simp only [List.length_map, List.length_cons, List.length_nil]; exact hsm.2) (List.cons_ne_nil _ _) (fun t' σ4 o4 m4 b4 _ => ?_)
    refine Sure.mk' rfl ?_
    refine Store.mk' [.str t.s, .slice (.tip t') 9 (args.map arV ++ [arV ⟨ak, an, as0, .mk op nn s kk a, aat⟩]), .slice .nil 0 [], .int .i64 t.at_, .int .i64 j, .int .i64 (n + 1), .int .i64 0] (by rw [b4]; exact h93) (by simp [V.cells]) rfl (fun σ5 e5 => ?_)
    have o5 : Over σ σ5 := by rw [e5]; exact over_put o4 f9
    have h85 : σ5.box b8 = some noPart := by rw [e5, put_ne n89, b4]; exact h83
    have h95 : σ5.box b9 = some [.str t.s, .slice (.tip t') 9 (args.map arV ++ [arV ⟨ak, an, as0, .mk op nn s kk a, aat⟩]), .slice .nil 0 [], .int .i64 t.at_, .int .i64 j, .int .i64 (n + 1), .int .i64 0] := by rw [e5]; exact put_box
    have h145 : σ5.box b14 = some (garV ⟨ak, an, as0, .mk op nn s kk a, aat⟩ tq 0) := by rw [e5, put_ne (Ne.symm n914), b4]; exact h143
    have m5 : Mine σ σ5 (.tip t') := by rw [e5]; exact m4
    clear e5 b4 o4 m4 h83 h93 h143
    refine Load.mk' h145 (by simp [garV, arV, exV]) ?_
    refine Sure.mk' rfl ?_
    refine Store.mk' [.str t.s, .slice (.tip t') 9 (args.map arV ++ [arV ⟨ak, an, as0, .mk op nn s kk a, aat⟩]), .slice .nil 0 [], .int .i64 t.at_, .int .i64 tq, .int .i64 (n + 1), .int .i64 0] h95 (by simp [V.cells]) rfl (fun σ6 e6 => ?_)
    refine ⟨ts.length - tq, σ6, hms, Forget.refl _, args ++ [⟨ak, an, as0, .mk op nn s kk a, aat⟩], tq, .tip t', 9, rfl, by rw [e6]; exact over_put o5 f9, by rw [e6, put_ne n89]; exact h85, by rw [e6, List.map_append]; exact put_box, by rw [e6]; exact m5, .inr rfl, .inl rfl, by simp only [List.length_append, List.length_cons, List.length_nil]; omega, htq, hktq, fun x hx => hPF _ (.args_go hq1 hq2 hst hn40 hr hx), rfl⟩
end

theorem formsRR {ts : List Tok} (he : Ended ts) (hlen : ts.length ≤ 1000000) : ∀ m, FormsR ts m := by
  intro m
  induction m using Nat.strongRecOn with
  | _ m ih => exact fun σ k d n hk h0 h1 hn0 hn hm => formR_walk he hlen ih hk h0 h1 hn0 hn hm
end Go.Shadow.Lex

/- The functions of the lexer's specification, as shadow contracts: letter, digit, Blank, pair, name, number. No condition but the sources' lengths. -/
namespace Go.Shadow.Lex
open Go Go.RowKit Go.Proofs

theorem letter_ret (c : UInt8) : SRet Tryz.prog LG 78 [.int .u8 c.toNat] (.bool (isLetter c)) := by
  intro σ
  refine code78.call hm (by simp) ?_
  have hc := c.toNat_lt
  repeat' (first
    | refine Test.split (fun h => ?_) (fun h => ?_)
    | refine Ret.mk' ⟨rfl, ?_⟩)
  all_goals (refine congrArg (fun x => SEnd.ret (V.bool x)) ?_; simp only [isLetter]; grind)
theorem digit_ret (c : UInt8) : SRet Tryz.prog LG 80 [.int .u8 c.toNat] (.bool (isDigit c)) := by
  intro σ
  refine code80.call hm (by simp) ?_
  have hc := c.toNat_lt
  repeat' (first
    | refine Test.split (fun h => ?_) (fun h => ?_)
    | refine Ret.mk' ⟨rfl, ?_⟩)
  all_goals (refine congrArg (fun x => SEnd.ret (V.bool x)) ?_; simp only [isDigit]; grind)
def pairV (c : UInt8) : Int := match esc c with
  | some e => e.toNat
  | none => 0
theorem pair_ret (c : UInt8) : SRet Tryz.prog LG 102 [.int .u8 c.toNat] (.int .u8 (pairV c)) := by
  intro σ
  refine code102.call hm (by simp) ?_
  have hc := c.toNat_lt
  repeat' (first
    | refine Test.split (fun h => ?_) (fun h => ?_)
    | refine Ret.mk' ⟨rfl, ?_⟩)
  all_goals (refine congrArg (fun x => SEnd.ret (V.int .u8 x)) ?_; simp only [pairV, esc])
  · rw [if_pos (by omega)]; simp; omega
  · rw [if_neg (by omega), if_pos (by omega)]; simp; omega
  · rw [if_neg (by omega), if_neg (by omega), if_pos (by omega)]; rfl
  · rw [if_neg (by omega), if_neg (by omega), if_neg (by omega)]

theorem get_some {l : List UInt8} {j : Nat} (h : j < l.length) : ∃ c, l[j]? = some c := ⟨l[j], by simp [h]⟩

/-- A comment, byte by byte: where it ends. -/
def lineTo (l : List UInt8) (k : Nat) : Nat := k + ((l.drop k).takeWhile (·.toNat != 10)).length
theorem lineTo_eq (l : List UInt8) (k : Nat) : lineTo l k = spanTo (·.toNat != 10) l k := rfl

set_option maxHeartbeats 4000000 in
theorem blank_ret (l : List UInt8) (k : Nat) (hl : l.length ≤ 70000) (hk : k ≤ l.length) : SRet Tryz.prog LG 53 [.str l, .int .i64 k] (.int .i64 (skipTo l k)) := by
  intro σ
  refine code53.call hm (by simp) ?_
  refine ⟨fun m sl σ' => σ' = σ ∧ ∃ j : Nat, sl = ofL [(0, some (.str l)), (1, some (.int .i64 j))] ∧ j ≤ l.length ∧ skipTo l j = skipTo l k ∧ m = l.length - j, _, ⟨rfl, k, rfl, hk, rfl, rfl⟩, ?_⟩
  rintro m sl σ' ⟨rfl, j, rfl, hj, hsp, rfl⟩
  refine Test.split (fun h => ?_) (fun h => ?_)
  · obtain ⟨c, hc⟩ := get_some (l := l) (j := j) (by omega)
    have hstep : isBlank c = true → ∃ m σ'', m < l.length - j ∧ Forget σ' σ'' ∧ σ'' = σ' ∧ ∃ j' : Nat, ofL [(0, some (.str l)), (1, some (.int .i64 (j + 1 : Nat)))] = ofL [(0, some (.str l)), (1, some (V.int .i64 j'))] ∧ j' ≤ l.length ∧ skipTo l j' = skipTo l k ∧ m = l.length - j' := by
      intro hb
      exact ⟨_, _, by omega, .refl _, rfl, j + 1, rfl, by omega, by rw [skipTo_blank hc hb, hsp], rfl⟩
    refine Idx.mk' j c rfl hc ?_
    refine Test.split (fun h1 => ?_) (fun h1 => ?_)
    · refine Arith.i64 ((j + 1 : Nat) : Int) (by simp) (by omega) ?_
      exact hstep (by simp [isBlank]; omega)
    · refine Idx.mk' j c rfl hc ?_
      refine Test.split (fun h2 => ?_) (fun h2 => ?_)
      · refine Arith.i64 ((j + 1 : Nat) : Int) (by simp) (by omega) ?_
        exact hstep (by simp [isBlank]; omega)
      · refine Idx.mk' j c rfl hc ?_
        refine Test.split (fun h3 => ?_) (fun h3 => ?_)
        · refine Arith.i64 ((j + 1 : Nat) : Int) (by simp) (by omega) ?_
          exact hstep (by simp [isBlank]; omega)
        · refine Idx.mk' j c rfl hc ?_
          refine Test.split (fun h4 => ?_) (fun h4 => ?_)
          · refine Arith.i64 ((j + 1 : Nat) : Int) (by simp) (by omega) ?_
            exact hstep (by simp [isBlank]; omega)
          · have hb : isBlank c = false := by simp [isBlank]; omega
            refine Idx.mk' j c rfl hc ?_
            refine Test.split (fun h5 => ?_) (fun h5 => ?_)
            · have hcm := skipTo_comment hc (by omega)
              refine ⟨fun m sl σ1 => σ1 = σ' ∧ ∃ i : Nat, sl = ofL [(0, some (.str l)), (1, some (.int .i64 i))] ∧ j ≤ i ∧ i ≤ l.length ∧ lineTo l i = lineTo l j ∧ m = l.length - i, _, ⟨rfl, j, rfl, by omega, by omega, rfl, rfl⟩, ?_⟩
              rintro m sl σ1 ⟨rfl, i, rfl, hji, hi, hli, rfl⟩
              refine Test.split (fun h6 => ?_) (fun h6 => ?_)
              · obtain ⟨d, hd⟩ := get_some (l := l) (j := i) (by omega)
                refine Idx.mk' i d rfl hd ?_
                refine Test.split (fun h7 => ?_) (fun h7 => ?_)
                · refine Arith.i64 ((i + 1 : Nat) : Int) (by simp) (by omega) ?_
                  refine ⟨_, _, ?_, Forget.refl _, rfl, i + 1, rfl, by omega, by omega, ?_, rfl⟩
                  · omega
                  · rw [lineTo_eq, spanTo_step hd (by simp; omega), ← lineTo_eq, hli]
                · have he : lineTo l j = i := by rw [← hli, lineTo_eq, spanTo_stop hd (by simp; omega)]
                  refine ⟨_, _, ?_, Forget.refl _, rfl, i, rfl, by omega, ?_, rfl⟩
                  · have := hcm.2; unfold lineTo at he; omega
                  · rw [← hsp, ← he]; exact hcm.1
              · have he : lineTo l j = i := by rw [← hli, lineTo_eq, spanTo_end (by omega)]
                refine ⟨_, _, ?_, Forget.refl _, rfl, i, rfl, by omega, ?_, rfl⟩
                · have := hcm.2; unfold lineTo at he; omega
                · rw [← hsp, ← he]; exact hcm.1
            · refine Ret.mk' ⟨rfl, ?_⟩
              rw [← hsp, skipTo_stop hc hb (by omega)]
  · refine Ret.mk' ⟨rfl, ?_⟩
    rw [← hsp, skipTo_end (by omega)]

def oneC : Sum Nat (Tok × Nat) → List V
  | .inl e => [.int .i64 0, .int .i64 0, .str [], .int .i64 0, .int .i64 0, .int .i64 e]
  | .inr (t, e2) => [.int .i64 t.kind, .int .i64 t.at_, .str t.s, .int .i64 t.n, .int .i64 e2, .int .i64 0]

def oneV (x : Sum Nat (Tok × Nat)) : V := .agg (oneC x)
theorem oneC_length (x : Sum Nat (Tok × Nat)) : (oneC x).length = 6 := by rcases x with e | ⟨t, e2⟩ <;> rfl

set_option maxHeartbeats 4000000 in
theorem refName_ret (l : List UInt8) (k : Nat) (hl : l.length ≤ 70000) (hk : k ≤ l.length) :
    SRet Tryz.prog LG 79 [.str l, .int .i64 k] (oneV (if 32 < spanTo isWord l k - k then .inl 2 else .inr (⟨1, k, (l.take (spanTo isWord l k)).drop k, 0⟩, spanTo isWord l k))) := by
  intro σ
  have h1 := spanTo_ge isWord l k
  have h2 := spanTo_le isWord l k hk
  refine code79.call hm (by simp) ?_
  intro b4 h4
  obtain ⟨o1, g4⟩ := new_box h4 [.int .i64 0, .int .i64 0, .str [], .int .i64 0, .int .i64 0, .int .i64 0]
  generalize σ.put b4 [.int .i64 0, .int .i64 0, .str [], .int .i64 0, .int .i64 0, .int .i64 0] = σ1 at *
  refine ⟨fun m sl σ' => σ' = σ1 ∧ ∃ j : Nat, sl = ofL [(0, some (.str l)), (1, some (.int .i64 k)), (4, some (.loc b4 0)), (5, some (.int .i64 j))] ∧ j ≤ l.length ∧ spanTo isWord l j = spanTo isWord l k ∧ m = l.length - j, _, ⟨rfl, k, rfl, hk, rfl, rfl⟩, ?_⟩
  rintro m sl σ' ⟨rfl, j, rfl, hj, hsp, rfl⟩
  have hnext : ∀ c, l[j]? = some c → isWord c = true → ∃ m σ'', m < l.length - j ∧ Forget σ' σ'' ∧ σ'' = σ' ∧ ∃ j' : Nat, ofL [(0, some (.str l)), (1, some (.int .i64 k)), (4, some (.loc b4 0)), (5, some (.int .i64 (j + 1 : Nat)))] = ofL [(0, some (.str l)), (1, some (.int .i64 k)), (4, some (.loc b4 0)), (5, some (V.int .i64 j'))] ∧ j' ≤ l.length ∧ spanTo isWord l j' = spanTo isWord l k ∧ m = l.length - j' := by
    intro c hc hw
    have := (List.getElem?_eq_some_iff.1 hc).1
    exact ⟨_, _, by omega, .refl _, rfl, j + 1, rfl, by omega, by rw [spanTo_step hc hw, hsp], rfl⟩
  refine Test.split (fun h => ?_) (fun h => ?_)
  · obtain ⟨c, hc⟩ := get_some (l := l) (j := j) (by omega)
    refine Idx.mk' j c rfl hc ?_
    refine CallK.pure (letter_ret c) ?_
    cases hL : isLetter c with
    | true =>
      refine Arith.i64 ((j + 1 : Nat) : Int) (by simp) (by omega) ?_
      exact hnext c hc (by simp [isWord, hL])
    | false =>
      refine Idx.mk' j c rfl hc ?_
      refine CallK.pure (digit_ret c) ?_
      cases hD : isDigit c with
      | true =>
        refine Arith.i64 ((j + 1 : Nat) : Int) (by simp) (by omega) ?_
        exact hnext c hc (by simp [isWord, hD])
      | false =>
        have hjk : spanTo isWord l k = j := by rw [← hsp, spanTo_stop hc (by simp [isWord, hL, hD])]
        rw [hjk] at h1 h2 ⊢
        refine Arith.i64 ((j - k : Nat) : Int) (by omega) (by omega) ?_
        refine Test.split (fun h9 => ?_) (fun h9 => ?_)
        · refine Sure.mk' rfl ?_
          refine Store.mk' [.int .i64 0, .int .i64 0, .str [], .int .i64 0, .int .i64 0, .int .i64 2] g4 (Nat.le_of_ble_eq_true rfl) rfl (fun σ2 e2 => ?_)
          subst e2
          refine Load.mk' put_box (Nat.le_of_ble_eq_true rfl) ?_
          refine Ret.weak (.refl _) (over_put o1 h4) ⟨rfl, ?_⟩
          rw [if_pos (by omega)]; rfl
        · refine Cut.mk' k j rfl rfl (by omega) (by omega) ?_
          refine Sure.mk' rfl ?_
          refine Store.mk' [.int .i64 1, .int .i64 k, .str ((l.take j).drop k), .int .i64 0, .int .i64 j, .int .i64 0] g4 (Nat.le_of_ble_eq_true rfl) rfl (fun σ2 e2 => ?_)
          subst e2
          refine Load.mk' put_box (Nat.le_of_ble_eq_true rfl) ?_
          refine Ret.weak (.refl _) (over_put o1 h4) ⟨rfl, ?_⟩
          rw [if_neg (by omega)]; rfl
  · have hjk : spanTo isWord l k = j := by rw [← hsp, spanTo_end (by omega)]
    rw [hjk] at h1 h2 ⊢
    refine Arith.i64 ((j - k : Nat) : Int) (by omega) (by omega) ?_
    refine Test.split (fun h9 => ?_) (fun h9 => ?_)
    · refine Sure.mk' rfl ?_
      refine Store.mk' [.int .i64 0, .int .i64 0, .str [], .int .i64 0, .int .i64 0, .int .i64 2] g4 (Nat.le_of_ble_eq_true rfl) rfl (fun σ2 e2 => ?_)
      subst e2
      refine Load.mk' put_box (Nat.le_of_ble_eq_true rfl) ?_
      refine Ret.weak (.refl _) (over_put o1 h4) ⟨rfl, ?_⟩
      rw [if_pos (by omega)]; rfl
    · refine Cut.mk' k j rfl rfl (by omega) (by omega) ?_
      refine Sure.mk' rfl ?_
      refine Store.mk' [.int .i64 1, .int .i64 k, .str ((l.take j).drop k), .int .i64 0, .int .i64 j, .int .i64 0] g4 (Nat.le_of_ble_eq_true rfl) rfl (fun σ2 e2 => ?_)
      subst e2
      refine Load.mk' put_box (Nat.le_of_ble_eq_true rfl) ?_
      refine Ret.weak (.refl _) (over_put o1 h4) ⟨rfl, ?_⟩
      rw [if_neg (by omega)]; rfl
end Go.Shadow.Lex

/- The specification's 'number', 'text' and 'Sign', as shadow contracts. No condition but the sources' lengths. -/
namespace Go.Shadow.Lex
open Go Go.RowKit Go.Proofs

theorem takeWhile_take (p : UInt8 → Bool) : ∀ r : List UInt8, r.take (r.takeWhile p).length = r.takeWhile p
  | [] => rfl
  | c :: r => by
    simp only [List.takeWhile_cons]
    split
    · simp [takeWhile_take p r]
    · rfl
theorem slice_span (p : UInt8 → Bool) (l : List UInt8) (k : Nat) : (l.take (spanTo p l k)).drop k = (l.drop k).takeWhile p := by
  rw [spanTo, List.drop_take, Nat.add_sub_cancel_left, takeWhile_take]
theorem letter_after {e : UInt8} : ∀ r : List UInt8, r[(r.takeWhile isDigit).length]? = some e → isLetter e = true → (r.takeWhile isWord).all isDigit = false
  | [], h, _ => by simp at h
  | c :: r, h, he => by
    by_cases hd : isDigit c = true
    · simp only [List.takeWhile_cons, hd, if_true, List.length_cons, List.getElem?_cons_succ] at h
      simp [List.takeWhile_cons, isWord, hd, letter_after r h he]
    · simp only [List.takeWhile_cons, hd, Bool.false_eq_true, if_false, List.length_nil, List.getElem?_cons_zero, Option.some.injEq] at h
      subst h
      simp [List.takeWhile_cons, isWord, he, hd]
theorem no_letter_after : ∀ r : List UInt8, (∀ e, r[(r.takeWhile isDigit).length]? = some e → isLetter e = false) → r.takeWhile isWord = r.takeWhile isDigit
  | [], _ => rfl
  | c :: r, h => by
    by_cases hd : isDigit c = true
    · simp only [List.takeWhile_cons, hd, if_true, List.length_cons, List.getElem?_cons_succ] at h
      simp [List.takeWhile_cons, isWord, hd, no_letter_after r h]
    · have := h c (by simp [List.takeWhile_cons, hd])
      simp [List.takeWhile_cons, isWord, hd, this]
theorem all_takeWhile (p : UInt8 → Bool) : ∀ r : List UInt8, (r.takeWhile p).all p = true
  | [] => rfl
  | c :: r => by
    simp only [List.takeWhile_cons]
    split
    · rename_i h; simp [h, all_takeWhile p r]
    · rfl
theorem slice_snoc {l : List UInt8} {k i : Nat} {c : UInt8} (hk : k ≤ i) (hc : l[i]? = some c) : (l.take (i + 1)).drop k = (l.take i).drop k ++ [c] := by
  have hi := (List.getElem?_eq_some_iff.1 hc).1
  rw [List.take_add_one, hc, List.drop_append_of_le_length (by simp; omega)]
  rfl
theorem digitsVal_snoc (s : List UInt8) (c : UInt8) : digitsVal (s ++ [c]) = 10 * digitsVal s + (c.toNat - 48) := by simp [digitsVal]

set_option maxHeartbeats 4000000 in
theorem refNumber_ret (l : List UInt8) (k : Nat) (c0 : UInt8) (hl : l.length ≤ 70000) (hc0 : l[k]? = some c0) (hd0 : isDigit c0 = true) :
    SRet Tryz.prog LG 81 [.str l, .int .i64 k] (oneV (match numVal ((l.take (spanTo isWord l k)).drop k) with
      | some n => .inr (⟨2, k, [], n⟩, spanTo isWord l k)
      | none => .inl 27)) := by
  intro σ
  have hk : k < l.length := (List.getElem?_eq_some_iff.1 hc0).1
  have h1 := spanTo_ge isDigit l k
  have h2 := spanTo_le isDigit l k (by omega)
  have hr : l.drop k = c0 :: l.drop (k + 1) := drop_cons hc0
  have hat : ∀ e : UInt8, (l.drop k)[((l.drop k).takeWhile isDigit).length]? = some e ↔ l[spanTo isDigit l k]? = some e := by
    intro e; rw [List.getElem?_drop]; rfl
  have hbad : (15 < spanTo isDigit l k - k ∨ (1 < spanTo isDigit l k - k ∧ c0.toNat = 48) ∨ ∃ d, l[spanTo isDigit l k]? = some d ∧ isLetter d = true) → numVal ((l.take (spanTo isWord l k)).drop k) = none := by
    intro h
    rw [slice_span]
    unfold numVal
    rw [if_neg]
    rintro ⟨ha, hlen, hz⟩
    have hnl : ∀ e, (l.drop k)[((l.drop k).takeWhile isDigit).length]? = some e → isLetter e = false := by
      intro e he
      cases hL : isLetter e with
      | false => rfl
      | true => rw [letter_after _ he hL] at ha; cases ha
    have heq := no_letter_after _ hnl
    have hld : ((l.drop k).takeWhile isDigit).length = spanTo isDigit l k - k := by simp [spanTo]
    rw [heq, hld] at hlen hz
    rcases h with h | ⟨h, h48⟩ | ⟨d, hd, hL⟩
    · omega
    · refine hz ⟨h, ?_⟩
      rw [hr]
      simp only [List.takeWhile_cons, hd0, if_true, List.head?_cons, Option.some.injEq]
      exact UInt8.toNat_inj.1 h48
    · rw [hnl d ((hat d).2 hd)] at hL; cases hL
  have hgood : ¬ 15 < spanTo isDigit l k - k → ¬ (1 < spanTo isDigit l k - k ∧ c0.toNat = 48) → (∀ e, l[spanTo isDigit l k]? = some e → isLetter e = false) →
      (match numVal ((l.take (spanTo isWord l k)).drop k) with
        | some n => (Sum.inr ((⟨2, k, [], n⟩ : Tok), spanTo isWord l k) : Sum Nat (Tok × Nat))
        | none => .inl 27) = .inr (⟨2, k, [], (digitsVal ((l.take (spanTo isDigit l k)).drop k) : Nat)⟩, spanTo isDigit l k) := by
    intro g1 g2 g3
    have heq := no_letter_after (l.drop k) (fun e he => g3 e ((hat e).1 he))
    have hsp : spanTo isWord l k = spanTo isDigit l k := by simp only [spanTo, heq]
    rw [hsp]
    have hld : ((l.drop k).takeWhile isDigit).length = spanTo isDigit l k - k := by simp [spanTo]
    rw [show numVal ((l.take (spanTo isDigit l k)).drop k) = some (digitsVal ((l.take (spanTo isDigit l k)).drop k)) from by
      unfold numVal
      rw [if_pos]
      rw [slice_span]
      refine ⟨all_takeWhile _ _, by omega, ?_⟩
      rintro ⟨h3, h4⟩
      refine g2 ⟨by omega, ?_⟩
      rw [hr] at h4
      simp only [List.takeWhile_cons, hd0, if_true, List.head?_cons, Option.some.injEq] at h4
      subst h4; rfl]
  have hdig : ∀ i c, k ≤ i → i < spanTo isDigit l k → l[i]? = some c → isDigit c = true := by
    intro i c hi1 hi2 hc
    have h3 := all_takeWhile isDigit (l.drop k)
    rw [← slice_span] at h3
    rw [List.all_eq_true] at h3
    refine h3 c (List.mem_of_getElem? (i := i - k) ?_)
    rw [List.getElem?_drop, List.getElem?_take, if_pos (by omega), show k + (i - k) = i from by omega, hc]
  have hpre : ∀ i, k ≤ i → i ≤ spanTo isDigit l k → ((l.take i).drop k).all isDigit = true := by
    intro i hi1 hi2
    rw [List.all_eq_true]
    intro c hc
    obtain ⟨m, hm, hmc⟩ := List.mem_iff_getElem.1 hc
    have hm' : ((l.take i).drop k)[m]? = some c := by rw [List.getElem?_eq_getElem hm, hmc]
    rw [List.getElem?_drop, List.getElem?_take] at hm'
    split at hm'
    · exact hdig _ c (by omega) (by omega) hm'
    · cases hm'
  refine code81.call hm (by simp) ?_
  intro b4 h4
  obtain ⟨o1, g4⟩ := new_box h4 [.int .i64 0, .int .i64 0, .str [], .int .i64 0, .int .i64 0, .int .i64 0]
  generalize σ.put b4 [.int .i64 0, .int .i64 0, .str [], .int .i64 0, .int .i64 0, .int .i64 0] = σ1 at *
  refine ⟨fun m sl σ' => σ' = σ1 ∧ ∃ j : Nat, sl = ofL [(0, some (.str l)), (1, some (.int .i64 k)), (4, some (.loc b4 0)), (5, some (.int .i64 j))] ∧ j ≤ l.length ∧ spanTo isDigit l j = spanTo isDigit l k ∧ m = l.length - j, _, ⟨rfl, k, rfl, by omega, rfl, rfl⟩, ?_⟩
  rintro m sl σ' ⟨rfl, j, rfl, hj, hsp, rfl⟩
  refine Test.split (fun h => ?_) (fun h => ?_)
  · obtain ⟨c, hc⟩ := get_some (l := l) (j := j) (by omega)
    refine Idx.mk' j c rfl hc ?_
    refine CallK.pure (digit_ret c) ?_
    cases hD : isDigit c with
    | true =>
      refine Arith.i64 ((j + 1 : Nat) : Int) (by simp) (by omega) ?_
      exact ⟨_, _, by omega, .refl _, rfl, j + 1, rfl, by omega, by rw [spanTo_step hc hD, hsp], rfl⟩
    | false =>
      have hjk : spanTo isDigit l k = j := by rw [← hsp, spanTo_stop hc hD]
      rw [hjk] at h1 h2 hbad hgood hdig hpre
      refine Arith.i64 ((j - k : Nat) : Int) (by omega) (by omega) ?_
      refine Test.split (fun h9 => ?_) (fun h9 => ?_)
      · refine Sure.mk' rfl ?_
        refine Store.mk' [.int .i64 0, .int .i64 0, .str [], .int .i64 0, .int .i64 0, .int .i64 27] g4 (Nat.le_of_ble_eq_true rfl) rfl (fun σ2 e2 => ?_)
        subst e2
        refine Load.mk' put_box (Nat.le_of_ble_eq_true rfl) ?_
        refine Ret.weak (.refl _) (over_put o1 h4) ⟨rfl, ?_⟩
        rw [hbad (.inl (by omega))]; rfl
      · refine Arith.i64 ((j - k : Nat) : Int) (by omega) (by omega) ?_
        refine Test.split (fun h10 => ?_) (fun h10 => ?_)
        · refine Idx.mk' k c0 rfl hc0 ?_
          refine Test.split (fun h11 => ?_) (fun h11 => ?_)
          · refine Sure.mk' rfl ?_
            refine Store.mk' [.int .i64 0, .int .i64 0, .str [], .int .i64 0, .int .i64 0, .int .i64 27] g4 (Nat.le_of_ble_eq_true rfl) rfl (fun σ2 e2 => ?_)
            subst e2
            refine Load.mk' put_box (Nat.le_of_ble_eq_true rfl) ?_
            refine Ret.weak (.refl _) (over_put o1 h4) ⟨rfl, ?_⟩
            rw [hbad (.inr (.inl ⟨by omega, by omega⟩))]; rfl
          · have h1z : ¬ (1 < j - k ∧ c0.toNat = 48) := by omega
            refine Test.split (fun h12 => ?_) (fun h12 => ?_)
            · obtain ⟨d, hd⟩ := get_some (l := l) (j := j) (by omega)
              refine Idx.mk' j d rfl hd ?_
              refine CallK.pure (letter_ret d) ?_
              cases hL : isLetter d with
              | true =>
                refine Sure.mk' rfl ?_
                refine Store.mk' [.int .i64 0, .int .i64 0, .str [], .int .i64 0, .int .i64 0, .int .i64 27] g4 (Nat.le_of_ble_eq_true rfl) rfl (fun σ2 e2 => ?_)
                subst e2
                refine Load.mk' put_box (Nat.le_of_ble_eq_true rfl) ?_
                refine Ret.weak (.refl _) (over_put o1 h4) ⟨rfl, ?_⟩
                rw [hbad (.inr (.inr ⟨d, hd, hL⟩))]; rfl
              | false =>
                have hnl : ∀ e, l[j]? = some e → isLetter e = false := fun e he => by rw [hd] at he; injection he with he; rw [← he]; exact hL
                refine ⟨fun m sl σ3 => σ3 = σ' ∧ ∃ i : Nat, sl = ofL [(0, some (.str l)), (1, some (.int .i64 k)), (4, some (.loc b4 0)), (5, some (.int .i64 j)), (6, some (.int .i64 (digitsVal ((l.take i).drop k)))), (7, some (.int .i64 i))] ∧ k ≤ i ∧ i ≤ j ∧ m = j - i, _, ⟨rfl, k, by rw [show (l.take k).drop k = [] from by simp]; rfl, by omega, by omega, rfl⟩, ?_⟩
                rintro m sl σ3 ⟨rfl, i, rfl, hki, hij, rfl⟩
                refine Test.split (fun h6 => ?_) (fun h6 => ?_)
                · obtain ⟨c, hc⟩ := get_some (l := l) (j := i) (by omega)
                  have hall : ((l.take i).drop k).all isDigit = true := hpre i hki hij
                  have hcd : isDigit c = true := hdig i c hki (by omega) hc
                  have hcd' : 48 ≤ c.toNat ∧ c.toNat ≤ 57 := by simpa [isDigit] using hcd
                  have hb := digitsVal_bound ((l.take i).drop k) 0 hall
                  have hl2 : ((l.take i).drop k).length ≤ 15 := by simp; omega
                  have hp : 10 ^ ((l.take i).drop k).length ≤ 10 ^ 15 := Nat.pow_le_pow_right (by omega) hl2
                  have hb2 : digitsVal ((l.take i).drop k) < 10 ^ 15 := by
                    have : digitsVal ((l.take i).drop k) < (0 + 1) * 10 ^ ((l.take i).drop k).length := hb
                    omega
                  refine Arith.i64 (10 * (digitsVal ((l.take i).drop k) : Int)) rfl (by omega) ?_
                  refine Idx.mk' i c rfl hc ?_
                  refine Arith.u8 ((c.toNat - 48 : Nat) : Int) (by omega) (by omega) ?_
                  refine Arith.i64 ((c.toNat - 48 : Nat) : Int) rfl (by omega) ?_
                  refine Arith.i64 ((digitsVal ((l.take (i + 1)).drop k) : Nat) : Int) (by rw [slice_snoc hki hc, digitsVal_snoc]; omega) (by rw [slice_snoc hki hc, digitsVal_snoc]; omega) ?_
                  refine Arith.i64 ((i + 1 : Nat) : Int) (by simp) (by omega) ?_
                  exact ⟨_, _, by omega, Forget.refl _, rfl, i + 1, rfl, by omega, by omega, rfl⟩
                · have hij2 : i = j := by omega
                  subst hij2
                  refine Sure.mk' rfl ?_
                  refine Store.mk' [.int .i64 2, .int .i64 k, .str [], .int .i64 (digitsVal ((l.take i).drop k)), .int .i64 i, .int .i64 0] g4 (Nat.le_of_ble_eq_true rfl) rfl (fun σ2 e2 => ?_)
                  subst e2
                  refine Load.mk' put_box (Nat.le_of_ble_eq_true rfl) ?_
                  refine Ret.weak (.refl _) (over_put o1 h4) ⟨rfl, ?_⟩
                  rw [hgood (by omega) h1z hnl]; rfl
            · have hnl : ∀ e, l[j]? = some e → isLetter e = false := fun e he => by have := (List.getElem?_eq_some_iff.1 he).1; omega
              refine ⟨fun m sl σ3 => σ3 = σ' ∧ ∃ i : Nat, sl = ofL [(0, some (.str l)), (1, some (.int .i64 k)), (4, some (.loc b4 0)), (5, some (.int .i64 j)), (6, some (.int .i64 (digitsVal ((l.take i).drop k)))), (7, some (.int .i64 i))] ∧ k ≤ i ∧ i ≤ j ∧ m = j - i, _, ⟨rfl, k, by rw [show (l.take k).drop k = [] from by simp]; rfl, by omega, by omega, rfl⟩, ?_⟩
              rintro m sl σ3 ⟨rfl, i, rfl, hki, hij, rfl⟩
              refine Test.split (fun h6 => ?_) (fun h6 => ?_)
              · obtain ⟨c, hc⟩ := get_some (l := l) (j := i) (by omega)
                have hall : ((l.take i).drop k).all isDigit = true := hpre i hki hij
                have hcd : isDigit c = true := hdig i c hki (by omega) hc
                have hcd' : 48 ≤ c.toNat ∧ c.toNat ≤ 57 := by simpa [isDigit] using hcd
                have hb := digitsVal_bound ((l.take i).drop k) 0 hall
                have hl2 : ((l.take i).drop k).length ≤ 15 := by simp; omega
                have hp : 10 ^ ((l.take i).drop k).length ≤ 10 ^ 15 := Nat.pow_le_pow_right (by omega) hl2
                have hb2 : digitsVal ((l.take i).drop k) < 10 ^ 15 := by
                  have : digitsVal ((l.take i).drop k) < (0 + 1) * 10 ^ ((l.take i).drop k).length := hb
                  omega
                refine Arith.i64 (10 * (digitsVal ((l.take i).drop k) : Int)) rfl (by omega) ?_
                refine Idx.mk' i c rfl hc ?_
                refine Arith.u8 ((c.toNat - 48 : Nat) : Int) (by omega) (by omega) ?_
                refine Arith.i64 ((c.toNat - 48 : Nat) : Int) rfl (by omega) ?_
                refine Arith.i64 ((digitsVal ((l.take (i + 1)).drop k) : Nat) : Int) (by rw [slice_snoc hki hc, digitsVal_snoc]; omega) (by rw [slice_snoc hki hc, digitsVal_snoc]; omega) ?_
                refine Arith.i64 ((i + 1 : Nat) : Int) (by simp) (by omega) ?_
                exact ⟨_, _, by omega, Forget.refl _, rfl, i + 1, rfl, by omega, by omega, rfl⟩
              · have hij2 : i = j := by omega
                subst hij2
                refine Sure.mk' rfl ?_
                refine Store.mk' [.int .i64 2, .int .i64 k, .str [], .int .i64 (digitsVal ((l.take i).drop k)), .int .i64 i, .int .i64 0] g4 (Nat.le_of_ble_eq_true rfl) rfl (fun σ2 e2 => ?_)
                subst e2
                refine Load.mk' put_box (Nat.le_of_ble_eq_true rfl) ?_
                refine Ret.weak (.refl _) (over_put o1 h4) ⟨rfl, ?_⟩
                rw [hgood (by omega) h1z hnl]; rfl
        · have h1z : ¬ (1 < j - k ∧ c0.toNat = 48) := by omega
          refine Test.split (fun h12 => ?_) (fun h12 => ?_)
          · obtain ⟨d, hd⟩ := get_some (l := l) (j := j) (by omega)
            refine Idx.mk' j d rfl hd ?_
            refine CallK.pure (letter_ret d) ?_
            cases hL : isLetter d with
            | true =>
              refine Sure.mk' rfl ?_
              refine Store.mk' [.int .i64 0, .int .i64 0, .str [], .int .i64 0, .int .i64 0, .int .i64 27] g4 (Nat.le_of_ble_eq_true rfl) rfl (fun σ2 e2 => ?_)
              subst e2
              refine Load.mk' put_box (Nat.le_of_ble_eq_true rfl) ?_
              refine Ret.weak (.refl _) (over_put o1 h4) ⟨rfl, ?_⟩
              rw [hbad (.inr (.inr ⟨d, hd, hL⟩))]; rfl
            | false =>
              have hnl : ∀ e, l[j]? = some e → isLetter e = false := fun e he => by rw [hd] at he; injection he with he; rw [← he]; exact hL
              refine ⟨fun m sl σ3 => σ3 = σ' ∧ ∃ i : Nat, sl = ofL [(0, some (.str l)), (1, some (.int .i64 k)), (4, some (.loc b4 0)), (5, some (.int .i64 j)), (6, some (.int .i64 (digitsVal ((l.take i).drop k)))), (7, some (.int .i64 i))] ∧ k ≤ i ∧ i ≤ j ∧ m = j - i, _, ⟨rfl, k, by rw [show (l.take k).drop k = [] from by simp]; rfl, by omega, by omega, rfl⟩, ?_⟩
              rintro m sl σ3 ⟨rfl, i, rfl, hki, hij, rfl⟩
              refine Test.split (fun h6 => ?_) (fun h6 => ?_)
              · obtain ⟨c, hc⟩ := get_some (l := l) (j := i) (by omega)
                have hall : ((l.take i).drop k).all isDigit = true := hpre i hki hij
                have hcd : isDigit c = true := hdig i c hki (by omega) hc
                have hcd' : 48 ≤ c.toNat ∧ c.toNat ≤ 57 := by simpa [isDigit] using hcd
                have hb := digitsVal_bound ((l.take i).drop k) 0 hall
                have hl2 : ((l.take i).drop k).length ≤ 15 := by simp; omega
                have hp : 10 ^ ((l.take i).drop k).length ≤ 10 ^ 15 := Nat.pow_le_pow_right (by omega) hl2
                have hb2 : digitsVal ((l.take i).drop k) < 10 ^ 15 := by
                  have : digitsVal ((l.take i).drop k) < (0 + 1) * 10 ^ ((l.take i).drop k).length := hb
                  omega
                refine Arith.i64 (10 * (digitsVal ((l.take i).drop k) : Int)) rfl (by omega) ?_
                refine Idx.mk' i c rfl hc ?_
                refine Arith.u8 ((c.toNat - 48 : Nat) : Int) (by omega) (by omega) ?_
                refine Arith.i64 ((c.toNat - 48 : Nat) : Int) rfl (by omega) ?_
                refine Arith.i64 ((digitsVal ((l.take (i + 1)).drop k) : Nat) : Int) (by rw [slice_snoc hki hc, digitsVal_snoc]; omega) (by rw [slice_snoc hki hc, digitsVal_snoc]; omega) ?_
                refine Arith.i64 ((i + 1 : Nat) : Int) (by simp) (by omega) ?_
                exact ⟨_, _, by omega, Forget.refl _, rfl, i + 1, rfl, by omega, by omega, rfl⟩
              · have hij2 : i = j := by omega
                subst hij2
                refine Sure.mk' rfl ?_
                refine Store.mk' [.int .i64 2, .int .i64 k, .str [], .int .i64 (digitsVal ((l.take i).drop k)), .int .i64 i, .int .i64 0] g4 (Nat.le_of_ble_eq_true rfl) rfl (fun σ2 e2 => ?_)
                subst e2
                refine Load.mk' put_box (Nat.le_of_ble_eq_true rfl) ?_
                refine Ret.weak (.refl _) (over_put o1 h4) ⟨rfl, ?_⟩
                rw [hgood (by omega) h1z hnl]; rfl
          · have hnl : ∀ e, l[j]? = some e → isLetter e = false := fun e he => by have := (List.getElem?_eq_some_iff.1 he).1; omega
            refine ⟨fun m sl σ3 => σ3 = σ' ∧ ∃ i : Nat, sl = ofL [(0, some (.str l)), (1, some (.int .i64 k)), (4, some (.loc b4 0)), (5, some (.int .i64 j)), (6, some (.int .i64 (digitsVal ((l.take i).drop k)))), (7, some (.int .i64 i))] ∧ k ≤ i ∧ i ≤ j ∧ m = j - i, _, ⟨rfl, k, by rw [show (l.take k).drop k = [] from by simp]; rfl, by omega, by omega, rfl⟩, ?_⟩
            rintro m sl σ3 ⟨rfl, i, rfl, hki, hij, rfl⟩
            refine Test.split (fun h6 => ?_) (fun h6 => ?_)
            · obtain ⟨c, hc⟩ := get_some (l := l) (j := i) (by omega)
              have hall : ((l.take i).drop k).all isDigit = true := hpre i hki hij
              have hcd : isDigit c = true := hdig i c hki (by omega) hc
              have hcd' : 48 ≤ c.toNat ∧ c.toNat ≤ 57 := by simpa [isDigit] using hcd
              have hb := digitsVal_bound ((l.take i).drop k) 0 hall
              have hl2 : ((l.take i).drop k).length ≤ 15 := by simp; omega
              have hp : 10 ^ ((l.take i).drop k).length ≤ 10 ^ 15 := Nat.pow_le_pow_right (by omega) hl2
              have hb2 : digitsVal ((l.take i).drop k) < 10 ^ 15 := by
                have : digitsVal ((l.take i).drop k) < (0 + 1) * 10 ^ ((l.take i).drop k).length := hb
                omega
              refine Arith.i64 (10 * (digitsVal ((l.take i).drop k) : Int)) rfl (by omega) ?_
              refine Idx.mk' i c rfl hc ?_
              refine Arith.u8 ((c.toNat - 48 : Nat) : Int) (by omega) (by omega) ?_
              refine Arith.i64 ((c.toNat - 48 : Nat) : Int) rfl (by omega) ?_
              refine Arith.i64 ((digitsVal ((l.take (i + 1)).drop k) : Nat) : Int) (by rw [slice_snoc hki hc, digitsVal_snoc]; omega) (by rw [slice_snoc hki hc, digitsVal_snoc]; omega) ?_
              refine Arith.i64 ((i + 1 : Nat) : Int) (by simp) (by omega) ?_
              exact ⟨_, _, by omega, Forget.refl _, rfl, i + 1, rfl, by omega, by omega, rfl⟩
            · have hij2 : i = j := by omega
              subst hij2
              refine Sure.mk' rfl ?_
              refine Store.mk' [.int .i64 2, .int .i64 k, .str [], .int .i64 (digitsVal ((l.take i).drop k)), .int .i64 i, .int .i64 0] g4 (Nat.le_of_ble_eq_true rfl) rfl (fun σ2 e2 => ?_)
              subst e2
              refine Load.mk' put_box (Nat.le_of_ble_eq_true rfl) ?_
              refine Ret.weak (.refl _) (over_put o1 h4) ⟨rfl, ?_⟩
              rw [hgood (by omega) h1z hnl]; rfl
  · have hjk : spanTo isDigit l k = j := by rw [← hsp, spanTo_end (by omega)]
    rw [hjk] at h1 h2 hbad hgood hdig hpre
    refine Arith.i64 ((j - k : Nat) : Int) (by omega) (by omega) ?_
    refine Test.split (fun h9 => ?_) (fun h9 => ?_)
    · refine Sure.mk' rfl ?_
      refine Store.mk' [.int .i64 0, .int .i64 0, .str [], .int .i64 0, .int .i64 0, .int .i64 27] g4 (Nat.le_of_ble_eq_true rfl) rfl (fun σ2 e2 => ?_)
      subst e2
      refine Load.mk' put_box (Nat.le_of_ble_eq_true rfl) ?_
      refine Ret.weak (.refl _) (over_put o1 h4) ⟨rfl, ?_⟩
      rw [hbad (.inl (by omega))]; rfl
    · refine Arith.i64 ((j - k : Nat) : Int) (by omega) (by omega) ?_
      refine Test.split (fun h10 => ?_) (fun h10 => ?_)
      · refine Idx.mk' k c0 rfl hc0 ?_
        refine Test.split (fun h11 => ?_) (fun h11 => ?_)
        · refine Sure.mk' rfl ?_
          refine Store.mk' [.int .i64 0, .int .i64 0, .str [], .int .i64 0, .int .i64 0, .int .i64 27] g4 (Nat.le_of_ble_eq_true rfl) rfl (fun σ2 e2 => ?_)
          subst e2
          refine Load.mk' put_box (Nat.le_of_ble_eq_true rfl) ?_
          refine Ret.weak (.refl _) (over_put o1 h4) ⟨rfl, ?_⟩
          rw [hbad (.inr (.inl ⟨by omega, by omega⟩))]; rfl
        · have h1z : ¬ (1 < j - k ∧ c0.toNat = 48) := by omega
          refine Test.split (fun h12 => ?_) (fun h12 => ?_)
          · obtain ⟨d, hd⟩ := get_some (l := l) (j := j) (by omega)
            refine Idx.mk' j d rfl hd ?_
            refine CallK.pure (letter_ret d) ?_
            cases hL : isLetter d with
            | true =>
              refine Sure.mk' rfl ?_
              refine Store.mk' [.int .i64 0, .int .i64 0, .str [], .int .i64 0, .int .i64 0, .int .i64 27] g4 (Nat.le_of_ble_eq_true rfl) rfl (fun σ2 e2 => ?_)
              subst e2
              refine Load.mk' put_box (Nat.le_of_ble_eq_true rfl) ?_
              refine Ret.weak (.refl _) (over_put o1 h4) ⟨rfl, ?_⟩
              rw [hbad (.inr (.inr ⟨d, hd, hL⟩))]; rfl
            | false =>
              have hnl : ∀ e, l[j]? = some e → isLetter e = false := fun e he => by rw [hd] at he; injection he with he; rw [← he]; exact hL
              refine ⟨fun m sl σ3 => σ3 = σ' ∧ ∃ i : Nat, sl = ofL [(0, some (.str l)), (1, some (.int .i64 k)), (4, some (.loc b4 0)), (5, some (.int .i64 j)), (6, some (.int .i64 (digitsVal ((l.take i).drop k)))), (7, some (.int .i64 i))] ∧ k ≤ i ∧ i ≤ j ∧ m = j - i, _, ⟨rfl, k, by rw [show (l.take k).drop k = [] from by simp]; rfl, by omega, by omega, rfl⟩, ?_⟩
              rintro m sl σ3 ⟨rfl, i, rfl, hki, hij, rfl⟩
              refine Test.split (fun h6 => ?_) (fun h6 => ?_)
              · obtain ⟨c, hc⟩ := get_some (l := l) (j := i) (by omega)
                have hall : ((l.take i).drop k).all isDigit = true := hpre i hki hij
                have hcd : isDigit c = true := hdig i c hki (by omega) hc
                have hcd' : 48 ≤ c.toNat ∧ c.toNat ≤ 57 := by simpa [isDigit] using hcd
                have hb := digitsVal_bound ((l.take i).drop k) 0 hall
                have hl2 : ((l.take i).drop k).length ≤ 15 := by simp; omega
                have hp : 10 ^ ((l.take i).drop k).length ≤ 10 ^ 15 := Nat.pow_le_pow_right (by omega) hl2
                have hb2 : digitsVal ((l.take i).drop k) < 10 ^ 15 := by
                  have : digitsVal ((l.take i).drop k) < (0 + 1) * 10 ^ ((l.take i).drop k).length := hb
                  omega
                refine Arith.i64 (10 * (digitsVal ((l.take i).drop k) : Int)) rfl (by omega) ?_
                refine Idx.mk' i c rfl hc ?_
                refine Arith.u8 ((c.toNat - 48 : Nat) : Int) (by omega) (by omega) ?_
                refine Arith.i64 ((c.toNat - 48 : Nat) : Int) rfl (by omega) ?_
                refine Arith.i64 ((digitsVal ((l.take (i + 1)).drop k) : Nat) : Int) (by rw [slice_snoc hki hc, digitsVal_snoc]; omega) (by rw [slice_snoc hki hc, digitsVal_snoc]; omega) ?_
                refine Arith.i64 ((i + 1 : Nat) : Int) (by simp) (by omega) ?_
                exact ⟨_, _, by omega, Forget.refl _, rfl, i + 1, rfl, by omega, by omega, rfl⟩
              · have hij2 : i = j := by omega
                subst hij2
                refine Sure.mk' rfl ?_
                refine Store.mk' [.int .i64 2, .int .i64 k, .str [], .int .i64 (digitsVal ((l.take i).drop k)), .int .i64 i, .int .i64 0] g4 (Nat.le_of_ble_eq_true rfl) rfl (fun σ2 e2 => ?_)
                subst e2
                refine Load.mk' put_box (Nat.le_of_ble_eq_true rfl) ?_
                refine Ret.weak (.refl _) (over_put o1 h4) ⟨rfl, ?_⟩
                rw [hgood (by omega) h1z hnl]; rfl
          · have hnl : ∀ e, l[j]? = some e → isLetter e = false := fun e he => by have := (List.getElem?_eq_some_iff.1 he).1; omega
            refine ⟨fun m sl σ3 => σ3 = σ' ∧ ∃ i : Nat, sl = ofL [(0, some (.str l)), (1, some (.int .i64 k)), (4, some (.loc b4 0)), (5, some (.int .i64 j)), (6, some (.int .i64 (digitsVal ((l.take i).drop k)))), (7, some (.int .i64 i))] ∧ k ≤ i ∧ i ≤ j ∧ m = j - i, _, ⟨rfl, k, by rw [show (l.take k).drop k = [] from by simp]; rfl, by omega, by omega, rfl⟩, ?_⟩
            rintro m sl σ3 ⟨rfl, i, rfl, hki, hij, rfl⟩
            refine Test.split (fun h6 => ?_) (fun h6 => ?_)
            · obtain ⟨c, hc⟩ := get_some (l := l) (j := i) (by omega)
              have hall : ((l.take i).drop k).all isDigit = true := hpre i hki hij
              have hcd : isDigit c = true := hdig i c hki (by omega) hc
              have hcd' : 48 ≤ c.toNat ∧ c.toNat ≤ 57 := by simpa [isDigit] using hcd
              have hb := digitsVal_bound ((l.take i).drop k) 0 hall
              have hl2 : ((l.take i).drop k).length ≤ 15 := by simp; omega
              have hp : 10 ^ ((l.take i).drop k).length ≤ 10 ^ 15 := Nat.pow_le_pow_right (by omega) hl2
              have hb2 : digitsVal ((l.take i).drop k) < 10 ^ 15 := by
                have : digitsVal ((l.take i).drop k) < (0 + 1) * 10 ^ ((l.take i).drop k).length := hb
                omega
              refine Arith.i64 (10 * (digitsVal ((l.take i).drop k) : Int)) rfl (by omega) ?_
              refine Idx.mk' i c rfl hc ?_
              refine Arith.u8 ((c.toNat - 48 : Nat) : Int) (by omega) (by omega) ?_
              refine Arith.i64 ((c.toNat - 48 : Nat) : Int) rfl (by omega) ?_
              refine Arith.i64 ((digitsVal ((l.take (i + 1)).drop k) : Nat) : Int) (by rw [slice_snoc hki hc, digitsVal_snoc]; omega) (by rw [slice_snoc hki hc, digitsVal_snoc]; omega) ?_
              refine Arith.i64 ((i + 1 : Nat) : Int) (by simp) (by omega) ?_
              exact ⟨_, _, by omega, Forget.refl _, rfl, i + 1, rfl, by omega, by omega, rfl⟩
            · have hij2 : i = j := by omega
              subst hij2
              refine Sure.mk' rfl ?_
              refine Store.mk' [.int .i64 2, .int .i64 k, .str [], .int .i64 (digitsVal ((l.take i).drop k)), .int .i64 i, .int .i64 0] g4 (Nat.le_of_ble_eq_true rfl) rfl (fun σ2 e2 => ?_)
              subst e2
              refine Load.mk' put_box (Nat.le_of_ble_eq_true rfl) ?_
              refine Ret.weak (.refl _) (over_put o1 h4) ⟨rfl, ?_⟩
              rw [hgood (by omega) h1z hnl]; rfl
      · have h1z : ¬ (1 < j - k ∧ c0.toNat = 48) := by omega
        refine Test.split (fun h12 => ?_) (fun h12 => ?_)
        · obtain ⟨d, hd⟩ := get_some (l := l) (j := j) (by omega)
          refine Idx.mk' j d rfl hd ?_
          refine CallK.pure (letter_ret d) ?_
          cases hL : isLetter d with
          | true =>
            refine Sure.mk' rfl ?_
            refine Store.mk' [.int .i64 0, .int .i64 0, .str [], .int .i64 0, .int .i64 0, .int .i64 27] g4 (Nat.le_of_ble_eq_true rfl) rfl (fun σ2 e2 => ?_)
            subst e2
            refine Load.mk' put_box (Nat.le_of_ble_eq_true rfl) ?_
            refine Ret.weak (.refl _) (over_put o1 h4) ⟨rfl, ?_⟩
            rw [hbad (.inr (.inr ⟨d, hd, hL⟩))]; rfl
          | false =>
            have hnl : ∀ e, l[j]? = some e → isLetter e = false := fun e he => by rw [hd] at he; injection he with he; rw [← he]; exact hL
            refine ⟨fun m sl σ3 => σ3 = σ' ∧ ∃ i : Nat, sl = ofL [(0, some (.str l)), (1, some (.int .i64 k)), (4, some (.loc b4 0)), (5, some (.int .i64 j)), (6, some (.int .i64 (digitsVal ((l.take i).drop k)))), (7, some (.int .i64 i))] ∧ k ≤ i ∧ i ≤ j ∧ m = j - i, _, ⟨rfl, k, by rw [show (l.take k).drop k = [] from by simp]; rfl, by omega, by omega, rfl⟩, ?_⟩
            rintro m sl σ3 ⟨rfl, i, rfl, hki, hij, rfl⟩
            refine Test.split (fun h6 => ?_) (fun h6 => ?_)
            · obtain ⟨c, hc⟩ := get_some (l := l) (j := i) (by omega)
              have hall : ((l.take i).drop k).all isDigit = true := hpre i hki hij
              have hcd : isDigit c = true := hdig i c hki (by omega) hc
              have hcd' : 48 ≤ c.toNat ∧ c.toNat ≤ 57 := by simpa [isDigit] using hcd
              have hb := digitsVal_bound ((l.take i).drop k) 0 hall
              have hl2 : ((l.take i).drop k).length ≤ 15 := by simp; omega
              have hp : 10 ^ ((l.take i).drop k).length ≤ 10 ^ 15 := Nat.pow_le_pow_right (by omega) hl2
              have hb2 : digitsVal ((l.take i).drop k) < 10 ^ 15 := by
                have : digitsVal ((l.take i).drop k) < (0 + 1) * 10 ^ ((l.take i).drop k).length := hb
                omega
              refine Arith.i64 (10 * (digitsVal ((l.take i).drop k) : Int)) rfl (by omega) ?_
              refine Idx.mk' i c rfl hc ?_
              refine Arith.u8 ((c.toNat - 48 : Nat) : Int) (by omega) (by omega) ?_
              refine Arith.i64 ((c.toNat - 48 : Nat) : Int) rfl (by omega) ?_
              refine Arith.i64 ((digitsVal ((l.take (i + 1)).drop k) : Nat) : Int) (by rw [slice_snoc hki hc, digitsVal_snoc]; omega) (by rw [slice_snoc hki hc, digitsVal_snoc]; omega) ?_
              refine Arith.i64 ((i + 1 : Nat) : Int) (by simp) (by omega) ?_
              exact ⟨_, _, by omega, Forget.refl _, rfl, i + 1, rfl, by omega, by omega, rfl⟩
            · have hij2 : i = j := by omega
              subst hij2
              refine Sure.mk' rfl ?_
              refine Store.mk' [.int .i64 2, .int .i64 k, .str [], .int .i64 (digitsVal ((l.take i).drop k)), .int .i64 i, .int .i64 0] g4 (Nat.le_of_ble_eq_true rfl) rfl (fun σ2 e2 => ?_)
              subst e2
              refine Load.mk' put_box (Nat.le_of_ble_eq_true rfl) ?_
              refine Ret.weak (.refl _) (over_put o1 h4) ⟨rfl, ?_⟩
              rw [hgood (by omega) h1z hnl]; rfl
        · have hnl : ∀ e, l[j]? = some e → isLetter e = false := fun e he => by have := (List.getElem?_eq_some_iff.1 he).1; omega
          refine ⟨fun m sl σ3 => σ3 = σ' ∧ ∃ i : Nat, sl = ofL [(0, some (.str l)), (1, some (.int .i64 k)), (4, some (.loc b4 0)), (5, some (.int .i64 j)), (6, some (.int .i64 (digitsVal ((l.take i).drop k)))), (7, some (.int .i64 i))] ∧ k ≤ i ∧ i ≤ j ∧ m = j - i, _, ⟨rfl, k, by rw [show (l.take k).drop k = [] from by simp]; rfl, by omega, by omega, rfl⟩, ?_⟩
          rintro m sl σ3 ⟨rfl, i, rfl, hki, hij, rfl⟩
          refine Test.split (fun h6 => ?_) (fun h6 => ?_)
          · obtain ⟨c, hc⟩ := get_some (l := l) (j := i) (by omega)
            have hall : ((l.take i).drop k).all isDigit = true := hpre i hki hij
            have hcd : isDigit c = true := hdig i c hki (by omega) hc
            have hcd' : 48 ≤ c.toNat ∧ c.toNat ≤ 57 := by simpa [isDigit] using hcd
            have hb := digitsVal_bound ((l.take i).drop k) 0 hall
            have hl2 : ((l.take i).drop k).length ≤ 15 := by simp; omega
            have hp : 10 ^ ((l.take i).drop k).length ≤ 10 ^ 15 := Nat.pow_le_pow_right (by omega) hl2
            have hb2 : digitsVal ((l.take i).drop k) < 10 ^ 15 := by
              have : digitsVal ((l.take i).drop k) < (0 + 1) * 10 ^ ((l.take i).drop k).length := hb
              omega
            refine Arith.i64 (10 * (digitsVal ((l.take i).drop k) : Int)) rfl (by omega) ?_
            refine Idx.mk' i c rfl hc ?_
            refine Arith.u8 ((c.toNat - 48 : Nat) : Int) (by omega) (by omega) ?_
            refine Arith.i64 ((c.toNat - 48 : Nat) : Int) rfl (by omega) ?_
            refine Arith.i64 ((digitsVal ((l.take (i + 1)).drop k) : Nat) : Int) (by rw [slice_snoc hki hc, digitsVal_snoc]; omega) (by rw [slice_snoc hki hc, digitsVal_snoc]; omega) ?_
            refine Arith.i64 ((i + 1 : Nat) : Int) (by simp) (by omega) ?_
            exact ⟨_, _, by omega, Forget.refl _, rfl, i + 1, rfl, by omega, by omega, rfl⟩
          · have hij2 : i = j := by omega
            subst hij2
            refine Sure.mk' rfl ?_
            refine Store.mk' [.int .i64 2, .int .i64 k, .str [], .int .i64 (digitsVal ((l.take i).drop k)), .int .i64 i, .int .i64 0] g4 (Nat.le_of_ble_eq_true rfl) rfl (fun σ2 e2 => ?_)
            subst e2
            refine Load.mk' put_box (Nat.le_of_ble_eq_true rfl) ?_
            refine Ret.weak (.refl _) (over_put o1 h4) ⟨rfl, ?_⟩
            rw [hgood (by omega) h1z hnl]; rfl
end Go.Shadow.Lex

/- The specification's text, Sign and token, as shadow contracts. Conditions: sources of at most 70000 bytes. -/
namespace Go.Shadow.Lex
open Go Go.RowKit Go.Proofs

theorem esc_pos {d e : UInt8} (h : esc d = some e) : e.toNat ≠ 0 := by
  unfold esc at h
  repeat' split at h
  all_goals first | (injection h with h; subst h; decide) | cases h

set_option maxHeartbeats 4000000 in
theorem refText_ret (l : List UInt8) (k : Nat) (hl : l.length ≤ 70000) (hk : k < l.length) :
    SRet Tryz.prog LG 82 [.str l, .int .i64 k] (oneV (match textScan (l.drop (k + 1)) [] with
      | .inl e => .inl e
      | .inr (s, left) => .inr (⟨3, k, s, 0⟩, l.length - left))) := by
  intro σ
  refine code82.call hm (by simp) ?_
  intro b4 h4
  obtain ⟨o1, g4⟩ := new_box h4 [.int .i64 0, .int .i64 0, .str [], .int .i64 0, .int .i64 0, .int .i64 0]
  generalize σ.put b4 [.int .i64 0, .int .i64 0, .str [], .int .i64 0, .int .i64 0, .int .i64 0] = σ1 at *
  refine Arith.i64 ((k + 1 : Nat) : Int) (by simp) (by omega) ?_
  refine ⟨fun m sl σ' => ∃ (j : Nat) (bs : List UInt8) (tag' : Tag) (z : Nat), sl = ofL [(0, some (.str l)), (1, some (.int .i64 k)), (4, some (.loc b4 0)), (5, some (.slice tag' z (byteEls bs))), (6, some (.int .i64 j))] ∧
    Over σ1 σ' ∧ Mine σ1 σ' tag' ∧ (tag' = .nil ∨ z = 1) ∧ (tag' = .nil → bs = []) ∧ j ≤ l.length ∧ bs.length ≤ j ∧ textScan (l.drop j) bs = textScan (l.drop (k + 1)) [] ∧ m = l.length - j, _,
    ⟨k + 1, [], .nil, 0, rfl, .refl _, trivial, .inl rfl, fun _ => rfl, by omega, by simp, rfl, rfl⟩, ?_⟩
  rintro m sl σ' ⟨j, bs, tag', z, rfl, ho', hm2, hz, hz2, hj, hbs, hsc, rfl⟩
  have g4' := ho'.box b4 _ g4
  have hlen : (byteEls bs).length = bs.length := by simp [byteEls]
  rw [← hsc]
  refine Test.split (fun h1 => ?_) (fun h1 => ?_)
  · obtain ⟨c, hc⟩ := get_some (l := l) (j := j) (by omega)
    rw [drop_cons hc, textScan_cons]
    refine Test.split (fun h2 => ?_) (fun h2 => ?_)
    · rw [hlen] at h2
      refine Sure.mk' rfl ?_
      refine Store.mk' [.int .i64 0, .int .i64 0, .str [], .int .i64 0, .int .i64 0, .int .i64 2] g4' (Nat.le_of_ble_eq_true rfl) rfl (fun σ2 e2 => ?_)
      subst e2
      refine Load.mk' put_box (Nat.le_of_ble_eq_true rfl) ?_
      refine Ret.weak (.refl _) (over_put (over_trans o1 ho') h4) ⟨rfl, ?_⟩
      rw [if_pos (show 200 < bs.length by omega)]; rfl
    · rw [hlen] at h2
      rw [if_neg (show ¬ 200 < bs.length by omega)]
      refine Idx.mk' j c rfl hc ?_
      refine Test.split (fun h3 => ?_) (fun h3 => ?_)
      · refine Sure.mk' (hz.elim (fun h => .inr (by rw [hz2 h]; rfl)) .inl) ?_
        refine B2S.mk' ?_
        refine Arith.i64 ((j + 1 : Nat) : Int) (by simp) (by omega) ?_
        refine Sure.mk' rfl ?_
        refine Store.mk' [.int .i64 3, .int .i64 k, .str bs, .int .i64 0, .int .i64 (j + 1 : Nat), .int .i64 0] g4' (Nat.le_of_ble_eq_true rfl) rfl (fun σ2 e2 => ?_)
        subst e2
        refine Load.mk' put_box (Nat.le_of_ble_eq_true rfl) ?_
        refine Ret.weak (.refl _) (over_put (over_trans o1 ho') h4) ⟨rfl, ?_⟩
        rw [if_pos (by omega)]
        simp only []
        rw [show l.length - (l.drop (j + 1)).length = j + 1 from by simp; omega]
        rfl
      · rw [if_neg (show ¬ c.toNat = 34 by omega)]
        refine Idx.mk' j c rfl hc ?_
        refine Test.split (fun h4' => ?_) (fun h4' => ?_)
        · rw [if_pos (show c.toNat = 92 by omega)]
          refine Arith.i64 ((j + 1 : Nat) : Int) (by simp) (by omega) ?_
          refine Test.split (fun h5 => ?_) (fun h5 => ?_)
          · obtain ⟨d, hd⟩ := get_some (l := l) (j := j + 1) (by omega)
            rw [drop_cons hd]
            refine Arith.i64 ((j + 1 : Nat) : Int) (by simp) (by omega) ?_
            refine Idx.mk' (j + 1) d rfl hd ?_
            refine CallK.pure (pair_ret d) ?_
            cases he : esc d with
            | none =>
              rw [show pairV d = 0 from by unfold pairV; rw [he]]
              refine Test.no (by omega) ?_
              refine Idx.mk' j c rfl hc ?_
              refine Test.yes (by omega) ?_
              refine Sure.mk' rfl ?_
              refine Store.mk' [.int .i64 0, .int .i64 0, .str [], .int .i64 0, .int .i64 0, .int .i64 28] g4' (Nat.le_of_ble_eq_true rfl) rfl (fun σ2 e2 => ?_)
              subst e2
              refine Load.mk' put_box (Nat.le_of_ble_eq_true rfl) ?_
              refine Ret.weak (.refl _) (over_put (over_trans o1 ho') h4) ⟨rfl, ?_⟩
              first | rfl | (simp only [he]; rfl)
            | some e =>
              have hpv : pairV d = e.toNat := by unfold pairV; rw [he]
              rw [hpv]
              refine Test.yes (by have := esc_pos he; omega) ?_
              refine Arith.i64 ((j + 1 : Nat) : Int) (by simp) (by omega) ?_
              refine Idx.mk' (j + 1) d rfl hd ?_
              refine CallK.pure (pair_ret d) ?_
              rw [hpv]
              refine App.mk' ho' hm2 hz rfl (by simp [hlen]; omega) (by simp [hlen]; omega) (by simp) (fun t' σ2 ho2 hm3 _ _ => ?_)
              refine Arith.i64 ((j + 2 : Nat) : Int) (by omega) (by omega) ?_
              refine ⟨_, _, ?_, Forget.refl _, j + 2, bs ++ [e], .tip t', 1, by rw [byteEls_snoc]; rfl, ho2, hm3, .inr rfl, fun h => (by cases h), by omega, by simp; omega, by simp only [he], rfl⟩
              omega
          · rw [List.drop_eq_nil_of_le (show l.length ≤ j + 1 by omega)]
            refine Idx.mk' j c rfl hc ?_
            refine Test.yes (by omega) ?_
            refine Sure.mk' rfl ?_
            refine Store.mk' [.int .i64 0, .int .i64 0, .str [], .int .i64 0, .int .i64 0, .int .i64 28] g4' (Nat.le_of_ble_eq_true rfl) rfl (fun σ2 e2 => ?_)
            subst e2
            refine Load.mk' put_box (Nat.le_of_ble_eq_true rfl) ?_
            refine Ret.weak (.refl _) (over_put (over_trans o1 ho') h4) ⟨rfl, ?_⟩
            first | rfl | (simp only [he]; rfl)
        · rw [if_neg (show ¬ c.toNat = 92 by omega)]
          refine Idx.mk' j c rfl hc ?_
          refine Test.no (by omega) ?_
          refine Idx.mk' j c rfl hc ?_
          refine Test.split (fun h5 => ?_) (fun h5 => ?_)
          · refine Sure.mk' rfl ?_
            refine Store.mk' [.int .i64 0, .int .i64 0, .str [], .int .i64 0, .int .i64 0, .int .i64 28] g4' (Nat.le_of_ble_eq_true rfl) rfl (fun σ2 e2 => ?_)
            subst e2
            refine Load.mk' put_box (Nat.le_of_ble_eq_true rfl) ?_
            refine Ret.weak (.refl _) (over_put (over_trans o1 ho') h4) ⟨rfl, ?_⟩
            rw [if_pos (show c.toNat < 32 ∨ 126 < c.toNat by omega)]; rfl
          · refine Idx.mk' j c rfl hc ?_
            refine Test.split (fun h6 => ?_) (fun h6 => ?_)
            · refine Sure.mk' rfl ?_
              refine Store.mk' [.int .i64 0, .int .i64 0, .str [], .int .i64 0, .int .i64 0, .int .i64 28] g4' (Nat.le_of_ble_eq_true rfl) rfl (fun σ2 e2 => ?_)
              subst e2
              refine Load.mk' put_box (Nat.le_of_ble_eq_true rfl) ?_
              refine Ret.weak (.refl _) (over_put (over_trans o1 ho') h4) ⟨rfl, ?_⟩
              rw [if_pos (show c.toNat < 32 ∨ 126 < c.toNat by omega)]; rfl
            · rw [if_neg (show ¬ (c.toNat < 32 ∨ 126 < c.toNat) by omega)]
              refine Idx.mk' j c rfl hc ?_
              refine App.mk' ho' hm2 hz rfl (by simp [hlen]; omega) (by simp [hlen]; omega) (by simp) (fun t' σ2 ho2 hm3 _ _ => ?_)
              refine Arith.i64 ((j + 1 : Nat) : Int) (by omega) (by omega) ?_
              refine ⟨_, _, ?_, Forget.refl _, j + 1, bs ++ [c], .tip t', 1, by rw [byteEls_snoc]; rfl, ho2, hm3, .inr rfl, fun h => (by cases h), by omega, by simp; omega, rfl, rfl⟩
              omega
  · rw [List.drop_eq_nil_of_le (show l.length ≤ j by omega), textScan_nil]
    refine Test.split (fun h2 => ?_) (fun h2 => ?_)
    · rw [hlen] at h2
      refine Sure.mk' rfl ?_
      refine Store.mk' [.int .i64 0, .int .i64 0, .str [], .int .i64 0, .int .i64 0, .int .i64 2] g4' (Nat.le_of_ble_eq_true rfl) rfl (fun σ2 e2 => ?_)
      subst e2
      refine Load.mk' put_box (Nat.le_of_ble_eq_true rfl) ?_
      refine Ret.weak (.refl _) (over_put (over_trans o1 ho') h4) ⟨rfl, ?_⟩
      rw [if_pos (show 200 < bs.length by omega)]; rfl
    · rw [hlen] at h2
      refine Sure.mk' rfl ?_
      refine Store.mk' [.int .i64 0, .int .i64 0, .str [], .int .i64 0, .int .i64 0, .int .i64 28] g4' (Nat.le_of_ble_eq_true rfl) rfl (fun σ2 e2 => ?_)
      subst e2
      refine Load.mk' put_box (Nat.le_of_ble_eq_true rfl) ?_
      refine Ret.weak (.refl _) (over_put (over_trans o1 ho') h4) ⟨rfl, ?_⟩
      rw [if_neg (show ¬ 200 < bs.length by omega)]; rfl

theorem has_ret (tag : Tag) (ls : List (List UInt8)) (s : List UInt8) (hl : ls.length ≤ 1000) : SRet Tryz.prog LG 103 [.slice tag 1 (strEls ls), .str s] (.bool (decide (s ∈ ls))) := by
  intro σ
  have hlen : (strEls ls).length = ls.length := by simp [strEls]
  refine code103.call hm (by simp) ?_
  refine ⟨fun m sl σ' => σ' = σ ∧ ∃ i : Nat, sl = ofL [(0, some (.slice tag 1 (strEls ls))), (1, some (.str s)), (5, some (.int .i64 i))] ∧ i ≤ ls.length ∧ s ∉ ls.take i ∧ m = ls.length - i, _, ⟨rfl, 0, rfl, by omega, by simp, rfl⟩, ?_⟩
  rintro m sl σ' ⟨rfl, i, rfl, hi, hnot, rfl⟩
  refine Test.split (fun h => ?_) (fun h => ?_)
  · rw [hlen] at h
    obtain ⟨x, hx⟩ : ∃ x, ls[i]? = some x := ⟨ls[i]'(by omega), by simp [show i < ls.length by omega]⟩
    refine Sure.mk' (.inl rfl) ?_
    refine IdxE.mk' i [.str x] rfl (by simp [strEls, hx]) ?_
    refine ⟨⟨Nat.le_of_ble_eq_true rfl, ?_⟩⟩
    refine Test.split (fun h1 => ?_) (fun h1 => ?_)
    · refine Ret.mk' ⟨rfl, ?_⟩
      subst h1
      rw [decide_eq_true (List.mem_of_getElem? hx)]
    · refine Arith.i64 ((i + 1 : Nat) : Int) (by simp) (by omega) ?_
      refine ⟨_, _, ?_, Forget.refl _, rfl, i + 1, rfl, by omega, ?_, rfl⟩
      · omega
      · rw [List.take_add_one, hx]
        simp only [Option.toList_some, List.mem_append, List.mem_singleton, not_or]
        exact ⟨hnot, fun e => h1 e.symm⟩
  · rw [hlen] at h
    refine Ret.mk' ⟨rfl, ?_⟩
    rw [List.take_of_length_le (by omega)] at hnot
    rw [decide_eq_false hnot]

theorem find_two (r : List UInt8) (h : 2 ≤ r.length) : ∀ L : List (List UInt8), (∀ p ∈ L, p.length = 2) → L.find? (·.isPrefixOf r) = if r.take 2 ∈ L then some (r.take 2) else none
  | [], _ => by simp
  | p :: L, hL => by
    have hp : p.isPrefixOf r = true ↔ p = r.take 2 := by
      rw [List.isPrefixOf_iff_prefix, List.prefix_iff_eq_take, hL p (by simp)]
    rw [List.find?_cons]
    by_cases e : p = r.take 2
    · rw [hp.2 e]; simp [e]
    · rw [show p.isPrefixOf r = false from by rw [← Bool.not_eq_true, hp]; exact e]
      simp only [find_two r h L (fun q hq => hL q (by simp [hq])), List.mem_cons, show ¬ r.take 2 = p from fun e' => e e'.symm, false_or]
theorem find_short (r : List UInt8) (h : r.length < 2) : ∀ L : List (List UInt8), (∀ p ∈ L, p.length = 2) → L.find? (·.isPrefixOf r) = none := by
  intro L hL
  rw [List.find?_eq_none]
  intro p hp h2
  have := isPrefixOf_length h2
  have := hL p hp
  omega
theorem signs2_two : ∀ p ∈ signs2, p.length = 2 := by decide
def singles : List (List UInt8) := signs1.map fun c => [c]
theorem single_mem (c : UInt8) : [c] ∈ singles ↔ c ∈ signs1 := by simp [singles]

theorem refSign_ret (r : List UInt8) (hl : r.length ≤ 70000) : SRet Tryz.prog LG 83 [.str r] (.str ((signAt r).getD [])) := by
  intro σ
  refine code83.call hm (by simp) ?_
  refine Test.split (fun h => ?_) (fun h => ?_)
  · refine CutL.mk' 2 rfl (by omega) ?_
    refine CallK.pure (has_ret .full signs2 _ (by decide)) ?_
    have hf := find_two r (by omega) signs2 signs2_two
    by_cases h2 : r.take 2 ∈ signs2
    · rw [if_pos h2] at hf
      rw [decide_eq_true h2]
      refine CutL.mk' 2 rfl (by omega) ?_
      refine Ret.mk' ⟨rfl, ?_⟩
      unfold signAt; rw [hf]; rfl
    · rw [if_neg h2] at hf
      rw [decide_eq_false h2]
      refine Test.yes (by omega) ?_
      obtain ⟨c, r', rfl⟩ : ∃ c r', r = c :: r' := by
        cases r with
        | nil => simp at h
        | cons c r' => exact ⟨c, r', rfl⟩
      refine CutL.mk' 1 rfl (by simp) ?_
      refine CallK.pure (has_ret .full singles _ (by decide)) ?_
      rw [show (c :: r').take 1 = [c] from rfl]
      by_cases hc : c ∈ signs1
      · rw [decide_eq_true ((single_mem c).2 hc)]
        refine CutL.mk' 1 rfl (by simp) ?_
        refine Ret.mk' ⟨rfl, ?_⟩
        unfold signAt; rw [hf]; simp [hc]
      · rw [decide_eq_false (fun h => hc ((single_mem c).1 h))]
        refine Ret.mk' ⟨rfl, ?_⟩
        unfold signAt; rw [hf]; simp [hc]
  · have hf := find_short r (by omega) signs2 signs2_two
    refine Test.split (fun h1 => ?_) (fun h1 => ?_)
    · obtain ⟨c, r', rfl⟩ : ∃ c r', r = c :: r' := by
        cases r with
        | nil => simp at h1
        | cons c r' => exact ⟨c, r', rfl⟩
      refine CutL.mk' 1 rfl (by simp) ?_
      refine CallK.pure (has_ret .full singles _ (by decide)) ?_
      rw [show (c :: r').take 1 = [c] from rfl]
      by_cases hc : c ∈ signs1
      · rw [decide_eq_true ((single_mem c).2 hc)]
        refine CutL.mk' 1 rfl (by simp) ?_
        refine Ret.mk' ⟨rfl, ?_⟩
        unfold signAt; rw [hf]; simp [hc]
      · rw [decide_eq_false (fun h => hc ((single_mem c).1 h))]
        refine Ret.mk' ⟨rfl, ?_⟩
        unfold signAt; rw [hf]; simp [hc]
    · refine Ret.mk' ⟨rfl, ?_⟩
      have : r = [] := List.eq_nil_of_length_eq_zero (by omega)
      subst this; rfl

theorem refToken_ret (l : List UInt8) (k : Nat) (c : UInt8) (hl : l.length ≤ 70000) (hc : l[k]? = some c) : SRet Tryz.prog LG 54 [.str l, .int .i64 k] (oneV (lexOne l k)) := by
  intro σ
  have hk : k < l.length := (List.getElem?_eq_some_iff.1 hc).1
  refine code54.call hm (by simp) ?_
  intro b4 h4
  obtain ⟨o1, g4⟩ := new_box h4 [.int .i64 0, .int .i64 0, .str [], .int .i64 0, .int .i64 0, .int .i64 0]
  generalize σ.put b4 [.int .i64 0, .int .i64 0, .str [], .int .i64 0, .int .i64 0, .int .i64 0] = σ1 at *
  have hset : ∀ x, setL [.int .i64 0, .int .i64 0, .str [], .int .i64 0, .int .i64 0, .int .i64 0] 0 (oneC x) = oneC x := by intro x; rcases x with e | ⟨t, e2⟩ <;> rfl
  have htake : ∀ x, ((oneC x).drop 0).take 6 = oneC x := by intro x; rcases x with e | ⟨t, e2⟩ <;> rfl
  refine Idx.mk' k c rfl hc ?_
  refine CallK.pure (letter_ret c) ?_
  simp only [lexOne, hc]
  cases hL : isLetter c with
  | true =>
    refine CallK.pure (refName_ret l k hl (by omega)) ?_
    refine Sure.mk' (oneC_length _) ?_
    refine Store.mk' (oneC _) g4 (by rw [show V.cells (oneV _) = oneC _ from rfl, oneC_length]; decide) (hset _) (fun σ2 e2 => ?_)
    subst e2
    refine Load.mk' put_box (by rw [oneC_length]; decide) ?_
    rw [htake]
    refine Ret.weak (.refl _) (over_put o1 h4) ⟨rfl, ?_⟩
    rfl
  | false =>
    refine Idx.mk' k c rfl hc ?_
    refine CallK.pure (digit_ret c) ?_
    cases hD : isDigit c with
    | true =>
      refine CallK.pure (refNumber_ret l k c hl hc hD) ?_
      refine Sure.mk' (oneC_length _) ?_
      refine Store.mk' (oneC _) g4 (by rw [show V.cells (oneV _) = oneC _ from rfl, oneC_length]; decide) (hset _) (fun σ2 e2 => ?_)
      subst e2
      refine Load.mk' put_box (by rw [oneC_length]; decide) ?_
      rw [htake]
      refine Ret.weak (.refl _) (over_put o1 h4) ⟨rfl, ?_⟩
      rfl
    | false =>
      refine Idx.mk' k c rfl hc ?_
      refine Test.split (fun h34 => ?_) (fun h34 => ?_)
      · refine CallK.pure (refText_ret l k hl hk) ?_
        refine Sure.mk' (oneC_length _) ?_
        refine Store.mk' (oneC _) g4 (by rw [show V.cells (oneV _) = oneC _ from rfl, oneC_length]; decide) (hset _) (fun σ2 e2 => ?_)
        subst e2
        refine Load.mk' put_box (by rw [oneC_length]; decide) ?_
        rw [htake]
        refine Ret.weak (.refl _) (over_put o1 h4) ⟨rfl, ?_⟩
        rw [if_pos (show c.toNat = 34 by omega)]; rfl
      · refine CutR.mk' k rfl (by omega) ?_
        refine CallK.pure (refSign_ret (l.drop k) (by simp; omega)) ?_
        cases hS : signAt (l.drop k) with
        | none =>
          refine Test.yes rfl ?_
          refine Sure.mk' rfl ?_
          refine Store.mk' [.int .i64 0, .int .i64 0, .str [], .int .i64 0, .int .i64 0, .int .i64 26] g4 (Nat.le_of_ble_eq_true rfl) rfl (fun σ2 e2 => ?_)
          subst e2
          refine Load.mk' put_box (Nat.le_of_ble_eq_true rfl) ?_
          refine Ret.weak (.refl _) (over_put o1 h4) ⟨rfl, ?_⟩
          rw [if_neg (show ¬ c.toNat = 34 by omega)]; rfl
        | some s =>
          have hs := signAt_length hS
          refine Test.no (by intro e; rw [show (some s).getD [] = s from rfl] at e; rw [e] at hs; simp at hs) ?_
          simp only [List.length_drop] at hs
          refine Arith.i64 ((k + s.length : Nat) : Int) (by simp) (by omega) ?_
          refine Sure.mk' rfl ?_
          refine Store.mk' [.int .i64 4, .int .i64 k, .str s, .int .i64 0, .int .i64 (k + s.length : Nat), .int .i64 0] g4 (Nat.le_of_ble_eq_true rfl) rfl (fun σ2 e2 => ?_)
          subst e2
          refine Load.mk' put_box (Nat.le_of_ble_eq_true rfl) ?_
          refine Ret.weak (.refl _) (over_put o1 h4) ⟨rfl, ?_⟩
          rw [if_neg (show ¬ c.toNat = 34 by omega)]; rfl
end Go.Shadow.Lex

/- The specification's Tokens, and the law LexerReadsAsSpecified, as shadow contracts. Conditions: sources of at most 70000 bytes; the law's: none. -/
namespace Go.Shadow.Lex
open Go Go.RowKit Go.Proofs

theorem textScan_err : ∀ (r b : List UInt8) (n : Nat), textScan r b = .inl n → n ≠ 0 := by
  intro r
  induction hn : r.length using Nat.strongRecOn generalizing r with
  | _ n ih =>
    intro b m h
    cases r with
    | nil => rw [textScan_nil] at h; split at h <;> (injection h with h; omega)
    | cons c r =>
      subst hn
      rw [textScan_cons] at h
      split at h
      · injection h with h; omega
      · split at h
        · cases h
        · split at h
          · split at h
            · injection h with h; omega
            · split at h
              · injection h with h; omega
              · exact ih _ (by simp; omega) _ rfl _ _ h
          · split at h
            · injection h with h; omega
            · exact ih _ (by simp) _ rfl _ _ h
theorem lexOne_err {l : List UInt8} {k n : Nat} (h : lexOne l k = .inl n) : n ≠ 0 := by
  unfold lexOne at h
  split at h
  · injection h with h; omega
  · split at h
    · simp only at h
      split at h
      · injection h with h; omega
      · cases h
    · split at h
      · simp only at h
        split at h
        · cases h
        · injection h with h; omega
      · split at h
        · split at h
          · rename_i e he
            injection h with h; subst h
            exact textScan_err _ _ _ he
          · cases h
        · split at h
          · cases h
          · injection h with h; omega

theorem Weak.agg_head {a b : V} {r : List V} (h : Weak a b) (hb : b.one = true) : Weak (.agg (a :: r)) (.agg (b :: r)) := by
  intro B γ w x hx
  cases hx with
  | agg _ vs hl h1 hr =>
    refine .agg _ _ hl (fun j y hj => ?_) (fun i y z hy hz => ?_)
    · cases j with
      | zero => injection hj with hj; subst hj; exact hb
      | succ j => exact h1 (j + 1) y hj
    · cases i with
      | zero => injection hy with hy; subst hy; exact h _ _ _ _ (hr 0 _ _ rfl hz)
      | succ i => exact hr (i + 1) y z hy hz

def refRes : Sum (Nat × Nat) (List Tok) → V
  | .inl (a, e) => .agg [.slice .nil 0 [], .int .i64 a, .int .i64 e]
  | .inr ts => .agg [.slice .foreign 4 (ts.map tokV), .int .i64 0, .int .i64 0]

set_option maxHeartbeats 4000000 in
theorem refTokens_ret (src : List UInt8) (hs : src.length ≤ 70000) : SRet Tryz.prog LG 29 [.str src] (refRes (lex src)) := by
  intro σ
  refine code29.call hm (by simp) ?_
  intro b2 h2
  obtain ⟨o1, g2⟩ := new_box h2 [.slice .nil 0 [], .int .i64 0, .int .i64 0]
  generalize σ.put b2 [.slice .nil 0 [], .int .i64 0, .int .i64 0] = σ1 at *
  refine Test.split (fun h => ?_) (fun h => ?_)
  · refine Sure.mk' rfl ?_
    refine Store.mk' [.slice .nil 0 [], .int .i64 0, .int .i64 2] g2 (Nat.le_of_ble_eq_true rfl) rfl (fun σ2 e2 => ?_)
    subst e2
    refine Load.mk' put_box (Nat.le_of_ble_eq_true rfl) ?_
    refine Ret.weak (r := refRes (lex src)) (σ' := σ) ?_ (over_put o1 h2) ⟨rfl, rfl⟩
    rw [show lex src = .inl (0, 2) from by unfold lex; rw [if_pos (by omega)]]
    exact .refl _
  · have hlex : lex src = lexJ src (skipTo src 0) := by unfold lex; rw [if_neg (by omega)]
    rw [hlex]
    refine CallK.pure (blank_ret src 0 hs (by omega)) ?_
    refine ⟨fun m sl σ' => ∃ (k : Nat) (toks : List Tok) (tag' : Tag) (z : Nat), sl = ofL [(0, some (.str src)), (2, some (.loc b2 0)), (3, some (.slice tag' z (toks.map tokV))), (4, some (.int .i64 k))] ∧ Over σ1 σ' ∧ Mine σ1 σ' tag' ∧ (tag' = .nil ∨ z = 4) ∧
        toks.length ≤ k ∧ k ≤ src.length ∧ addAll toks (lexJ src k) = lexJ src (skipTo src 0) ∧ m = src.length - k, _,
      ⟨skipTo src 0, [], .nil, 0, rfl, .refl _, trivial, .inl rfl, by simp, skipTo_le _ _ (by omega), by cases lexJ src (skipTo src 0) <;> rfl, rfl⟩, ?_⟩
    rintro m sl σ' ⟨k, toks, tag', z, rfl, ho, hm2, hz, htk, hk, hadd, rfl⟩
    have hlen : (toks.map tokV).length = toks.length := by simp
    rw [← hadd]
    refine Test.split (fun h5 => ?_) (fun h5 => ?_)
    · obtain ⟨c, hc⟩ := get_some (l := src) (j := k) (by omega)
      refine CallK.pure (refToken_ret src k c hs hc) ?_
      intro b5 h5'
      have hb5 : σ1.box b5 = none := over_none ho h5'
      cases hone : lexOne src k with
      | inl n =>
        have hn0 := lexOne_err hone
        refine Sure.mk' rfl ?_
        refine Store.mk' [.int .i64 0, .int .i64 0, .str [], .int .i64 0, .int .i64 0, .int .i64 n] put_box (Nat.le_of_ble_eq_true rfl) rfl (fun σ2 e2 => ?_)
        rw [put_put] at e2
        have ho2 : Over σ1 σ2 := by rw [e2]; exact over_put ho hb5
        have g5 : σ2.box b5 = some [.int .i64 0, .int .i64 0, .str [], .int .i64 0, .int .i64 0, .int .i64 n] := by rw [e2]; exact put_box
        refine Load.mk' g5 (Nat.le_of_ble_eq_true rfl) ?_
        refine Test.yes (by omega) ?_
        refine Load.mk' g5 (Nat.le_of_ble_eq_true rfl) ?_
        refine Sure.mk' rfl ?_
        refine Store.mk' [.slice .nil 0 [], .int .i64 k, .int .i64 n] (ho2.box _ _ g2) (Nat.le_of_ble_eq_true rfl) rfl (fun σ3 e3 => ?_)
        subst e3
        refine Load.mk' put_box (Nat.le_of_ble_eq_true rfl) ?_
        refine Ret.weak (r := refRes (addAll toks (lexJ src k))) (σ' := σ) ?_ (over_put (over_trans o1 ho2) h2) ⟨rfl, rfl⟩
        rw [lexJ_bad (by omega) hone]; exact .refl _
      | inr x =>
        obtain ⟨t, e2⟩ := x
        have hp := lexOne_pos hone
        have hge := skipTo_ge src e2
        have hle := skipTo_le src e2 hp.2
        refine Sure.mk' rfl ?_
        refine Store.mk' [.int .i64 t.kind, .int .i64 t.at_, .str t.s, .int .i64 t.n, .int .i64 e2, .int .i64 0] put_box (Nat.le_of_ble_eq_true rfl) rfl (fun σ2 q2 => ?_)
        rw [put_put] at q2
        have ho2 : Over σ1 σ2 := by rw [q2]; exact over_put ho hb5
        have hm3 : Mine σ1 σ2 tag' := by rw [q2]; exact hm2
        have g5 : σ2.box b5 = some [.int .i64 t.kind, .int .i64 t.at_, .str t.s, .int .i64 t.n, .int .i64 e2, .int .i64 0] := by rw [q2]; exact put_box
        refine Load.mk' g5 (Nat.le_of_ble_eq_true rfl) ?_
        refine Test.no (by omega) ?_
        refine Load.mk' g5 (Nat.le_of_ble_eq_true rfl) ?_
        refine App.mk' ho2 hm3 hz rfl (by simp; omega) (by simp; omega) (by simp) (fun t' σ3 ho3 hm4 hbox _ => ?_)
        rw [← hbox] at g5
        refine Load.mk' g5 (Nat.le_of_ble_eq_true rfl) ?_
        refine CallK.pure (blank_ret src e2 hs hp.2) ?_
        refine ⟨_, _, ?_, Forget.refl _, skipTo src e2, toks ++ [t], .tip t', 4, by rw [List.map_append]; rfl, ho3, hm4, .inr rfl, by simp; omega, hle, ?_, rfl⟩
        · omega
        · rw [lexJ_one hone, addAll_addAll]
    · have hkl : k = src.length := by omega
      refine App.mk' ho hm2 hz rfl (by simp; omega) (by simp; omega) (by simp) (fun t' σ3 ho3 hm4 hbox _ => ?_)
      refine Sure.mk' rfl ?_
      refine Store.mk' [.slice (.tip t') 4 ((toks ++ [(⟨5, src.length, [], 0⟩ : Tok)]).map tokV), .int .i64 0, .int .i64 0] (ho3.box _ _ g2) (Nat.le_of_ble_eq_true rfl) (by rw [List.map_append]; rfl) (fun σ4 e4 => ?_)
      subst e4
      refine Load.mk' put_box (Nat.le_of_ble_eq_true rfl) ?_
      refine Ret.weak (r := refRes (addAll toks (lexJ src k))) (σ' := σ) ?_ (over_put (over_trans o1 ho3) h2) ⟨rfl, rfl⟩
      rw [lexJ_end (by omega)]
      exact Weak.agg_head (Weak.foreign _ _ _) rfl
end Go.Shadow.Lex

/- Proved: the specification's Expr and Forms return what the grammar says of the source. Conditions: sources of at most 70000 bytes. -/
namespace Go.Shadow.Lex
open Go Go.RowKit Go.Proofs

abbrev noRd : List V := [.slice .nil 0 [], .int .i64 0, .int .i64 0, .str [], .slice .nil 0 [], .int .i64 0, .int .i64 0, .int .i64 0]
/-- What is read: forms, an expression, a problem. -/
def rdV (l : List Fo) (x : Ex) (a E : Int) : List V := [.slice .foreign 4 (l.map foV)] ++ exV x ++ [.int .i64 a, .int .i64 E]
theorem weak_rd {l : List Fo} {op n a : Int} {s : List UInt8} {kids : List Ex} {pa E : Int} {t1 t2 : Tag} {z1 z2 : Nat} {es1 es2 : List (List V)} (h1 : es1 = l.map foV) (h2 : es2 = kids.map exV) (hz1 : z1 = 4 ∨ es1 = []) (hz2 : z2 = 5 ∨ es2 = []) :
    Weak (.agg [.slice t1 z1 es1, .int .i64 op, .int .i64 n, .str s, .slice t2 z2 es2, .int .i64 a, .int .i64 pa, .int .i64 E]) (.agg (rdV l (.mk op n s kids a) pa E)) := by
  subst h1
  refine weak_agg rfl (fun i y hy => ?_) (fun i x y hx hy => ?_)
  · match i, hy with
    | 0, hy | 1, hy | 2, hy | 3, hy | 4, hy | 5, hy | 6, hy | 7, hy => simp [rdV, exV] at hy; subst hy; rfl
    | _ + 8, hy => simp [rdV, exV] at hy
  · match i, hx, hy with
    | 1, hx, hy | 2, hx, hy | 3, hx, hy | 5, hx, hy | 6, hx, hy | 7, hx, hy => simp [rdV, exV] at hx hy; subst hx; subst hy; exact Weak.refl _
    | 0, hx, hy => simp [rdV, exV] at hx hy; subst hx; subst hy; exact weak_es hz1
    | 4, hx, hy => simp [rdV, exV] at hx hy; subst hx; subst hy; exact weak_nil5 h2 hz2
    | _ + 8, hx, hy => simp [rdV, exV] at hy
theorem weak_rderr {a E : Int} : Weak (.agg [.slice .nil 0 [], .int .i64 0, .int .i64 0, .str [], .slice .nil 0 [], .int .i64 0, .int .i64 a, .int .i64 E]) (.agg (rdV [] .none a E)) := weak_rd (l := []) (kids := []) rfl rfl (.inr rfl) (.inr rfl)

theorem hd_drop {ts : List Tok} {k : Nat} {t : Tok} (h : ts[k]? = some t) : hd (ts.drop k) = t := by
  have hk := (List.getElem?_eq_some_iff.1 h).1
  obtain ⟨t', ht, hd⟩ := get_drop hk
  rw [ht] at h; injection h with h; subst h
  rw [hd]; rfl

theorem exprRef_call (src : List UInt8) (hs : src.length ≤ 70000) (σ : St) :
    SCall Tryz.prog LG 11 [.str src] σ fun e σ' => σ' = σ ∧ ∃ x a E, ExprIs src x a E ∧ e = .ret (.agg (rdV [] x a E)) := by
  refine code11.call hm (by simp) ?_
  intro b2 f2
  have o1 : Over σ (σ.put b2 noRd) := over_put (.refl _) f2
  have h2 : (σ.put b2 noRd).box b2 = some noRd := put_box
  generalize σ.put b2 noRd = σ1 at o1 h2
  refine CallK.pure (refTokens_ret src hs) ?_
  cases hl : lex src with
  | inl p =>
    obtain ⟨k, E⟩ := p
    have hE := (lex_err hl).1
    intro b3 hb3
    refine Sure.mk' rfl ?_
    refine Store.mk' ([.slice .nil 0 [], .int .i64 k, .int .i64 E]) put_box (Nat.le_refl _) rfl (fun σ3 eb3 => ?_)
    rw [put_put] at eb3
    have q3 := over_put (cs := [.slice .nil 0 [], .int .i64 k, .int .i64 E]) (Over.refl _) hb3
    rw [← eb3] at q3
    have o3 := over_tr o1 q3
    have h33 : (σ3).box b3 = some ([.slice .nil 0 [], .int .i64 k, .int .i64 E]) := by rw [eb3]; exact put_box
    clear eb3
    have h23 := q3.box _ _ h2
    refine Load.mk' h33 (by simp) ?_
    refine Test.yes (by simp; omega) ?_
    refine Load.mk' h33 (by simp) ?_
    refine Sure.mk' rfl ?_
    refine Store.mk' ([.slice .nil 0 [], .int .i64 0, .int .i64 0, .str [], .slice .nil 0 [], .int .i64 0, .int .i64 k, .int .i64 E]) h23 (Nat.le_refl _) rfl (fun σr er => ?_)
    refine Load.mk' (by rw [er]; exact put_box) (Nat.le_refl _) ?_
    exact Ret.weak weak_rderr (σ' := σ) (by rw [er]; exact over_put o3 f2) ⟨rfl, ⟨_, _, _, .lex hl, rfl⟩⟩
  | inr ts =>
    obtain ⟨he, hlen⟩ := lex_ended hl
    have hlen6 : ts.length ≤ 1000000 := by omega
    have h0 : 0 < ts.length := by
      have := he.ne
      cases ts with
      | nil => exact absurd rfl this
      | cons _ _ => simp
    intro b3 hb3
    refine Sure.mk' rfl ?_
    refine Store.mk' ([TS ts, .int .i64 0, .int .i64 0]) put_box (Nat.le_refl _) rfl (fun σ3 eb3 => ?_)
    rw [put_put] at eb3
    have q3 := over_put (cs := [TS ts, .int .i64 0, .int .i64 0]) (Over.refl _) hb3
    rw [← eb3] at q3
    have o3 := over_tr o1 q3
    have h33 : (σ3).box b3 = some ([TS ts, .int .i64 0, .int .i64 0]) := by rw [eb3]; exact put_box
    clear eb3
    have h23 := q3.box _ _ h2
    refine Load.mk' h33 (by simp) ?_
    refine Test.no (by simp) ?_
    refine Load.mk' h33 (by simp) ?_
    refine CallK.mk' (exprR_call (k := 0) he hlen6 h0 (by omega) (by omega)) ?_
    rintro e σ4 ⟨rfl, x, tq, E, rfl, htq, hkt, hr⟩
    rw [List.drop_zero] at hr
    obtain ⟨op, n, s, kids, a⟩ := x
    intro b4 hb4
    refine Sure.mk' rfl ?_
    refine Store.mk' (gotV (.mk op n s kids a) tq E) put_box (Nat.le_refl _) rfl (fun σ5 eb4 => ?_)
    rw [put_put] at eb4
    have q5 := over_put (cs := gotV (.mk op n s kids a) tq E) (Over.refl _) hb4
    rw [← eb4] at q5
    have o5 := over_tr o3 q5
    have h45 : (σ5).box b4 = some (gotV (.mk op n s kids a) tq E) := by rw [eb4]; exact put_box
    clear eb4
    have h25 := q5.box _ _ h23
    have h35 := q5.box _ _ h33
    obtain ⟨t, ht, hdr⟩ := get_drop htq
    have hhd := hd_drop ht
    refine Load.mk' h45 (by simp [gotV, exV]) ?_
    refine Test.split (fun hE => ?_) (fun hE => ?_)
    · rcases hr with ⟨h, _⟩ | ⟨_, hx, hr⟩
      · exact absurd h hE
      refine Load.mk' h35 (by simp) ?_
      refine Load.mk' h45 (by simp [gotV, exV]) ?_
      refine Sure.mk' (.inl rfl) ?_
      refine IdxE.mk' tq (tokV t) rfl (tokV_get ht) ?_
      refine ⟨by simp [tokV], ?_⟩
      refine Load.mk' h45 (by simp [gotV, exV]) ?_
      have hfin := ExprIs.bad hl hr
      rw [hhd] at hfin
      refine Sure.mk' rfl ?_
      refine Store.mk' ([.slice .nil 0 [], .int .i64 0, .int .i64 0, .str [], .slice .nil 0 [], .int .i64 0, .int .i64 t.at_, .int .i64 E]) h25 (Nat.le_refl _) rfl (fun σr er => ?_)
      refine Load.mk' (by rw [er]; exact put_box) (Nat.le_refl _) ?_
      exact Ret.weak weak_rderr (σ' := σ) (by rw [er]; exact over_put o5 f2) ⟨rfl, ⟨_, _, _, hfin, rfl⟩⟩
    rcases hr with ⟨rfl, hkt, hr⟩ | ⟨h, _⟩
    rotate_left
    · exact absurd h hE
    refine Load.mk' h35 (by simp) ?_
    refine Load.mk' h45 (by simp [gotV, exV]) ?_
    refine Sure.mk' (.inl rfl) ?_
    refine IdxE.mk' tq (tokV t) rfl (tokV_get ht) ?_
    refine ⟨by simp [tokV], ?_⟩
    refine Test.split (fun hk => ?_) (fun hk => ?_)
    · refine Load.mk' h35 (by simp) ?_
      refine Load.mk' h45 (by simp [gotV, exV]) ?_
      refine Sure.mk' (.inl rfl) ?_
      refine IdxE.mk' tq (tokV t) rfl (tokV_get ht) ?_
      refine ⟨by simp [tokV], ?_⟩
      have hfin := ExprIs.more hl hr (by rw [hhd]; exact hk)
      rw [hhd] at hfin
      refine Sure.mk' rfl ?_
      refine Store.mk' ([.slice .nil 0 [], .int .i64 0, .int .i64 0, .str [], .slice .nil 0 [], .int .i64 0, .int .i64 t.at_, .int .i64 5]) h25 (Nat.le_refl _) rfl (fun σr er => ?_)
      refine Load.mk' (by rw [er]; exact put_box) (Nat.le_refl _) ?_
      exact Ret.weak weak_rderr (σ' := σ) (by rw [er]; exact over_put o5 f2) ⟨rfl, ⟨_, _, _, hfin, rfl⟩⟩
    have hk : t.kind = 5 := by
      apply Classical.byContradiction
      intro h; exact hk h
    refine Load.mk' h45 (by simp [gotV, exV]) ?_
    refine Sure.mk' rfl ?_
    refine Store.mk' ([.slice .nil 0 [], .int .i64 op, .int .i64 n, .str s, .slice .foreign 5 (exVs kids), .int .i64 a, .int .i64 0, .int .i64 0]) h25 (Nat.le_refl _) rfl (fun σr er => ?_)
    refine Load.mk' (by rw [er]; exact put_box) (Nat.le_refl _) ?_
    exact Ret.weak (weak_rd (l := []) rfl (exVs_map _) (.inr rfl) (.inl rfl)) (σ' := σ) (by rw [er]; exact over_put o5 f2) ⟨rfl, ⟨_, _, _, .ok hl hr (by rw [hhd]; exact hk), rfl⟩⟩

set_option maxRecDepth 4000 in
theorem formsRef_call (src : List UInt8) (hs : src.length ≤ 70000) (σ : St) :
    SCall Tryz.prog LG 10 [.str src] σ fun e σ' => σ' = σ ∧ ∃ l a E, FormsIs src l a E ∧ e = .ret (.agg (rdV l .none a E)) := by
  refine code10.call hm (by simp) ?_
  intro b2 f2
  have o1 : Over σ (σ.put b2 noRd) := over_put (.refl _) f2
  have h2 : (σ.put b2 noRd).box b2 = some noRd := put_box
  generalize σ.put b2 noRd = σ1 at o1 h2
  refine CallK.pure (refTokens_ret src hs) ?_
  cases hl : lex src with
  | inl p =>
    obtain ⟨k, E⟩ := p
    have hE := (lex_err hl).1
    intro b3 hb3
    refine Sure.mk' rfl ?_
    refine Store.mk' ([.slice .nil 0 [], .int .i64 k, .int .i64 E]) put_box (Nat.le_refl _) rfl (fun σ3 eb3 => ?_)
    rw [put_put] at eb3
    have q3 := over_put (cs := [.slice .nil 0 [], .int .i64 k, .int .i64 E]) (Over.refl _) hb3
    rw [← eb3] at q3
    have o3 := over_tr o1 q3
    have h33 : (σ3).box b3 = some ([.slice .nil 0 [], .int .i64 k, .int .i64 E]) := by rw [eb3]; exact put_box
    clear eb3
    have h23 := q3.box _ _ h2
    refine Load.mk' h33 (by simp) ?_
    refine Test.yes (by simp; omega) ?_
    refine Load.mk' h33 (by simp) ?_
    refine Sure.mk' rfl ?_
    refine Store.mk' ([.slice .nil 0 [], .int .i64 0, .int .i64 0, .str [], .slice .nil 0 [], .int .i64 0, .int .i64 k, .int .i64 E]) h23 (Nat.le_refl _) rfl (fun σr er => ?_)
    refine Load.mk' (by rw [er]; exact put_box) (Nat.le_refl _) ?_
    exact Ret.weak weak_rderr (σ' := σ) (by rw [er]; exact over_put o3 f2) ⟨rfl, ⟨_, _, _, .lex hl, rfl⟩⟩
  | inr ts =>
    obtain ⟨he, hlen⟩ := lex_ended hl
    have hlen6 : ts.length ≤ 1000000 := by omega
    have h0 : 0 < ts.length := by
      have := he.ne
      cases ts with
      | nil => exact absurd rfl this
      | cons _ _ => simp
    intro b3 hb3
    refine Sure.mk' rfl ?_
    refine Store.mk' ([TS ts, .int .i64 0, .int .i64 0]) put_box (Nat.le_refl _) rfl (fun σ3 eb3 => ?_)
    rw [put_put] at eb3
    have q3 := over_put (cs := [TS ts, .int .i64 0, .int .i64 0]) (Over.refl _) hb3
    rw [← eb3] at q3
    have o3 := over_tr o1 q3
    have h33 : (σ3).box b3 = some ([TS ts, .int .i64 0, .int .i64 0]) := by rw [eb3]; exact put_box
    clear eb3
    have h23 := q3.box _ _ h2
    have n23 := box_ne h2 hb3
    refine Load.mk' h33 (by simp) ?_
    refine Test.no (by simp) ?_
    refine ⟨fun q sl σ' => ∃ (out : List Fo) (j : Nat) (n : Int) (tag : Tag) (z : Nat), sl = ofL [(2, some (.loc b2 0)), (3, some (.loc b3 0)), (4, some (.slice tag z (out.map foV))), (5, some (.int .i64 j)), (6, some (.int .i64 n))] ∧ Over σ σ' ∧ σ'.box b2 = some noRd ∧ σ'.box b3 = some [TS ts, .int .i64 0, .int .i64 0] ∧
        Mine σ σ' tag ∧ (tag = .nil ∨ z = 4) ∧ (z = 4 ∨ out.map foV = []) ∧ out.length ≤ j ∧ j < ts.length ∧ 0 ≤ n ∧ n ≤ 2000 ∧ (∀ x, PL n out (ts.drop j) x → PL 0 [] ts x) ∧ q = ts.length - j,
      _, ⟨[], 0, 0, .nil, 0, rfl, o3, h23, h33, trivial, .inl rfl, .inr rfl, by simp, h0, by omega, by omega, fun x hx => by rw [List.drop_zero] at hx; exact hx, rfl⟩, ?_⟩
    clear o3 h23 h33 q3 h2 o1 hb3
    rintro q sl σ' ⟨out, j, n, tag, z, rfl, o, h2, h3, hM, hz, hz4, hol, hj, hn0, hn, hPL, rfl⟩
    obtain ⟨t, ht, hdr⟩ := get_drop hj
    have hhd := hd_drop ht
    refine Load.mk' h3 (by simp) ?_
    refine Sure.mk' (.inl rfl) ?_
    refine IdxE.mk' j (tokV t) rfl (tokV_get ht) ?_
    refine ⟨by simp [tokV], ?_⟩
    refine Test.split (fun hk => ?_) (fun hk => ?_)
    rotate_left
    · have hk : t.kind = 5 := by
        apply Classical.byContradiction
        intro h; exact hk h
      refine Sure.mk' rfl ?_
      refine Store.mk' ([.slice tag z (out.map foV), .int .i64 0, .int .i64 0, .str [], .slice .nil 0 [], .int .i64 0, .int .i64 0, .int .i64 0]) h2 (Nat.le_refl _) rfl (fun σr er => ?_)
      refine Load.mk' (by rw [er]; exact put_box) (Nat.le_refl _) ?_
      exact Ret.weak (weak_rd (kids := []) rfl rfl hz4 (.inr rfl)) (σ' := σ) (by rw [er]; exact over_put o f2) ⟨rfl, ⟨out, _, _, .ok hl (hPL _ (.done (by rw [hhd]; exact hk))), rfl⟩⟩
    refine Load.mk' h3 (by simp) ?_
    refine CallK.mk' (formsRR he hlen6 (ts.length - j) _ j 1 n hj (by omega) (by omega) hn0 hn (Nat.le_refl _)) ?_
    rintro e σ4 ⟨rfl, x, tq, n', E, rfl, htq, hkt, hr⟩
    obtain ⟨w, as2, bs, a⟩ := x
    intro b7 hb7
    refine Sure.mk' rfl ?_
    refine Store.mk' (gfoV (.mk w as2 bs a) tq n' E) put_box (Nat.le_refl _) rfl (fun σ5 eb7 => ?_)
    rw [put_put] at eb7
    have q5 := over_put (cs := gfoV (.mk w as2 bs a) tq n' E) (Over.refl _) hb7
    rw [← eb7] at q5
    have o5 := over_tr o q5
    have h75 : (σ5).box b7 = some (gfoV (.mk w as2 bs a) tq n' E) := by rw [eb7]; exact put_box
    clear eb7
    have h25 := q5.box _ _ h2
    have h35 := q5.box _ _ h3
    have hM5 := hM.over q5
    refine Load.mk' h75 (by simp [gfoV, foV]) ?_
    refine Test.split (fun hE => ?_) (fun hE => ?_)
    · rcases hr with ⟨h, _⟩ | ⟨_, hx, hn', hr⟩
      · exact absurd h hE
      obtain ⟨t2, ht2, hdr2⟩ := get_drop htq
      have hhd2 := hd_drop ht2
      refine Load.mk' h35 (by simp) ?_
      refine Load.mk' h75 (by simp [gfoV, foV]) ?_
      refine Sure.mk' (.inl rfl) ?_
      refine IdxE.mk' tq (tokV t2) rfl (tokV_get ht2) ?_
      refine ⟨by simp [tokV], ?_⟩
      refine Load.mk' h75 (by simp [gfoV, foV]) ?_
      have hfin := FormsIs.bad hl (hPL _ (.err (by rw [hhd]; exact hk) hr))
      rw [hhd2] at hfin
      refine Sure.mk' rfl ?_
      refine Store.mk' ([.slice .nil 0 [], .int .i64 0, .int .i64 0, .str [], .slice .nil 0 [], .int .i64 0, .int .i64 t2.at_, .int .i64 E]) h25 (Nat.le_refl _) rfl (fun σr er => ?_)
      refine Load.mk' (by rw [er]; exact put_box) (Nat.le_refl _) ?_
      exact Ret.weak weak_rderr (σ' := σ) (by rw [er]; exact over_put o5 f2) ⟨rfl, ⟨_, _, _, hfin, rfl⟩⟩
    rcases hr with ⟨rfl, hlt, hn0', hn', hr⟩ | ⟨h, _⟩
    rotate_left
    · exact absurd h hE
    have hsm := len_small (show out.length ≤ 1000000 by omega) (Nat.le_refl _) (show 72 ≤ 1000 by decide)
    have hms : ts.length - tq < ts.length - j := by omega
    have hbl' : out.length + 1 ≤ tq := by omega
    refine Load.mk' h75 (by simp [gfoV, foV]) ?_
    refine App.mk' o5 hM5 hz rfl (by simp only [List.length_map, List.length_cons, List.length_nil]; exact hsm.1) (by simp only [List.length_map, List.length_cons, List.length_nil]; exact hsm.2) (List.cons_ne_nil _ _) (fun t' σ6 o6 m6 b6 _ => ?_)
    refine Load.mk' (by rw [b6]; exact h75) (by simp [gfoV, foV]) ?_
    refine Load.mk' (by rw [b6]; exact h75) (by simp [gfoV, foV]) ?_
    have e1 : out.map foV ++ [foV (.mk w as2 bs a)] = (out ++ [Fo.mk w as2 bs a]).map foV := by simp
    have key := (⟨ts.length - tq, σ6, hms, Forget.refl _, out ++ [.mk w as2 bs a], tq, n', .tip t', 4, rfl, o6, by rw [b6]; exact h25, by rw [b6]; exact h35, m6, .inr rfl, .inl rfl, by simp only [List.length_append, List.length_cons, List.length_nil]; exact hbl', htq, hn0', hn', fun x hx => hPL _ (.go (by rw [hhd]; exact hk) hr hx), rfl⟩ :
      ∃ m σ'', m < ts.length - j ∧ Forget σ6 σ'' ∧ ∃ (out' : List Fo) (j : Nat) (n : Int) (tag : Tag) (z : Nat), ofL [(2, some (.loc b2 0)), (3, some (.loc b3 0)), (4, some (.slice (.tip t') 4 ((out ++ [Fo.mk w as2 bs a]).map foV))), (5, some (.int .i64 tq)), (6, some (.int .i64 n'))] = ofL [(2, some (.loc b2 0)), (3, some (.loc b3 0)), (4, some (.slice tag z (out'.map foV))), (5, some (.int .i64 j)), (6, some (.int .i64 n))] ∧ Over σ σ'' ∧ σ''.box b2 = some noRd ∧ σ''.box b3 = some [TS ts, .int .i64 0, .int .i64 0] ∧
        Mine σ σ'' tag ∧ (tag = .nil ∨ z = 4) ∧ (z = 4 ∨ out'.map foV = []) ∧ out'.length ≤ j ∧ j < ts.length ∧ 0 ≤ n ∧ n ≤ 2000 ∧ (∀ x, PL n out' (ts.drop j) x → PL 0 [] ts x) ∧ m = ts.length - j)
    rw [← e1] at key
    exact key
end Go.Shadow.Lex

/- Proved: law 3 (ParseMatchesSpec) as a contract. Conditions: none but the source's own length in memory. -/
namespace Go.Shadow.Lex
open Go Go.RowKit Go.Proofs

set_option maxHeartbeats 1000000 in
theorem law3 (src : List UInt8) : SRet Tryz.prog LG 3 [.str src] (.bool true) := by
  intro σ0
  refine code3.call hm (by simp) ?_
  refine Test.split (fun h => ?_) (fun h => ?_)
  · refine CallK.pure sanity_ret ?_
    exact Ret.mk' ⟨rfl, rfl⟩
  have hs : src.length ≤ 500 := by omega
  refine CallK.mk' (formsP_call src (by omega) _) ?_
  rintro e σ1 ⟨rfl, l, fa, fE, hF, rfl⟩
  intro b4 fb4
  refine Sure.mk' rfl ?_
  refine Store.mk' ([.int .i64 fa, .int .i64 fE]) put_box (Nat.le_of_ble_eq_true rfl) rfl (fun σ2 e => ?_)
  rw [put_put] at e; obtain ⟨ob4, gb4⟩ := new_box fb4 ([.int .i64 fa, .int .i64 fE]); rw [← e] at ob4 gb4; clear e fb4
  refine CallK.mk' (exprP_call src (by omega) _) ?_
  rintro e σ3 ⟨rfl, x, xa, xE, hX, rfl⟩
  have hn := hX.size
  have hfn := hF.size
  have hsx := sameRef_refl 1000000 x (by omega) (Nat.le_refl _)
  have hsf := sameFRef_refl 1000000 l .foreign .foreign (by omega) (Nat.le_refl _)
  have hrx := exprRef_call src (by omega)
  have hX' : ∀ {y : Ex} {b F : Int}, ExprIs src y b F → y = x ∧ b = xa ∧ F = xE := fun h => h.det hX
  obtain ⟨op, n, s, kids, a⟩ := x
  intro b5 fb5
  intro b6 fb6
  have nb5 := box_ne put_box fb6
  refine Sure.mk' rfl ?_
  refine Store.mk' (exV (.mk op n s kids a)) (by rw [put_ne nb5]; exact put_box) (Nat.le_of_ble_eq_true rfl) rfl (fun σx ex => ?_)
  refine Sure.mk' rfl ?_
  refine Store.mk' ([.int .i64 xa, .int .i64 xE]) (by rw [ex, put_ne (Ne.symm nb5)]; exact put_box) (Nat.le_of_ble_eq_true rfl) rfl (fun σ4 e => ?_)
  have ob5 : Over σ3 σ4 := by rw [e, ex]; exact over_put (over_put (over_put (over_put (.refl _) fb5) (put_none fb6)) fb5) (put_none fb6)
  have gb5 : (σ4).box b5 = some (exV (.mk op n s kids a)) := by rw [e, put_ne nb5, ex]; exact put_box
  have gb6 : (σ4).box b6 = some ([.int .i64 xa, .int .i64 xE]) := by rw [e]; exact put_box
  clear e ex fb5 fb6
  have gb4 := ob5.box _ _ gb4
  refine CallK.mk' (formsRef_call src (by omega) _) ?_
  rintro e σ5 ⟨rfl, l', fa', fE', hF', rfl⟩
  obtain ⟨rfl, rfl, rfl⟩ := hF'.det hF
  intro b7 fb7
  refine Sure.mk' rfl ?_
  refine Store.mk' (rdV l' .none fa' fE') put_box (Nat.le_of_ble_eq_true rfl) rfl (fun σ6 e => ?_)
  rw [put_put] at e; obtain ⟨ob7, gb7⟩ := new_box fb7 (rdV l' .none fa' fE'); rw [← e] at ob7 gb7; clear e fb7
  have gb4 := ob7.box _ _ gb4
  have gb5 := ob7.box _ _ gb5
  have gb6 := ob7.box _ _ gb6
  refine CallK.mk' (hrx _) ?_
  rintro e σ7 ⟨rfl, x', xa', xE', hx', rfl⟩
  obtain ⟨rfl, rfl, rfl⟩ := hX' hx'
  intro b8 fb8
  refine Sure.mk' rfl ?_
  refine Store.mk' (rdV [] (.mk op n s kids a) xa' xE') put_box (Nat.le_of_ble_eq_true rfl) rfl (fun σ8 e => ?_)
  rw [put_put] at e; obtain ⟨ob8, gb8⟩ := new_box fb8 (rdV [] (.mk op n s kids a) xa' xE'); rw [← e] at ob8 gb8; clear e fb8
  have gb4 := ob8.box _ _ gb4
  have gb5 := ob8.box _ _ gb5
  have gb6 := ob8.box _ _ gb6
  have gb7 := ob8.box _ _ gb7
  refine CallK.pure sanity_ret ?_
  refine Load.mk' gb4 (Nat.le_of_ble_eq_true rfl) ?_
  refine Load.mk' gb7 (Nat.le_of_ble_eq_true rfl) ?_
  refine BTest.yes (by simp) ?_
  refine Load.mk' gb6 (Nat.le_of_ble_eq_true rfl) ?_
  refine Load.mk' gb8 (Nat.le_of_ble_eq_true rfl) ?_
  refine BTest.yes (by simp) ?_
  refine Load.mk' gb7 (Nat.le_of_ble_eq_true rfl) ?_
  refine CallK.pure hsf ?_
  refine Load.mk' gb5 (Nat.le_of_ble_eq_true rfl) ?_
  refine Load.mk' gb8 (Nat.le_of_ble_eq_true rfl) ?_
  refine CallK.pure hsx ?_
  exact Ret.weak (.refl _) (over_tr (over_tr (over_tr ob4 ob5) ob7) ob8) ⟨rfl, rfl⟩
end Go.Shadow.Lex

/- What the rows' cell 'laid' gives the walks; and a start that meets it. -/
namespace Go.Shadow.Lex
open Go Go.RowKit Go.Proofs Go.Proofs.YtaefelmojpkpaaaGreatDoor

def laidAll : List (String × DataW Unit) := [("math/bits.deBruijn32tab", Rows.laid_math_bits_deBruijn32tab), ("math/bits.deBruijn64tab", Rows.laid_math_bits_deBruijn64tab), ("internal/strconv.uint64pow10", Rows.laid_internal_strconv_uint64pow10), ("strconv.ErrRange", Rows.laid_strconv_ErrRange), ("strconv.ErrSyntax", Rows.laid_strconv_ErrSyntax), ("unicode.White_Space", Rows.laid_unicode_White_Space), ("strings.asciiSpace", Rows.laid_strings_asciiSpace)]

theorem own : ownKnob Tryz.prog.godebug = none := by kernel_rfl
theorem gA : Tryz.prog.globalNamed "strings.asciiSpace" = some 0 := by kernel_rfl
theorem gP : Tryz.prog.globalNamed "internal/strconv.uint64pow10" = some 1 := by kernel_rfl
theorem gS : Tryz.prog.globalNamed "strconv.ErrSyntax" = some 4 := by kernel_rfl
theorem gR : Tryz.prog.globalNamed "strconv.ErrRange" = some 5 := by kernel_rfl
theorem tA : (Tryz.prog.globals[0]?).map (·.type) = some 195 := by kernel_rfl
theorem tP : (Tryz.prog.globals[1]?).map (·.type) = some 210 := by kernel_rfl
theorem tS : (Tryz.prog.globals[4]?).map (·.type) = some 161 := by kernel_rfl
theorem tR : (Tryz.prog.globals[5]?).map (·.type) = some 161 := by kernel_rfl
theorem star : "*" ++ "errors.errorString" = "*errors.errorString" := by decide
theorem row270 (u : TypeId) (h : Tryz.prog.typeName? 3 u = some "*errors.errorString") : u = 270 :=
  typeName_ptr_named (nm := "errors.errorString") (by rw [star]; kernel_rfl) (by kernel_rfl) (by decide) u (by rw [star]; exact h)
theorem cells272 : Tryz.prog.cellsOf 272 = 1 := by kernel_rfl
theorem cells9 : Tryz.prog.cellsOf 9 = 1 := by kernel_rfl
theorem dataA : (Rows.laid_strings_asciiSpace : DataW Unit) = Lib.tabData .u8 Lib.asciiSpaceTab := by kernel_rfl
theorem dataP : (Rows.laid_internal_strconv_uint64pow10 : DataW Unit) = Lib.tabData .u64 Lib.pow10Tab := by kernel_rfl

theorem tab_of {W : World} {n : String} {k : IntKind} {zs : List Int} {d : DataW Unit} {g : Nat} {t e : TypeId} {m : Nat} (h : Lib.VarReads Tryz.prog W n d) (hd : d = Lib.tabData k zs)
    (hg : Tryz.prog.globalNamed n = some g) (hty : (Tryz.prog.globals[g]?).map (·.type) = some t) (ht : Tryz.prog.underlying t = some (.array m e)) (he : Tryz.prog.underlying e = some (.int k)) (hce : Tryz.prog.cellsOf e = 1) (hct : Tryz.prog.cellsOf t = m) : Lib.TabIs Tryz.prog W n k zs := by
  obtain ⟨g', t', cs, fuel, p, hg', hty', hv, htr⟩ := h
  obtain rfl := Option.some.inj (hg.symm.trans hg')
  obtain rfl := Option.some.inj (hty.symm.trans hty')
  subst hd
  have := Lib.cells_of_tab ht he hce hct htr
  unfold Lib.TabIs
  rw [hv, ← this]

theorem lexPre_of {W : World} (h0 : laidMetH Tryz.prog laidAll W) : lexPre W := by
  have h : laidMet Tryz.prog laidAll W := by
    rw [MakeChecks.laidMetH_plain _ _ _ (by kernel_rfl)] at h0; exact h0
  refine ⟨?_, ?_, ?_, ?_⟩
  · exact tab_of (Lib.laidMet.reads h (n := "strings.asciiSpace") (d := Rows.laid_strings_asciiSpace) (by simp [laidAll])) dataA gA tA Tryz.underlying195 Tryz.underlying5 (by kernel_rfl) (by kernel_rfl)
  · exact tab_of (Lib.laidMet.reads h (n := "internal/strconv.uint64pow10") (d := Rows.laid_internal_strconv_uint64pow10) (by simp [laidAll])) dataP gP tP Tryz.underlying210 Tryz.underlying182 (by kernel_rfl) (by kernel_rfl)
  · obtain ⟨a, s, hv, _⟩ := laid_sentinel (h.tail.tail.tail.tail) gS tS Tryz.underlying161 row270 Tryz.underlying270 Tryz.underlying272 rfl rfl Tryz.underlying9 cells272 cells9
    have := World.var?_cell gS hv 0
    exact ⟨270, _, by simpa using this⟩
  · obtain ⟨a, s, hv, _⟩ := laid_sentinel (h.tail.tail.tail) gR tR Tryz.underlying161 row270 Tryz.underlying270 Tryz.underlying272 rfl rfl Tryz.underlying9 cells272 cells9
    have := World.var?_cell gR hv 0
    exact ⟨270, _, by simpa using this⟩

/-- The door's own heap meets the condition. -/
theorem door_met (os : Os) (args : Array Value) : laidMetH Tryz.prog laidAll ((World.doorLaid Tryz.prog 400 os).forCall (fun _ _ => 0) ⟨#[], args, []⟩).memory :=
  laidMetH_of_parts3 (fuel := 8) (laidMet_of_run' 8 (by kernel_rfl) (by kernel_rfl)) (by kernel_rfl) (by kernel_rfl)
end Go.Shadow.Lex

/- THE SHADOW LOGIC, part 18: out of it: a contract as 'Calls', for a row. -/
namespace Go.Shadow
open Go Go.RowKit Go.Proofs

def Gh.zero : Gh := { row := fun _ => none, tip := fun _ => none, nt := 0 }
def St.zero : St := { box := fun _ => none, live := fun _ => false, map := fun _ => none }
theorem Inv.zero {G : Globs} {W : World} (hp : G.pre W) (hg : ∀ g cs, G g = some cs → R W.heap.size Gh.zero W (.ref cs) (.pointer (some ⟨g, 0, none⟩))) : Inv G W Gh.zero St.zero W :=
  ⟨.refl _ _, fun b cs h => (by cases h), fun t h => (by cases h), fun t g h => (by cases h), fun t t' g h => (by cases h), fun b u h => (by cases h), hg, hp, fun r m h => (by cases h)⟩
theorem SRet.run {P : Program} {G : Globs} {f : FuncId} {args : List V} {r : V} {W : World} {xs : Array Value} {v : Value} (h : SRet P G f args r) (he : ∀ args w, (callFunc f args).run P w = .ok (.enter f args) w) (hp : G.pre W)
    (hg : ∀ g cs, G g = some cs → R W.heap.size Gh.zero W (.ref cs) (.pointer (some ⟨g, 0, none⟩))) (hx : RL W.heap.size Gh.zero W args xs.toList) (hv : ∀ B γ w x, R B γ w r x → x = v) :
    Calls P f xs W fun e W' => e = .returned v ∧ Below W.heap.size W W' := by
  rcases h St.zero W Gh.zero W xs (.zero hp hg) hx with ⟨_, hc⟩ | ⟨x, w', h1, _⟩
  · refine hc.mono ?_
    rintro e w' ⟨γ', σ', _, hI, r', x, hR, ⟨rfl, _, hr⟩ | ⟨_, _, hr⟩⟩
    · injection hr with hr; subst hr
      exact ⟨by rw [hv _ _ _ _ hR], hI.bel⟩
    · cases hr
  · rw [he] at h1; cases h1
theorem R.bool_eq {B : Nat} {γ : Gh} {w : World} {b : Bool} {x : Value} (h : R B γ w (.bool b) x) : x = .bool b := by cases h; rfl
end Go.Shadow

/- Proved: the row of ParseMatchesSpec: for every input the call returns true, and each argument reads as it did. Conditions: those of the row (laid). -/
set_option linter.unusedVariables false
namespace Go.Shadow.Lex.R3
open Go Go.ChangeShapes Go.WideShapes Go.ChangeAt Go.RowKit Go.Proofs Go.Proofs.YtaefelmojpkpaaaGreatDoor
open Go.ChangeMaps (open_string shut_string)

theorem walk (a0 : ByteArray) (y0 : a0.size ≤ maxLen) (W : World) (hL : laidMetH Tryz.prog laidAll W) :
    Calls Tryz.prog 3 #[.string a0] W fun e W' => e = .returned (.bool true) ∧ Below W.heap.size W W' := by
  refine (law3 a0.data.toList).run (enters_of Tryz.func3 (by kernel_rfl) rfl) (lexPre_of hL) (fun g cs h => by cases h) ?_ (fun B γ w x h => h.bool_eq)
  exact (.cons (.str _ _ rfl) .nil)

set_option maxRecDepth 100000 in
theorem lifted (os : Os) (started : os.Started) (H : Type) (enc : TypeId × Value → H) :
    ReturnsInHanded {} Tryz.checked os 3 .any (fun w args => (Rows.parseMatchesSpecSpec.pre enc Tryz.prog Tryz.f3 [] false w args ∧ laidMetH Tryz.prog laidAll w) ∧ sizedMet enc Tryz.prog Tryz.f3 (OpenSpec.ofChange Rows.parseMatchesSpecSpec) false w args)
      (Rows.parseMatchesSpecSpec.post enc Tryz.prog Tryz.f3 false true false false) := by
  refine returnsInHanded_of_change_and (C := Tryz.checked) (X := fun w _ => laidMetH Tryz.prog laidAll w) (fun _ _ _ hh h => h.of_heap hh) own started (by kernel_rfl) Tryz.func3
    (ChangeSpec.witness_shaped (enc := enc) (C := Tryz.checked) (os := os) (X := fun w _ => laidMetH Tryz.prog laidAll w) false (World.doorLaid Tryz.prog 400 os) #[.string ByteArray.empty] 8 rfl (World.shaped_of_RefB (by kernel_rfl) (by kernel_rfl)) (by kernel_rfl) (by kernel_rfl) (by kernel_rfl) (door_met os _)) ?_
  intro W base args ds gs before hval0 hW _ _ hL _
  have hval : ∀ (j : Nat) t v, Tryz.f3.params[j]? = some t → args[j]? = some v → Value.okWide Tryz.prog W .any base t v := hval0
  have hW' := hW
  obtain ⟨p, q, hA0, hV, rfl, hfz, hnd⟩ := hW
  have hA : DataW.TrodAll enc Tryz.prog W 0 (fun _ => true) true Tryz.f3.params.toList args.toList ds p := hA0
  rw [Tryz.params3] at hA hval
  obtain ⟨v0, vs0, d0, ds0, p0, q0, hargs, rfl, rfl, h0, r0⟩ := trodAll_cons hA
  obtain ⟨rfl, rfl, rfl⟩ := trodAll_nil r0
  obtain rfl : args = #[v0] := by cases args; simp_all
  obtain ⟨rfl, rfl⟩ := trodVars_none hV
  obtain ⟨a0, rfl, rfl, rfl, y0⟩ := open_string Tryz.underlying9 (hval 0 9 v0 rfl rfl) h0
  clear hA0 hval0
  refine (walk a0 y0 W hL).mono fun e W' ⟨he, bel⟩ => ?_
  subst he
  exact ⟨_, rfl, _, _, _, [], _, [], hW', trodAll_mk1 (shut_bool Tryz.underlying4 _), (trodAll_cons_mk (shut_string Tryz.underlying9 y0) trodAll_mk0), rfl, bel.frame _, fun h => by cases h⟩

theorem over : Rows.parseMatchesSpecRow.holds Tryz.pinned (OpenSpec.ofChange Rows.parseMatchesSpecSpec) :=
  OpenClaim.holds_of_wide 3 Tryz.f3 rfl rfl rfl rfl rfl rfl rfl ⟨rfl, rfl, rfl, rfl, rfl⟩ rfl rfl rfl rfl rfl (by kernel_rfl) Tryz.func3 (by kernel_rfl)
    (of_decide_eq_true (by kernel_rfl)) (by unfold Func.isWrapper; first | (rw [if_pos (by decide +kernel)]; kernel_rfl) | (rw [if_neg (by decide +kernel)]; exact ⟨rfl, rfl⟩))
    (fun os started H enc _ => lifted os started H enc)
end Go.Shadow.Lex.R3

/- Proved: the tied card of ParseMatchesSpec. Conditions: none beyond the card's own. -/
namespace Go.Proofs.YtaefelmojpkpaaaGreatDoor
open Go

theorem parseMatchesSpec_card : Rows.ParseMatchesSpecCardSaid :=
  Claim7.holds_tied_plain_at .later [] [.data, .data, .data, .sentinel, .sentinel, .listed, .data] true (true, "f751065004fad875f083848156f3d5534ef23270d4923616642a5f92ee671458") true
    Go.Shadow.Lex.R3.over (fun _ h => by cases h) (by kernel_rfl) (fun _ h => by cases h) parseMatchesSpec_row_tie rfl ⟨rfl, rfl⟩ (by kernel_rfl) rfl
    (fun f fn hf hfn => by
      obtain rfl : f = 3 := Option.some.inj ((show Tryz.prog.funcNamed "quietus/quietuslaw32.ParseMatchesSpec" = some 3 by kernel_rfl).symm.trans hf) |>.symm
      obtain rfl : fn = Tryz.f3 := (Option.some.inj (Tryz.func3.symm.trans hfn)).symm
      exact ⟨by kernel_rfl, fun j t ht => by
        rw [Tryz.params3] at ht
        have h3 : t = 9 := by
          rcases j with _ | j
          · simpa using ht.symm
          · simp at ht
        subst h3
        exact (show Tryz.prog.wantsStandIn 9 = false by kernel_rfl)⟩)
    (by kernel_rfl)
#print axioms parseMatchesSpec_card
end Go.Proofs.YtaefelmojpkpaaaGreatDoor
