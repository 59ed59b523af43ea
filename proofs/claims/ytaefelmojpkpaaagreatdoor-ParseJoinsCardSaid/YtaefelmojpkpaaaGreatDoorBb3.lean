/- Proved: parts of the proof: Proved: what the parser's small methods do, as shadow contracts; Proved: what the parser's number and its search for an operator do, as shadow contracts; Proved: what the parser's expressions are as values; its reading of expressions, as shadow contracts (under way); The parser's reading of expressions, as shadow contracts (under way); The parser's expressions with a question, and its levels, as shadow contracts; The parser's operands, as shadow contracts; all readers of expressions together; The plain grammar of arguments and forms, as relations; The parser's arguments and forms, as shadow co. Conditions: as each theorem says. -/
import Derived.Test.YtaefelmojpkpaaaGreatDoorBb2
import Derived.Test.YtaefelmojpkpaaaGreatDoorProg

/- Proved: what the parser's small methods do, as shadow contracts. Conditions: as each theorem says. -/
namespace Go.Shadow.Lex
open Go Go.RowKit Go.Proofs

/-- The parser in its box: what is left of the tokens, and how many forms there are. -/
def Ps (σ : St) (p : Nat) (l : List Tok) (f : Int) : Prop := ∃ tag, σ.box p = some [.slice tag 4 (l.map tokV), .int .i64 f]

/-- All but the parser's box is as it was. -/
structure Fr (p : Nat) (σ σ' : St) : Prop where
  box : ∀ b cs, b ≠ p → σ.box b = some cs → σ'.box b = some cs
  live : ∀ t, σ.live t = true → σ'.live t = true
  map : ∀ r m, σ.map r = some m → σ'.map r = some m
theorem Fr.refl (p : Nat) (σ : St) : Fr p σ σ := ⟨fun _ _ _ h => h, fun _ h => h, fun _ _ h => h⟩
theorem Fr.trans {p : Nat} {a b c : St} (h : Fr p a b) (k : Fr p b c) : Fr p a c :=
  ⟨fun x cs hx hb => k.box x cs hx (h.box x cs hx hb), fun t ht => k.live t (h.live t ht), fun r m hr => k.map r m (h.map r m hr)⟩
theorem Fr.of_over {p : Nat} {a b : St} (h : Over a b) : Fr p a b := ⟨fun x cs _ hb => h.box x cs hb, h.live, h.map⟩
theorem Fr.put {p : Nat} {σ0 σ : St} {b : Nat} {cs : List V} (h : Fr p σ0 σ) (hb : σ0.box b = none ∨ b = p) : Fr p σ0 (σ.put b cs) := by
  refine ⟨fun x ds hx hxb => ?_, h.live, h.map⟩
  have : x ≠ b := by
    rintro rfl
    rcases hb with hb | hb
    · rw [hb] at hxb; cases hxb
    · exact hx hb
  rw [put_ne this]
  exact h.box x ds hx hxb
theorem put_none {σ : St} {b b' : Nat} {cs : List V} (h : (σ.put b cs).box b' = none) : σ.box b' = none := by
  by_cases e : b' = b
  · subst e; rw [put_box] at h; cases h
  · rwa [put_ne e] at h

theorem is_call {σ : St} {p : Nat} {l : List Tok} {f : Int} (hp : Ps σ p l f) (hl : l ≠ []) (s : List UInt8) :
    SCall Tryz.prog LG 47 [.loc p 0, .str s] σ fun e σ' => e = .ret (.bool (isS s l)) ∧ σ' = σ := by
  obtain ⟨tag, hb⟩ := hp
  obtain ⟨t, r, rfl⟩ : ∃ t r, l = t :: r := by cases l with
    | nil => exact absurd rfl hl
    | cons t r => exact ⟨t, r, rfl⟩
  refine code47.call hm (by simp) ?_
  refine Load.mk' hb (by simp) ?_
  refine Sure.mk' (.inl rfl) ?_
  refine IdxE.mk' 0 (tokV t) rfl rfl ?_
  refine ⟨by simp [tokV], ?_⟩
  refine Test.split (fun h => ?_) (fun h => ?_)
  · refine Load.mk' hb (by simp) ?_
    refine Sure.mk' (.inl rfl) ?_
    refine IdxE.mk' 0 (tokV t) rfl rfl ?_
    refine ⟨by simp [tokV], ?_⟩
    refine Test.split (fun h2 => ?_) (fun h2 => ?_)
    · refine Ret.mk' ⟨?_, rfl⟩
      simp [isS, h, h2]
    · refine Ret.mk' ⟨?_, rfl⟩
      simp [isS, h, h2]
  · refine Ret.mk' ⟨?_, rfl⟩
    simp [isS, h]

theorem begins_call {σ : St} {p : Nat} {l : List Tok} {f : Int} (hp : Ps σ p l f) (hl : l ≠ []) :
    SCall Tryz.prog LG 48 [.loc p 0] σ fun e σ' => e = .ret (.bool (begins l)) ∧ σ' = σ := by
  have h47 := fun s => is_call hp hl s
  obtain ⟨tag, hb⟩ := hp
  obtain ⟨t, r, rfl⟩ : ∃ t r, l = t :: r := by cases l with
    | nil => exact absurd rfl hl
    | cons t r => exact ⟨t, r, rfl⟩
  refine code48.call hm (by simp) ?_
  refine Load.mk' hb (by simp) ?_
  refine Sure.mk' (.inl rfl) ?_
  refine IdxE.mk' 0 (tokV t) rfl rfl ?_
  refine ⟨by simp [tokV], ?_⟩
  refine Test.split (fun h => ?_) (fun h => ?_)
  · refine Ret.mk' ⟨?_, rfl⟩
    simp [begins, h]
  · refine Test.split (fun h2 => ?_) (fun h2 => ?_)
    · refine Ret.mk' ⟨?_, rfl⟩
      simp [begins, h2]
    · refine Test.split (fun h3 => ?_) (fun h3 => ?_)
      · refine Ret.mk' ⟨?_, rfl⟩
        simp [begins, h3]
      · refine CallK.mk' (h47 _) ?_
        rintro e σ' ⟨rfl, rfl⟩
        cases hq : isS [40] (t :: r)
        · refine CallK.mk' (h47 _) ?_
          rintro e σ' ⟨rfl, rfl⟩
          refine Ret.mk' ⟨?_, rfl⟩
          simp [begins, h, h2, h3, hq]
        · refine Ret.mk' ⟨?_, rfl⟩
          simp [begins, hq]

/-- A problem with which parsing ends. -/
def stopV (E : Int) (l : List Tok) : V := .iface 95 (.agg [.int .i64 (hd l).at_, .int .i64 E])
theorem fail_call {σ : St} {p : Nat} {l : List Tok} {f : Int} (hp : Ps σ p l f) (hl : l ≠ []) (E : Int) :
    SCall Tryz.prog LG 45 [.loc p 0, .int .i64 E] σ fun e σ' => e = .pan (stopV E l) ∧ σ' = σ := by
  obtain ⟨tag, hb⟩ := hp
  obtain ⟨t, r, rfl⟩ : ∃ t r, l = t :: r := by cases l with
    | nil => exact absurd rfl hl
    | cons t r => exact ⟨t, r, rfl⟩
  refine code45.call hm (by simp) ?_
  refine Load.mk' hb (by simp) ?_
  refine Sure.mk' (.inl rfl) ?_
  refine IdxE.mk' 0 (tokV t) rfl rfl ?_
  refine ⟨by simp [tokV], ?_⟩
  exact ⟨_, _, Weak.refl _, Forget.refl _, rfl, rfl⟩

theorem nextTok_call {σ : St} {p : Nat} {t : Tok} {r : List Tok} {f : Int} (hp : Ps σ p (t :: r) f) :
    SCall Tryz.prog LG 46 [.loc p 0] σ fun e σ' => e = .ret (.agg (tokV t)) ∧ Ps σ' p r f ∧ Fr p σ σ' := by
  obtain ⟨tag, hb⟩ := hp
  refine code46.call hm (by simp) ?_
  intro b h2
  have n2 : p ≠ b := by rintro rfl; rw [hb] at h2; cases h2
  have hb2 : (σ.put b [.int .i64 0, .int .i64 0, .str [], .int .i64 0]).box p = some [.slice tag 4 ((t :: r).map tokV), .int .i64 f] := by rw [put_ne n2]; exact hb
  refine Load.mk' hb2 (by simp) ?_
  refine Sure.mk' (.inl rfl) ?_
  refine IdxE.mk' 0 (tokV t) rfl rfl ?_
  refine ⟨by simp [tokV], ?_⟩
  intro b3 h3
  have n3 : p ≠ b3 := by rintro rfl; rw [hb2] at h3; cases h3
  have n4 : b ≠ b3 := by rintro rfl; rw [put_box] at h3; cases h3
  refine Sure.mk' rfl ?_
  refine Store.mk' (tokV t) put_box (by simp [V.cells, tokV]) (by simp [setL, V.cells, tokV]) (fun σ1 e1 => ?_)
  rw [put_put] at e1
  have hb4 : σ1.box p = some [.slice tag 4 ((t :: r).map tokV), .int .i64 f] := by rw [e1, put_ne n3]; exact hb2
  have hb5 : σ1.box b3 = some (tokV t) := by rw [e1]; exact put_box
  refine Load.mk' hb4 (by simp) ?_
  refine Sure.mk' rfl ?_
  refine CutR.mk' 1 rfl (by simp) ?_
  refine Sure.mk' rfl ?_
  refine Store.mk' [.slice .foreign 4 (r.map tokV), .int .i64 f] hb4 (by simp [V.cells]) (by simp [setL, V.cells]) (fun σ2 e2 => ?_)
  have hb6 : σ2.box b3 = some (tokV t) := by rw [e2, put_ne (Ne.symm n3)]; exact hb5
  have hb7 : σ2.box b = some [.int .i64 0, .int .i64 0, .str [], .int .i64 0] := by rw [e2, put_ne (Ne.symm n2), e1, put_ne n4]; exact put_box
  refine Load.mk' hb6 (by simp [tokV]) ?_
  refine Sure.mk' rfl ?_
  refine Store.mk' (tokV t) hb7 (by simp [V.cells, tokV]) (by simp [setL, V.cells, tokV]) (fun σ3 e3 => ?_)
  have hb8 : σ3.box b = some (tokV t) := by rw [e3]; exact put_box
  refine Load.mk' hb8 (by simp [tokV]) ?_
  refine Ret.mk' ⟨rfl, ?_, ?_⟩
  · exact ⟨.foreign, by rw [e3, put_ne n2, e2]; exact put_box⟩
  · subst e3; subst e2; subst e1
    exact ((((Fr.refl p σ).put (.inl h2)).put (.inl (put_none h3))).put (.inr rfl)).put (.inl h2)

theorem need_call {σ : St} {p : Nat} {l : List Tok} {f : Int} (hp : Ps σ p l f) (hl : l ≠ []) (s : List UInt8) :
    SCall Tryz.prog LG 52 [.loc p 0, .str s] σ fun e σ' => (isS s l = true ∧ e = .ret (.tup []) ∧ Ps σ' p l.tail f ∧ Fr p σ σ') ∨ (isS s l = false ∧ e = .pan (stopV 5 l) ∧ Fr p σ σ') := by
  refine code52.call hm (by simp) ?_
  refine CallK.mk' (is_call hp hl s) ?_
  rintro e σ' ⟨rfl, rfl⟩
  cases hq : isS s l
  · refine CallK.mk' (fail_call hp hl 5) ?_
    rintro e σ' ⟨rfl, rfl⟩
    exact ⟨_, _, Weak.refl _, Forget.refl _, .inr ⟨rfl, rfl, .refl _ _⟩⟩
  · obtain ⟨t, r, rfl⟩ : ∃ t r, l = t :: r := by cases l with
      | nil => exact absurd rfl hl
      | cons t r => exact ⟨t, r, rfl⟩
    refine CallK.mk' (nextTok_call hp) ?_
    rintro e σ2 ⟨rfl, h1, h2⟩
    refine Ret.mk' (.inl ⟨rfl, rfl, h1, h2⟩)

theorem deep_call {σ : St} {p : Nat} {l : List Tok} {f : Int} (hp : Ps σ p l f) (hl : l ≠ []) (d : Int) (no : Bool) :
    SCall Tryz.prog LG 50 [.loc p 0, .int .i64 d, .bool no] σ fun e σ' => (first l d no = none ∧ e = .ret (.tup []) ∧ σ' = σ) ∨ (∃ E, first l d no = some E ∧ e = .pan (stopV E l) ∧ σ' = σ) := by
  refine code50.call hm (by simp) ?_
  refine CallK.mk' (begins_call hp hl) ?_
  rintro e σ' ⟨rfl, rfl⟩
  cases hb : begins l
  · cases no
    · refine CallK.mk' (fail_call hp hl 5) ?_
      rintro e σ' ⟨rfl, rfl⟩
      exact ⟨_, _, Weak.refl _, Forget.refl _, .inr ⟨5, by simp [first, hb], rfl, rfl⟩⟩
    · refine CallK.mk' (is_call hp hl _) ?_
      rintro e σ' ⟨rfl, rfl⟩
      cases hq : isS [33] l
      · refine CallK.mk' (fail_call hp hl 5) ?_
        rintro e σ' ⟨rfl, rfl⟩
        exact ⟨_, _, Weak.refl _, Forget.refl _, .inr ⟨5, by simp [first, hb, hq], rfl, rfl⟩⟩
      · refine Test.split (fun h => ?_) (fun h => ?_)
        · refine CallK.mk' (fail_call hp hl 2) ?_
          rintro e σ' ⟨rfl, rfl⟩
          exact ⟨_, _, Weak.refl _, Forget.refl _, .inr ⟨2, by simp [first, hb, hq]; omega, rfl, rfl⟩⟩
        · refine Ret.mk' (.inl ⟨by simp [first, hb, hq]; omega, rfl, rfl⟩)
  · refine Test.split (fun h => ?_) (fun h => ?_)
    · refine CallK.mk' (fail_call hp hl 2) ?_
      rintro e σ' ⟨rfl, rfl⟩
      exact ⟨_, _, Weak.refl _, Forget.refl _, .inr ⟨2, by simp [first, hb]; omega, rfl, rfl⟩⟩
    · refine Ret.mk' (.inl ⟨by simp [first, hb]; omega, rfl, rfl⟩)
end Go.Shadow.Lex

/- Proved: what the parser's number and its search for an operator do, as shadow contracts. Conditions: as each theorem says. -/
namespace Go.Shadow.Lex
open Go Go.RowKit Go.Proofs

theorem numberP_call {σ : St} {p : Nat} {l : List Tok} {f : Int} (hp : Ps σ p l f) (hl : l ≠ []) :
    SCall Tryz.prog LG 75 [.loc p 0] σ fun e σ' => ((hd l).kind = 2 ∧ e = .ret (.int .i64 (hd l).n) ∧ Ps σ' p l.tail f ∧ Fr p σ σ') ∨ ((hd l).kind ≠ 2 ∧ e = .pan (stopV 5 l) ∧ Fr p σ σ') := by
  obtain ⟨t, r, rfl⟩ : ∃ t r, l = t :: r := by cases l with
    | nil => exact absurd rfl hl
    | cons t r => exact ⟨t, r, rfl⟩
  obtain ⟨tag, hb⟩ := id hp
  refine code75.call hm (by simp) ?_
  refine Load.mk' hb (by simp) ?_
  refine Sure.mk' (.inl rfl) ?_
  refine IdxE.mk' 0 (tokV t) rfl rfl ?_
  refine ⟨by simp [tokV], ?_⟩
  refine Test.split (fun h => ?_) (fun h => ?_)
  · refine CallK.mk' (fail_call hp hl 5) ?_
    rintro e σ' ⟨rfl, rfl⟩
    exact ⟨_, _, Weak.refl _, Forget.refl _, .inr ⟨h, rfl, .refl _ _⟩⟩
  · refine CallK.mk' (nextTok_call hp) ?_
    rintro e σ2 ⟨rfl, h1, h2⟩
    refine ⟨by simp [tokV], ?_⟩
    refine Ret.mk' ?_
    exact .inl ⟨by simpa [hd] using h, rfl, h1, h2⟩

/-- An operator, as the parser keeps it. -/
def opV (o : List UInt8 × Int × Nat) : List V := [.str o.1, .int .i64 o.2.1, .int .i64 o.2.2]
theorem operators_ret : SRet Tryz.prog LG 70 [] (.slice .full 3 (opsT.map opV)) := by
  intro σ
  refine code70.call hm (by simp) ?_
  exact Ret.mk' ⟨rfl, rfl⟩

theorem signP_call {σ : St} {bn bp p : Nat} {l : List Tok} {f : Int} {n : Nat} (hn : σ.box bn = some [.int .i64 n]) (hbp : σ.box bp = some [.loc p 0]) (hp : Ps σ p l f) (hl : l ≠ []) (o : List UInt8 × Int × Nat) :
    SCall Tryz.prog LG 77 [.agg (opV o), .loc bn 0, .loc bp 0] σ fun e σ' => e = .ret (.bool (o.2.2 == n && isS o.1 l)) ∧ Over σ σ' := by
  refine code77.call hm (by simp) ?_
  refine ⟨rfl, ?_⟩
  intro b hb
  have nn : bn ≠ b := by rintro rfl; rw [hn] at hb; cases hb
  have np : bp ≠ b := by rintro rfl; rw [hbp] at hb; cases hb
  have npp : p ≠ b := by obtain ⟨_, h⟩ := hp; rintro rfl; rw [h] at hb; cases hb
  refine Load.mk' put_box (by simp [V.cells, opV]) ?_
  refine Load.mk' (by rw [put_ne nn]; exact hn) (by simp) ?_
  refine Test.split (fun h => ?_) (fun h => ?_)
  · refine Load.mk' (by rw [put_ne np]; exact hbp) (by simp) ?_
    refine Load.mk' put_box (by simp [V.cells, opV]) ?_
    refine CallK.mk' (is_call (l := l) (f := f) (by obtain ⟨tag, h⟩ := hp; exact ⟨tag, by rw [put_ne npp]; exact h⟩) hl _) ?_
    rintro e σ' ⟨rfl, rfl⟩
    refine Ret.mk' ⟨?_, over_put (.refl _) hb⟩
    have : o.2.2 = n := by exact_mod_cast h
    simp [this]
  · refine Ret.mk' ⟨?_, over_put (.refl _) hb⟩
    have : ¬ o.2.2 = n := fun e => h (by rw [e])
    simp [this]

/-- The place of the first operator that a test takes; -1: none. -/
def opIdx (g : List UInt8 × Int × Nat → Bool) : Int := match opsT.findIdx? g with
  | some k => k
  | none => -1
theorem opIdx_some {g : List UInt8 × Int × Nat → Bool} {i : Nat} {o : List UInt8 × Int × Nat} (hi : opsT[i]? = some o) (hg : g o = true) (hno : ∀ j, j < i → ∀ o, opsT[j]? = some o → g o = false) : opIdx g = i := by
  have hlt := (List.getElem?_eq_some_iff.1 hi).1
  have : opsT.findIdx? g = some i := by
    rw [List.findIdx?_eq_some_iff_getElem]
    refine ⟨hlt, by rw [(List.getElem?_eq_some_iff.1 hi).2]; exact hg, fun j hj => ?_⟩
    have := hno j hj _ (List.getElem?_eq_getElem (by omega))
    simp [this]
  simp [opIdx, this]
theorem opIdx_none {g : List UInt8 × Int × Nat → Bool} (hno : ∀ j : Nat, j < 13 → ∀ o, opsT[j]? = some o → g o = false) : opIdx g = -1 := by
  have : opsT.findIdx? g = none := by
    rw [List.findIdx?_eq_none_iff]
    intro o ho
    obtain ⟨j, hj⟩ := List.getElem?_of_mem ho
    exact hno j (List.getElem?_eq_some_iff.1 hj).1 o hj
  simp [opIdx, this]
theorem over_tr {a b c : St} (h : Over a b) (k : Over b c) : Over a c := ⟨fun x cs hx => k.box x cs (h.box x cs hx), fun t ht => k.live t (h.live t ht), fun r m hr => k.map r m (h.map r m hr)⟩
theorem index_call {σ : St} {k : FuncId} {caps : List V} (g : List UInt8 × Int × Nat → Bool)
    (hg : ∀ σ', Over σ σ' → ∀ o, SCall Tryz.prog LG k ([] ++ [.agg (opV o)] ++ caps) σ' fun e σ'' => e = .ret (.bool (g o)) ∧ Over σ' σ'') :
    SCall Tryz.prog LG 69 [.slice .full 3 (opsT.map opV), .func k [] caps] σ fun e σ' => e = .ret (.int .i64 (opIdx g)) ∧ Over σ σ' := by
  refine code69.call hm (by simp) ?_
  refine ⟨fun m sl σ' => ∃ i : Nat, sl = ofL [(0, some (.slice .full 3 (opsT.map opV))), (1, some (.func k [] caps)), (7, some (.int .i64 13)), (8, some (.int .i64 i))] ∧ Over σ σ' ∧ i ≤ 13 ∧ (∀ j, j < i → ∀ o, opsT[j]? = some o → g o = false) ∧ m = 13 - i,
    _, ⟨0, rfl, .refl _, by omega, fun j hj => by omega, rfl⟩, ?_⟩
  rintro m sl σ' ⟨i, rfl, ho, hi, hno, rfl⟩
  refine Test.split (fun h => ?_) (fun h => ?_)
  · obtain ⟨o, hoi⟩ : ∃ o, opsT[i]? = some o := ⟨_, List.getElem?_eq_getElem (by show i < 13; omega)⟩
    refine Sure.mk' (.inl rfl) ?_
    refine IdxE.mk' i (opV o) rfl (by simp [hoi]) ?_
    refine ⟨by simp [opV], ?_⟩
    refine CallK.mk' (hg σ' ho o) ?_
    rintro e σ2 ⟨rfl, ho2⟩
    cases hgo : g o
    · refine Arith.i64 ((i + 1 : Nat) : Int) (by omega) (by omega) ?_
      refine ⟨_, _, ?_, Forget.refl _, i + 1, rfl, over_tr ho ho2, by omega, fun j hj o' ho' => ?_, rfl⟩
      · omega
      · by_cases e : j = i
        · subst e; rw [hoi] at ho'; injection ho' with ho'; rw [← ho']; exact hgo
        · exact hno j (by omega) o' ho'
    · refine Ret.mk' ⟨?_, over_tr ho ho2⟩
      rw [opIdx_some hoi hgo hno]
  · refine Ret.mk' ⟨?_, ho⟩
    rw [opIdx_none fun j hj => hno j (by omega)]

theorem isS_eq {s s' : List UInt8} {l : List Tok} (h : isS s l = true) (h' : isS s' l = true) : s = s' := by
  rw [← (hd_sign h).2, ← (hd_sign h').2]
theorem ops_uniq : ∀ o ∈ opsT, ∀ o' ∈ opsT, o.1 = o'.1 → o = o' := by decide
theorem opOf_of {o : List UInt8 × Int × Nat} {l : List Tok} (ho : o ∈ opsT) (h : isS o.1 l = true) : opOf l = some o.2 := by
  unfold opOf
  cases hf : opsT.find? fun o => isS o.1 l with
  | none => exact absurd h (by simpa using List.find?_eq_none.1 hf o ho)
  | some o' =>
    have h1 := List.find?_some hf
    have h2 := List.mem_of_find?_eq_some hf
    rw [ops_uniq o' h2 o ho (isS_eq h1 h)]; rfl
theorem of_opOf {l : List Tok} {x : Int × Nat} (h : opOf l = some x) : ∃ s, (s, x) ∈ opsT ∧ isS s l = true := by
  unfold opOf at h
  rw [Option.map_eq_some_iff] at h
  obtain ⟨o, h1, rfl⟩ := h
  have h2 := List.find?_some h1
  exact ⟨o.1, List.mem_of_find?_eq_some h1, h2⟩
/-- What the parser finds is what the grammar says. -/
theorem opIdx_lvl (n : Nat) (l : List Tok) : (opIdx (fun o => o.2.2 == n && isS o.1 l) = -1 ∧ ∀ op, opOf l ≠ some (op, n)) ∨
    ∃ (k : Nat) (o : List UInt8 × Int × Nat), opIdx (fun o => o.2.2 == n && isS o.1 l) = k ∧ opsT[k]? = some o ∧ opOf l = some (o.2.1, n) ∧ k < 13 := by
  unfold opIdx
  cases hf : opsT.findIdx? fun o => o.2.2 == n && isS o.1 l with
  | none =>
    refine .inl ⟨rfl, fun op ho => ?_⟩
    obtain ⟨s, h1, h2⟩ := of_opOf ho
    have := List.findIdx?_eq_none_iff.1 hf _ h1
    simp [h2] at this
  | some k =>
    rw [List.findIdx?_eq_some_iff_getElem] at hf
    obtain ⟨hk, h1, _⟩ := hf
    simp only [Bool.and_eq_true, beq_iff_eq] at h1
    refine .inr ⟨k, opsT[k], rfl, List.getElem?_eq_getElem hk, ?_, hk⟩
    rw [opOf_of (List.getElem_mem hk) h1.2, ← h1.1]
end Go.Shadow.Lex

/- Proved: what the parser's expressions are as values; its reading of expressions, as shadow contracts (under way). -/
namespace Go.Shadow.Lex
open Go Go.RowKit Go.Proofs

mutual
/-- The cells of an expression. -/
def exV : Ex → List V
  | .mk op n s kids a => [.int .i64 op, .int .i64 n, .str s, .slice .foreign 5 (exVs kids), .int .i64 a]
def exVs : List Ex → List (List V)
  | [] => []
  | e :: r => exV e :: exVs r
end
theorem exVs_map : ∀ l : List Ex, exVs l = l.map exV
  | [] => rfl
  | e :: r => by simp [exVs, exVs_map r]
theorem weak_slice (t : Tag) (s : Nat) (es : List (List V)) : Weak (.slice t s es) (.slice .foreign s es) := by
  intro B γ w x h
  cases h with | slice _ _ _ a cap b o vs hs hl ha ht h1 hc hr => exact .slice .foreign s es a cap b o vs hs hl ha trivial h1 hc hr
theorem weak_nil (t : Tag) (s s' : Nat) : Weak (.slice t s []) (.slice .foreign s' []) := by
  intro B γ w x h
  cases h with | slice _ _ _ a cap b o vs hs hl ha ht h1 hc hr => exact .slice .foreign s' [] a cap b o vs (by simp) hl ha trivial h1 hc hr
theorem weak_agg {cs ds : List V} (hl : cs.length = ds.length) (h1 : ∀ (i : Nat) (y : V), ds[i]? = some y → y.one = true) (h : ∀ (i : Nat) (x y : V), cs[i]? = some x → ds[i]? = some y → Weak x y) : Weak (.agg cs) (.agg ds) := by
  intro B γ w x hx
  cases hx with | agg _ vs hv _ hr =>
  refine .agg ds vs (by omega) h1 (fun i y z hy hz => ?_)
  have hi : i < cs.length := by have := (List.getElem?_eq_some_iff.1 hy).1; omega
  exact h i cs[i] y (List.getElem?_eq_getElem hi) hy _ _ _ _ (hr i _ z (List.getElem?_eq_getElem hi) hz)
/-- An expression's value, out of a literal. -/
theorem weak_ex {op n a : Int} {s : List UInt8} {t : Tag} {kids : List Ex} {es : List (List V)} (h : es = kids.map exV) : Weak (.agg [.int .i64 op, .int .i64 n, .str s, .slice t 5 es, .int .i64 a]) (.agg (exV (.mk op n s kids a))) := by
  subst h
  refine weak_agg rfl (fun i y hy => ?_) (fun i x y hx hy => ?_)
  · match i, hy with
    | 0, hy | 1, hy | 2, hy | 3, hy | 4, hy => simp [exV] at hy; subst hy; rfl
    | _ + 5, hy => simp [exV] at hy
  · match i, hx, hy with
    | 0, hx, hy | 1, hx, hy | 2, hx, hy | 4, hx, hy => simp [exV] at hx hy; subst hx; subst hy; exact Weak.refl _
    | 3, hx, hy => simp [exV] at hx hy; subst hx; subst hy; rw [exVs_map]; exact weak_slice _ _ _
    | _ + 5, hx, hy => simp [exV] at hy

/-- What is left of a source's tokens: the end is the last, and the only end; numbers have no text, others no number. -/
def Ended (l : List Tok) : Prop := ∃ i e, l = i ++ [e] ∧ e.kind = 5 ∧ (∀ t ∈ i, t.kind ≠ 5) ∧ ∀ t ∈ l, ((t.kind = 2 → t.s = []) ∧ (t.kind ≠ 2 → t.n = 0)) ∧ 0 ≤ t.n ∧ t.n ≤ 999999999999999
theorem Ended.ne {l : List Tok} (h : Ended l) : l ≠ [] := by obtain ⟨i, e, rfl, _⟩ := h; simp
theorem Ended.cons {l : List Tok} (h : Ended l) : ∃ t r, l = t :: r := by
  cases l with
  | nil => exact absurd rfl h.ne
  | cons t r => exact ⟨t, r, rfl⟩
theorem Ended.tail {l : List Tok} (h : Ended l) (hk : (hd l).kind ≠ 5) : Ended l.tail ∧ l.tail.length < l.length := by
  obtain ⟨i, e, rfl, h1, h2, h3⟩ := h
  cases i with
  | nil => exact absurd h1 hk
  | cons t i => exact ⟨⟨i, e, rfl, h1, fun t ht => h2 t (by simp [ht]), fun t ht => h3 t (by simp at ht ⊢; exact .inr ht)⟩, by simp⟩
theorem Ended.tail_sign {l : List Tok} (h : Ended l) {s : List UInt8} (hs : isS s l = true) : Ended l.tail ∧ l.tail.length < l.length :=
  h.tail (by rw [(hd_sign hs).1]; decide)

/-- What a method of the parser that reads an expression does. -/
def Reads (nt : NT) (d : Int) (l : List Tok) (p : Nat) (f : Int) (σ : St) (e : SEnd) (σ' : St) : Prop := ∃ r, PE nt d l r ∧ Fr p σ σ' ∧ match r with
  | .ok x rest => e = .ret (.agg (exV x)) ∧ Ps σ' p rest f ∧ Ended rest ∧ rest.length < l.length
  | .err E rest => e = .pan (stopV E rest) ∧ Ended rest
/-- The rank of a reader: those of greater rank call those of smaller rank at the same place. -/
structure CallsTo (m : Nat) : Prop where
  expr : ∀ (σ : St) (p : Nat) (l : List Tok) (f d : Int), Ps σ p l f → Ended l → 0 ≤ d → d ≤ 31 → l.length * 20 + 10 ≤ m → SCall Tryz.prog LG 28 [.loc p 0, .int .i64 d] σ (Reads .expr d l p f σ)
  lvl : ∀ (σ : St) (p : Nat) (l : List Tok) (f d : Int) (n : Nat), Ps σ p l f → Ended l → 0 ≤ d → d ≤ 30 → 1 ≤ n → n ≤ 7 → l.length * 20 + (9 - n) ≤ m → SCall Tryz.prog LG 51 [.loc p 0, .int .i64 n, .int .i64 d] σ (Reads (.lvl n) d l p f σ)
  neg : ∀ (σ : St) (p : Nat) (l : List Tok) (f d : Int), Ps σ p l f → Ended l → 0 ≤ d → d ≤ 30 → l.length * 20 + 1 ≤ m → SCall Tryz.prog LG 76 [.loc p 0, .int .i64 d] σ (Reads .neg d l p f σ)
  atom : ∀ (σ : St) (p : Nat) (l : List Tok) (f d : Int), Ps σ p l f → Ended l → 0 ≤ d → d ≤ 30 → isS [45] l = false → l.length * 20 ≤ m → SCall Tryz.prog LG 101 [.loc p 0, .int .i64 d] σ (Reads .atom d l p f σ)

theorem first_le {l : List Tok} {d : Int} {no : Bool} (h : first l d no = none) : d ≤ 30 := by
  unfold first at h
  split at h
  · cases h
  · split at h
    · cases h
    · omega
end Go.Shadow.Lex

/- The parser's reading of expressions, as shadow contracts (under way). -/
namespace Go.Shadow.Lex
open Go Go.RowKit Go.Proofs

theorem neg_walk {m : Nat} (ih : ∀ k, k < m → CallsTo k) {σ : St} {p : Nat} {l : List Tok} {f d : Int} (hp : Ps σ p l f) (he : Ended l) (h0 : 0 ≤ d) (h1 : d ≤ 30) (hm' : l.length * 20 + 1 ≤ m) :
    SCall Tryz.prog LG 76 [.loc p 0, .int .i64 d] σ (Reads .neg d l p f σ) := by
  refine code76.call hm (by simp) ?_
  intro b hb
  have np : p ≠ b := by obtain ⟨_, h⟩ := hp; rintro rfl; rw [h] at hb; cases hb
  have hp1 : Ps (σ.put b [.int .i64 0, .int .i64 0, .str [], .slice .nil 0 [], .int .i64 0]) p l f := by obtain ⟨tag, h⟩ := hp; exact ⟨tag, by rw [put_ne np]; exact h⟩
  have hf1 : Fr p σ (σ.put b [.int .i64 0, .int .i64 0, .str [], .slice .nil 0 [], .int .i64 0]) := (Fr.refl p σ).put (.inl hb)
  have hb1 : (σ.put b [.int .i64 0, .int .i64 0, .str [], .slice .nil 0 [], .int .i64 0]).box b = some [.int .i64 0, .int .i64 0, .str [], .slice .nil 0 [], .int .i64 0] := put_box
  generalize σ.put b [.int .i64 0, .int .i64 0, .str [], .slice .nil 0 [], .int .i64 0] = σ1 at hp1 hf1 hb1
  refine CallK.mk' (is_call hp1 he.ne _) ?_
  rintro e σ' ⟨rfl, rfl⟩
  cases hq : isS [45] l
  · refine CallK.mk' ((ih (m - 1) (by omega)).atom _ p l f d hp1 he h0 h1 hq (by omega)) ?_
    rintro e σ2 ⟨r, hr, hfr, hres⟩
    cases r with
    | err E rest =>
      obtain ⟨rfl, h2⟩ := hres
      exact ⟨_, _, Weak.refl _, Forget.refl _, _, .neg_no hq hr, hf1.trans hfr, rfl, h2⟩
    | ok x rest =>
      obtain ⟨rfl, h2, h3, h4⟩ := hres
      have hb2 := hfr.box b _ (Ne.symm np) hb1
      obtain ⟨op, n, s, kids, a⟩ := x
      refine Sure.mk' rfl ?_
      refine Store.mk' (exV (.mk op n s kids a)) hb2 (Nat.le_refl _) rfl (fun σ3 e3 => ?_)
      refine Load.mk' (by rw [e3]; exact put_box) (Nat.le_refl _) ?_
      refine Ret.mk' ⟨_, .neg_no hq hr, ?_, rfl, ?_, h3, h4⟩
      · rw [e3]; exact (hf1.trans hfr).put (.inl hb)
      · obtain ⟨tag, h2⟩ := h2; exact ⟨tag, by rw [e3, put_ne np]; exact h2⟩
  · obtain ⟨t, r, rfl⟩ := he.cons
    obtain ⟨het, hlt⟩ := he.tail_sign hq
    refine CallK.mk' (nextTok_call hp1) ?_
    rintro e σ2 ⟨rfl, hp2, hf2⟩
    refine ⟨by simp [tokV], ?_⟩
    refine Arith.i64 (d + 1) (by omega) (by omega) ?_
    refine CallK.mk' (deep_call hp2 het.ne _ _) ?_
    rintro e σ3 (⟨h4, rfl, rfl⟩ | ⟨E, h4, rfl, rfl⟩)
    · refine Arith.i64 (d + 1) (by omega) (by omega) ?_
      refine CallK.mk' ((ih (m - 1) (by omega)).neg _ p r f (d + 1) hp2 het (by omega) (first_le h4) (by simp at hlt hm' ⊢; omega)) ?_
      rintro e σ4 ⟨rs, hr, hfr, hres⟩
      have hf4 := (hf1.trans hf2).trans hfr
      cases rs with
      | err E rest =>
        obtain ⟨rfl, h2⟩ := hres
        exact ⟨_, _, Weak.refl _, Forget.refl _, _, .neg_err hq h4 hr, hf4, rfl, h2⟩
      | ok x rest =>
        obtain ⟨rfl, h2, h3, h5⟩ := hres
        have hb4 := (hf2.trans hfr).box b _ (Ne.symm np) hb1
        obtain ⟨op, n, s, kids, a⟩ := x
        refine Sure.mk' rfl ?_
        refine Store.mk' [.int .i64 6, .int .i64 0, .str [], .slice .full 5 [exV (.mk op n s kids a)], .int .i64 t.at_] hb4 (Nat.le_refl _) rfl (fun σ5 e5 => ?_)
        refine Load.mk' (by rw [e5]; exact put_box) (Nat.le_refl _) ?_
        refine Ret.weak (weak_ex (kids := [.mk op n s kids a]) rfl) (.refl _) ⟨_, .neg_ok hq h4 hr, ?_, rfl, ?_, h3, ?_⟩
        · rw [e5]; exact hf4.put (.inl hb)
        · obtain ⟨tag, h2⟩ := h2; exact ⟨tag, by rw [e5, put_ne np]; exact h2⟩
        · simp at h5 ⊢; omega
    · exact ⟨_, _, Weak.refl _, Forget.refl _, _, .neg_first hq h4, hf1.trans hf2, rfl, het⟩
end Go.Shadow.Lex

/- The parser's expressions with a question, and its levels, as shadow contracts. Conditions: as each theorem says. -/
namespace Go.Shadow.Lex
open Go Go.RowKit Go.Proofs

theorem Ps.ne {σ : St} {p : Nat} {l : List Tok} {f : Int} (h : Ps σ p l f) {b : Nat} (hb : σ.box b = none) : p ≠ b := by
  obtain ⟨_, h⟩ := h; rintro rfl; rw [h] at hb; cases hb
theorem Ps.put {σ : St} {p : Nat} {l : List Tok} {f : Int} (h : Ps σ p l f) {b : Nat} {cs : List V} (hb : p ≠ b) : Ps (σ.put b cs) p l f := by
  obtain ⟨tag, h⟩ := h; exact ⟨tag, by rw [put_ne hb]; exact h⟩
theorem Ps.over {σ σ' : St} {p : Nat} {l : List Tok} {f : Int} (h : Ps σ p l f) (ho : Over σ σ') : Ps σ' p l f := by
  obtain ⟨tag, h⟩ := h; exact ⟨tag, ho.box _ _ h⟩
theorem box_ne {σ : St} {a b : Nat} {cs : List V} (ha : σ.box a = some cs) (hb : σ.box b = none) : a ≠ b := by
  rintro rfl; rw [ha] at hb; cases hb
theorem Fr.new {p : Nat} {σ0 σ : St} {b : Nat} {cs : List V} (h : Fr p σ0 σ) (hb : σ.box b = none) : Fr p σ0 (σ.put b cs) := h.trans ((Fr.refl p σ).put (.inl hb))
theorem Fr.fresh {p : Nat} {σ0 σ : St} (h : Fr p σ0 σ) {b : Nat} (hb : b ≠ p) (hf : σ.box b = none) : σ0.box b = none := by
  cases hc : σ0.box b with
  | none => rfl
  | some cs => rw [h.box b cs hb hc] at hf; cases hf
theorem weakL_ex {op n a : Int} {s : List UInt8} {t : Tag} {kids : List Ex} {es : List (List V)} (h : es = kids.map exV) : WeakL [.int .i64 op, .int .i64 n, .str s, .slice t 5 es, .int .i64 a] (exV (.mk op n s kids a)) := by
  subst h
  refine ⟨rfl, fun i y hy => ?_, fun i x y hx hy => ?_⟩
  · match i, hy with
    | 0, hy | 1, hy | 2, hy | 3, hy | 4, hy => simp [exV] at hy; subst hy; rfl
    | _ + 5, hy => simp [exV] at hy
  · match i, hx, hy with
    | 0, hx, hy | 1, hx, hy | 2, hx, hy | 4, hx, hy => simp [exV] at hx hy; subst hx; subst hy; exact Weak.refl _
    | 3, hx, hy => simp [exV] at hx hy; subst hx; subst hy; rw [exVs_map]; exact weak_slice _ _ _
    | _ + 5, hx, hy => simp [exV] at hy
/-- The cells of an expression that has nothing in it. -/
abbrev noEx : List V := [.int .i64 0, .int .i64 0, .str [], .slice .nil 0 [], .int .i64 0]

theorem expr_walk {m : Nat} (ih : ∀ k, k < m → CallsTo k) {σ : St} {p : Nat} {l : List Tok} {f d : Int} (hp : Ps σ p l f) (he : Ended l) (h0 : 0 ≤ d) (h1 : d ≤ 31) (hm' : l.length * 20 + 10 ≤ m) :
    SCall Tryz.prog LG 28 [.loc p 0, .int .i64 d] σ (Reads .expr d l p f σ) := by
  refine code28.call hm (by simp) ?_
  intro b hb
  have np := hp.ne hb
  have hp1 := hp.put (cs := noEx) np
  have hf1 : Fr p σ (σ.put b noEx) := (Fr.refl p σ).new hb
  have hb1 : (σ.put b noEx).box b = some noEx := put_box
  refine CallK.mk' (deep_call hp1 he.ne _ _) ?_
  rintro e σ' (⟨h4, rfl, rfl⟩ | ⟨E, h4, rfl, rfl⟩)
  rotate_left
  · exact ⟨_, _, Weak.refl _, Forget.refl _, _, .expr_first h4, hf1, rfl, he⟩
  have hd := first_le h4
  refine CallK.mk' ((ih (m - 1) (by omega)).lvl _ p l f d 1 hp1 he h0 hd (by omega) (by omega) (by omega)) ?_
  rintro e σ2 ⟨r, hr, hfr, hres⟩
  have hf2 := hf1.trans hfr
  cases r with
  | err E rest =>
    obtain ⟨rfl, h2⟩ := hres
    exact ⟨_, _, Weak.refl _, Forget.refl _, _, .expr_err h4 hr, hf2, rfl, h2⟩
  | ok x rest =>
    obtain ⟨rfl, hp2, he2, hlt⟩ := hres
    have hb2 := hfr.box b _ (Ne.symm np) hb1
    obtain ⟨op, n, s, kids, a⟩ := x
    intro b5 hb5
    have np5 := hp2.ne hb5
    have n45 := box_ne hb2 hb5
    refine Sure.mk' rfl ?_
    refine Store.mk' (exV (.mk op n s kids a)) put_box (Nat.le_refl _) rfl (fun σ3 e3 => ?_)
    rw [put_put] at e3
    have hp3 : Ps σ3 p rest f := by rw [e3]; exact hp2.put np5
    have hb3 : σ3.box b = some noEx := by rw [e3, put_ne n45]; exact hb2
    have h53 : σ3.box b5 = some (exV (.mk op n s kids a)) := by rw [e3]; exact put_box
    have hf3 : Fr p σ σ3 := by rw [e3]; exact hf2.new hb5
    clear e3 hb5
    refine CallK.mk' (is_call hp3 he2.ne _) ?_
    rintro e σ' ⟨rfl, rfl⟩
    cases hq : isS [63] rest
    · refine Load.mk' h53 (Nat.le_refl _) ?_
      refine Sure.mk' rfl ?_
      refine Store.mk' (exV (.mk op n s kids a)) hb3 (Nat.le_refl _) rfl (fun σ4 e4 => ?_)
      refine Load.mk' (by rw [e4]; exact put_box) (Nat.le_refl _) ?_
      refine Ret.mk' ⟨_, .expr_one h4 hr hq, ?_, rfl, ?_, he2, hlt⟩
      · rw [e4]; exact hf3.put (.inl hb)
      · rw [e4]; exact hp3.put np
    · obtain ⟨t, r, rfl⟩ := he2.cons
      obtain ⟨het, hltt⟩ := he2.tail_sign hq
      refine CallK.mk' (nextTok_call hp3) ?_
      rintro e σ4 ⟨rfl, hp4, hf4⟩
      refine Arith.i64 (d + 1) (by omega) (by omega) ?_
      simp only [List.tail_cons, List.length_cons] at het hltt hlt
      refine CallK.mk' ((ih (m - 1) (by omega)).expr _ p r f (d + 1) hp4 het (by omega) (by omega) (by omega)) ?_
      rintro e σ5 ⟨r5, hr5, hf5, hres⟩
      cases r5 with
      | err E rest5 =>
        obtain ⟨rfl, h2⟩ := hres
        exact ⟨_, _, Weak.refl _, Forget.refl _, _, .if_err1 h4 hr hq hr5, (hf3.trans hf4).trans hf5, rfl, h2⟩
      | ok x5 rest5 =>
        obtain ⟨rfl, hp5, he5, hlt5⟩ := hres
        have hf45 := hf4.trans hf5
        have hb5' := hf45.box b _ (Ne.symm np) hb3
        have h55 := hf45.box b5 _ (Ne.symm np5) h53
        obtain ⟨op5, n5, s5, kids5, a5⟩ := x5
        intro b6 hb6
        have np6 := hp5.ne hb6
        have n46 := box_ne hb5' hb6
        have n56 := box_ne h55 hb6
        refine Sure.mk' rfl ?_
        refine Store.mk' (exV (.mk op5 n5 s5 kids5 a5)) put_box (Nat.le_refl _) rfl (fun σ6 e6 => ?_)
        rw [put_put] at e6
        have hp6 : Ps σ6 p rest5 f := by rw [e6]; exact hp5.put np6
        have hb6' : σ6.box b = some noEx := by rw [e6, put_ne n46]; exact hb5'
        have h56 : σ6.box b5 = some (exV (.mk op n s kids a)) := by rw [e6, put_ne n56]; exact h55
        have h66 : σ6.box b6 = some (exV (.mk op5 n5 s5 kids5 a5)) := by rw [e6]; exact put_box
        have hf6 : Fr p σ σ6 := by rw [e6]; exact (hf3.trans hf45).new hb6
        clear e6 hb6
        refine CallK.mk' (need_call hp6 he5.ne _) ?_
        rintro e σ7 (⟨hcol, rfl, hp7, hf7⟩ | ⟨hcol, rfl, hf7⟩)
        rotate_left
        · exact ⟨_, _, Weak.refl _, Forget.refl _, _, .if_colon h4 hr hq hr5 hcol, hf6.trans hf7, rfl, he5⟩
        obtain ⟨he7, hlt7⟩ := he5.tail_sign hcol
        have h57 := hf7.box b5 _ (Ne.symm np5) h56
        have h67 := hf7.box b6 _ (Ne.symm np6) h66
        have hb7 := hf7.box b _ (Ne.symm np) hb6'
        refine Arith.i64 (d + 1) (by omega) (by omega) ?_
        refine Sure.mk' rfl ?_
        refine Load.mk' h57 (by simp [exV]) ?_
        refine Sure.mk' rfl ?_
        refine Load.mk' h57 (by simp [exV]) ?_
        refine Sure.mk' rfl ?_
        refine Load.mk' h67 (by simp [exV]) ?_
        refine CallK.mk' ((ih (m - 1) (by omega)).expr _ p rest5.tail f (d + 1) hp7 he7 (by omega) (by omega) (by omega)) ?_
        rintro e σ8 ⟨r8, hr8, hf8, hres⟩
        cases r8 with
        | err E rest8 =>
          obtain ⟨rfl, h2⟩ := hres
          exact ⟨_, _, Weak.refl _, Forget.refl _, _, .if_err2 h4 hr hq hr5 hcol hr8, (hf6.trans hf7).trans hf8, rfl, h2⟩
        | ok x8 rest8 =>
          obtain ⟨rfl, hp8, he8, hlt8⟩ := hres
          have hb8 := hf8.box b _ (Ne.symm np) hb7
          obtain ⟨op8, n8, s8, kids8, a8⟩ := x8
          refine Kept1.mk' (fun cs h => hf8.box _ _ (Ne.symm np5) h) ?_
          refine Kept1.mk' (fun cs h => hf8.box _ _ (Ne.symm np6) h) ?_
          refine Sure.mk' rfl ?_
          refine Store.mk' [.int .i64 20, .int .i64 0, .str [], .slice .full 5 [exV (.mk op n s kids a), exV (.mk op5 n5 s5 kids5 a5), exV (.mk op8 n8 s8 kids8 a8)], .int .i64 a] hb8 (Nat.le_refl _) rfl (fun σ9 e9 => ?_)
          refine Load.mk' (by rw [e9]; exact put_box) (Nat.le_refl _) ?_
          refine Ret.weak (weak_ex (kids := [.mk op n s kids a, .mk op5 n5 s5 kids5 a5, .mk op8 n8 s8 kids8 a8]) rfl) (.refl _) ⟨_, .if_ok h4 hr hq hr5 hcol hr8, ?_, rfl, ?_, he8, by omega⟩
          · rw [e9]; exact ((hf6.trans hf7).trans hf8).put (.inl hb)
          · rw [e9]; exact hp8.put np

/-- The slots in a level. -/
def lvS (d : Int) (b3 b4 b6 : Nat) : List (Nat × Option V) := [(2, some (.int .i64 d)), (3, some (.loc b3 0)), (4, some (.loc b4 0)), (6, some (.loc b6 0))]
/-- What holds in a level: the parser, its level and the result's place are in memory. -/
structure LvI (σ0 σ : St) (p : Nat) (l : List Tok) (f : Int) (n b3 b4 b6 : Nat) : Prop where
  ps : Ps σ p l f
  fr : Fr p σ0 σ
  h3 : σ.box b3 = some [.loc p 0]
  h4 : σ.box b4 = some [.int .i64 n]
  h6 : σ.box b6 = some noEx
  n3 : p ≠ b3
  n4 : p ≠ b4
  n6 : p ≠ b6
  f6 : σ0.box b6 = none
theorem LvI.fr' {σ0 σ σ' : St} {p : Nat} {l l' : List Tok} {f : Int} {n b3 b4 b6 : Nat} (h : LvI σ0 σ p l f n b3 b4 b6) (hf : Fr p σ σ') (hp : Ps σ' p l' f) : LvI σ0 σ' p l' f n b3 b4 b6 :=
  ⟨hp, h.fr.trans hf, hf.box _ _ (Ne.symm h.n3) h.h3, hf.box _ _ (Ne.symm h.n4) h.h4, hf.box _ _ (Ne.symm h.n6) h.h6, h.n3, h.n4, h.n6, h.f6⟩

def scLoop : SC := match sc51 with
  | .seq _ (.seq _ (.seq _ (.seq _ r))) => r
  | _ => .skip
def scRest : SC := match sc51 with
  | .seq _ (.seq _ r) => r
  | _ => .skip

theorem level_loop {m : Nat} (ih : ∀ k, k < m → CallsTo k) {σ0 σ : St} {p : Nat} {l0 l : List Tok} {f d : Int} {n n0 b3 b4 b6 b8 : Nat} (hI : LvI σ0 σ p l f n b3 b4 b6) (he : Ended l) (h0 : 0 ≤ d) (h1 : d ≤ 30) (hm' : l.length * 20 + 20 ≤ m) (hn : n ≠ 3 ∧ n < 7)
    (x : Ex) (h8 : σ.box b8 = some (exV x)) (n8 : p ≠ b8) (n38 : b3 ≠ b8) (n48 : b4 ≠ b8) (n68 : b6 ≠ b8) (f8 : σ0.box b8 = none) (hl : l.length < l0.length) (hPE : ∀ r, PE (.more n x) d l r → PE (.lvl n0) d l0 r) :
    swpE Tryz.prog LG scLoop (retE [(6, some (true, 5))] (Reads (.lvl n0) d l0 p f σ0)) (ofL (lvS d b3 b4 b6 ++ [(8, some (.loc b8 0))])) σ := by
  refine ⟨fun k sl σ' => ∃ (x : Ex) (l : List Tok), sl = ofL (lvS d b3 b4 b6 ++ [(8, some (.loc b8 0))]) ∧ LvI σ0 σ' p l f n b3 b4 b6 ∧ Ended l ∧ l.length * 20 + 20 ≤ m ∧ σ'.box b8 = some (exV x) ∧ l.length < l0.length ∧ (∀ r, PE (.more n x) d l r → PE (.lvl n0) d l0 r) ∧ k = l.length,
    _, ⟨x, l, rfl, hI, he, hm', h8, hl, hPE, rfl⟩, ?_⟩
  clear hI he hm' h8 hl hPE x
  rintro k sl σ' ⟨x, l, rfl, hI, he, hm', h8, hl, hPE, rfl⟩
  obtain ⟨op, nn, s, kids, a⟩ := x
  refine CallK.pure operators_ret ?_
  refine CallK.mk' (index_call (fun o => o.2.2 == n && isS o.1 l) (fun σ2 ho o => ?_)) ?_
  · refine (signP_call (n := n) (ho.box _ _ hI.h4) (ho.box _ _ hI.h3) (hI.ps.over ho) he.ne o)
  rintro e σ2 ⟨rfl, ho⟩
  have hI2 := hI.fr' (Fr.of_over ho) (hI.ps.over ho)
  have h82 := ho.box _ _ h8
  clear hI h8
  rcases opIdx_lvl n l with ⟨hi, hno⟩ | ⟨k, o, hi, hok, hop, hk⟩
  · rw [hi]
    refine Test.yes (by omega) ?_
    refine Load.mk' h82 (Nat.le_refl _) ?_
    refine Sure.mk' rfl ?_
    refine Store.mk' (exV (.mk op nn s kids a)) hI2.h6 (Nat.le_refl _) rfl (fun σ4 e4 => ?_)
    refine Load.mk' (by rw [e4]; exact put_box) (Nat.le_refl _) ?_
    refine Ret.mk' ⟨_, hPE _ (.more_end hno), ?_, rfl, ?_, he, hl⟩
    · rw [e4]; exact hI2.fr.put (.inl hI2.f6)
    · rw [e4]; exact hI2.ps.put hI2.n6
  · rw [hi]
    refine Test.no (by omega) ?_
    obtain ⟨sg, hsg, hsl⟩ := of_opOf hop
    obtain ⟨t, r, rfl⟩ := he.cons
    obtain ⟨het, hltt⟩ := he.tail_sign hsl
    simp only [List.tail_cons, List.length_cons] at het hltt hl hm'
    refine Load.mk' hI2.h3 (Nat.le_refl _) ?_
    refine CallK.mk' (nextTok_call hI2.ps) ?_
    rintro e σ3 ⟨rfl, hp3, hf3⟩
    have hI3 := hI2.fr' hf3 hp3
    have h83 := hf3.box _ _ (Ne.symm n8) h82
    refine Sure.mk' rfl ?_
    refine Load.mk' h83 (by simp [exV]) ?_
    refine Sure.mk' rfl ?_
    refine Load.mk' h83 (by simp [exV]) ?_
    refine Sure.mk' rfl ?_
    refine Load.mk' hI3.h3 (by simp) ?_
    refine Sure.mk' rfl ?_
    refine Load.mk' hI3.h4 (by simp) ?_
    refine Arith.i64 ((n + 1 : Nat) : Int) (by omega) (by omega) ?_
    refine CallK.pure operators_ret ?_
    refine Kept1.mk' (fun cs h => h) ?_
    refine Kept1.mk' (fun cs h => h) ?_
    refine Kept1.mk' (fun cs h => h) ?_
    refine Sure.mk' (.inl rfl) ?_
    refine IdxE.mk' k (opV o) rfl (by simp [hok]) ?_
    refine ⟨by simp [opV], ?_⟩
    refine CallK.mk' ((ih (m - 1) (by omega)).lvl _ p r f d (n + 1) hp3 het h0 h1 (by omega) (by omega) (by omega)) ?_
    rintro e σ4 ⟨r4, hr4, hf4, hres⟩
    cases r4 with
    | err E rest4 =>
      obtain ⟨rfl, h2⟩ := hres
      exact ⟨_, _, Weak.refl _, Forget.refl _, _, hPE _ (.more_err hop hr4), hI3.fr.trans hf4, rfl, h2⟩
    | ok x4 rest4 =>
      obtain ⟨rfl, hp4, he4, hlt4⟩ := hres
      obtain ⟨op4, n4, s4, kids4, a4⟩ := x4
      have hI4 := hI3.fr' hf4 hp4
      have h84 := hf4.box _ _ (Ne.symm n8) h83
      refine Kept1.mk' (fun cs h => hf4.box _ _ (Ne.symm n8) h) ?_
      refine Sure.mk' rfl ?_
      refine Store.mk' [.int .i64 o.2.1, .int .i64 0, .str [], .slice .full 5 [exV (.mk op nn s kids a), exV (.mk op4 n4 s4 kids4 a4)], .int .i64 a] h84 (Nat.le_refl _) rfl (fun σ5 e5 => ?_)
      have h85 : σ5.box b8 = some [.int .i64 o.2.1, .int .i64 0, .str [], .slice .full 5 [exV (.mk op nn s kids a), exV (.mk op4 n4 s4 kids4 a4)], .int .i64 a] := by rw [e5]; exact put_box
      have hfr5 : Fr b8 σ4 σ5 := by rw [e5]; exact (Fr.refl b8 σ4).put (.inr rfl)
      have hI5 : LvI σ0 σ5 p rest4 f n b3 b4 b6 := ⟨by rw [e5]; exact hI4.ps.put n8, by rw [e5]; exact hI4.fr.put (.inl f8), hfr5.box _ _ n38 hI4.h3, hfr5.box _ _ n48 hI4.h4, hfr5.box _ _ n68 hI4.h6, hI4.n3, hI4.n4, hI4.n6, hI4.f6⟩
      refine Load.mk' hI5.h4 (by simp) ?_
      refine Test.split (fun hn4 => ?_) (fun hn4 => ?_)
      · refine Load.mk' h85 (Nat.le_refl _) ?_
        refine Sure.mk' rfl ?_
        refine Store.mk' [.int .i64 o.2.1, .int .i64 0, .str [], .slice .full 5 [exV (.mk op nn s kids a), exV (.mk op4 n4 s4 kids4 a4)], .int .i64 a] hI5.h6 (Nat.le_refl _) rfl (fun σ6 e6 => ?_)
        refine Load.mk' (by rw [e6]; exact put_box) (Nat.le_refl _) ?_
        obtain rfl : n = 4 := by omega
        refine Ret.weak (weak_ex (kids := [.mk op nn s kids a, .mk op4 n4 s4 kids4 a4]) rfl) (.refl _) ⟨_, hPE _ (.more_last hop hr4), ?_, rfl, ?_, he4, by omega⟩
        · rw [e6]; exact hI5.fr.put (.inl hI5.f6)
        · rw [e6]; exact hI5.ps.put hI5.n6
      · refine ⟨_, σ5.put b8 (exV (.mk o.2.1 0 [] [.mk op nn s kids a, .mk op4 n4 s4 kids4 a4] a)), ?_, Forget.put h85 (weakL_ex (kids := [.mk op nn s kids a, .mk op4 n4 s4 kids4 a4]) rfl), _, rest4, rfl, ⟨hI5.ps.put n8, hI5.fr.put (.inl f8), ?_, ?_, ?_, hI5.n3, hI5.n4, hI5.n6, hI5.f6⟩, he4, ?_, put_box, ?_, fun r hr => hPE _ (.more_go (by omega) hop hr4 hr), rfl⟩
        · simp; omega
        · rw [put_ne n38]; exact hI5.h3
        · rw [put_ne n48]; exact hI5.h4
        · rw [put_ne n68]; exact hI5.h6
        · omega
        · omega

theorem level_rest {m : Nat} (ih : ∀ k, k < m → CallsTo k) {σ0 σ : St} {p : Nat} {l : List Tok} {f d : Int} {n n0 b3 b4 b6 : Nat} (hI : LvI σ0 σ p l f n b3 b4 b6) (he : Ended l) (h0 : 0 ≤ d) (h1 : d ≤ 30) (hm' : l.length * 20 + (9 - n) ≤ m) (hn : n ≠ 3 ∧ n ≤ 7)
    (hPE : ∀ r, PE (.lvl n) d l r → PE (.lvl n0) d l r) :
    swpE Tryz.prog LG scRest (retE [(6, some (true, 5))] (Reads (.lvl n0) d l p f σ0)) (ofL (lvS d b3 b4 b6)) σ := by
  refine Load.mk' hI.h4 (by simp) ?_
  refine Test.split (fun h7 => ?_) (fun h7 => ?_)
  · obtain rfl : n = 7 := by omega
    refine Load.mk' hI.h3 (by simp) ?_
    refine CallK.mk' ((ih (m - 1) (by omega)).neg _ p l f d hI.ps he h0 h1 (by omega)) ?_
    rintro e σ2 ⟨r, hr, hfr, hres⟩
    cases r with
    | err E rest =>
      obtain ⟨rfl, h2⟩ := hres
      exact ⟨_, _, Weak.refl _, Forget.refl _, _, hPE _ (.lvl7 hr), hI.fr.trans hfr, rfl, h2⟩
    | ok x rest =>
      obtain ⟨rfl, hp2, he2, hlt⟩ := hres
      have hI2 := hI.fr' hfr hp2
      obtain ⟨op, n, s, kids, a⟩ := x
      refine Sure.mk' rfl ?_
      refine Store.mk' (exV (.mk op n s kids a)) hI2.h6 (Nat.le_refl _) rfl (fun σ3 e3 => ?_)
      refine Load.mk' (by rw [e3]; exact put_box) (Nat.le_refl _) ?_
      refine Ret.mk' ⟨_, hPE _ (.lvl7 hr), ?_, rfl, ?_, he2, hlt⟩
      · rw [e3]; exact hI2.fr.put (.inl hI2.f6)
      · rw [e3]; exact hI2.ps.put hI2.n6
  · refine Load.mk' hI.h3 (by simp) ?_
    refine Load.mk' hI.h4 (by simp) ?_
    refine Arith.i64 ((n + 1 : Nat) : Int) (by omega) (by omega) ?_
    refine CallK.mk' ((ih (m - 1) (by omega)).lvl _ p l f d (n + 1) hI.ps he h0 h1 (by omega) (by omega) (by omega)) ?_
    rintro e σ2 ⟨r, hr, hfr, hres⟩
    cases r with
    | err E rest =>
      obtain ⟨rfl, h2⟩ := hres
      exact ⟨_, _, Weak.refl _, Forget.refl _, _, hPE _ (.lvl_err ⟨hn.1, by omega⟩ hr), hI.fr.trans hfr, rfl, h2⟩
    | ok x rest =>
      obtain ⟨rfl, hp2, he2, hlt⟩ := hres
      have hI2 := hI.fr' hfr hp2
      obtain ⟨op, nn, s, kids, a⟩ := x
      intro b8 hb8
      have n8 := hp2.ne hb8
      have n38 := box_ne hI2.h3 hb8
      have n48 := box_ne hI2.h4 hb8
      have n68 := box_ne hI2.h6 hb8
      refine Sure.mk' rfl ?_
      refine Store.mk' (exV (.mk op nn s kids a)) put_box (Nat.le_refl _) rfl (fun σ3 e3 => ?_)
      rw [put_put] at e3
      have hfr3 : Fr p σ2 σ3 := by rw [e3]; exact (Fr.refl p σ2).new hb8
      have hI3 := hI2.fr' hfr3 (by rw [e3]; exact hp2.put n8)
      exact level_loop ih hI3 he2 h0 h1 (by omega) ⟨hn.1, by omega⟩ (.mk op nn s kids a) (by rw [e3]; exact put_box) n8 n38 n48 n68 (hI2.fr.fresh (Ne.symm n8) hb8) hlt (fun r hr2 => hPE _ (.lvl_ok ⟨hn.1, by omega⟩ hr hr2))

theorem level_walk {m : Nat} (ih : ∀ k, k < m → CallsTo k) {σ : St} {p : Nat} {l : List Tok} {f d : Int} {n : Nat} (hp : Ps σ p l f) (he : Ended l) (h0 : 0 ≤ d) (h1 : d ≤ 30) (hn1 : 1 ≤ n) (hn7 : n ≤ 7) (hm' : l.length * 20 + (9 - n) ≤ m) :
    SCall Tryz.prog LG 51 [.loc p 0, .int .i64 n, .int .i64 d] σ (Reads (.lvl n) d l p f σ) := by
  refine code51.call hm (by simp) ?_
  refine ⟨rfl, ?_⟩
  intro b3 hb3
  have np3 := hp.ne hb3
  have hp1 := hp.put (cs := [.loc p 0]) np3
  have hf1 : Fr p σ (σ.put b3 [.loc p 0]) := (Fr.refl p σ).new hb3
  have h31 : (σ.put b3 [.loc p 0]).box b3 = some [.loc p 0] := put_box
  refine ⟨rfl, ?_⟩
  intro b4 hb4
  have np4 := hp1.ne hb4
  have n34 := box_ne h31 hb4
  have hp2 := hp1.put (cs := [.int .i64 n]) np4
  have hf2 := hf1.new (cs := [.int .i64 n]) hb4
  intro b6 hb6
  have np6 := hp2.ne hb6
  have n46 := box_ne put_box hb6
  have n36 : b3 ≠ b6 := box_ne (by rw [put_ne n34]; exact h31) hb6
  have hp3 := hp2.put (cs := noEx) np6
  have hf3 := hf2.new (cs := noEx) hb6
  have hI : LvI σ (((σ.put b3 [.loc p 0]).put b4 [.int .i64 n]).put b6 noEx) p l f n b3 b4 b6 :=
    ⟨hp3, hf3, by rw [put_ne n36, put_ne n34]; exact put_box, by rw [put_ne n46]; exact put_box, put_box, np3, np4, np6, hf2.fresh (Ne.symm np6) hb6⟩
  generalize hσ : ((σ.put b3 [.loc p 0]).put b4 [.int .i64 n]).put b6 noEx = σ1 at hI
  have hgoal : ∀ {G : St → Prop}, G σ1 → G (((σ.put b3 [.loc p 0]).put b4 [.int .i64 n]).put b6 noEx) := fun h => by rw [hσ]; exact h
  refine hgoal ?_
  refine Load.mk' hI.h4 (by simp) ?_
  refine Test.split (fun h3 => ?_) (fun h3 => ?_)
  · obtain rfl : n = 3 := by omega
    refine Load.mk' hI.h3 (by simp) ?_
    refine CallK.mk' (is_call hI.ps he.ne _) ?_
    rintro e σ' ⟨rfl, rfl⟩
    cases hq : isS [33] l
    · refine Load.mk' hI.h4 (by simp) ?_
      refine Arith.i64 ((4 : Nat) : Int) (by omega) (by omega) ?_
      refine Sure.mk' rfl ?_
      refine Store.mk' [.int .i64 ((4 : Nat) : Int)] hI.h4 (by simp [V.cells]) (by simp [setL, V.cells]) (fun σ2 e2 => ?_)
      have n36 : b3 ≠ b6 := n36
      exact level_rest ih (n := 4) ⟨by rw [e2]; exact hI.ps.put hI.n4, by rw [e2]; exact hI.fr.put (.inl (hf1.fresh (Ne.symm np4) hb4)), by rw [e2, put_ne n34]; exact hI.h3, by rw [e2]; exact put_box, by rw [e2, put_ne (Ne.symm n46)]; exact hI.h6, hI.n3, hI.n4, hI.n6, hI.f6⟩ he h0 h1 (by omega) ⟨by omega, by omega⟩ (fun r hr => .lvl3 hq hr)
    · obtain ⟨t, r, rfl⟩ := he.cons
      obtain ⟨het, hlt⟩ := he.tail_sign hq
      simp only [List.tail_cons, List.length_cons] at het hlt hm'
      refine Load.mk' hI.h3 (by simp) ?_
      refine CallK.mk' (nextTok_call hI.ps) ?_
      rintro e σ2 ⟨rfl, hp2', hf2'⟩
      have hI2 := hI.fr' hf2' hp2'
      refine ⟨by simp [tokV], ?_⟩
      refine Load.mk' hI2.h3 (by simp) ?_
      refine Arith.i64 (d + 1) (by omega) (by omega) ?_
      refine CallK.mk' (deep_call hp2' het.ne _ _) ?_
      rintro e σ3 (⟨h4, rfl, rfl⟩ | ⟨E, h4, rfl, rfl⟩)
      rotate_left
      · exact ⟨_, _, Weak.refl _, Forget.refl _, _, .bang_first hq h4, hI2.fr, rfl, het⟩
      refine Load.mk' hI2.h3 (by simp) ?_
      refine Arith.i64 (d + 1) (by omega) (by omega) ?_
      refine CallK.mk' ((ih (m - 1) (by omega)).lvl _ p r f (d + 1) 3 hp2' het (by omega) (first_le h4) (by omega) (by omega) (by omega)) ?_
      rintro e σ4 ⟨rs, hr, hfr, hres⟩
      cases rs with
      | err E rest =>
        obtain ⟨rfl, h2⟩ := hres
        exact ⟨_, _, Weak.refl _, Forget.refl _, _, .bang_err hq h4 hr, hI2.fr.trans hfr, rfl, h2⟩
      | ok x rest =>
        obtain ⟨rfl, h2, h3, h5⟩ := hres
        have hI4 := hI2.fr' hfr h2
        obtain ⟨op, n, s, kids, a⟩ := x
        refine Sure.mk' rfl ?_
        refine Store.mk' [.int .i64 5, .int .i64 0, .str [], .slice .full 5 [exV (.mk op n s kids a)], .int .i64 t.at_] hI4.h6 (Nat.le_refl _) rfl (fun σ5 e5 => ?_)
        refine Load.mk' (by rw [e5]; exact put_box) (Nat.le_refl _) ?_
        refine Ret.weak (weak_ex (kids := [.mk op n s kids a]) rfl) (.refl _) ⟨_, .bang_ok hq h4 hr, ?_, rfl, ?_, h3, by simp; omega⟩
        · rw [e5]; exact hI4.fr.put (.inl hI4.f6)
        · rw [e5]; exact h2.put hI4.n6
  · exact level_rest ih hI he h0 h1 hm' ⟨by omega, hn7⟩ (fun r hr => hr)
end Go.Shadow.Lex

/- The parser's operands, as shadow contracts; all readers of expressions together. Conditions: as each theorem says. -/
namespace Go.Shadow.Lex
open Go Go.RowKit Go.Proofs

/-- A state without what is known of variables. -/
def sans (σ : St) : St := ⟨fun _ => none, σ.live, σ.map⟩
theorem Fr.sans {p : Nat} {σ σ' : St} (h : Fr p σ σ') : Over (sans σ) σ' := ⟨fun _ _ h => (by cases h), h.live, h.map⟩
theorem Fr.app {p : Nat} {σ σ' σ2 : St} (h : Fr p σ σ') (hb : σ2.box = σ'.box) (ho : Over (Lex.sans σ) σ2) : Fr p σ σ2 := ⟨fun x cs hx hc => by rw [hb]; exact h.box x cs hx hc, ho.live, ho.map⟩
theorem Mine.fr {p : Nat} {σ1 σ σ' : St} {tag : Tag} (h : Mine σ1 σ tag) (hf : Fr p σ σ') : Mine σ1 σ' tag := by
  cases tag with
  | tip t => exact ⟨hf.live t h.1, h.2⟩
  | _ => exact h
theorem Mine.put {σ1 σ : St} {tag : Tag} (h : Mine σ1 σ tag) {b : Nat} {cs : List V} : Mine σ1 (σ.put b cs) tag := by
  cases tag with
  | tip t => exact h
  | _ => exact h
theorem Ps.box {σ σ' : St} {p : Nat} {l : List Tok} {f : Int} (h : Ps σ p l f) (hb : σ'.box = σ.box) : Ps σ' p l f := by
  obtain ⟨tag, h⟩ := h; exact ⟨tag, by rw [hb]; exact h⟩

def scEnd101 : SC := match sc101 with
  | .seq _ (.seq _ (.seq _ (.seq _ (.seq _ r)))) => r
  | _ => .skip

/-- What holds in an operand: the parser, the result's places. -/
structure AtI (σ0 σ : St) (p : Nat) (l : List Tok) (f : Int) (b4 b6 : Nat) : Prop where
  ps : Ps σ p l f
  fr : Fr p σ0 σ
  h4 : σ.box b4 = some noEx
  n4 : p ≠ b4
  n6 : p ≠ b6
  n46 : b4 ≠ b6
  f4 : σ0.box b4 = none
  f6 : σ0.box b6 = none
theorem AtI.fr' {σ0 σ σ' : St} {p : Nat} {l l' : List Tok} {f : Int} {b4 b6 : Nat} (h : AtI σ0 σ p l f b4 b6) (hf : Fr p σ σ') (hp : Ps σ' p l' f) : AtI σ0 σ' p l' f b4 b6 :=
  ⟨hp, h.fr.trans hf, hf.box _ _ (Ne.symm h.n4) h.h4, h.n4, h.n6, h.n46, h.f4, h.f6⟩
theorem AtI.put6 {σ0 σ : St} {p : Nat} {l : List Tok} {f : Int} {b4 b6 : Nat} (h : AtI σ0 σ p l f b4 b6) (cs : List V) : AtI σ0 (σ.put b6 cs) p l f b4 b6 :=
  ⟨h.ps.put h.n6, h.fr.put (.inl h.f6), by rw [put_ne h.n46]; exact h.h4, h.n4, h.n6, h.n46, h.f4, h.f6⟩
theorem AtI.app {σ0 σ σ' : St} {p : Nat} {l : List Tok} {f : Int} {b4 b6 : Nat} (h : AtI σ0 σ p l f b4 b6) (hb : σ'.box = σ.box) (ho : Over (sans σ0) σ') : AtI σ0 σ' p l f b4 b6 :=
  ⟨h.ps.box hb, h.fr.app hb ho, by rw [hb]; exact h.h4, h.n4, h.n6, h.n46, h.f4, h.f6⟩

theorem atom_end {σ0 σ : St} {p : Nat} {l l0 : List Tok} {f d : Int} {b4 b6 : Nat} (hI : AtI σ0 σ p l f b4 b6) (he : Ended l) (hl : l.length < l0.length) {op n a : Int} {s : List UInt8} {kids : List Ex} {es : List (List V)} {tag : Tag} {z : Nat}
    (h6 : σ.box b6 = some [.int .i64 op, .int .i64 n, .str s, .slice tag z es, .int .i64 a]) (hes : es = kids.map exV) (hz : z = 5 ∨ es = []) (hPE : PE .atom d l0 (.ok (.mk op n s kids a) l)) :
    swpE Tryz.prog LG scEnd101 (retE [(4, some (true, 5))] (Reads .atom d l0 p f σ0)) (ofL [(4, some (.loc b4 0)), (6, some (.loc b6 0))]) σ := by
  refine Load.mk' h6 (Nat.le_refl _) ?_
  refine Sure.mk' rfl ?_
  refine Store.mk' [.int .i64 op, .int .i64 n, .str s, .slice tag z es, .int .i64 a] hI.h4 (Nat.le_refl _) rfl (fun σ3 e3 => ?_)
  refine Load.mk' (by rw [e3]; exact put_box) (Nat.le_refl _) ?_
  refine Ret.weak (r := .agg (exV (.mk op n s kids a))) ?_ (.refl _) ⟨_, hPE, ?_, rfl, ?_, he, hl⟩
  · rcases hz with rfl | rfl
    · exact weak_ex hes
    · refine weak_agg rfl (fun i y hy => ?_) (fun i x y hx hy => ?_)
      · match i, hy with
        | 0, hy | 1, hy | 2, hy | 3, hy | 4, hy => simp [exV] at hy; subst hy; rfl
        | _ + 5, hy => simp [exV] at hy
      · have hk : kids = [] := by simpa using hes.symm
        subst hk
        match i, hx, hy with
        | 0, hx, hy | 1, hx, hy | 2, hx, hy | 4, hx, hy => simp [exV] at hx hy; subst hx; subst hy; exact Weak.refl _
        | 3, hx, hy => simp [exV, exVs] at hx hy; subst hx; subst hy; exact weak_nil _ _ _
        | _ + 5, hx, hy => simp [exV] at hy
  · rw [e3]; exact hI.fr.put (.inl hI.f4)
  · rw [e3]; exact hI.ps.put hI.n4

theorem small_app {n : Nat} (h : n ≤ 39) : (n + (0 + 1)) * 64 ≤ 140737488355328 ∧ n + (0 + 1) ≤ 9223372036854775807 := by omega
set_option maxHeartbeats 1000000 in
theorem atom_walk {m : Nat} (ih : ∀ k, k < m → CallsTo k) {σ : St} {p : Nat} {l : List Tok} {f d : Int} (hp : Ps σ p l f) (he : Ended l) (h0 : 0 ≤ d) (h1 : d ≤ 30) (hno : isS [45] l = false) (hm' : l.length * 20 ≤ m) :
    SCall Tryz.prog LG 101 [.loc p 0, .int .i64 d] σ (Reads .atom d l p f σ) := by
  refine code101.call hm (by simp) ?_
  intro b hb
  have np := hp.ne hb
  have hp1 := hp.put (cs := noEx) np
  have hf1 : Fr p σ (σ.put b noEx) := (Fr.refl p σ).new hb
  have hb1 : (σ.put b noEx).box b = some noEx := put_box
  refine CallK.mk' (begins_call hp1 he.ne) ?_
  rintro e σ' ⟨rfl, rfl⟩
  obtain ⟨t, r, rfl⟩ := he.cons
  cases hq : begins (t :: r)
  · refine CallK.mk' (fail_call hp1 he.ne 5) ?_
    rintro e σ' ⟨rfl, rfl⟩
    exact ⟨_, _, Weak.refl _, Forget.refl _, _, .atom_bad hq, hf1, rfl, he⟩
  have hk5 : (hd (t :: r)).kind ≠ 5 := by
    intro h5
    simp only [hd, List.headD_cons] at h5
    simp [begins, isS, h5] at hq
  obtain ⟨het, hlt⟩ := he.tail hk5
  have htok : (t.kind = 2 → t.s = []) ∧ (t.kind ≠ 2 → t.n = 0) := by
    obtain ⟨i, e, hl, _, _, h3⟩ := he
    exact (h3 t (by simp)).1
  simp only [List.tail_cons, List.length_cons] at het hlt hm'
  refine CallK.mk' (nextTok_call hp1) ?_
  rintro e σ2 ⟨rfl, hp2, hf2⟩
  have hb2 := hf2.box b _ (Ne.symm np) hb1
  intro b5 hb5
  have np5 := hp2.ne hb5
  have n45 := box_ne hb2 hb5
  refine Sure.mk' rfl ?_
  refine Store.mk' (tokV t) put_box (by simp [V.cells, tokV]) (by simp [setL, V.cells, tokV]) (fun σ3 e3 => ?_)
  rw [put_put] at e3
  have h53 : σ3.box b5 = some (tokV t) := by rw [e3]; exact put_box
  have hb3 : σ3.box b = some noEx := by rw [e3, put_ne n45]; exact hb2
  have hp3 : Ps σ3 p r f := by rw [e3]; exact hp2.put np5
  have hf3 : Fr p σ σ3 := by rw [e3]; exact (hf1.trans hf2).new hb5
  clear e3 hb5
  refine Load.mk' h53 (by simp [tokV]) ?_
  refine Load.mk' h53 (by simp [tokV]) ?_
  refine Load.mk' h53 (by simp [tokV]) ?_
  intro b6 hb6
  have np6 := hp3.ne hb6
  have n46 := box_ne hb3 hb6
  have n56 := box_ne h53 hb6
  refine Sure.mk' rfl ?_
  refine Store.mk' [.int .i64 0, .int .i64 t.n, .str t.s, .slice .nil 0 [], .int .i64 t.at_] put_box (Nat.le_refl _) rfl (fun σ4 e4 => ?_)
  rw [put_put] at e4
  have h54 : σ4.box b5 = some (tokV t) := by rw [e4, put_ne n56]; exact h53
  have h64 : σ4.box b6 = some [.int .i64 0, .int .i64 t.n, .str t.s, .slice .nil 0 [], .int .i64 t.at_] := by rw [e4]; exact put_box
  have hI : AtI σ σ4 p r f b b6 := ⟨by rw [e4]; exact hp3.put np6, by rw [e4]; exact hf3.new hb6, by rw [e4, put_ne n46]; exact hb3, np, np6, n46, hb, hf3.fresh (Ne.symm np6) hb6⟩
  clear e4 hb6 hp3 hf3 h53 hb3 hp2 hf2 hb2 hp1 hb1
  refine Load.mk' h54 (by simp [tokV]) ?_
  refine Test.split (fun k2 => ?_) (fun k2 => ?_)
  · refine Sure.mk' rfl ?_
    refine Store.mk' [.int .i64 1, .int .i64 t.n, .str t.s, .slice .nil 0 [], .int .i64 t.at_] h64 (by simp [V.cells]) rfl (fun σ5 e5 => ?_)
    have hPE : PE .atom d (t :: r) _ := .atom_num k2
    rw [htok.1 k2] at e5
    exact atom_end (by rw [e5]; exact hI.put6 _) het hlt (by rw [e5]; exact put_box) rfl (.inr rfl) hPE
  refine Test.split (fun k3 => ?_) (fun k3 => ?_)
  · refine Sure.mk' rfl ?_
    refine Store.mk' [.int .i64 2, .int .i64 t.n, .str t.s, .slice .nil 0 [], .int .i64 t.at_] h64 (by simp [V.cells]) rfl (fun σ5 e5 => ?_)
    have hPE : PE .atom d (t :: r) _ := .atom_text k3
    rw [htok.2 k2] at e5
    exact atom_end (by rw [e5]; exact hI.put6 _) het hlt (by rw [e5]; exact put_box) rfl (.inr rfl) hPE
  refine Test.split (fun k1 => ?_) (fun k1 => ?_)
  · refine Sure.mk' rfl ?_
    refine Store.mk' [.int .i64 3, .int .i64 t.n, .str t.s, .slice .nil 0 [], .int .i64 t.at_] h64 (by simp [V.cells]) rfl (fun σ5 e5 => ?_)
    rw [htok.2 k2] at e5
    have hI5 : AtI σ σ5 p r f b b6 := by rw [e5]; exact hI.put6 _
    have h65 : σ5.box b6 = some [.int .i64 3, .int .i64 0, .str t.s, .slice .nil 0 [], .int .i64 t.at_] := by rw [e5]; exact put_box
    clear e5 h64 h54 hI
    refine CallK.mk' (is_call hI5.ps het.ne _) ?_
    rintro e σ' ⟨rfl, rfl⟩
    cases ho : isS [40] r
    · have hPE : PE .atom d (t :: r) _ := .atom_name k1 ho
      exact atom_end hI5 het hlt h65 rfl (.inr rfl) hPE
    · refine Sure.mk' rfl ?_
      refine Store.mk' [.int .i64 4, .int .i64 0, .str t.s, .slice .nil 0 [], .int .i64 t.at_] h65 (by simp [V.cells]) rfl (fun σ6 e6 => ?_)
      have hI6 : AtI σ σ6 p r f b b6 := by rw [e6]; exact hI5.put6 _
      have h66 : σ6.box b6 = some [.int .i64 4, .int .i64 0, .str t.s, .slice .nil 0 [], .int .i64 t.at_] := by rw [e6]; exact put_box
      clear e6 h65 hI5
      obtain ⟨t2, r2, rfl⟩ := het.cons
      obtain ⟨het2, hlt2⟩ := het.tail_sign ho
      simp only [List.tail_cons, List.length_cons] at het2 hlt2 hlt hm'
      refine CallK.mk' (nextTok_call hI6.ps) ?_
      rintro e σ7 ⟨rfl, hp7, hf7⟩
      have hI7 := hI6.fr' hf7 hp7
      have h67 := hf7.box _ _ (Ne.symm np6) h66
      clear hI6 h66
      refine ⟨fun k sl σ' => ∃ (kids : List Ex) (lc : List Tok) (tag : Tag) (z : Nat), sl = ofL [(0, some (.loc p 0)), (1, some (.int .i64 d)), (4, some (.loc b 0)), (6, some (.loc b6 0))] ∧ AtI σ σ' p lc f b b6 ∧ Ended lc ∧ lc.length ≤ r2.length ∧
          σ'.box b6 = some [.int .i64 4, .int .i64 0, .str t.s, .slice tag z (kids.map exV), .int .i64 t.at_] ∧ Mine (sans σ) σ' tag ∧ (tag = .nil ∨ z = 5) ∧ (z = 5 ∨ kids.map exV = []) ∧ kids.length ≤ 40 ∧ (∀ x, PE (.args t.s t.at_ kids) d lc x → PE .atom d (t :: t2 :: r2) x) ∧ k = lc.length,
        _, ⟨[], r2, .nil, 0, rfl, hI7, het2, Nat.le_refl _, h67, trivial, .inl rfl, .inr rfl, by simp, fun x hx => .atom_call k1 ho hx, rfl⟩, ?_⟩
      clear hI7 h67 hp7 hf7
      rintro k sl σ' ⟨kids, lc, tag, z, rfl, hI, he, hlc, h6, hM, hz, hz5, hk40, hPE, rfl⟩
      refine CallK.mk' (is_call hI.ps he.ne _) ?_
      rintro e σ' ⟨rfl, rfl⟩
      cases hc : isS [41] lc
      rotate_left
      · obtain ⟨t3, r3, rfl⟩ := he.cons
        obtain ⟨het3, hlt3⟩ := he.tail_sign hc
        simp only [List.tail_cons, List.length_cons] at het3 hlt3 hlc
        refine CallK.mk' (nextTok_call hI.ps) ?_
        rintro e σ8 ⟨rfl, hp8, hf8⟩
        exact atom_end (hI.fr' hf8 hp8) het3 (by simp; omega) (hf8.box _ _ (Ne.symm np6) h6) rfl hz5 (hPE _ (.args_end hc))
      refine Load.mk' h6 (by simp) ?_
      have hcomma : ∀ {G : Prop}, (kids ≠ [] → isS [44] lc = false → G) → ((kids ≠ [] → isS [44] lc = true) → G) → G := by
        intro G h1 h2
        cases hx : isS [44] lc
        · by_cases hkk : kids = []
          · exact h2 (fun h => absurd hkk h)
          · exact h1 hkk hx
        · exact h2 (fun _ => hx)
      refine hcomma (fun hk1 hk2 => ?_) (fun hk1 => ?_)
      · refine Test.yes ?_ ?_
        · have : kids.length ≠ 0 := fun h => hk1 (List.eq_nil_of_length_eq_zero h)
          simp; omega
        refine CallK.mk' (need_call hI.ps he.ne _) ?_
        rintro e σ8 (⟨h, _⟩ | ⟨_, rfl, hf8⟩)
        · rw [hk2] at h; cases h
        · exact ⟨_, _, Weak.refl _, Forget.refl _, _, hPE _ (.args_comma hc hk1 hk2), hI.fr.trans hf8, rfl, he⟩
      have hstep : ∃ lc2, lc2 = argL kids lc ∧ Ended lc2 ∧ lc2.length ≤ lc.length := by
        refine ⟨_, rfl, ?_⟩
        unfold argL
        split
        · exact ⟨he, Nat.le_refl _⟩
        · rename_i hkk
          have := he.tail_sign (hk1 hkk)
          exact ⟨this.1, by omega⟩
      obtain ⟨lc2, hlc2, he2, hl2⟩ := hstep
      refine Test.split (fun hk => ?_) (fun hk => ?_)
      · refine CallK.mk' (need_call hI.ps he.ne _) ?_
        have hkk : kids ≠ [] := by rintro rfl; simp at hk
        rintro e σ8 (⟨_, rfl, hp8, hf8⟩ | ⟨h, _⟩)
        rotate_left
        · rw [hk1 hkk] at h; cases h
        have hlc2' : lc2 = lc.tail := by rw [hlc2]; unfold argL; rw [if_neg hkk]
        rw [← hlc2'] at hp8
        have hI8 := hI.fr' hf8 hp8
        have h68 := hf8.box _ _ (Ne.symm np6) h6
        have hM8 := Mine.fr hM hf8
        clear hI h6 hM
        refine Load.mk' h68 (by simp) ?_
        refine Test.split (fun h40 => ?_) (fun h40 => ?_)
        · refine CallK.mk' (deep_call hI8.ps he2.ne _ _) ?_
          rintro e σ9 (⟨h4, rfl, rfl⟩ | ⟨E, h4, rfl, rfl⟩)
          · refine CallK.mk' (fail_call hI8.ps he2.ne 2) ?_
            rintro e σ9 ⟨rfl, rfl⟩
            have hx := hPE _ (.args_full hc hk1 (by simp at h40; omega))
            rw [← hlc2, h4] at hx
            exact ⟨_, _, Weak.refl _, Forget.refl _, _, hx, hI8.fr, rfl, he2⟩
          · have hx := hPE _ (.args_full hc hk1 (by simp at h40; omega))
            rw [← hlc2, h4] at hx
            exact ⟨_, _, Weak.refl _, Forget.refl _, _, hx, hI8.fr, rfl, he2⟩
        · refine Arith.i64 (d + 1) (by omega) (by omega) ?_
          refine Sure.mk' rfl ?_
          refine Load.mk' h68 (by simp) ?_
          refine CallK.mk' ((ih (m - 1) (by omega)).expr _ p lc2 f (d + 1) hI8.ps he2 (by omega) (by omega) (by omega)) ?_
          rintro e σ9 ⟨r9, hr9, hf9, hres⟩
          rw [hlc2] at hr9
          have hn40 : kids.length ≠ 40 := by simp at h40; omega
          have hk39 : kids.length ≤ 39 := by omega
          cases r9 with
          | err E rest =>
            obtain ⟨rfl, h2⟩ := hres
            exact ⟨_, _, Weak.refl _, Forget.refl _, _, hPE _ (.args_err hc hk1 hn40 hr9), hI8.fr.trans hf9, rfl, h2⟩
          | ok x rest =>
            obtain ⟨rfl, hp9, he9, hlt9⟩ := hres
            have hI9 := hI8.fr' hf9 hp9
            have h69 := hf9.box _ _ (Ne.symm np6) h68
            have hM9 := Mine.fr hM8 hf9
            obtain ⟨op, nn, s, kk, a⟩ := x
            refine Kept1.mk' (fun cs h => hf9.box _ _ (Ne.symm np6) h) ?_
            refine App.mk' hI9.fr.sans hM9 hz rfl (by simp only [List.length_map, List.length_cons, List.length_nil]; exact (small_app hk39).1) (by simp only [List.length_map, List.length_cons, List.length_nil]; exact (small_app hk39).2) (List.cons_ne_nil _ _) (fun t' σ10 o10 m10 b10 _ => ?_)
            have hI10 := hI9.app b10 o10
            refine Sure.mk' rfl ?_
            refine Store.mk' [.int .i64 4, .int .i64 0, .str t.s, .slice (.tip t') 5 (kids.map exV ++ [exV (.mk op nn s kk a)]), .int .i64 t.at_] (by rw [b10]; exact h69) (by simp [V.cells]) rfl (fun σ11 e11 => ?_)
            refine ⟨_, _, ?_, Forget.refl _, kids ++ [.mk op nn s kk a], rest, .tip t', 5, rfl, by rw [e11]; exact hI10.put6 _, he9, by omega, by rw [e11, List.map_append]; exact put_box, by rw [e11]; exact Mine.put m10, .inr rfl, .inl rfl, by simp; omega, fun x hx => hPE _ (.args_go hc hk1 hn40 hr9 hx), rfl⟩
            omega
      · have hkk : kids = [] := by
          cases kids with
          | nil => rfl
          | cons a b => simp at hk
        have hlc2' : lc2 = lc := by rw [hlc2]; unfold argL; rw [if_pos hkk]
        have hI8 : AtI σ σ' p lc2 f b b6 := by rw [hlc2']; exact hI
        have h68 := h6
        have hM8 := hM
        clear hI h6 hM
        refine Load.mk' h68 (by simp) ?_
        refine Test.split (fun h40 => ?_) (fun h40 => ?_)
        · refine CallK.mk' (deep_call hI8.ps he2.ne _ _) ?_
          rintro e σ9 (⟨h4, rfl, rfl⟩ | ⟨E, h4, rfl, rfl⟩)
          · refine CallK.mk' (fail_call hI8.ps he2.ne 2) ?_
            rintro e σ9 ⟨rfl, rfl⟩
            have hx := hPE _ (.args_full hc hk1 (by simp at h40; omega))
            rw [← hlc2, h4] at hx
            exact ⟨_, _, Weak.refl _, Forget.refl _, _, hx, hI8.fr, rfl, he2⟩
          · have hx := hPE _ (.args_full hc hk1 (by simp at h40; omega))
            rw [← hlc2, h4] at hx
            exact ⟨_, _, Weak.refl _, Forget.refl _, _, hx, hI8.fr, rfl, he2⟩
        · refine Arith.i64 (d + 1) (by omega) (by omega) ?_
          refine Sure.mk' rfl ?_
          refine Load.mk' h68 (by simp) ?_
          refine CallK.mk' ((ih (m - 1) (by omega)).expr _ p lc2 f (d + 1) hI8.ps he2 (by omega) (by omega) (by omega)) ?_
          rintro e σ9 ⟨r9, hr9, hf9, hres⟩
          rw [hlc2] at hr9
          have hn40 : kids.length ≠ 40 := by simp at h40; omega
          have hk39 : kids.length ≤ 39 := by omega
          cases r9 with
          | err E rest =>
            obtain ⟨rfl, h2⟩ := hres
            exact ⟨_, _, Weak.refl _, Forget.refl _, _, hPE _ (.args_err hc hk1 hn40 hr9), hI8.fr.trans hf9, rfl, h2⟩
          | ok x rest =>
            obtain ⟨rfl, hp9, he9, hlt9⟩ := hres
            have hI9 := hI8.fr' hf9 hp9
            have h69 := hf9.box _ _ (Ne.symm np6) h68
            have hM9 := Mine.fr hM8 hf9
            obtain ⟨op, nn, s, kk, a⟩ := x
            refine Kept1.mk' (fun cs h => hf9.box _ _ (Ne.symm np6) h) ?_
            refine App.mk' hI9.fr.sans hM9 hz rfl (by simp only [List.length_map, List.length_cons, List.length_nil]; exact (small_app hk39).1) (by simp only [List.length_map, List.length_cons, List.length_nil]; exact (small_app hk39).2) (List.cons_ne_nil _ _) (fun t' σ10 o10 m10 b10 _ => ?_)
            have hI10 := hI9.app b10 o10
            refine Sure.mk' rfl ?_
            refine Store.mk' [.int .i64 4, .int .i64 0, .str t.s, .slice (.tip t') 5 (kids.map exV ++ [exV (.mk op nn s kk a)]), .int .i64 t.at_] (by rw [b10]; exact h69) (by simp [V.cells]) rfl (fun σ11 e11 => ?_)
            refine ⟨_, _, ?_, Forget.refl _, kids ++ [.mk op nn s kk a], rest, .tip t', 5, rfl, by rw [e11]; exact hI10.put6 _, he9, by omega, by rw [e11, List.map_append]; exact put_box, by rw [e11]; exact Mine.put m10, .inr rfl, .inl rfl, by simp; omega, fun x hx => hPE _ (.args_go hc hk1 hn40 hr9 hx), rfl⟩
            omega
  · have hop : isS [40] (t :: r) = true := by
      simp only [begins, hno, Bool.or_eq_true, beq_iff_eq, Bool.or_false] at hq
      rcases hq with ((h | h) | h) | h
      · exact absurd (by exact_mod_cast h) k1
      · exact absurd (by exact_mod_cast h) k2
      · exact absurd (by exact_mod_cast h) k3
      · exact h
    refine Arith.i64 (d + 1) (by omega) (by omega) ?_
    refine CallK.mk' ((ih (m - 1) (by omega)).expr _ p r f (d + 1) hI.ps het (by omega) (by omega) (by omega)) ?_
    rintro e σ5 ⟨r5, hr5, hf5, hres⟩
    cases r5 with
    | err E rest =>
      obtain ⟨rfl, h2⟩ := hres
      exact ⟨_, _, Weak.refl _, Forget.refl _, _, .paren_err hop hr5, hI.fr.trans hf5, rfl, h2⟩
    | ok x rest =>
      obtain ⟨rfl, hp5, he5, hlt5⟩ := hres
      have hI5 := hI.fr' hf5 hp5
      have h65 := hf5.box _ _ (Ne.symm np6) h64
      obtain ⟨op, nn, s, kk, a⟩ := x
      refine Sure.mk' rfl ?_
      refine Store.mk' (exV (.mk op nn s kk a)) h65 (by simp [V.cells, exV]) rfl (fun σ6 e6 => ?_)
      have hI6 : AtI σ σ6 p rest f b b6 := by rw [e6]; exact hI5.put6 _
      have h66 : σ6.box b6 = some (exV (.mk op nn s kk a)) := by rw [e6]; exact put_box
      refine CallK.mk' (need_call hI6.ps he5.ne _) ?_
      rintro e σ7 (⟨hc, rfl, hp7, hf7⟩ | ⟨hc, rfl, hf7⟩)
      · have := he5.tail_sign hc
        exact atom_end (hI6.fr' hf7 hp7) this.1 (by simp; omega) (by have := hf7.box _ _ (Ne.symm np6) h66; exact this) (exVs_map _) (.inl rfl) (.paren_ok hop hr5 hc)
      · exact ⟨_, _, Weak.refl _, Forget.refl _, _, .paren_bad hop hr5 hc, hI6.fr.trans hf7, rfl, he5⟩

/-- All readers of expressions. -/
theorem callsTo : ∀ m, CallsTo m := by
  intro m
  induction m using Nat.strongRecOn with
  | _ m ih =>
    exact ⟨fun σ p l f d hp he h0 h1 hm => expr_walk ih hp he h0 h1 hm, fun σ p l f d n hp he h0 h1 hn1 hn7 hm => level_walk ih hp he h0 h1 hn1 hn7 hm,
      fun σ p l f d hp he h0 h1 hm => neg_walk ih hp he h0 h1 hm, fun σ p l f d hp he h0 h1 hno hm => atom_walk ih hp he h0 h1 hno hm⟩
theorem expr_call {σ : St} {p : Nat} {l : List Tok} {f d : Int} (hp : Ps σ p l f) (he : Ended l) (h0 : 0 ≤ d) (h1 : d ≤ 31) : SCall Tryz.prog LG 28 [.loc p 0, .int .i64 d] σ (Reads .expr d l p f σ) :=
  (callsTo _).expr σ p l f d hp he h0 h1 (Nat.le_refl _)
end Go.Shadow.Lex

/- The plain grammar of arguments and forms, as relations. -/
namespace Go.Shadow.Lex

/-- An argument of a form: kind, number, text, expression, offset. -/
structure Ar where
  kind : Int
  n : Int
  s : List UInt8
  e : Ex
  at_ : Int
def Ex.none : Ex := .mk 0 0 [] [] 0
/-- A form. -/
inductive Fo where
  | mk (word : List UInt8) (args : List Ar) (body : List Fo) (at_ : Int)

inductive ResA where
  | ok (a : Ar) (r : List Tok)
  | err (E : Int) (r : List Tok)
inductive PA : List Tok → ResA → Prop
  | tok {l} (h : (hd l).kind = 1 ∨ (hd l).kind = 2 ∨ (hd l).kind = 3) : PA l (.ok ⟨(hd l).kind, (hd l).n, (hd l).s, .none, (hd l).at_⟩ l.tail)
  | neg_bad {l} (h : isS [45] l = true) (h1 : (hd l.tail).kind ≠ 2) : PA l (.err 5 l.tail)
  | neg_ok {l} (h : isS [45] l = true) (h1 : (hd l.tail).kind = 2) : PA l (.ok ⟨2, -(hd l.tail).n, [], .none, (hd l).at_⟩ l.tail.tail)
  | arrow {l} (h : isS [45, 62] l = true) : PA l (.ok ⟨4, 0, [], .none, (hd l).at_⟩ l.tail)
  | paren_err {l E r} (h : isS [40] l = true) (h1 : PE .expr 1 l.tail (.err E r)) : PA l (.err E r)
  | paren_bad {l e r} (h : isS [40] l = true) (h1 : PE .expr 1 l.tail (.ok e r)) (h2 : isS [41] r = false) : PA l (.err 5 r)
  | paren_ok {l e r} (h : isS [40] l = true) (h1 : PE .expr 1 l.tail (.ok e r)) (h2 : isS [41] r = true) : PA l (.ok ⟨5, 0, [], e, (hd l).at_⟩ r.tail)

theorem PA.det {l : List Tok} {x y : ResA} (hx : PA l x) (hy : PA l y) : x = y := by
  cases hx <;> cases hy <;> grind [→ hd_sign, PE.det]

inductive NF where
  | form
  | args (w : List UInt8) (at_ : Int) (us : List Ar)
  | body (w : List UInt8) (at_ : Int) (us : List Ar) (b : List Fo)
inductive ResF where
  | ok (g : Fo) (n : Int) (r : List Tok)
  | err (E : Int) (r : List Tok)
/-- Depth, how many forms there are so far, tokens. -/
inductive PF : NF → Int → Int → List Tok → ResF → Prop
  | form_bad {d n l} (h : (hd l).kind ≠ 1) : PF .form d n l (.err 5 l)
  | form_limit {d n l} (h : (hd l).kind = 1) (h1 : d > 30 ∨ n ≥ 2000) : PF .form d n l (.err 2 l)
  | form_go {d n l x} (h : (hd l).kind = 1) (h1 : ¬ (d > 30 ∨ n ≥ 2000)) (h2 : PF (.args (hd l).s (hd l).at_ []) d (n + 1) l.tail x) : PF .form d n l x
  | args_end {w a us d n l} (h : isS [59] l = true) : PF (.args w a us) d n l (.ok (.mk w us [] a) n l.tail)
  | args_body {w a us d n l x} (h : isS [123] l = true) (h1 : PF (.body w a us []) d n l.tail x) : PF (.args w a us) d n l x
  | args_bad {w a us d n l} (h : isS [59] l = false) (h1 : isS [123] l = false) (h2 : begins l = false) (h3 : isS [45, 62] l = false) : PF (.args w a us) d n l (.err 5 l)
  | args_limit {w a us d n l} (h : isS [59] l = false) (h1 : isS [123] l = false) (h2 : begins l = true ∨ isS [45, 62] l = true) (h3 : us.length = 40) : PF (.args w a us) d n l (.err 2 l)
  | args_err {w a us d n l E r} (h : isS [59] l = false) (h1 : isS [123] l = false) (h2 : begins l = true ∨ isS [45, 62] l = true) (h3 : us.length ≠ 40) (h4 : PA l (.err E r)) : PF (.args w a us) d n l (.err E r)
  | args_go {w a us d n l b r x} (h : isS [59] l = false) (h1 : isS [123] l = false) (h2 : begins l = true ∨ isS [45, 62] l = true) (h3 : us.length ≠ 40) (h4 : PA l (.ok b r)) (h5 : PF (.args w a (us ++ [b])) d n r x) : PF (.args w a us) d n l x
  | body_end {w a us b d n l} (h : isS [125] l = true) : PF (.body w a us b) d n l (.ok (.mk w us b a) n l.tail)
  | body_err {w a us b d n l E r} (h : isS [125] l = false) (h1 : PF .form (d + 1) n l (.err E r)) : PF (.body w a us b) d n l (.err E r)
  | body_go {w a us b d n l g n' r x} (h : isS [125] l = false) (h1 : PF .form (d + 1) n l (.ok g n' r)) (h2 : PF (.body w a us (b ++ [g])) d n' r x) : PF (.body w a us b) d n l x

theorem PF.det {nt : NF} {d n : Int} {l : List Tok} {x y : ResF} (hx : PF nt d n l x) (hy : PF nt d n l y) : x = y := by
  induction hx generalizing y <;> cases hy <;> first
    | rfl
    | grind [→ hd_sign, PA.det, → begins_kind]

inductive ResL where
  | ok (out : List Fo)
  | err (E : Int) (r : List Tok)
/-- All forms of a source. -/
inductive PL : Int → List Fo → List Tok → ResL → Prop
  | done {n out l} (h : (hd l).kind = 5) : PL n out l (.ok out)
  | err {n out l E r} (h : (hd l).kind ≠ 5) (h1 : PF .form 1 n l (.err E r)) : PL n out l (.err E r)
  | go {n out l g n' r x} (h : (hd l).kind ≠ 5) (h1 : PF .form 1 n l (.ok g n' r)) (h2 : PL n' (out ++ [g]) r x) : PL n out l x
theorem PL.det {n : Int} {out : List Fo} {l : List Tok} {x y : ResL} (hx : PL n out l x) (hy : PL n out l y) : x = y := by
  induction hx generalizing y <;> cases hy <;> first
    | rfl
    | grind [PF.det]
end Go.Shadow.Lex

/- The parser's arguments and forms, as shadow contracts. Conditions: as each theorem says. -/
namespace Go.Shadow.Lex
open Go Go.RowKit Go.Proofs

/-- The cells of an argument. -/
def arV (a : Ar) : List V := [.int .i64 a.kind, .int .i64 a.n, .str a.s] ++ exV a.e ++ [.int .i64 a.at_]
mutual
/-- The cells of a form. -/
def foV : Fo → List V
  | .mk w args b a => [.str w, .slice .foreign 9 (args.map arV), .slice .foreign 4 (foVs b), .int .i64 a]
def foVs : List Fo → List (List V)
  | [] => []
  | e :: r => foV e :: foVs r
end
theorem foVs_map : ∀ l : List Fo, foVs l = l.map foV
  | [] => rfl
  | e :: r => by simp [foVs, foVs_map r]
abbrev noAr : List V := [.int .i64 0, .int .i64 0, .str [], .int .i64 0, .int .i64 0, .str [], .slice .nil 0 [], .int .i64 0, .int .i64 0]
abbrev noFo : List V := [.str [], .slice .nil 0 [], .slice .nil 0 [], .int .i64 0]

def ReadsA (l : List Tok) (p : Nat) (f : Int) (σ : St) (e : SEnd) (σ' : St) : Prop := ∃ r, PA l r ∧ Fr p σ σ' ∧ match r with
  | .ok x rest => e = .ret (.agg (arV x)) ∧ Ps σ' p rest f ∧ Ended rest ∧ rest.length < l.length
  | .err E rest => e = .pan (stopV E rest) ∧ Ended rest
def ReadsF (d n : Int) (l : List Tok) (p : Nat) (σ : St) (e : SEnd) (σ' : St) : Prop := ∃ r, PF .form d n l r ∧ Fr p σ σ' ∧ match r with
  | .ok x n' rest => e = .ret (.agg (foV x)) ∧ Ps σ' p rest n' ∧ Ended rest ∧ rest.length < l.length ∧ 0 ≤ n' ∧ n' ≤ 2000
  | .err E rest => e = .pan (stopV E rest) ∧ Ended rest

def scEnd49 : SC := match sc49 with
  | .seq _ (.seq _ (.seq _ (.seq _ r))) => r
  | _ => .skip
theorem weak_nil5 {tag : Tag} {z : Nat} {es : List (List V)} {kids : List Ex} (hes : es = kids.map exV) (hz : z = 5 ∨ es = []) : Weak (.slice tag z es) (.slice .foreign 5 (exVs kids)) := by
  rw [exVs_map, ← hes]
  rcases hz with rfl | rfl
  · exact weak_slice _ _ _
  · exact weak_nil _ _ _

theorem arg_end {σ0 σ : St} {p : Nat} {l l0 : List Tok} {f : Int} {b2 b4 : Nat} (hp : Ps σ p l f) (hf : Fr p σ0 σ) (h2 : σ.box b2 = some noAr) (f2 : σ0.box b2 = none) (n2 : p ≠ b2) (he : Ended l) (hl : l.length < l0.length) {k n a : Int} {s : List UInt8} {op en ea : Int} {es : List UInt8} {kids : List Ex} {xs : List (List V)} {tag : Tag} {z : Nat}
    (h4 : σ.box b4 = some [.int .i64 k, .int .i64 n, .str s, .int .i64 op, .int .i64 en, .str es, .slice tag z xs, .int .i64 ea, .int .i64 a]) (hes : xs = kids.map exV) (hz : z = 5 ∨ xs = []) (hPE : PA l0 (.ok ⟨k, n, s, .mk op en es kids ea, a⟩ l)) :
    swpE Tryz.prog LG scEnd49 (retE [(2, some (true, 9))] (ReadsA l0 p f σ0)) (ofL [(2, some (.loc b2 0)), (4, some (.loc b4 0))]) σ := by
  refine Load.mk' h4 (Nat.le_refl _) ?_
  refine Sure.mk' rfl ?_
  refine Store.mk' [.int .i64 k, .int .i64 n, .str s, .int .i64 op, .int .i64 en, .str es, .slice tag z xs, .int .i64 ea, .int .i64 a] h2 (Nat.le_refl _) rfl (fun σ3 e3 => ?_)
  refine Load.mk' (by rw [e3]; exact put_box) (Nat.le_refl _) ?_
  refine Ret.weak (r := .agg (arV ⟨k, n, s, .mk op en es kids ea, a⟩)) ?_ (.refl _) ⟨_, hPE, by rw [e3]; exact hf.put (.inl f2), rfl, by rw [e3]; exact hp.put n2, he, hl⟩
  refine weak_agg rfl (fun i y hy => ?_) (fun i x y hx hy => ?_)
  · match i, hy with
    | 0, hy | 1, hy | 2, hy | 3, hy | 4, hy | 5, hy | 6, hy | 7, hy | 8, hy => simp [arV, exV] at hy; subst hy; rfl
    | _ + 9, hy => simp [arV, exV] at hy
  · match i, hx, hy with
    | 0, hx, hy | 1, hx, hy | 2, hx, hy | 3, hx, hy | 4, hx, hy | 5, hx, hy | 7, hx, hy | 8, hx, hy => simp [arV, exV] at hx hy; subst hx; subst hy; exact Weak.refl _
    | 6, hx, hy => simp [arV, exV] at hx hy; subst hx; subst hy; exact weak_nil5 hes hz
    | _ + 9, hx, hy => simp [arV, exV] at hy

/-- The sign that an argument begins with. -/
def argStart (l : List Tok) : Prop := begins l = true ∨ isS [45, 62] l = true
theorem argStart_cases {l : List Tok} (h : argStart l) : (hd l).kind = 1 ∨ (hd l).kind = 2 ∨ (hd l).kind = 3 ∨ isS [45] l = true ∨ isS [45, 62] l = true ∨ isS [40] l = true := by
  cases l with
  | nil => simp [argStart, begins, isS] at h
  | cons t r =>
    simp only [argStart, begins, Bool.or_eq_true, beq_iff_eq] at h
    simp only [hd, List.headD_cons]
    rcases h with (((h | h) | h) | h) | h
    · rcases h with h | h
      · exact .inl h
      · exact .inr (.inl h)
    all_goals grind

theorem arg_call {σ : St} {p : Nat} {l : List Tok} {f : Int} (hp : Ps σ p l f) (he : Ended l) (hs : argStart l) :
    SCall Tryz.prog LG 49 [.loc p 0] σ (ReadsA l p f σ) := by
  have hk5 : (hd l).kind ≠ 5 := by
    rcases argStart_cases hs with h | h | h | h | h | h
    · rw [h]; decide
    · rw [h]; decide
    · rw [h]; decide
    all_goals rw [(hd_sign h).1]; decide
  obtain ⟨t, r, rfl⟩ := he.cons
  obtain ⟨het, hlt⟩ := he.tail hk5
  have htok : (t.kind = 2 → t.s = []) ∧ (t.kind ≠ 2 → t.n = 0) := by
    obtain ⟨i, e, hl, _, _, h3⟩ := he
    exact (h3 t (by simp)).1
  simp only [List.tail_cons, List.length_cons] at het hlt
  refine code49.call hm (by simp) ?_
  intro b2 hb2
  have np2 := hp.ne hb2
  have hp1 := hp.put (cs := noAr) np2
  have hf1 : Fr p σ (σ.put b2 noAr) := (Fr.refl p σ).new hb2
  have h21 : (σ.put b2 noAr).box b2 = some noAr := put_box
  refine CallK.mk' (nextTok_call hp1) ?_
  rintro e σ2 ⟨rfl, hp2, hf2⟩
  have h22 := hf2.box b2 _ (Ne.symm np2) h21
  intro b3 hb3
  have np3 := hp2.ne hb3
  have n23 := box_ne h22 hb3
  refine Sure.mk' rfl ?_
  refine Store.mk' (tokV t) put_box (by simp [V.cells, tokV]) (by simp [setL, V.cells, tokV]) (fun σ3 e3 => ?_)
  rw [put_put] at e3
  have h33 : σ3.box b3 = some (tokV t) := by rw [e3]; exact put_box
  have h23 : σ3.box b2 = some noAr := by rw [e3, put_ne n23]; exact h22
  have hp3 : Ps σ3 p r f := by rw [e3]; exact hp2.put np3
  have hf3 : Fr p σ σ3 := by rw [e3]; exact (hf1.trans hf2).new hb3
  clear e3 hb3
  refine Load.mk' h33 (by simp [tokV]) ?_
  refine Load.mk' h33 (by simp [tokV]) ?_
  refine Load.mk' h33 (by simp [tokV]) ?_
  intro b4 hb4
  have np4 := hp3.ne hb4
  have n24 := box_ne h23 hb4
  have n34 := box_ne h33 hb4
  refine Sure.mk' rfl ?_
  refine Store.mk' [.int .i64 0, .int .i64 t.n, .str t.s, .int .i64 0, .int .i64 0, .str [], .slice .nil 0 [], .int .i64 0, .int .i64 t.at_] put_box (Nat.le_refl _) rfl (fun σ4 e4 => ?_)
  rw [put_put] at e4
  have h34 : σ4.box b3 = some (tokV t) := by rw [e4, put_ne n34]; exact h33
  have h44 : σ4.box b4 = some [.int .i64 0, .int .i64 t.n, .str t.s, .int .i64 0, .int .i64 0, .str [], .slice .nil 0 [], .int .i64 0, .int .i64 t.at_] := by rw [e4]; exact put_box
  have h24 : σ4.box b2 = some noAr := by rw [e4, put_ne n24]; exact h23
  have hp4 : Ps σ4 p r f := by rw [e4]; exact hp3.put np4
  have hf4 : Fr p σ σ4 := by rw [e4]; exact hf3.new hb4
  have f4 := hf3.fresh (Ne.symm np4) hb4
  clear e4 hb4 hp3 hf3 h33 h23 hp2 hf2 h22 hp1 h21
  refine Load.mk' h34 (by simp [tokV]) ?_
  -- stores into the result's place
  have st : ∀ {σ5 : St} {cs : List V}, σ5 = σ4.put b4 cs → Ps σ5 p r f ∧ Fr p σ σ5 ∧ σ5.box b2 = some noAr ∧ σ5.box b4 = some cs ∧ σ5.box b3 = some (tokV t) := fun e => by
    subst e
    exact ⟨hp4.put np4, hf4.put (.inl f4), by rw [put_ne n24]; exact h24, put_box, by rw [put_ne n34]; exact h34⟩
  refine Test.split (fun k1 => ?_) (fun k1 => ?_)
  · refine Sure.mk' rfl ?_
    refine Store.mk' [.int .i64 1, .int .i64 t.n, .str t.s, .int .i64 0, .int .i64 0, .str [], .slice .nil 0 [], .int .i64 0, .int .i64 t.at_] h44 (by simp [V.cells]) rfl (fun σ5 e5 => ?_)
    obtain ⟨a1, a2, a3, a4, -⟩ := st e5
    have hx : PA (t :: r) _ := .tok (.inl k1)
    simp only [hd, List.headD_cons, List.tail_cons] at hx
    rw [show t.kind = 1 from k1] at hx
    exact arg_end a1 a2 a3 hb2 np2 het hlt a4 rfl (.inr rfl) hx
  refine Test.split (fun k2 => ?_) (fun k2 => ?_)
  · refine Sure.mk' rfl ?_
    refine Store.mk' [.int .i64 2, .int .i64 t.n, .str t.s, .int .i64 0, .int .i64 0, .str [], .slice .nil 0 [], .int .i64 0, .int .i64 t.at_] h44 (by simp [V.cells]) rfl (fun σ5 e5 => ?_)
    obtain ⟨a1, a2, a3, a4, -⟩ := st e5
    have hx : PA (t :: r) _ := .tok (.inr (.inl k2))
    simp only [hd, List.headD_cons, List.tail_cons] at hx
    rw [show t.kind = 2 from k2] at hx
    exact arg_end a1 a2 a3 hb2 np2 het hlt a4 rfl (.inr rfl) hx
  refine Test.split (fun k3 => ?_) (fun k3 => ?_)
  · refine Sure.mk' rfl ?_
    refine Store.mk' [.int .i64 3, .int .i64 t.n, .str t.s, .int .i64 0, .int .i64 0, .str [], .slice .nil 0 [], .int .i64 0, .int .i64 t.at_] h44 (by simp [V.cells]) rfl (fun σ5 e5 => ?_)
    obtain ⟨a1, a2, a3, a4, -⟩ := st e5
    have hx : PA (t :: r) _ := .tok (.inr (.inr k3))
    simp only [hd, List.headD_cons, List.tail_cons] at hx
    rw [show t.kind = 3 from k3] at hx
    exact arg_end a1 a2 a3 hb2 np2 het hlt a4 rfl (.inr rfl) hx
  rw [htok.2 k2] at h44
  refine Sure.mk' rfl ?_
  refine Store.mk' [.int .i64 0, .int .i64 0, .str [], .int .i64 0, .int .i64 0, .str [], .slice .nil 0 [], .int .i64 0, .int .i64 t.at_] h44 (by simp [V.cells]) rfl (fun σ5 e5 => ?_)
  obtain ⟨hp5, hf5, h25, h45, h35⟩ := st e5
  clear st e5 h44 hp4 hf4 h24 h34
  have st : ∀ {σ5 σ6 : St} {l' : List Tok} {cs : List V}, Ps σ5 p l' f → Fr p σ σ5 → σ5.box b2 = some noAr → σ6 = σ5.put b4 cs → Ps σ6 p l' f ∧ Fr p σ σ6 ∧ σ6.box b2 = some noAr ∧ σ6.box b4 = some cs := fun h1 h2 h3 e => by
    subst e
    exact ⟨h1.put np4, h2.put (.inl f4), by rw [put_ne n24]; exact h3, put_box⟩
  refine Load.mk' h35 (by simp [tokV]) ?_
  have h6 : isS [45] (t :: r) = true ∨ isS [45, 62] (t :: r) = true ∨ isS [40] (t :: r) = true := by
    rcases argStart_cases hs with h | h | h | h
    · exact absurd h k1
    · exact absurd h k2
    · exact absurd h k3
    · exact h
  refine Test.split (fun s1 => ?_) (fun s1 => ?_)
  · have hneg : isS [45] (t :: r) = true := by
      rcases h6 with h | h | h
      · exact h
      · rw [show t.s = _ from (hd_sign h).2] at s1; cases s1
      · rw [show t.s = _ from (hd_sign h).2] at s1; cases s1
    refine CallK.mk' (numberP_call hp5 het.ne) ?_
    rintro e σ6 (⟨kn, rfl, hp6, hf6⟩ | ⟨kn, rfl, hf6⟩)
    rotate_left
    · exact ⟨_, _, Weak.refl _, Forget.refl _, _, .neg_bad hneg kn, hf5.trans hf6, rfl, het⟩
    obtain ⟨t2, r2, rfl⟩ := het.cons
    simp only [List.tail_cons] at hp6
    have h26 := hf6.box _ _ (Ne.symm np2) h25
    have h46 := hf6.box _ _ (Ne.symm np4) h45
    have hrange : 0 ≤ t2.n ∧ t2.n ≤ 999999999999999 := by
      obtain ⟨i, e, hl, _, _, h3⟩ := het
      exact (h3 t2 (by simp)).2
    refine Arith.i64 (-t2.n) (by simp [hd]) (by omega) ?_
    refine Sure.mk' rfl ?_
    refine Store.mk' [.int .i64 2, .int .i64 0, .str [], .int .i64 0, .int .i64 0, .str [], .slice .nil 0 [], .int .i64 0, .int .i64 t.at_] h46 (by simp [V.cells]) rfl (fun σ7 e7 => ?_)
    obtain ⟨a1, a2, a3, a4⟩ := st hp6 (hf5.trans hf6) h26 e7
    refine Sure.mk' rfl ?_
    refine Store.mk' [.int .i64 2, .int .i64 (-t2.n), .str [], .int .i64 0, .int .i64 0, .str [], .slice .nil 0 [], .int .i64 0, .int .i64 t.at_] a4 (by simp [V.cells]) rfl (fun σ8 e8 => ?_)
    obtain ⟨c1, c2, c3, c4⟩ := st a1 a2 a3 e8
    have he2 := het.tail (by rw [show (hd (t2 :: r2)).kind = 2 from kn]; decide)
    simp only [List.tail_cons, List.length_cons] at he2 hlt
    exact arg_end c1 c2 c3 hb2 np2 he2.1 (by simp only [List.length_cons]; omega) c4 rfl (.inr rfl) (.neg_ok hneg kn)
  refine Test.split (fun s2 => ?_) (fun s2 => ?_)
  · have harr : isS [45, 62] (t :: r) = true := by
      rcases h6 with h | h | h
      · exact absurd (hd_sign h).2 s1
      · exact h
      · rw [show t.s = _ from (hd_sign h).2] at s2; cases s2
    refine Sure.mk' rfl ?_
    refine Store.mk' [.int .i64 4, .int .i64 0, .str [], .int .i64 0, .int .i64 0, .str [], .slice .nil 0 [], .int .i64 0, .int .i64 t.at_] h45 (by simp [V.cells]) rfl (fun σ7 e7 => ?_)
    obtain ⟨a1, a2, a3, a4⟩ := st hp5 hf5 h25 e7
    exact arg_end a1 a2 a3 hb2 np2 het hlt a4 rfl (.inr rfl) (.arrow harr)
  have hop : isS [40] (t :: r) = true := by
    rcases h6 with h | h | h
    · exact absurd (hd_sign h).2 s1
    · exact absurd (hd_sign h).2 s2
    · exact h
  refine Test.yes (hd_sign hop).2 ?_
  refine CallK.mk' (expr_call hp5 het (by omega) (by omega)) ?_
  rintro e σ6 ⟨r6, hr6, hf6, hres⟩
  cases r6 with
  | err E rest =>
    obtain ⟨rfl, h2⟩ := hres
    exact ⟨_, _, Weak.refl _, Forget.refl _, _, .paren_err hop hr6, hf5.trans hf6, rfl, h2⟩
  | ok x rest =>
    obtain ⟨rfl, hp6, he6, hlt6⟩ := hres
    have h26 := hf6.box _ _ (Ne.symm np2) h25
    have h46 := hf6.box _ _ (Ne.symm np4) h45
    obtain ⟨op, nn, s, kk, a⟩ := x
    refine Sure.mk' rfl ?_
    refine Store.mk' [.int .i64 5, .int .i64 0, .str [], .int .i64 0, .int .i64 0, .str [], .slice .nil 0 [], .int .i64 0, .int .i64 t.at_] h46 (by simp [V.cells]) rfl (fun σ7 e7 => ?_)
    obtain ⟨a1, a2, a3, a4⟩ := st hp6 (hf5.trans hf6) h26 e7
    refine Sure.mk' rfl ?_
    refine Store.mk' [.int .i64 5, .int .i64 0, .str [], .int .i64 op, .int .i64 nn, .str s, .slice .foreign 5 (exVs kk), .int .i64 a, .int .i64 t.at_] a4 (by simp [V.cells, exV]) rfl (fun σ8 e8 => ?_)
    obtain ⟨c1, c2, c3, c4⟩ := st a1 a2 a3 e8
    refine CallK.mk' (need_call c1 he6.ne _) ?_
    rintro e σ9 (⟨hc, rfl, hp9, hf9⟩ | ⟨hc, rfl, hf9⟩)
    · have h7 := he6.tail_sign hc
      exact arg_end hp9 (c2.trans hf9) (hf9.box _ _ (Ne.symm np2) c3) hb2 np2 h7.1 (by simp only [List.length_cons]; omega) (hf9.box _ _ (Ne.symm np4) c4) (exVs_map _) (.inl rfl) (.paren_ok hop hr6 hc)
    · exact ⟨_, _, Weak.refl _, Forget.refl _, _, .paren_bad hop hr6 hc, c2.trans hf9, rfl, he6⟩
end Go.Shadow.Lex

/- Shadow code of the printer and the comparisons (printed by a program). -/
namespace Go.Shadow.Lex
open Go Go.RowKit Go.Proofs
/-- quietus/parse.SameExpr -/
def sc15 : SC := (.seq (.region [.q 2 (.box (.t 0)), .q 3 (.box (.t 1)), .q 4 (.mv (.c (.bool false)))] (some [2, 3])) (.seq (.seq (.region [.q 5 (.faddr 0 (.t 2)), .q 6 (.load false 1 (.t 5)), .q 7 (.faddr 0 (.t 3)), .q 8 (.load false 1 (.t 7)), .q 9 (.bin .neq (.t 6) (.t 8))] (some [2, 3, 9])) (.cond (.t 9) (some [2, 3]) (.seq (.region [.q 4 (.mv (.c (.bool false)))] (some [4])) .ret) .skip)) (.seq (.seq (.region [.q 10 (.faddr 0 (.t 2)), .q 11 (.load false 1 (.t 10))] (some [2, 3, 11])) (.block 0 (.seq (.region [.q 13 (.bin .eql (.t 11) (.c (.int .i64 1))), .q 12 (.mv (.t 13))] (some [2, 3, 11, 12])) (.cond (.t 12) (some [2, 3, 11]) (.seq (.region [.q 14 (.faddr 1 (.t 2)), .q 15 (.load false 1 (.t 14)), .q 16 (.faddr 1 (.t 3)), .q 17 (.load false 1 (.t 16)), .q 18 (.bin .eql (.t 15) (.t 17)), .q 4 (.mv (.t 18))] (some [4])) .ret) (.seq (.seq (.region [.q 20 (.bin .eql (.t 11) (.c (.int .i64 2))), .q 19 (.mv (.t 20))] (some [2, 3, 11, 19])) (.cond (.t 19) (some [2, 3, 11, 19]) .skip (.region [.q 21 (.bin .eql (.t 11) (.c (.int .i64 3))), .q 19 (.mv (.t 21))] (some [2, 3, 11, 19])))) (.cond (.t 19) (some [2, 3, 11]) (.seq (.region [.q 22 (.faddr 2 (.t 2)), .q 23 (.load false 1 (.t 22)), .q 24 (.faddr 2 (.t 3)), .q 25 (.load false 1 (.t 24)), .q 26 (.bins .eql (.t 23) (.t 25)), .q 4 (.mv (.t 26))] (some [4])) .ret) (.seq (.region [.q 28 (.bin .eql (.t 11) (.c (.int .i64 4))), .q 27 (.mv (.t 28))] (some [2, 3, 27])) (.cond (.t 27) (some [2, 3]) (.seq (.region [.q 29 (.faddr 2 (.t 2)), .q 30 (.load false 1 (.t 29)), .q 31 (.faddr 2 (.t 3)), .q 32 (.load false 1 (.t 31)), .q 33 (.bins .neq (.t 30) (.t 32))] (some [2, 3, 33])) (.cond (.t 33) (some [2, 3]) (.seq (.region [.q 4 (.mv (.c (.bool false)))] (some [4])) .ret) .skip)) .skip)))))))) (.seq (.region [.q 34 (.faddr 3 (.t 2)), .q 35 (.load false 1 (.t 34)), .q 36 (.faddr 3 (.t 3)), .q 37 (.load false 1 (.t 36)), .q 38 (.call 34 [(.t 35), (.t 37), (.f 15)]), .q 4 (.mv (.t 38))] (some [4])) .ret))))
theorem code15 : IsCode Tryz.prog 15 sc15 [(4, none)] 39 := .mk' Tryz.func15 (by kernel_rfl) (by kernel_rfl) (by kernel_rfl) (by kernel_rfl)
/-- quietus/parse.Same -/
def sc20 : SC := (.seq (.region [.q 4 (.mv (.c (.bool false)))] (some [0, 1])) (.seq (.region [.q 5 (.mv (.t 0)), .q 6 (.mv (.t 1)), .q 7 (.call 38 [(.t 5), (.t 6), (.f 39)]), .q 4 (.mv (.t 7))] (some [4])) .ret))
theorem code20 : IsCode Tryz.prog 20 sc20 [(4, none)] 8 := .mk' Tryz.func20 (by kernel_rfl) (by kernel_rfl) (by kernel_rfl) (by kernel_rfl)
/-- quietus/parse.PrintExpr -/
def sc21 : SC := (.seq (.region [.q 1 (.box (.t 0)), .q 2 (.mv (.c (.str []))), .q 3 (.mv (.c (.int .i64 0)))] (some [1])) (.seq (.region [.q 8 (.build [(.slice .nil 0 []), (.bool false)] []), .q 9 (.box (.t 8)), .q 4 (.mv (.t 9))] (some [1, 4])) (.seq (.region [.q 10 (.mv (.t 4)), .q 11 (.load true 5 (.t 1)), .q 12 (.call 42 [(.t 10), (.t 11)])] (some [4])) (.seq (.seq (.region [.q 13 (.mv (.t 4)), .q 14 (.nilchk (.t 13)), .q 15 (.faddr 1 (.t 14)), .q 16 (.load false 1 (.t 15))] (some [4, 16])) (.cond (.t 16) (some [4]) (.seq (.region [.q 2 (.mv (.c (.str []))), .q 3 (.mv (.c (.int .i64 1)))] (some [2, 3])) .ret) .skip)) (.seq (.region [.q 17 (.mv (.t 4)), .q 18 (.nilchk (.t 17)), .q 19 (.faddr 0 (.t 18)), .q 20 (.load false 1 (.t 19)), .q 21 (.call 37 [(.t 20)]), .q 5 (.mv (.t 21))] (some [5])) (.seq (.seq (.region [.q 23 (.mv (.t 5)), .q 24 (.call 9 [(.t 23)]), .q 22 (.mv (.t 24)), .q 25 (.extract 0 (.t 22)), .q 26 (.extract 1 (.t 22)), .q 6 (.alloc [(.int .i64 0), (.int .i64 0), (.str []), (.slice .nil 0 []), (.int .i64 0)]), .q 7 (.alloc [(.int .i64 0), (.int .i64 0)]), .w (.store 5 (.t 6) (.t 25)), .w (.store 2 (.t 7) (.t 26))] (some [5, 7])) (.seq (.region [.q 27 (.faddr 1 (.t 7)), .q 28 (.load false 1 (.t 27)), .q 29 (.bin .neq (.t 28) (.c (.int .i64 0)))] (some [5, 29])) (.cond (.t 29) (some [5]) (.seq (.region [.q 2 (.mv (.c (.str []))), .q 3 (.mv (.c (.int .i64 2)))] (some [2, 3])) .ret) .skip))) (.seq (.region [.q 30 (.mv (.t 5)), .q 2 (.mv (.t 30)), .q 3 (.mv (.c (.int .i64 0)))] (some [2, 3])) .ret)))))))
theorem code21 : IsCode Tryz.prog 21 sc21 [(2, none), (3, none)] 31 := .mk' Tryz.func21 (by kernel_rfl) (by kernel_rfl) (by kernel_rfl) (by kernel_rfl)
/-- slices.EqualFunc[[]quietus/api.Expr,[]quietus/api.Expr,quietus/api.Expr,quietus/api.Expr] -/
def sc34 : SC := (.seq (.region [.q 6 (.mv (.c (.bool false)))] (some [0, 1, 2])) (.seq (.seq (.region [.q 10 (.mv (.t 0)), .q 11 (.len false (.t 10)), .q 12 (.mv (.t 1)), .q 13 (.len false (.t 12)), .q 14 (.bin .neq (.t 11) (.t 13))] (some [0, 1, 2, 14])) (.cond (.t 14) (some [0, 1, 2]) (.seq (.region [.q 6 (.mv (.c (.bool false)))] (some [6])) .ret) .skip)) (.seq (.seq (.region [.q 15 (.mv (.t 0)), .q 16 (.len false (.t 15)), .q 17 (.mv (.c (.int .i64 0)))] (some [1, 2, 15, 16, 17])) (.block 0 (.loop (.seq (.region [.q 18 (.bin .lss (.t 17) (.t 16))] (some [1, 2, 15, 16, 17, 18])) (.seq (.cond (.t 18) (some [1, 2, 15, 16, 17]) .skip (.exit 0)) (.seq (.block 1 (.seq (.region [.q 19 (.mv (.t 17)), .q 20 (.iaddr 5 (.t 15) (.t 17)), .q 21 (.load true 5 (.t 20)), .q 8 (.alloc [(.int .i64 0), (.int .i64 0), (.str []), (.slice .nil 0 []), (.int .i64 0)]), .q 7 (.mv (.t 19)), .w (.store 5 (.t 8) (.t 21))] (some [1, 2, 7, 8, 15, 16, 17])) (.seq (.region [.q 22 (.mv (.t 1)), .q 23 (.mv (.t 7)), .q 24 (.iaddr 5 (.t 22) (.t 23)), .q 25 (.load true 5 (.t 24)), .q 9 (.alloc [(.int .i64 0), (.int .i64 0), (.str []), (.slice .nil 0 []), (.int .i64 0)]), .w (.store 5 (.t 9) (.t 25))] (some [1, 2, 8, 9, 15, 16, 17])) (.seq (.region [.q 26 (.mv (.t 2)), .q 27 (.load true 5 (.t 8)), .q 28 (.load true 5 (.t 9)), .q 29 (.callv (.t 26) [(.t 27), (.t 28)]), .q 30 (.un .not (.t 29))] (some [1, 2, 15, 16, 17, 30])) (.cond (.t 30) (some [1, 2, 15, 16, 17]) (.seq (.region [.q 6 (.mv (.c (.bool false)))] (some [6])) .ret) .skip))))) (.region [.q 31 (.bin .add (.t 17) (.c (.int .i64 1))), .q 17 (.mv (.t 31))] (some [1, 2, 15, 16, 17])))))))) (.seq (.region [.q 6 (.mv (.c (.bool true)))] (some [6])) .ret))))
theorem code34 : IsCode Tryz.prog 34 sc34 [(6, none)] 32 := .mk' Tryz.func34 (by kernel_rfl) (by kernel_rfl) (by kernel_rfl) (by kernel_rfl)
/-- slices.EqualFunc[[]quietus/api.Form,[]quietus/api.Form,quietus/api.Form,quietus/api.Form] -/
def sc38 : SC := (.seq (.region [.q 6 (.mv (.c (.bool false)))] (some [0, 1, 2])) (.seq (.seq (.region [.q 10 (.mv (.t 0)), .q 11 (.len false (.t 10)), .q 12 (.mv (.t 1)), .q 13 (.len false (.t 12)), .q 14 (.bin .neq (.t 11) (.t 13))] (some [0, 1, 2, 14])) (.cond (.t 14) (some [0, 1, 2]) (.seq (.region [.q 6 (.mv (.c (.bool false)))] (some [6])) .ret) .skip)) (.seq (.seq (.region [.q 15 (.mv (.t 0)), .q 16 (.len false (.t 15)), .q 17 (.mv (.c (.int .i64 0)))] (some [1, 2, 15, 16, 17])) (.block 0 (.loop (.seq (.region [.q 18 (.bin .lss (.t 17) (.t 16))] (some [1, 2, 15, 16, 17, 18])) (.seq (.cond (.t 18) (some [1, 2, 15, 16, 17]) .skip (.exit 0)) (.seq (.block 1 (.seq (.region [.q 19 (.mv (.t 17)), .q 20 (.iaddr 4 (.t 15) (.t 17)), .q 21 (.load true 4 (.t 20)), .q 8 (.alloc [(.str []), (.slice .nil 0 []), (.slice .nil 0 []), (.int .i64 0)]), .q 7 (.mv (.t 19)), .w (.store 4 (.t 8) (.t 21))] (some [1, 2, 7, 8, 15, 16, 17])) (.seq (.region [.q 22 (.mv (.t 1)), .q 23 (.mv (.t 7)), .q 24 (.iaddr 4 (.t 22) (.t 23)), .q 25 (.load true 4 (.t 24)), .q 9 (.alloc [(.str []), (.slice .nil 0 []), (.slice .nil 0 []), (.int .i64 0)]), .w (.store 4 (.t 9) (.t 25))] (some [1, 2, 8, 9, 15, 16, 17])) (.seq (.region [.q 26 (.mv (.t 2)), .q 27 (.load true 4 (.t 8)), .q 28 (.load true 4 (.t 9)), .q 29 (.callv (.t 26) [(.t 27), (.t 28)]), .q 30 (.un .not (.t 29))] (some [1, 2, 15, 16, 17, 30])) (.cond (.t 30) (some [1, 2, 15, 16, 17]) (.seq (.region [.q 6 (.mv (.c (.bool false)))] (some [6])) .ret) .skip))))) (.region [.q 31 (.bin .add (.t 17) (.c (.int .i64 1))), .q 17 (.mv (.t 31))] (some [1, 2, 15, 16, 17])))))))) (.seq (.region [.q 6 (.mv (.c (.bool true)))] (some [6])) .ret))))
theorem code38 : IsCode Tryz.prog 38 sc38 [(6, none)] 32 := .mk' Tryz.func38 (by kernel_rfl) (by kernel_rfl) (by kernel_rfl) (by kernel_rfl)
/-- quietus/parse.Same$1 -/
def sc39 : SC := (.seq (.region [.q 2 (.box (.t 0)), .q 3 (.box (.t 1)), .q 4 (.mv (.c (.bool false)))] (some [2, 3])) (.seq (.region [.q 5 (.faddr 0 (.t 2)), .q 6 (.load false 1 (.t 5)), .q 7 (.faddr 0 (.t 3)), .q 8 (.load false 1 (.t 7)), .q 9 (.bins .eql (.t 6) (.t 8)), .q 10 (.mv (.t 9)), ⟨(some 11), (.faddr 1 (.t 2)), (some (10, true))⟩, ⟨(some 12), (.load false 1 (.t 11)), (some (10, true))⟩, ⟨(some 13), (.faddr 1 (.t 3)), (some (10, true))⟩, ⟨(some 14), (.load false 1 (.t 13)), (some (10, true))⟩, ⟨(some 15), (.call 40 [(.t 12), (.t 14), (.f 41)]), (some (10, true))⟩, .q 16 (.pick (.t 10) (.t 15) (.c (.bool false))), .q 17 (.mv (.t 16)), ⟨(some 18), (.faddr 2 (.t 2)), (some (17, true))⟩, ⟨(some 19), (.load false 1 (.t 18)), (some (17, true))⟩, ⟨(some 20), (.faddr 2 (.t 3)), (some (17, true))⟩, ⟨(some 21), (.load false 1 (.t 20)), (some (17, true))⟩, ⟨(some 22), (.call 20 [(.t 19), (.t 21)]), (some (17, true))⟩, .q 23 (.pick (.t 17) (.t 22) (.c (.bool false))), .q 4 (.mv (.t 23))] (some [4])) .ret))
theorem code39 : IsCode Tryz.prog 39 sc39 [(4, none)] 24 := .mk' Tryz.func39 (by kernel_rfl) (by kernel_rfl) (by kernel_rfl) (by kernel_rfl)
/-- slices.EqualFunc[[]quietus/api.Arg,[]quietus/api.Arg,quietus/api.Arg,quietus/api.Arg] -/
def sc40 : SC := (.seq (.region [.q 6 (.mv (.c (.bool false)))] (some [0, 1, 2])) (.seq (.seq (.region [.q 10 (.mv (.t 0)), .q 11 (.len false (.t 10)), .q 12 (.mv (.t 1)), .q 13 (.len false (.t 12)), .q 14 (.bin .neq (.t 11) (.t 13))] (some [0, 1, 2, 14])) (.cond (.t 14) (some [0, 1, 2]) (.seq (.region [.q 6 (.mv (.c (.bool false)))] (some [6])) .ret) .skip)) (.seq (.seq (.region [.q 15 (.mv (.t 0)), .q 16 (.len false (.t 15)), .q 17 (.mv (.c (.int .i64 0)))] (some [1, 2, 15, 16, 17])) (.block 0 (.loop (.seq (.region [.q 18 (.bin .lss (.t 17) (.t 16))] (some [1, 2, 15, 16, 17, 18])) (.seq (.cond (.t 18) (some [1, 2, 15, 16, 17]) .skip (.exit 0)) (.seq (.block 1 (.seq (.region [.q 19 (.mv (.t 17)), .q 20 (.iaddr 9 (.t 15) (.t 17)), .q 21 (.load true 9 (.t 20)), .q 8 (.alloc [(.int .i64 0), (.int .i64 0), (.str []), (.int .i64 0), (.int .i64 0), (.str []), (.slice .nil 0 []), (.int .i64 0), (.int .i64 0)]), .q 7 (.mv (.t 19)), .w (.store 9 (.t 8) (.t 21))] (some [1, 2, 7, 8, 15, 16, 17])) (.seq (.region [.q 22 (.mv (.t 1)), .q 23 (.mv (.t 7)), .q 24 (.iaddr 9 (.t 22) (.t 23)), .q 25 (.load true 9 (.t 24)), .q 9 (.alloc [(.int .i64 0), (.int .i64 0), (.str []), (.int .i64 0), (.int .i64 0), (.str []), (.slice .nil 0 []), (.int .i64 0), (.int .i64 0)]), .w (.store 9 (.t 9) (.t 25))] (some [1, 2, 8, 9, 15, 16, 17])) (.seq (.region [.q 26 (.mv (.t 2)), .q 27 (.load true 9 (.t 8)), .q 28 (.load true 9 (.t 9)), .q 29 (.callv (.t 26) [(.t 27), (.t 28)]), .q 30 (.un .not (.t 29))] (some [1, 2, 15, 16, 17, 30])) (.cond (.t 30) (some [1, 2, 15, 16, 17]) (.seq (.region [.q 6 (.mv (.c (.bool false)))] (some [6])) .ret) .skip))))) (.region [.q 31 (.bin .add (.t 17) (.c (.int .i64 1))), .q 17 (.mv (.t 31))] (some [1, 2, 15, 16, 17])))))))) (.seq (.region [.q 6 (.mv (.c (.bool true)))] (some [6])) .ret))))
theorem code40 : IsCode Tryz.prog 40 sc40 [(6, none)] 32 := .mk' Tryz.func40 (by kernel_rfl) (by kernel_rfl) (by kernel_rfl) (by kernel_rfl)
/-- quietus/parse.sameArg -/
def sc41 : SC := (.seq (.region [.q 2 (.box (.t 0)), .q 3 (.box (.t 1)), .q 4 (.mv (.c (.bool false)))] (some [2, 3])) (.seq (.seq (.region [.q 5 (.faddr 0 (.t 2)), .q 6 (.load false 1 (.t 5)), .q 7 (.faddr 0 (.t 3)), .q 8 (.load false 1 (.t 7)), .q 9 (.bin .neq (.t 6) (.t 8))] (some [2, 3, 9])) (.cond (.t 9) (some [2, 3]) (.seq (.region [.q 4 (.mv (.c (.bool false)))] (some [4])) .ret) .skip)) (.seq (.seq (.region [.q 10 (.faddr 0 (.t 2)), .q 11 (.load false 1 (.t 10))] (some [2, 3, 11])) (.block 0 (.seq (.seq (.region [.q 13 (.bin .eql (.t 11) (.c (.int .i64 1))), .q 12 (.mv (.t 13))] (some [2, 3, 11, 12])) (.cond (.t 12) (some [2, 3, 11, 12]) .skip (.region [.q 14 (.bin .eql (.t 11) (.c (.int .i64 3))), .q 12 (.mv (.t 14))] (some [2, 3, 11, 12])))) (.cond (.t 12) (some [2, 3, 11]) (.seq (.region [.q 15 (.faddr 2 (.t 2)), .q 16 (.load false 1 (.t 15)), .q 17 (.faddr 2 (.t 3)), .q 18 (.load false 1 (.t 17)), .q 19 (.bins .eql (.t 16) (.t 18)), .q 4 (.mv (.t 19))] (some [4])) .ret) (.seq (.region [.q 21 (.bin .eql (.t 11) (.c (.int .i64 2))), .q 20 (.mv (.t 21))] (some [2, 3, 11, 20])) (.cond (.t 20) (some [2, 3, 11]) (.seq (.region [.q 22 (.faddr 1 (.t 2)), .q 23 (.load false 1 (.t 22)), .q 24 (.faddr 1 (.t 3)), .q 25 (.load false 1 (.t 24)), .q 26 (.bin .eql (.t 23) (.t 25)), .q 4 (.mv (.t 26))] (some [4])) .ret) (.seq (.region [.q 28 (.bin .eql (.t 11) (.c (.int .i64 5))), .q 27 (.mv (.t 28))] (some [2, 3, 27])) (.cond (.t 27) (some [2, 3]) (.seq (.region [.q 29 (.faddr 3 (.t 2)), .q 30 (.load true 5 (.t 29)), .q 31 (.faddr 3 (.t 3)), .q 32 (.load true 5 (.t 31)), .q 33 (.call 15 [(.t 30), (.t 32)]), .q 4 (.mv (.t 33))] (some [4])) .ret) .skip)))))))) (.seq (.region [.q 4 (.mv (.c (.bool true)))] (some [4])) .ret))))
theorem code41 : IsCode Tryz.prog 41 sc41 [(4, none)] 34 := .mk' Tryz.func41 (by kernel_rfl) (by kernel_rfl) (by kernel_rfl) (by kernel_rfl)
/-- (*quietus/parse.printer).expr -/
def sc42 : SC := (.seq (.region [.q 3 (.box (.t 1))] (some [0, 3])) (.seq (.region [⟨(some 10), .mkmap, none⟩, .w (.minsert 0 (.t 10) (.c (.int .i64 5)) (.c (.int .i64 1))), .w (.minsert 0 (.t 10) (.c (.int .i64 6)) (.c (.int .i64 1))), .w (.minsert 0 (.t 10) (.c (.int .i64 20)) (.c (.int .i64 3))), .q 11 (.mv (.t 10)), .q 4 (.mv (.t 11))] (some [0, 3, 4])) (.seq (.region [.q 12 (.faddr 0 (.t 3)), .q 13 (.load false 1 (.t 12))] (some [0, 3, 4, 13])) (.block 0 (.seq (.region [.q 60 (.bin .eql (.t 13) (.c (.int .i64 1))), .q 59 (.mv (.t 60))] (some [0, 3, 4, 13, 59])) (.cond (.t 59) (some [0, 3, 4, 13]) (.region [.q 61 (.mv (.t 0)), .q 62 (.faddr 1 (.t 3)), .q 63 (.load false 1 (.t 62)), .q 64 (.call 62 [(.t 61), (.t 63)])] (some [])) (.seq (.region [.q 66 (.bin .eql (.t 13) (.c (.int .i64 2))), .q 65 (.mv (.t 66))] (some [0, 3, 4, 13, 65])) (.cond (.t 65) (some [0, 3, 4, 13]) (.region [.q 67 (.mv (.t 0)), .q 68 (.faddr 2 (.t 3)), .q 69 (.load false 1 (.t 68)), .q 70 (.call 63 [(.t 67), (.t 69)])] (some [])) (.seq (.region [.q 72 (.bin .eql (.t 13) (.c (.int .i64 3))), .q 71 (.mv (.t 72))] (some [0, 3, 4, 13, 71])) (.cond (.t 71) (some [0, 3, 4, 13]) (.region [.q 73 (.mv (.t 0)), .q 74 (.faddr 2 (.t 3)), .q 75 (.load false 1 (.t 74)), .q 76 (.call 60 [(.t 73), (.t 75)])] (some [])) (.seq (.region [.q 78 (.bin .eql (.t 13) (.c (.int .i64 4))), .q 77 (.mv (.t 78))] (some [0, 3, 4, 13, 77])) (.cond (.t 77) (some [0, 3, 4, 13]) (.seq (.region [.q 79 (.mv (.t 0)), .q 80 (.faddr 2 (.t 3)), .q 81 (.load false 1 (.t 80)), .q 82 (.call 60 [(.t 79), (.t 81)])] (some [0, 3])) (.seq (.region [.q 83 (.mv (.t 0)), .q 84 (.mkslice 1 [(.c (.str [40]))]), .q 85 (.call 61 [(.t 83), (.t 84)])] (some [0, 3])) (.seq (.seq (.region [.q 86 (.faddr 3 (.t 3)), .q 87 (.load false 1 (.t 86)), .q 88 (.len false (.t 87)), .q 89 (.mv (.c (.int .i64 0)))] (some [0, 87, 88, 89])) (.block 1 (.loop (.seq (.region [.q 90 (.bin .lss (.t 89) (.t 88))] (some [0, 87, 88, 89, 90])) (.seq (.cond (.t 90) (some [0, 87, 88, 89]) .skip (.exit 1)) (.seq (.block 2 (.seq (.region [.q 91 (.mv (.t 89)), .q 92 (.iaddr 5 (.t 87) (.t 89)), .q 93 (.load true 5 (.t 92)), .q 6 (.alloc [(.int .i64 0), (.int .i64 0), (.str []), (.slice .nil 0 []), (.int .i64 0)]), .q 5 (.mv (.t 91)), .w (.store 5 (.t 6) (.t 93))] (some [0, 5, 6, 87, 88, 89])) (.seq (.seq (.region [.q 94 (.mv (.t 5)), .q 95 (.bin .gtr (.t 94) (.c (.int .i64 0)))] (some [0, 6, 87, 88, 89, 95])) (.cond (.t 95) (some [0, 6, 87, 88, 89]) (.region [.q 96 (.mv (.t 0)), .q 97 (.mkslice 1 [(.c (.str [44]))]), .q 98 (.call 61 [(.t 96), (.t 97)])] (some [0, 6, 87, 88, 89])) .skip)) (.region [.q 99 (.mv (.t 0)), .q 100 (.load true 5 (.t 6)), .q 101 (.call 68 [(.t 99), (.t 100), (.c (.int .i64 0))])] (some [0, 87, 88, 89]))))) (.region [.q 102 (.bin .add (.t 89) (.c (.int .i64 1))), .q 89 (.mv (.t 102))] (some [0, 87, 88, 89])))))))) (.region [.q 103 (.mv (.t 0)), .q 104 (.mkslice 1 [(.c (.str [41]))]), .q 105 (.call 61 [(.t 103), (.t 104)])] (some []))))) (.seq (.seq (.region [.q 107 (.bin .eql (.t 13) (.c (.int .i64 5))), .q 106 (.mv (.t 107))] (some [0, 3, 4, 13, 106])) (.cond (.t 106) (some [0, 3, 4, 13, 106]) .skip (.seq (.region [.q 108 (.bin .eql (.t 13) (.c (.int .i64 6))), .q 106 (.mv (.t 108))] (some [0, 3, 4, 13, 106])) (.cond (.t 106) (some [0, 3, 4, 13, 106]) .skip (.region [.q 109 (.bin .eql (.t 13) (.c (.int .i64 20))), .q 106 (.mv (.t 109))] (some [0, 3, 4, 106])))))) (.cond (.t 106) (some [0, 3, 4]) (.seq (.seq (.region [.q 110 (.faddr 3 (.t 3)), .q 111 (.load false 1 (.t 110)), .q 112 (.len false (.t 111)), .q 113 (.mv (.t 4)), .q 114 (.faddr 0 (.t 3)), .q 115 (.load false 1 (.t 114)), .q 116 (.mlook 0 [(.int .i64 0)] false false (.t 113) (.t 115)), .q 117 (.bin .neq (.t 112) (.t 116))] (some [0, 3, 117])) (.cond (.t 117) (some [0, 3]) (.seq (.region [.q 118 (.mv (.t 0)), .q 119 (.nilchk (.t 118)), .q 120 (.faddr 1 (.t 119)), .w (.store 1 (.t 120) (.c (.bool true)))] (some [])) .ret) .skip)) (.seq (.region [.q 121 (.faddr 0 (.t 3)), .q 122 (.load false 1 (.t 121))] (some [0, 3, 122])) (.block 3 (.seq (.region [.q 148 (.bin .eql (.t 122) (.c (.int .i64 5))), .q 147 (.mv (.t 148))] (some [0, 3, 122, 147])) (.cond (.t 147) (some [0, 3, 122]) (.seq (.region [.q 149 (.mv (.t 0)), .q 150 (.mkslice 1 [(.c (.str [33]))]), .q 151 (.call 61 [(.t 149), (.t 150)])] (some [0, 3])) (.region [.q 152 (.mv (.t 0)), .q 153 (.faddr 3 (.t 3)), .q 154 (.load false 1 (.t 153)), .q 155 (.iaddr 5 (.t 154) (.c (.int .i64 0))), .q 156 (.load true 5 (.t 155)), .q 157 (.call 68 [(.t 152), (.t 156), (.c (.int .i64 3))])] (some []))) (.seq (.region [.q 159 (.bin .eql (.t 122) (.c (.int .i64 6))), .q 158 (.mv (.t 159))] (some [0, 3, 158])) (.cond (.t 158) (some [0, 3]) (.seq (.region [.q 160 (.mv (.t 0)), .q 161 (.mkslice 1 [(.c (.str [45]))]), .q 162 (.call 61 [(.t 160), (.t 161)])] (some [0, 3])) (.region [.q 163 (.mv (.t 0)), .q 164 (.faddr 3 (.t 3)), .q 165 (.load false 1 (.t 164)), .q 166 (.iaddr 5 (.t 165) (.c (.int .i64 0))), .q 167 (.load true 5 (.t 166)), .q 168 (.call 68 [(.t 163), (.t 167), (.c (.int .i64 7))])] (some []))) (.seq (.region [.q 123 (.mv (.t 0)), .q 124 (.faddr 3 (.t 3)), .q 125 (.load false 1 (.t 124)), .q 126 (.iaddr 5 (.t 125) (.c (.int .i64 0))), .q 127 (.load true 5 (.t 126)), .q 128 (.call 68 [(.t 123), (.t 127), (.c (.int .i64 1))])] (some [0, 3])) (.seq (.region [.q 129 (.mv (.t 0)), .q 130 (.mkslice 1 [(.c (.str [63]))]), .q 131 (.call 61 [(.t 129), (.t 130)])] (some [0, 3])) (.seq (.region [.q 132 (.mv (.t 0)), .q 133 (.faddr 3 (.t 3)), .q 134 (.load false 1 (.t 133)), .q 135 (.iaddr 5 (.t 134) (.c (.int .i64 1))), .q 136 (.load true 5 (.t 135)), .q 137 (.call 68 [(.t 132), (.t 136), (.c (.int .i64 0))])] (some [0, 3])) (.seq (.region [.q 138 (.mv (.t 0)), .q 139 (.mkslice 1 [(.c (.str [58]))]), .q 140 (.call 61 [(.t 138), (.t 139)])] (some [0, 3])) (.region [.q 141 (.mv (.t 0)), .q 142 (.faddr 3 (.t 3)), .q 143 (.load false 1 (.t 142)), .q 144 (.iaddr 5 (.t 143) (.c (.int .i64 2))), .q 145 (.load true 5 (.t 144)), .q 146 (.call 68 [(.t 141), (.t 145), (.c (.int .i64 0))])] (some []))))))))))))) (.seq (.region [.q 14 (.call 70 []), .q 15 (.mkfn 71 [] [(.t 3)]), .q 16 (.call 69 [(.t 14), (.t 15)]), .q 7 (.mv (.t 16))] (some [0, 3, 7])) (.seq (.seq (.region [.q 17 (.mv (.t 7)), .q 18 (.bin .lss (.t 17) (.c (.int .i64 0))), .q 19 (.mv (.t 18)), ⟨(some 20), (.faddr 3 (.t 3)), (some (19, false))⟩, ⟨(some 21), (.load false 1 (.t 20)), (some (19, false))⟩, ⟨(some 22), (.len false (.t 21)), (some (19, false))⟩, ⟨(some 23), (.bin .neq (.t 22) (.c (.int .i64 2))), (some (19, false))⟩, .q 24 (.pick (.t 19) (.c (.bool true)) (.t 23))] (some [0, 3, 7, 24])) (.cond (.t 24) (some [0, 3, 7]) (.seq (.region [.q 25 (.mv (.t 0)), .q 26 (.nilchk (.t 25)), .q 27 (.faddr 1 (.t 26)), .w (.store 1 (.t 27) (.c (.bool true)))] (some [])) .ret) .skip)) (.seq (.region [.q 28 (.call 70 []), .q 29 (.mv (.t 7)), .q 30 (.iaddr 3 (.t 28) (.t 29)), .q 31 (.load true 3 (.t 30)), .q 8 (.alloc [(.str []), (.int .i64 0), (.int .i64 0)]), .w (.store 3 (.t 8) (.t 31))] (some [0, 3, 8])) (.seq (.region [.q 32 (.faddr 2 (.t 8)), .q 33 (.load false 1 (.t 32)), .q 9 (.mv (.t 33))] (some [0, 3, 8, 9])) (.seq (.seq (.region [.q 34 (.mv (.t 9)), .q 35 (.bin .eql (.t 34) (.c (.int .i64 4)))] (some [0, 3, 8, 9, 35])) (.cond (.t 35) (some [0, 3, 8, 9]) (.region [.q 9 (.mv (.c (.int .i64 5)))] (some [0, 3, 8, 9])) .skip)) (.seq (.region [.q 36 (.mv (.t 0)), .q 37 (.faddr 3 (.t 3)), .q 38 (.load false 1 (.t 37)), .q 39 (.iaddr 5 (.t 38) (.c (.int .i64 0))), .q 40 (.load true 5 (.t 39)), .q 41 (.mv (.t 9)), .q 42 (.call 68 [(.t 36), (.t 40), (.t 41)])] (some [0, 3, 8, 9])) (.seq (.region [.q 43 (.mv (.t 0)), .q 44 (.faddr 0 (.t 8)), .q 45 (.load false 1 (.t 44)), .q 46 (.mkslice 1 [(.t 45)]), .q 47 (.call 61 [(.t 43), (.t 46)])] (some [0, 3, 8, 9])) (.region [.q 48 (.mv (.t 0)), .q 49 (.faddr 3 (.t 3)), .q 50 (.load false 1 (.t 49)), .q 51 (.iaddr 5 (.t 50) (.c (.int .i64 1))), .q 52 (.load true 5 (.t 51)), .q 53 (.mv (.t 9)), .q 54 (.faddr 2 (.t 8)), .q 55 (.load false 1 (.t 54)), .q 56 (.bin .add (.t 55) (.c (.int .i64 1))), .q 57 (.mm true [(.t 53), (.t 56)]), .q 58 (.call 68 [(.t 48), (.t 52), (.t 57)])] (some [])))))))))))))))))))))))
theorem code42 : IsCode Tryz.prog 42 sc42 [] 169 := .mk' Tryz.func42 (by kernel_rfl) (by kernel_rfl) (by kernel_rfl) (by kernel_rfl)
/-- (*quietus/parse.printer).name -/
def sc60 : SC := (.seq (.region [.q 4 (.mv (.f 87))] (some [0, 1, 4])) (.seq (.region [.q 7 (.mv (.t 1)), .q 8 (.len true (.t 7)), .q 9 (.bin .gtr (.t 8) (.c (.int .i64 0))), .q 10 (.mv (.t 9)), ⟨(some 11), (.mv (.t 1)), (some (10, true))⟩, ⟨(some 12), (.len true (.t 11)), (some (10, true))⟩, ⟨(some 13), (.bin .leq (.t 12) (.c (.int .i64 32))), (some (10, true))⟩, .q 14 (.pick (.t 10) (.t 13) (.c (.bool false))), .q 5 (.mv (.t 14))] (some [0, 1, 4, 5])) (.seq (.seq (.region [.q 15 (.mv (.t 1)), .q 16 (.len true (.t 15)), .q 17 (.mv (.c (.int .i64 0)))] (some [0, 1, 4, 5, 16, 17])) (.block 0 (.loop (.seq (.region [.q 18 (.bin .lss (.t 17) (.t 16))] (some [0, 1, 4, 5, 16, 17, 18])) (.seq (.cond (.t 18) (some [0, 1, 4, 5, 16, 17]) .skip (.exit 0)) (.seq (.block 1 (.seq (.region [.q 19 (.mv (.t 17)), .q 6 (.mv (.t 19))] (some [0, 1, 4, 5, 6, 16, 17])) (.region [.q 20 (.mv (.t 5)), .q 21 (.mv (.t 20)), ⟨(some 22), (.mv (.t 4)), (some (21, true))⟩, ⟨(some 23), (.mv (.t 1)), (some (21, true))⟩, ⟨(some 24), (.mv (.t 6)), (some (21, true))⟩, ⟨(some 25), (.idxs (.t 23) (.t 24)), (some (21, true))⟩, ⟨(some 26), (.callv (.t 22) [(.t 25)]), (some (21, true))⟩, ⟨(some 27), (.mv (.t 26)), (some (21, true))⟩, ⟨(some 28), (.mv (.t 6)), (some (27, false))⟩, ⟨(some 29), (.bin .gtr (.t 28) (.c (.int .i64 0))), (some (27, false))⟩, ⟨(some 30), (.mv (.t 29)), (some (27, false))⟩, ⟨(some 31), (.mv (.t 1)), (some (30, true))⟩, ⟨(some 32), (.mv (.t 6)), (some (30, true))⟩, ⟨(some 33), (.idxs (.t 31) (.t 32)), (some (30, true))⟩, ⟨(some 34), (.bin .geq (.t 33) (.c (.int .u8 48))), (some (30, true))⟩, ⟨(some 35), (.pick (.t 30) (.t 34) (.c (.bool false))), (some (27, false))⟩, ⟨(some 36), (.mv (.t 35)), (some (27, false))⟩, ⟨(some 37), (.mv (.t 1)), (some (36, true))⟩, ⟨(some 38), (.mv (.t 6)), (some (36, true))⟩, ⟨(some 39), (.idxs (.t 37) (.t 38)), (some (36, true))⟩, ⟨(some 40), (.bin .leq (.t 39) (.c (.int .u8 57))), (some (36, true))⟩, ⟨(some 41), (.pick (.t 36) (.t 40) (.c (.bool false))), (some (27, false))⟩, ⟨(some 42), (.pick (.t 27) (.c (.bool true)) (.t 41)), (some (21, true))⟩, .q 43 (.pick (.t 21) (.t 42) (.c (.bool false))), .q 5 (.mv (.t 43))] (some [0, 1, 4, 5, 16, 17])))) (.region [.q 44 (.bin .add (.t 17) (.c (.int .i64 1))), .q 17 (.mv (.t 44))] (some [0, 1, 4, 5, 16, 17])))))))) (.seq (.region [.q 45 (.mv (.t 0)), .q 46 (.mv (.t 0)), .q 47 (.nilchk (.t 46)), .q 48 (.faddr 1 (.t 47)), .q 49 (.load false 1 (.t 48)), .q 50 (.mv (.t 49)), ⟨(some 51), (.mv (.t 5)), (some (50, false))⟩, ⟨(some 52), (.un .not (.t 51)), (some (50, false))⟩, .q 53 (.pick (.t 50) (.c (.bool true)) (.t 52)), .q 54 (.nilchk (.t 45)), .q 55 (.faddr 1 (.t 54)), .w (.store 1 (.t 55) (.t 53))] (some [0, 1])) (.region [.q 56 (.mv (.t 0)), .q 57 (.mv (.t 0)), .q 58 (.nilchk (.t 57)), .q 59 (.faddr 0 (.t 58)), .q 60 (.load false 1 (.t 59)), .q 61 (.mv (.t 1)), .q 62 (.build [(.int .i64 0), (.int .i64 0), (.str []), (.int .i64 0)] [(0, (1, (.c (.int .i64 1)))), (2, (1, (.t 61)))]), .q 63 (.mkslice 4 [(.t 62)]), .q 64 (.append 4 40 (.t 60) (.t 63)), .q 65 (.nilchk (.t 56)), .q 66 (.faddr 0 (.t 65)), .w (.store 1 (.t 66) (.t 64))] (some []))))))
theorem code60 : IsCode Tryz.prog 60 sc60 [] 67 := .mk' Tryz.func60 (by kernel_rfl) (by kernel_rfl) (by kernel_rfl) (by kernel_rfl)
/-- (*quietus/parse.printer).signs -/
def sc61 : SC := (.seq (.region [.q 6 (.mv (.t 1)), .q 7 (.len false (.t 6)), .q 8 (.mv (.c (.int .i64 0)))] (some [0, 6, 7, 8])) (.block 0 (.loop (.seq (.region [.q 9 (.bin .lss (.t 8) (.t 7))] (some [0, 6, 7, 8, 9])) (.seq (.cond (.t 9) (some [0, 6, 7, 8]) .skip (.exit 0)) (.seq (.block 1 (.seq (.region [.q 10 (.iaddr 1 (.t 6) (.t 8)), .q 11 (.load false 1 (.t 10)), .q 5 (.mv (.t 11))] (some [0, 5, 6, 7, 8])) (.region [.q 12 (.mv (.t 0)), .q 13 (.mv (.t 0)), .q 14 (.nilchk (.t 13)), .q 15 (.faddr 0 (.t 14)), .q 16 (.load false 1 (.t 15)), .q 17 (.mv (.t 5)), .q 18 (.build [(.int .i64 0), (.int .i64 0), (.str []), (.int .i64 0)] [(0, (1, (.c (.int .i64 4)))), (2, (1, (.t 17)))]), .q 19 (.mkslice 4 [(.t 18)]), .q 20 (.append 4 40 (.t 16) (.t 19)), .q 21 (.nilchk (.t 12)), .q 22 (.faddr 0 (.t 21)), .w (.store 1 (.t 22) (.t 20))] (some [0, 6, 7, 8])))) (.region [.q 23 (.bin .add (.t 8) (.c (.int .i64 1))), .q 8 (.mv (.t 23))] (some [0, 6, 7, 8]))))))))
theorem code61 : IsCode Tryz.prog 61 sc61 [] 24 := .mk' Tryz.func61 (by kernel_rfl) (by kernel_rfl) (by kernel_rfl) (by kernel_rfl)
/-- (*quietus/parse.printer).number -/
def sc62 : SC := (.seq (.region [.q 4 (.mv (.t 0)), .q 5 (.mv (.t 0)), .q 6 (.nilchk (.t 5)), .q 7 (.faddr 1 (.t 6)), .q 8 (.load false 1 (.t 7)), .q 9 (.mv (.t 8)), ⟨(some 10), (.mv (.t 1)), (some (9, false))⟩, ⟨(some 11), (.bin .lss (.t 10) (.c (.int .i64 0))), (some (9, false))⟩, .q 12 (.pick (.t 9) (.c (.bool true)) (.t 11)), .q 13 (.mv (.t 12)), ⟨(some 14), (.mv (.t 1)), (some (13, false))⟩, ⟨(some 15), (.bin .gtr (.t 14) (.c (.int .i64 999999999999999))), (some (13, false))⟩, .q 16 (.pick (.t 13) (.c (.bool true)) (.t 15)), .q 17 (.nilchk (.t 4)), .q 18 (.faddr 1 (.t 17)), .w (.store 1 (.t 18) (.t 16))] (some [0, 1])) (.region [.q 19 (.mv (.t 0)), .q 20 (.mv (.t 0)), .q 21 (.nilchk (.t 20)), .q 22 (.faddr 0 (.t 21)), .q 23 (.load false 1 (.t 22)), .q 24 (.mv (.t 1)), .q 25 (.build [(.int .i64 0), (.int .i64 0), (.str []), (.int .i64 0)] [(0, (1, (.c (.int .i64 2)))), (3, (1, (.t 24)))]), .q 26 (.mkslice 4 [(.t 25)]), .q 27 (.append 4 40 (.t 23) (.t 26)), .q 28 (.nilchk (.t 19)), .q 29 (.faddr 0 (.t 28)), .w (.store 1 (.t 29) (.t 27))] (some [])))
theorem code62 : IsCode Tryz.prog 62 sc62 [] 30 := .mk' Tryz.func62 (by kernel_rfl) (by kernel_rfl) (by kernel_rfl) (by kernel_rfl)
/-- (*quietus/parse.printer).text -/
def sc63 : SC := (.seq (.region [.q 5 (.mv (.t 0)), .q 6 (.mv (.t 0)), .q 7 (.nilchk (.t 6)), .q 8 (.faddr 1 (.t 7)), .q 9 (.load false 1 (.t 8)), .q 10 (.mv (.t 9)), ⟨(some 11), (.mv (.t 1)), (some (10, false))⟩, ⟨(some 12), (.len true (.t 11)), (some (10, false))⟩, ⟨(some 13), (.bin .gtr (.t 12) (.c (.int .i64 200))), (some (10, false))⟩, .q 14 (.pick (.t 10) (.c (.bool true)) (.t 13)), .q 15 (.nilchk (.t 5)), .q 16 (.faddr 1 (.t 15)), .w (.store 1 (.t 16) (.t 14))] (some [0, 1])) (.seq (.seq (.region [.q 17 (.mv (.t 1)), .q 18 (.len true (.t 17)), .q 19 (.mv (.c (.int .i64 0)))] (some [0, 1, 18, 19])) (.block 0 (.loop (.seq (.region [.q 20 (.bin .lss (.t 19) (.t 18))] (some [0, 1, 18, 19, 20])) (.seq (.cond (.t 20) (some [0, 1, 18, 19]) .skip (.exit 0)) (.seq (.block 1 (.seq (.region [.q 21 (.mv (.t 19)), .q 4 (.mv (.t 21))] (some [0, 1, 4, 18, 19])) (.region [.q 22 (.mv (.t 0)), .q 23 (.mv (.t 0)), .q 24 (.nilchk (.t 23)), .q 25 (.faddr 1 (.t 24)), .q 26 (.load false 1 (.t 25)), .q 27 (.mv (.t 26)), ⟨(some 28), (.mv (.t 1)), (some (27, false))⟩, ⟨(some 29), (.mv (.t 4)), (some (27, false))⟩, ⟨(some 30), (.idxs (.t 28) (.t 29)), (some (27, false))⟩, ⟨(some 31), (.bin .neq (.t 30) (.c (.int .u8 10))), (some (27, false))⟩, ⟨(some 32), (.mv (.t 31)), (some (27, false))⟩, ⟨(some 33), (.mv (.t 1)), (some (32, true))⟩, ⟨(some 34), (.mv (.t 4)), (some (32, true))⟩, ⟨(some 35), (.idxs (.t 33) (.t 34)), (some (32, true))⟩, ⟨(some 36), (.bin .lss (.t 35) (.c (.int .u8 32))), (some (32, true))⟩, ⟨(some 37), (.mv (.t 36)), (some (32, true))⟩, ⟨(some 38), (.mv (.t 1)), (some (37, false))⟩, ⟨(some 39), (.mv (.t 4)), (some (37, false))⟩, ⟨(some 40), (.idxs (.t 38) (.t 39)), (some (37, false))⟩, ⟨(some 41), (.bin .gtr (.t 40) (.c (.int .u8 126))), (some (37, false))⟩, ⟨(some 42), (.pick (.t 37) (.c (.bool true)) (.t 41)), (some (32, true))⟩, ⟨(some 43), (.pick (.t 32) (.t 42) (.c (.bool false))), (some (27, false))⟩, .q 44 (.pick (.t 27) (.c (.bool true)) (.t 43)), .q 45 (.nilchk (.t 22)), .q 46 (.faddr 1 (.t 45)), .w (.store 1 (.t 46) (.t 44))] (some [0, 1, 18, 19])))) (.region [.q 47 (.bin .add (.t 19) (.c (.int .i64 1))), .q 19 (.mv (.t 47))] (some [0, 1, 18, 19])))))))) (.region [.q 48 (.mv (.t 0)), .q 49 (.mv (.t 0)), .q 50 (.nilchk (.t 49)), .q 51 (.faddr 0 (.t 50)), .q 52 (.load false 1 (.t 51)), .q 53 (.mv (.t 1)), .q 54 (.build [(.int .i64 0), (.int .i64 0), (.str []), (.int .i64 0)] [(0, (1, (.c (.int .i64 3)))), (2, (1, (.t 53)))]), .q 55 (.mkslice 4 [(.t 54)]), .q 56 (.append 4 40 (.t 52) (.t 55)), .q 57 (.nilchk (.t 48)), .q 58 (.faddr 0 (.t 57)), .w (.store 1 (.t 58) (.t 56))] (some []))))
theorem code63 : IsCode Tryz.prog 63 sc63 [] 59 := .mk' Tryz.func63 (by kernel_rfl) (by kernel_rfl) (by kernel_rfl) (by kernel_rfl)
/-- (*quietus/parse.printer).operand -/
def sc68 : SC := (.seq (.region [.q 4 (.box (.t 1))] (some [0, 2, 4])) (.seq (.seq (.region [.q 6 (.load true 5 (.t 4)), .q 7 (.call 94 [(.t 6)]), .q 8 (.mv (.t 2)), .q 9 (.bin .geq (.t 7) (.t 8))] (some [0, 4, 9])) (.cond (.t 9) (some [0, 4]) (.seq (.region [.q 10 (.mv (.t 0)), .q 11 (.load true 5 (.t 4)), .q 12 (.call 42 [(.t 10), (.t 11)])] (some [])) .ret) .skip)) (.seq (.region [.q 13 (.mv (.t 0)), .q 14 (.mkslice 1 [(.c (.str [40]))]), .q 15 (.call 61 [(.t 13), (.t 14)])] (some [0, 4])) (.seq (.region [.q 16 (.mv (.t 0)), .q 17 (.load true 5 (.t 4)), .q 18 (.call 42 [(.t 16), (.t 17)])] (some [0])) (.region [.q 19 (.mv (.t 0)), .q 20 (.mkslice 1 [(.c (.str [41]))]), .q 21 (.call 61 [(.t 19), (.t 20)])] (some []))))))
theorem code68 : IsCode Tryz.prog 68 sc68 [] 22 := .mk' Tryz.func68 (by kernel_rfl) (by kernel_rfl) (by kernel_rfl) (by kernel_rfl)
/-- (*quietus/parse.printer).expr$1 -/
def sc71 : SC := (.seq (.region [.q 2 (.box (.t 0)), .q 3 (.mv (.c (.bool false)))] (some [1, 2])) (.seq (.region [.q 4 (.faddr 1 (.t 2)), .q 5 (.load false 1 (.t 4)), .q 6 (.faddr 0 (.t 1)), .q 7 (.load false 1 (.t 6)), .q 8 (.bin .eql (.t 5) (.t 7)), .q 3 (.mv (.t 8))] (some [3])) .ret))
theorem code71 : IsCode Tryz.prog 71 sc71 [(3, none)] 9 := .mk' Tryz.func71 (by kernel_rfl) (by kernel_rfl) (by kernel_rfl) (by kernel_rfl)
/-- (*quietus/parse.printer).name$1 -/
def sc87 : SC := (.seq (.region [.q 2 (.mv (.c (.bool false)))] (some [0])) (.seq (.region [.q 3 (.mv (.t 0)), .q 4 (.bin .or (.t 3) (.c (.int .u8 32))), .q 5 (.bin .geq (.t 4) (.c (.int .u8 97))), .q 6 (.mv (.t 5)), ⟨(some 7), (.mv (.t 0)), (some (6, true))⟩, ⟨(some 8), (.bin .or (.t 7) (.c (.int .u8 32))), (some (6, true))⟩, ⟨(some 9), (.bin .leq (.t 8) (.c (.int .u8 122))), (some (6, true))⟩, .q 10 (.pick (.t 6) (.t 9) (.c (.bool false))), .q 11 (.mv (.t 10)), ⟨(some 12), (.mv (.t 0)), (some (11, false))⟩, ⟨(some 13), (.bin .eql (.t 12) (.c (.int .u8 95))), (some (11, false))⟩, .q 14 (.pick (.t 11) (.c (.bool true)) (.t 13)), .q 2 (.mv (.t 14))] (some [2])) .ret))
theorem code87 : IsCode Tryz.prog 87 sc87 [(2, none)] 15 := .mk' Tryz.func87 (by kernel_rfl) (by kernel_rfl) (by kernel_rfl) (by kernel_rfl)
/-- quietus/parse.level -/
def sc94 : SC := (.seq (.region [.q 1 (.box (.t 0)), .q 2 (.mv (.c (.int .i64 0)))] (some [1])) (.seq (.seq (.region [.q 5 (.faddr 0 (.t 1)), .q 6 (.load false 1 (.t 5))] (some [1, 6])) (.block 0 (.seq (.region [.q 8 (.bin .eql (.t 6) (.c (.int .i64 20))), .q 7 (.mv (.t 8))] (some [1, 6, 7])) (.cond (.t 7) (some [1, 6]) (.seq (.region [.q 2 (.mv (.c (.int .i64 0)))] (some [2])) .ret) (.seq (.region [.q 10 (.bin .eql (.t 6) (.c (.int .i64 5))), .q 9 (.mv (.t 10))] (some [1, 6, 9])) (.cond (.t 9) (some [1, 6]) (.seq (.region [.q 2 (.mv (.c (.int .i64 3)))] (some [2])) .ret) (.seq (.region [.q 12 (.bin .eql (.t 6) (.c (.int .i64 6))), .q 11 (.mv (.t 12))] (some [1, 11])) (.cond (.t 11) (some [1]) (.seq (.region [.q 2 (.mv (.c (.int .i64 7)))] (some [2])) .ret) .skip)))))))) (.seq (.seq (.region [.q 13 (.call 70 []), .q 14 (.len false (.t 13)), .q 15 (.mv (.c (.int .i64 0)))] (some [1, 13, 14, 15])) (.block 1 (.loop (.seq (.region [.q 16 (.bin .lss (.t 15) (.t 14))] (some [1, 13, 14, 15, 16])) (.seq (.cond (.t 16) (some [1, 13, 14, 15]) .skip (.exit 1)) (.seq (.block 2 (.seq (.region [.q 17 (.iaddr 3 (.t 13) (.t 15)), .q 18 (.load true 3 (.t 17)), .q 4 (.alloc [(.str []), (.int .i64 0), (.int .i64 0)]), .w (.store 3 (.t 4) (.t 18))] (some [1, 4, 13, 14, 15])) (.seq (.region [.q 19 (.faddr 1 (.t 4)), .q 20 (.load false 1 (.t 19)), .q 21 (.faddr 0 (.t 1)), .q 22 (.load false 1 (.t 21)), .q 23 (.bin .eql (.t 20) (.t 22))] (some [1, 4, 13, 14, 15, 23])) (.cond (.t 23) (some [1, 4, 13, 14, 15]) (.seq (.region [.q 24 (.faddr 2 (.t 4)), .q 25 (.load false 1 (.t 24)), .q 2 (.mv (.t 25))] (some [2])) .ret) .skip)))) (.region [.q 26 (.bin .add (.t 15) (.c (.int .i64 1))), .q 15 (.mv (.t 26))] (some [1, 13, 14, 15])))))))) (.seq (.region [.q 2 (.mv (.c (.int .i64 8)))] (some [2])) .ret))))
theorem code94 : IsCode Tryz.prog 94 sc94 [(2, none)] 27 := .mk' Tryz.func94 (by kernel_rfl) (by kernel_rfl) (by kernel_rfl) (by kernel_rfl)
end Go.Shadow.Lex

/- Proved: parse.SameExpr and parse.Same compare expressions and forms but for offsets. Conditions: at most a million parts. -/
namespace Go.Shadow.Lex
open Go Go.RowKit Go.Proofs

mutual
/-- How many parts an expression has. -/
def exN : Ex → Nat
  | .mk _ _ _ kids _ => 1 + exNs kids
def exNs : List Ex → Nat
  | [] => 0
  | e :: r => exN e + exNs r
end
theorem exN_pos (e : Ex) : 1 ≤ exN e := by cases e; simp [exN]
theorem exNs_len : ∀ l : List Ex, l.length ≤ exNs l
  | [] => Nat.le_refl _
  | e :: r => by have := exN_pos e; have := exNs_len r; simp [exNs]; omega
theorem exNs_mem : ∀ {l : List Ex} {x : Ex}, x ∈ l → exN x ≤ exNs l
  | e :: r, x, h => by
    rcases List.mem_cons.1 h with rfl | h
    · simp [exNs]
    · have := exNs_mem h; simp [exNs]; omega
mutual
/-- Expressions are the same but for offsets. -/
def sameE : Ex → Ex → Bool
  | .mk op n s kids _, y => match y with
    | .mk op' n' s' kids' _ => if op ≠ op' then false else if op = 1 then n == n' else if op = 2 ∨ op = 3 then s == s' else if op = 4 ∧ s ≠ s' then false else sameEs kids kids'
def sameEs : List Ex → List Ex → Bool
  | [], l => match l with
    | [] => true
    | _ :: _ => false
  | x :: xs, l => match l with
    | [] => false
    | y :: ys => sameE x y && sameEs xs ys
end
/-- Lists are the same, one by one. -/
def eqF {α : Type} (g : α → α → Bool) : List α → List α → Bool
  | [], [] => true
  | x :: xs, y :: ys => g x y && eqF g xs ys
  | _, _ => false
theorem sameEs_eqF : ∀ l m : List Ex, sameEs l m = eqF sameE l m
  | [], [] => rfl
  | [], _ :: _ => rfl
  | _ :: _, [] => rfl
  | x :: xs, y :: ys => by simp [sameEs, eqF, sameEs_eqF xs ys]
theorem eqF_len {α : Type} {g : α → α → Bool} : ∀ {l m : List α}, l.length ≠ m.length → eqF g l m = false
  | [], [], h => absurd rfl h
  | [], _ :: _, _ => rfl
  | _ :: _, [], _ => rfl
  | x :: xs, y :: ys, h => by simp only [eqF]; rw [eqF_len (l := xs) (m := ys) (by simpa using h), Bool.and_false]
theorem eqF_step {α : Type} {g : α → α → Bool} {l m : List α} {i : Nat} {x y : α} (hx : l[i]? = some x) (hy : m[i]? = some y) : eqF g (l.drop i) (m.drop i) = (g x y && eqF g (l.drop (i + 1)) (m.drop (i + 1))) := by
  obtain ⟨h1, h2⟩ := List.getElem?_eq_some_iff.1 hx
  obtain ⟨h3, h4⟩ := List.getElem?_eq_some_iff.1 hy
  rw [List.drop_eq_getElem_cons h1, List.drop_eq_getElem_cons h3, h2, h4]; rfl
theorem eqX_ret {k : FuncId} {g : Ex → Ex → Bool} {xs ys : List Ex} (t t' : Tag) (hlen : xs.length ≤ 1000000) (hg : ∀ x ∈ xs, ∀ y ∈ ys, SRet Tryz.prog LG k ([] ++ [.agg (exV x), .agg (exV y)] ++ []) (.bool (g x y))) :
    SRet Tryz.prog LG 34 [.slice t 5 (xs.map exV), .slice t' 5 (ys.map exV), .func k [] []] (.bool (eqF g xs ys)) := by
  intro σ
  refine code34.call hm (by simp) ?_
  refine Test.split (fun h => ?_) (fun h => ?_)
  · refine Ret.mk' ⟨rfl, ?_⟩
    rw [eqF_len (fun e => h (by simp [e]))]
  have hl : xs.length = ys.length := by
    simp only [List.length_map] at h
    omega
  refine ⟨fun m sl σ' => ∃ i : Nat, sl = ofL [(1, some (.slice t' 5 (ys.map exV))), (2, some (.func k [] [])), (15, some (.slice t 5 (xs.map exV))), (16, some (.int .i64 xs.length)), (17, some (.int .i64 i))] ∧ Over σ σ' ∧ i ≤ xs.length ∧ eqF g xs ys = eqF g (xs.drop i) (ys.drop i) ∧ m = xs.length - i,
    _, ⟨0, by simp only [List.length_map]; rfl, .refl _, Nat.zero_le _, by simp, rfl⟩, ?_⟩
  rintro m sl σ' ⟨i, rfl, o, hi, he, rfl⟩
  refine Test.split (fun hlt => ?_) (fun hlt => ?_)
  · have hlt : i < xs.length := by omega
    obtain ⟨x, hx⟩ : ∃ x, xs[i]? = some x := ⟨_, List.getElem?_eq_getElem hlt⟩
    obtain ⟨y, hy⟩ : ∃ y, ys[i]? = some y := ⟨_, List.getElem?_eq_getElem (by omega)⟩
    have hgxy := hg x (List.mem_of_getElem? hx) y (List.mem_of_getElem? hy)
    have hst := eqF_step (g := g) hx hy
    have hxV : (xs.map exV)[i]? = some (exV x) := by simp [hx]
    have hyV : (ys.map exV)[i]? = some (exV y) := by simp [hy]
    obtain ⟨op, n, s, kids, a⟩ := x
    obtain ⟨op', n', s', kids', a'⟩ := y
    refine Sure.mk' (.inl rfl) ?_
    refine IdxE.mk' i _ rfl hxV ?_
    refine ⟨by simp [exV], ?_⟩
    intro b8 hb8
    refine Sure.mk' rfl ?_
    refine Store.mk' (exV ⟨op, n, s, kids, a⟩) put_box (Nat.le_refl _) rfl (fun σ1 e1 => ?_)
    rw [put_put] at e1
    have q1 := over_put (cs := exV ⟨op, n, s, kids, a⟩) (Over.refl _) hb8
    rw [← e1] at q1
    have h81 : σ1.box b8 = some (exV ⟨op, n, s, kids, a⟩) := by rw [e1]; exact put_box
    refine Sure.mk' (.inl rfl) ?_
    refine IdxE.mk' i _ rfl hyV ?_
    refine ⟨by simp [exV], ?_⟩
    intro b9 hb9
    refine Sure.mk' rfl ?_
    refine Store.mk' (exV ⟨op', n', s', kids', a'⟩) put_box (Nat.le_refl _) rfl (fun σ2 e2 => ?_)
    rw [put_put] at e2
    have q2 := over_put (cs := exV ⟨op', n', s', kids', a'⟩) (Over.refl _) hb9
    rw [← e2] at q2
    have h92 : σ2.box b9 = some (exV ⟨op', n', s', kids', a'⟩) := by rw [e2]; exact put_box
    have h82 := q2.box _ _ h81
    have o2 := over_tr o (over_tr q1 q2)
    clear e1 e2 hb8 hb9 q1 q2
    refine Load.mk' h82 (Nat.le_refl _) ?_
    refine Load.mk' h92 (Nat.le_refl _) ?_
    refine CallK.pure hgxy ?_
    cases hv : g ⟨op, n, s, kids, a⟩ ⟨op', n', s', kids', a'⟩
    · refine Ret.weak (.refl _) (σ' := σ) o2 ⟨rfl, ?_⟩
      rw [he, hst, hv, Bool.false_and]
    · refine Arith.i64 ((i + 1 : Nat) : Int) (by simp) (by omega) ?_
      refine ⟨_, _, ?_, Forget.refl _, i + 1, rfl, o2, by omega, ?_, rfl⟩
      · omega
      · rw [he, hst, hv, Bool.true_and]
  · refine Ret.weak (.refl _) (σ' := σ) o ⟨rfl, ?_⟩
    rw [he, List.drop_eq_nil_of_le (by omega), List.drop_eq_nil_of_le (by omega)]; rfl
theorem eqA_ret {k : FuncId} {g : Ar → Ar → Bool} {xs ys : List Ar} (t t' : Tag) (hlen : xs.length ≤ 1000000) (hg : ∀ x ∈ xs, ∀ y ∈ ys, SRet Tryz.prog LG k ([] ++ [.agg (arV x), .agg (arV y)] ++ []) (.bool (g x y))) :
    SRet Tryz.prog LG 40 [.slice t 9 (xs.map arV), .slice t' 9 (ys.map arV), .func k [] []] (.bool (eqF g xs ys)) := by
  intro σ
  refine code40.call hm (by simp) ?_
  refine Test.split (fun h => ?_) (fun h => ?_)
  · refine Ret.mk' ⟨rfl, ?_⟩
    rw [eqF_len (fun e => h (by simp [e]))]
  have hl : xs.length = ys.length := by
    simp only [List.length_map] at h
    omega
  refine ⟨fun m sl σ' => ∃ i : Nat, sl = ofL [(1, some (.slice t' 9 (ys.map arV))), (2, some (.func k [] [])), (15, some (.slice t 9 (xs.map arV))), (16, some (.int .i64 xs.length)), (17, some (.int .i64 i))] ∧ Over σ σ' ∧ i ≤ xs.length ∧ eqF g xs ys = eqF g (xs.drop i) (ys.drop i) ∧ m = xs.length - i,
    _, ⟨0, by simp only [List.length_map]; rfl, .refl _, Nat.zero_le _, by simp, rfl⟩, ?_⟩
  rintro m sl σ' ⟨i, rfl, o, hi, he, rfl⟩
  refine Test.split (fun hlt => ?_) (fun hlt => ?_)
  · have hlt : i < xs.length := by omega
    obtain ⟨x, hx⟩ : ∃ x, xs[i]? = some x := ⟨_, List.getElem?_eq_getElem hlt⟩
    obtain ⟨y, hy⟩ : ∃ y, ys[i]? = some y := ⟨_, List.getElem?_eq_getElem (by omega)⟩
    have hgxy := hg x (List.mem_of_getElem? hx) y (List.mem_of_getElem? hy)
    have hst := eqF_step (g := g) hx hy
    have hxV : (xs.map arV)[i]? = some (arV x) := by simp [hx]
    have hyV : (ys.map arV)[i]? = some (arV y) := by simp [hy]
    obtain ⟨ak, an, as0, ⟨op, n, s, kids, a⟩, aat⟩ := x
    obtain ⟨ak', an', as0', ⟨op', n', s', kids', a'⟩, aat'⟩ := y
    refine Sure.mk' (.inl rfl) ?_
    refine IdxE.mk' i _ rfl hxV ?_
    refine ⟨by simp [arV, exV], ?_⟩
    intro b8 hb8
    refine Sure.mk' rfl ?_
    refine Store.mk' (arV ⟨ak, an, as0, ⟨op, n, s, kids, a⟩, aat⟩) put_box (Nat.le_refl _) rfl (fun σ1 e1 => ?_)
    rw [put_put] at e1
    have q1 := over_put (cs := arV ⟨ak, an, as0, ⟨op, n, s, kids, a⟩, aat⟩) (Over.refl _) hb8
    rw [← e1] at q1
    have h81 : σ1.box b8 = some (arV ⟨ak, an, as0, ⟨op, n, s, kids, a⟩, aat⟩) := by rw [e1]; exact put_box
    refine Sure.mk' (.inl rfl) ?_
    refine IdxE.mk' i _ rfl hyV ?_
    refine ⟨by simp [arV, exV], ?_⟩
    intro b9 hb9
    refine Sure.mk' rfl ?_
    refine Store.mk' (arV ⟨ak', an', as0', ⟨op', n', s', kids', a'⟩, aat'⟩) put_box (Nat.le_refl _) rfl (fun σ2 e2 => ?_)
    rw [put_put] at e2
    have q2 := over_put (cs := arV ⟨ak', an', as0', ⟨op', n', s', kids', a'⟩, aat'⟩) (Over.refl _) hb9
    rw [← e2] at q2
    have h92 : σ2.box b9 = some (arV ⟨ak', an', as0', ⟨op', n', s', kids', a'⟩, aat'⟩) := by rw [e2]; exact put_box
    have h82 := q2.box _ _ h81
    have o2 := over_tr o (over_tr q1 q2)
    clear e1 e2 hb8 hb9 q1 q2
    refine Load.mk' h82 (Nat.le_refl _) ?_
    refine Load.mk' h92 (Nat.le_refl _) ?_
    refine CallK.pure hgxy ?_
    cases hv : g ⟨ak, an, as0, ⟨op, n, s, kids, a⟩, aat⟩ ⟨ak', an', as0', ⟨op', n', s', kids', a'⟩, aat'⟩
    · refine Ret.weak (.refl _) (σ' := σ) o2 ⟨rfl, ?_⟩
      rw [he, hst, hv, Bool.false_and]
    · refine Arith.i64 ((i + 1 : Nat) : Int) (by simp) (by omega) ?_
      refine ⟨_, _, ?_, Forget.refl _, i + 1, rfl, o2, by omega, ?_, rfl⟩
      · omega
      · rw [he, hst, hv, Bool.true_and]
  · refine Ret.weak (.refl _) (σ' := σ) o ⟨rfl, ?_⟩
    rw [he, List.drop_eq_nil_of_le (by omega), List.drop_eq_nil_of_le (by omega)]; rfl
theorem eqFo_ret {k : FuncId} {g : Fo → Fo → Bool} {xs ys : List Fo} (t t' : Tag) (hlen : xs.length ≤ 1000000) (hg : ∀ x ∈ xs, ∀ y ∈ ys, SRet Tryz.prog LG k ([] ++ [.agg (foV x), .agg (foV y)] ++ []) (.bool (g x y))) :
    SRet Tryz.prog LG 38 [.slice t 4 (xs.map foV), .slice t' 4 (ys.map foV), .func k [] []] (.bool (eqF g xs ys)) := by
  intro σ
  refine code38.call hm (by simp) ?_
  refine Test.split (fun h => ?_) (fun h => ?_)
  · refine Ret.mk' ⟨rfl, ?_⟩
    rw [eqF_len (fun e => h (by simp [e]))]
  have hl : xs.length = ys.length := by
    simp only [List.length_map] at h
    omega
  refine ⟨fun m sl σ' => ∃ i : Nat, sl = ofL [(1, some (.slice t' 4 (ys.map foV))), (2, some (.func k [] [])), (15, some (.slice t 4 (xs.map foV))), (16, some (.int .i64 xs.length)), (17, some (.int .i64 i))] ∧ Over σ σ' ∧ i ≤ xs.length ∧ eqF g xs ys = eqF g (xs.drop i) (ys.drop i) ∧ m = xs.length - i,
    _, ⟨0, by simp only [List.length_map]; rfl, .refl _, Nat.zero_le _, by simp, rfl⟩, ?_⟩
  rintro m sl σ' ⟨i, rfl, o, hi, he, rfl⟩
  refine Test.split (fun hlt => ?_) (fun hlt => ?_)
  · have hlt : i < xs.length := by omega
    obtain ⟨x, hx⟩ : ∃ x, xs[i]? = some x := ⟨_, List.getElem?_eq_getElem hlt⟩
    obtain ⟨y, hy⟩ : ∃ y, ys[i]? = some y := ⟨_, List.getElem?_eq_getElem (by omega)⟩
    have hgxy := hg x (List.mem_of_getElem? hx) y (List.mem_of_getElem? hy)
    have hst := eqF_step (g := g) hx hy
    have hxV : (xs.map foV)[i]? = some (foV x) := by simp [hx]
    have hyV : (ys.map foV)[i]? = some (foV y) := by simp [hy]
    obtain ⟨w, args, bs, a⟩ := x
    obtain ⟨w', args', bs', a'⟩ := y
    refine Sure.mk' (.inl rfl) ?_
    refine IdxE.mk' i _ rfl hxV ?_
    refine ⟨by simp [foV], ?_⟩
    intro b8 hb8
    refine Sure.mk' rfl ?_
    refine Store.mk' (foV ⟨w, args, bs, a⟩) put_box (Nat.le_refl _) rfl (fun σ1 e1 => ?_)
    rw [put_put] at e1
    have q1 := over_put (cs := foV ⟨w, args, bs, a⟩) (Over.refl _) hb8
    rw [← e1] at q1
    have h81 : σ1.box b8 = some (foV ⟨w, args, bs, a⟩) := by rw [e1]; exact put_box
    refine Sure.mk' (.inl rfl) ?_
    refine IdxE.mk' i _ rfl hyV ?_
    refine ⟨by simp [foV], ?_⟩
    intro b9 hb9
    refine Sure.mk' rfl ?_
    refine Store.mk' (foV ⟨w', args', bs', a'⟩) put_box (Nat.le_refl _) rfl (fun σ2 e2 => ?_)
    rw [put_put] at e2
    have q2 := over_put (cs := foV ⟨w', args', bs', a'⟩) (Over.refl _) hb9
    rw [← e2] at q2
    have h92 : σ2.box b9 = some (foV ⟨w', args', bs', a'⟩) := by rw [e2]; exact put_box
    have h82 := q2.box _ _ h81
    have o2 := over_tr o (over_tr q1 q2)
    clear e1 e2 hb8 hb9 q1 q2
    refine Load.mk' h82 (Nat.le_refl _) ?_
    refine Load.mk' h92 (Nat.le_refl _) ?_
    refine CallK.pure hgxy ?_
    cases hv : g ⟨w, args, bs, a⟩ ⟨w', args', bs', a'⟩
    · refine Ret.weak (.refl _) (σ' := σ) o2 ⟨rfl, ?_⟩
      rw [he, hst, hv, Bool.false_and]
    · refine Arith.i64 ((i + 1 : Nat) : Int) (by simp) (by omega) ?_
      refine ⟨_, _, ?_, Forget.refl _, i + 1, rfl, o2, by omega, ?_, rfl⟩
      · omega
      · rw [he, hst, hv, Bool.true_and]
  · refine Ret.weak (.refl _) (σ' := σ) o ⟨rfl, ?_⟩
    rw [he, List.drop_eq_nil_of_le (by omega), List.drop_eq_nil_of_le (by omega)]; rfl

theorem sameExpr_ret : ∀ (m : Nat) (x y : Ex), exN x ≤ m → m ≤ 1000000 → SRet Tryz.prog LG 15 [.agg (exV x), .agg (exV y)] (.bool (sameE x y)) := by
  intro m
  induction m with
  | zero => intro x y h; have := exN_pos x; omega
  | succ m ih =>
    intro x y hm1 hm2 σ
    obtain ⟨op, n, s, kids, a⟩ := x
    obtain ⟨op', n', s', kids', a'⟩ := y
    refine code15.call hm (by simp) ?_
    refine ⟨rfl, ?_⟩
    intro b2 f2
    have o1 : Over σ (σ.put b2 (exV (.mk op n s kids a))) := over_put (.refl _) f2
    have h21 : (σ.put b2 (exV (.mk op n s kids a))).box b2 = some (exV (.mk op n s kids a)) := put_box
    refine ⟨rfl, ?_⟩
    intro b3 hb3
    have q2 := over_put (σ0 := σ.put b2 (exV (.mk op n s kids a))) (σ := σ.put b2 (exV (.mk op n s kids a))) (cs := exV (.mk op' n' s' kids' a')) (Over.refl _) hb3
    have o2 := over_tr o1 q2
    have h22 := q2.box _ _ h21
    clear q2
    have h32 : ((σ.put b2 (exV (.mk op n s kids a))).put b3 (exV (.mk op' n' s' kids' a'))).box b3 = some (exV (.mk op' n' s' kids' a')) := put_box
    generalize hσ : (σ.put b2 (exV (.mk op n s kids a))).put b3 (exV (.mk op' n' s' kids' a')) = σ2 at o2 h22 h32
    have hgoal : ∀ {G : St → Prop}, G σ2 → G ((σ.put b2 (exV (.mk op n s kids a))).put b3 (exV (.mk op' n' s' kids' a'))) := fun h => by rw [hσ]; exact h
    refine hgoal ?_
    clear hgoal hσ hb3 h21 o1
    have tail : ¬ (op = 1) → ¬ (op = 2 ∨ op = 3) → ¬ (op = 4 ∧ s ≠ s') → op = op' → SRet Tryz.prog LG 34 [.slice .foreign 5 (exVs kids), .slice .foreign 5 (exVs kids'), .func 15 [] []] (.bool (sameE (.mk op n s kids a) (.mk op' n' s' kids' a'))) := by
      intro h1 h2 h3 h4
      have hv : sameE (.mk op n s kids a) (.mk op' n' s' kids' a') = eqF sameE kids kids' := by
        simp only [sameE]
        rw [if_neg (by simp [h4]), if_neg h1, if_neg h2, if_neg h3, sameEs_eqF]
      rw [hv, exVs_map, exVs_map]
      simp only [exN] at hm1
      refine eqX_ret _ _ (by have := exNs_len kids; omega) fun x hx y _ => ?_
      have := exNs_mem hx
      exact ih x y (by omega) (by omega)
    refine Load.mk' h22 (by simp [exV]) ?_
    refine Load.mk' h32 (by simp [exV]) ?_
    refine Test.split (fun hop => ?_) (fun hop => ?_)
    · refine Ret.weak (.refl _) (σ' := σ) o2 ⟨rfl, ?_⟩
      simp only [sameE]; rw [if_pos hop]
    have hop : op = op' := by
      apply Classical.byContradiction
      intro h; exact hop h
    refine Load.mk' h22 (by simp [exV]) ?_
    refine Test.split (fun h1 => ?_) (fun h1 => ?_)
    · refine Load.mk' h22 (by simp [exV]) ?_
      refine Load.mk' h32 (by simp [exV]) ?_
      have hv : sameE (.mk op n s kids a) (.mk op' n' s' kids' a') = (n == n') := by
        simp only [sameE]; rw [if_neg (by simp [hop]), if_pos h1]
      rw [hv]
      refine Test.split (fun h2 => ?_) (fun h2 => ?_)
      · exact Ret.weak (.refl _) (σ' := σ) o2 ⟨rfl, by simp [h2]⟩
      · exact Ret.weak (.refl _) (σ' := σ) o2 ⟨rfl, by simp [h2]⟩
    have str : (op = 2 ∨ op = 3) → sameE (.mk op n s kids a) (.mk op' n' s' kids' a') = (s == s') := fun h => by
      simp only [sameE]; rw [if_neg (by simp [hop]), if_neg h1, if_pos h]
    refine Test.split (fun h2 => ?_) (fun h2 => ?_)
    · refine Load.mk' h22 (by simp [exV]) ?_
      refine Load.mk' h32 (by simp [exV]) ?_
      rw [str (.inl h2)]
      refine Test.split (fun h3 => ?_) (fun h3 => ?_)
      · exact Ret.weak (.refl _) (σ' := σ) o2 ⟨rfl, by simp [h3]⟩
      · exact Ret.weak (.refl _) (σ' := σ) o2 ⟨rfl, by simp [h3]⟩
    refine Test.split (fun h3 => ?_) (fun h3 => ?_)
    · refine Load.mk' h22 (by simp [exV]) ?_
      refine Load.mk' h32 (by simp [exV]) ?_
      rw [str (.inr h3)]
      refine Test.split (fun h3 => ?_) (fun h3 => ?_)
      · exact Ret.weak (.refl _) (σ' := σ) o2 ⟨rfl, by simp [h3]⟩
      · exact Ret.weak (.refl _) (σ' := σ) o2 ⟨rfl, by simp [h3]⟩
    refine Test.split (fun h4 => ?_) (fun h4 => ?_)
    · refine Load.mk' h22 (by simp [exV]) ?_
      refine Load.mk' h32 (by simp [exV]) ?_
      refine Test.split (fun h5 => ?_) (fun h5 => ?_)
      · refine Ret.weak (.refl _) (σ' := σ) o2 ⟨rfl, ?_⟩
        simp only [sameE]; rw [if_neg (by simp [hop]), if_neg h1, if_neg (by omega), if_pos ⟨h4, h5⟩]
      · refine Load.mk' h22 (by simp [exV]) ?_
        refine Load.mk' h32 (by simp [exV]) ?_
        refine CallK.pure (tail h1 (by omega) (fun h => h5 h.2) hop) ?_
        exact Ret.weak (.refl _) (σ' := σ) o2 ⟨rfl, rfl⟩
    · refine Load.mk' h22 (by simp [exV]) ?_
      refine Load.mk' h32 (by simp [exV]) ?_
      refine CallK.pure (tail h1 (by omega) (fun h => h4 h.1) hop) ?_
      exact Ret.weak (.refl _) (σ' := σ) o2 ⟨rfl, rfl⟩
end Go.Shadow.Lex

/- Shadow code of the specification of the parser (printed by a program). -/
namespace Go.Shadow.Lex
open Go Go.RowKit Go.Proofs
/-- quietus/quietusref32.Same -/
def sc12 : SC := (.seq (.region [.q 6 (.mv (.c (.bool false)))] (some [0, 1, 2])) (.seq (.seq (.region [.q 11 (.mv (.t 0)), .q 12 (.len false (.t 11)), .q 13 (.mv (.t 1)), .q 14 (.len false (.t 13)), .q 15 (.bin .neq (.t 12) (.t 14))] (some [0, 1, 2, 15])) (.cond (.t 15) (some [0, 1, 2]) (.seq (.region [.q 6 (.mv (.c (.bool false)))] (some [6])) .ret) .skip)) (.seq (.seq (.region [.q 7 (.mv (.c (.int .i64 0)))] (some [0, 1, 2, 7])) (.block 0 (.loop (.seq (.seq (.region [.q 16 (.mv (.t 7)), .q 17 (.mv (.t 0)), .q 18 (.len false (.t 17)), .q 19 (.bin .lss (.t 16) (.t 18))] (some [0, 1, 2, 7, 19])) (.cond (.t 19) (some [0, 1, 2, 7]) .skip (.exit 0))) (.seq (.block 1 (.seq (.seq (.region [.q 22 (.mv (.t 0)), .q 23 (.mv (.t 7)), .q 24 (.iaddr 4 (.t 22) (.t 23)), .q 25 (.faddr 0 (.t 24)), .q 26 (.load false 1 (.t 25)), .q 27 (.mv (.t 1)), .q 28 (.mv (.t 7)), .q 29 (.iaddr 4 (.t 27) (.t 28)), .q 30 (.faddr 0 (.t 29)), .q 31 (.load false 1 (.t 30)), .q 32 (.bins .neq (.t 26) (.t 31)), .q 33 (.mv (.t 32)), ⟨(some 34), (.mv (.t 2)), (some (33, false))⟩, ⟨(some 35), (.mv (.t 34)), (some (33, false))⟩, ⟨(some 36), (.mv (.t 0)), (some (35, true))⟩, ⟨(some 37), (.mv (.t 7)), (some (35, true))⟩, ⟨(some 38), (.iaddr 4 (.t 36) (.t 37)), (some (35, true))⟩, ⟨(some 39), (.faddr 3 (.t 38)), (some (35, true))⟩, ⟨(some 40), (.load false 1 (.t 39)), (some (35, true))⟩, ⟨(some 41), (.mv (.t 1)), (some (35, true))⟩, ⟨(some 42), (.mv (.t 7)), (some (35, true))⟩, ⟨(some 43), (.iaddr 4 (.t 41) (.t 42)), (some (35, true))⟩, ⟨(some 44), (.faddr 3 (.t 43)), (some (35, true))⟩, ⟨(some 45), (.load false 1 (.t 44)), (some (35, true))⟩, ⟨(some 46), (.bin .neq (.t 40) (.t 45)), (some (35, true))⟩, ⟨(some 47), (.pick (.t 35) (.t 46) (.c (.bool false))), (some (33, false))⟩, .q 48 (.pick (.t 33) (.c (.bool true)) (.t 47)), .q 49 (.mv (.t 48)), ⟨(some 50), (.mv (.t 0)), (some (49, false))⟩, ⟨(some 51), (.mv (.t 7)), (some (49, false))⟩, ⟨(some 52), (.iaddr 4 (.t 50) (.t 51)), (some (49, false))⟩, ⟨(some 53), (.faddr 1 (.t 52)), (some (49, false))⟩, ⟨(some 54), (.load false 1 (.t 53)), (some (49, false))⟩, ⟨(some 55), (.len false (.t 54)), (some (49, false))⟩, ⟨(some 56), (.mv (.t 1)), (some (49, false))⟩, ⟨(some 57), (.mv (.t 7)), (some (49, false))⟩, ⟨(some 58), (.iaddr 4 (.t 56) (.t 57)), (some (49, false))⟩, ⟨(some 59), (.faddr 1 (.t 58)), (some (49, false))⟩, ⟨(some 60), (.load false 1 (.t 59)), (some (49, false))⟩, ⟨(some 61), (.len false (.t 60)), (some (49, false))⟩, ⟨(some 62), (.bin .neq (.t 55) (.t 61)), (some (49, false))⟩, .q 63 (.pick (.t 49) (.c (.bool true)) (.t 62))] (some [0, 1, 2, 7, 63])) (.cond (.t 63) (some [0, 1, 2, 7]) (.seq (.region [.q 6 (.mv (.c (.bool false)))] (some [6])) .ret) .skip)) (.seq (.seq (.region [.q 8 (.mv (.c (.int .i64 0)))] (some [0, 1, 2, 7, 8])) (.block 2 (.loop (.seq (.seq (.region [.q 64 (.mv (.t 8)), .q 65 (.mv (.t 0)), .q 66 (.mv (.t 7)), .q 67 (.iaddr 4 (.t 65) (.t 66)), .q 68 (.faddr 1 (.t 67)), .q 69 (.load false 1 (.t 68)), .q 70 (.len false (.t 69)), .q 71 (.bin .lss (.t 64) (.t 70))] (some [0, 1, 2, 7, 8, 71])) (.cond (.t 71) (some [0, 1, 2, 7, 8]) .skip (.exit 2))) (.seq (.block 3 (.seq (.region [.q 74 (.mv (.t 0)), .q 75 (.mv (.t 7)), .q 76 (.iaddr 4 (.t 74) (.t 75)), .q 77 (.faddr 1 (.t 76)), .q 78 (.load false 1 (.t 77)), .q 79 (.mv (.t 8)), .q 80 (.iaddr 9 (.t 78) (.t 79)), .q 81 (.load true 9 (.t 80)), .q 82 (.mv (.t 1)), .q 83 (.mv (.t 7)), .q 84 (.iaddr 4 (.t 82) (.t 83)), .q 85 (.faddr 1 (.t 84)), .q 86 (.load false 1 (.t 85)), .q 87 (.mv (.t 8)), .q 88 (.iaddr 9 (.t 86) (.t 87)), .q 89 (.load true 9 (.t 88)), .q 90 (.mv (.t 2)), .q 91 (.call 32 [(.t 81), (.t 89), (.t 90)]), .q 9 (.mv (.t 91))] (some [0, 1, 2, 7, 8, 9])) (.seq (.region [.q 92 (.mv (.t 9)), .q 93 (.un .not (.t 92))] (some [0, 1, 2, 7, 8, 93])) (.cond (.t 93) (some [0, 1, 2, 7, 8]) (.seq (.region [.q 6 (.mv (.c (.bool false)))] (some [6])) .ret) .skip)))) (.region [.q 72 (.mv (.t 8)), .q 73 (.bin .add (.t 72) (.c (.int .i64 1))), .q 8 (.mv (.t 73))] (some [0, 1, 2, 7, 8]))))))) (.seq (.region [.q 94 (.mv (.t 0)), .q 95 (.mv (.t 7)), .q 96 (.iaddr 4 (.t 94) (.t 95)), .q 97 (.faddr 2 (.t 96)), .q 98 (.load false 1 (.t 97)), .q 99 (.mv (.t 1)), .q 100 (.mv (.t 7)), .q 101 (.iaddr 4 (.t 99) (.t 100)), .q 102 (.faddr 2 (.t 101)), .q 103 (.load false 1 (.t 102)), .q 104 (.mv (.t 2)), .q 105 (.call 12 [(.t 98), (.t 103), (.t 104)]), .q 10 (.mv (.t 105))] (some [0, 1, 2, 7, 10])) (.seq (.region [.q 106 (.mv (.t 10)), .q 107 (.un .not (.t 106))] (some [0, 1, 2, 7, 107])) (.cond (.t 107) (some [0, 1, 2, 7]) (.seq (.region [.q 6 (.mv (.c (.bool false)))] (some [6])) .ret) .skip)))))) (.region [.q 20 (.mv (.t 7)), .q 21 (.bin .add (.t 20) (.c (.int .i64 1))), .q 7 (.mv (.t 21))] (some [0, 1, 2, 7]))))))) (.seq (.region [.q 6 (.mv (.c (.bool true)))] (some [6])) .ret))))
theorem code12 : IsCode Tryz.prog 12 sc12 [(6, none)] 108 := .mk' Tryz.func12 (by kernel_rfl) (by kernel_rfl) (by kernel_rfl) (by kernel_rfl)
/-- quietus/quietusref32.SameExpr -/
def sc13 : SC := (.seq (.region [.q 3 (.box (.t 0)), .q 4 (.box (.t 1)), .q 6 (.mv (.c (.bool false)))] (some [2, 3, 4])) (.seq (.seq (.region [.q 9 (.faddr 0 (.t 3)), .q 10 (.load false 1 (.t 9)), .q 11 (.faddr 0 (.t 4)), .q 12 (.load false 1 (.t 11)), .q 13 (.bin .neq (.t 10) (.t 12)), .q 14 (.mv (.t 13)), ⟨(some 15), (.faddr 0 (.t 3)), (some (14, false))⟩, ⟨(some 16), (.load false 1 (.t 15)), (some (14, false))⟩, ⟨(some 17), (.bin .eql (.t 16) (.c (.int .i64 1))), (some (14, false))⟩, ⟨(some 18), (.mv (.t 17)), (some (14, false))⟩, ⟨(some 19), (.faddr 1 (.t 3)), (some (18, true))⟩, ⟨(some 20), (.load false 1 (.t 19)), (some (18, true))⟩, ⟨(some 21), (.faddr 1 (.t 4)), (some (18, true))⟩, ⟨(some 22), (.load false 1 (.t 21)), (some (18, true))⟩, ⟨(some 23), (.bin .neq (.t 20) (.t 22)), (some (18, true))⟩, ⟨(some 24), (.pick (.t 18) (.t 23) (.c (.bool false))), (some (14, false))⟩, .q 25 (.pick (.t 14) (.c (.bool true)) (.t 24)), .q 26 (.mv (.t 25)), ⟨(some 27), (.faddr 0 (.t 3)), (some (26, false))⟩, ⟨(some 28), (.load false 1 (.t 27)), (some (26, false))⟩, ⟨(some 29), (.bin .geq (.t 28) (.c (.int .i64 2))), (some (26, false))⟩, ⟨(some 30), (.mv (.t 29)), (some (26, false))⟩, ⟨(some 31), (.faddr 0 (.t 3)), (some (30, true))⟩, ⟨(some 32), (.load false 1 (.t 31)), (some (30, true))⟩, ⟨(some 33), (.bin .leq (.t 32) (.c (.int .i64 4))), (some (30, true))⟩, ⟨(some 34), (.pick (.t 30) (.t 33) (.c (.bool false))), (some (26, false))⟩, ⟨(some 35), (.mv (.t 34)), (some (26, false))⟩, ⟨(some 36), (.faddr 2 (.t 3)), (some (35, true))⟩, ⟨(some 37), (.load false 1 (.t 36)), (some (35, true))⟩, ⟨(some 38), (.faddr 2 (.t 4)), (some (35, true))⟩, ⟨(some 39), (.load false 1 (.t 38)), (some (35, true))⟩, ⟨(some 40), (.bins .neq (.t 37) (.t 39)), (some (35, true))⟩, ⟨(some 41), (.pick (.t 35) (.t 40) (.c (.bool false))), (some (26, false))⟩, .q 42 (.pick (.t 26) (.c (.bool true)) (.t 41)), .q 43 (.mv (.t 42)), ⟨(some 44), (.mv (.t 2)), (some (43, false))⟩, ⟨(some 45), (.mv (.t 44)), (some (43, false))⟩, ⟨(some 46), (.faddr 4 (.t 3)), (some (45, true))⟩, ⟨(some 47), (.load false 1 (.t 46)), (some (45, true))⟩, ⟨(some 48), (.faddr 4 (.t 4)), (some (45, true))⟩, ⟨(some 49), (.load false 1 (.t 48)), (some (45, true))⟩, ⟨(some 50), (.bin .neq (.t 47) (.t 49)), (some (45, true))⟩, ⟨(some 51), (.pick (.t 45) (.t 50) (.c (.bool false))), (some (43, false))⟩, .q 52 (.pick (.t 43) (.c (.bool true)) (.t 51))] (some [2, 3, 4, 52])) (.cond (.t 52) (some [2, 3, 4]) (.seq (.region [.q 6 (.mv (.c (.bool false)))] (some [6])) .ret) .skip)) (.seq (.seq (.region [.q 53 (.faddr 0 (.t 3)), .q 54 (.load false 1 (.t 53)), .q 55 (.bin .geq (.t 54) (.c (.int .i64 1))), .q 56 (.mv (.t 55)), ⟨(some 57), (.faddr 0 (.t 3)), (some (56, true))⟩, ⟨(some 58), (.load false 1 (.t 57)), (some (56, true))⟩, ⟨(some 59), (.bin .leq (.t 58) (.c (.int .i64 3))), (some (56, true))⟩, .q 60 (.pick (.t 56) (.t 59) (.c (.bool false)))] (some [2, 3, 4, 60])) (.cond (.t 60) (some [2, 3, 4]) (.seq (.region [.q 6 (.mv (.c (.bool true)))] (some [6])) .ret) .skip)) (.seq (.seq (.region [.q 61 (.faddr 3 (.t 3)), .q 62 (.load false 1 (.t 61)), .q 63 (.len false (.t 62)), .q 64 (.faddr 3 (.t 4)), .q 65 (.load false 1 (.t 64)), .q 66 (.len false (.t 65)), .q 67 (.bin .neq (.t 63) (.t 66))] (some [2, 3, 4, 67])) (.cond (.t 67) (some [2, 3, 4]) (.seq (.region [.q 6 (.mv (.c (.bool false)))] (some [6])) .ret) .skip)) (.seq (.seq (.region [.q 7 (.mv (.c (.int .i64 0)))] (some [2, 3, 4, 7])) (.block 0 (.loop (.seq (.seq (.region [.q 68 (.mv (.t 7)), .q 69 (.faddr 3 (.t 3)), .q 70 (.load false 1 (.t 69)), .q 71 (.len false (.t 70)), .q 72 (.bin .lss (.t 68) (.t 71))] (some [2, 3, 4, 7, 72])) (.cond (.t 72) (some [2, 3, 4, 7]) .skip (.exit 0))) (.seq (.block 1 (.seq (.region [.q 75 (.faddr 3 (.t 3)), .q 76 (.load false 1 (.t 75)), .q 77 (.mv (.t 7)), .q 78 (.iaddr 5 (.t 76) (.t 77)), .q 79 (.load true 5 (.t 78)), .q 80 (.faddr 3 (.t 4)), .q 81 (.load false 1 (.t 80)), .q 82 (.mv (.t 7)), .q 83 (.iaddr 5 (.t 81) (.t 82)), .q 84 (.load true 5 (.t 83)), .q 85 (.mv (.t 2)), .q 86 (.call 13 [(.t 79), (.t 84), (.t 85)]), .q 8 (.mv (.t 86))] (some [2, 3, 4, 7, 8])) (.seq (.region [.q 87 (.mv (.t 8)), .q 88 (.un .not (.t 87))] (some [2, 3, 4, 7, 88])) (.cond (.t 88) (some [2, 3, 4, 7]) (.seq (.region [.q 6 (.mv (.c (.bool false)))] (some [6])) .ret) .skip)))) (.region [.q 73 (.mv (.t 7)), .q 74 (.bin .add (.t 73) (.c (.int .i64 1))), .q 7 (.mv (.t 74))] (some [2, 3, 4, 7]))))))) (.seq (.region [.q 6 (.mv (.c (.bool true)))] (some [6])) .ret))))))
theorem code13 : IsCode Tryz.prog 13 sc13 [(6, none)] 89 := .mk' Tryz.func13 (by kernel_rfl) (by kernel_rfl) (by kernel_rfl) (by kernel_rfl)
/-- quietus/quietusref32.SameArg -/
def sc32 : SC := (.seq (.region [.q 3 (.box (.t 0)), .q 4 (.box (.t 1)), .q 6 (.mv (.c (.bool false)))] (some [2, 3, 4])) (.seq (.seq (.region [.q 7 (.faddr 0 (.t 3)), .q 8 (.load false 1 (.t 7)), .q 9 (.faddr 0 (.t 4)), .q 10 (.load false 1 (.t 9)), .q 11 (.bin .neq (.t 8) (.t 10)), .q 12 (.mv (.t 11)), ⟨(some 13), (.mv (.t 2)), (some (12, false))⟩, ⟨(some 14), (.mv (.t 13)), (some (12, false))⟩, ⟨(some 15), (.faddr 8 (.t 3)), (some (14, true))⟩, ⟨(some 16), (.load false 1 (.t 15)), (some (14, true))⟩, ⟨(some 17), (.faddr 8 (.t 4)), (some (14, true))⟩, ⟨(some 18), (.load false 1 (.t 17)), (some (14, true))⟩, ⟨(some 19), (.bin .neq (.t 16) (.t 18)), (some (14, true))⟩, ⟨(some 20), (.pick (.t 14) (.t 19) (.c (.bool false))), (some (12, false))⟩, .q 21 (.pick (.t 12) (.c (.bool true)) (.t 20)), .q 22 (.mv (.t 21)), ⟨(some 23), (.faddr 0 (.t 3)), (some (22, false))⟩, ⟨(some 24), (.load false 1 (.t 23)), (some (22, false))⟩, ⟨(some 25), (.bin .eql (.t 24) (.c (.int .i64 1))), (some (22, false))⟩, ⟨(some 26), (.mv (.t 25)), (some (22, false))⟩, ⟨(some 27), (.faddr 0 (.t 3)), (some (26, false))⟩, ⟨(some 28), (.load false 1 (.t 27)), (some (26, false))⟩, ⟨(some 29), (.bin .eql (.t 28) (.c (.int .i64 3))), (some (26, false))⟩, ⟨(some 30), (.pick (.t 26) (.c (.bool true)) (.t 29)), (some (22, false))⟩, ⟨(some 31), (.mv (.t 30)), (some (22, false))⟩, ⟨(some 32), (.faddr 2 (.t 3)), (some (31, true))⟩, ⟨(some 33), (.load false 1 (.t 32)), (some (31, true))⟩, ⟨(some 34), (.faddr 2 (.t 4)), (some (31, true))⟩, ⟨(some 35), (.load false 1 (.t 34)), (some (31, true))⟩, ⟨(some 36), (.bins .neq (.t 33) (.t 35)), (some (31, true))⟩, ⟨(some 37), (.pick (.t 31) (.t 36) (.c (.bool false))), (some (22, false))⟩, .q 38 (.pick (.t 22) (.c (.bool true)) (.t 37)), .q 39 (.mv (.t 38)), ⟨(some 40), (.faddr 0 (.t 3)), (some (39, false))⟩, ⟨(some 41), (.load false 1 (.t 40)), (some (39, false))⟩, ⟨(some 42), (.bin .eql (.t 41) (.c (.int .i64 2))), (some (39, false))⟩, ⟨(some 43), (.mv (.t 42)), (some (39, false))⟩, ⟨(some 44), (.faddr 1 (.t 3)), (some (43, true))⟩, ⟨(some 45), (.load false 1 (.t 44)), (some (43, true))⟩, ⟨(some 46), (.faddr 1 (.t 4)), (some (43, true))⟩, ⟨(some 47), (.load false 1 (.t 46)), (some (43, true))⟩, ⟨(some 48), (.bin .neq (.t 45) (.t 47)), (some (43, true))⟩, ⟨(some 49), (.pick (.t 43) (.t 48) (.c (.bool false))), (some (39, false))⟩, .q 50 (.pick (.t 39) (.c (.bool true)) (.t 49))] (some [2, 3, 4, 50])) (.cond (.t 50) (some [2, 3, 4]) (.seq (.region [.q 6 (.mv (.c (.bool false)))] (some [6])) .ret) .skip)) (.seq (.region [.q 51 (.faddr 0 (.t 3)), .q 52 (.load false 1 (.t 51)), .q 53 (.bin .neq (.t 52) (.c (.int .i64 5))), .q 54 (.mv (.t 53)), ⟨(some 55), (.faddr 3 (.t 3)), (some (54, false))⟩, ⟨(some 56), (.load true 5 (.t 55)), (some (54, false))⟩, ⟨(some 57), (.faddr 3 (.t 4)), (some (54, false))⟩, ⟨(some 58), (.load true 5 (.t 57)), (some (54, false))⟩, ⟨(some 59), (.mv (.t 2)), (some (54, false))⟩, ⟨(some 60), (.call 13 [(.t 56), (.t 58), (.t 59)]), (some (54, false))⟩, .q 61 (.pick (.t 54) (.c (.bool true)) (.t 60)), .q 6 (.mv (.t 61))] (some [6])) .ret)))
theorem code32 : IsCode Tryz.prog 32 sc32 [(6, none)] 62 := .mk' Tryz.func32 (by kernel_rfl) (by kernel_rfl) (by kernel_rfl) (by kernel_rfl)
end Go.Shadow.Lex

/- Proved: parse.Same compares forms but for offsets; the specification's Same and SameExpr find equals equal. Conditions: at most a million parts. -/
namespace Go.Shadow.Lex
open Go Go.RowKit Go.Proofs

def arNs : List Ar → Nat
  | [] => 0
  | a :: r => 1 + exN a.e + arNs r
mutual
/-- How many parts a form has. -/
def foN : Fo → Nat
  | .mk _ args bs _ => 1 + arNs args + foNs bs
def foNs : List Fo → Nat
  | [] => 0
  | e :: r => foN e + foNs r
end
theorem arNs_len : ∀ l : List Ar, l.length ≤ arNs l
  | [] => Nat.le_refl _
  | e :: r => by have := arNs_len r; simp [arNs]; omega
theorem arNs_mem : ∀ {l : List Ar} {x : Ar}, x ∈ l → exN x.e ≤ arNs l
  | e :: r, x, h => by
    rcases List.mem_cons.1 h with rfl | h
    · simp [arNs]; omega
    · have := arNs_mem h; simp [arNs]; omega
theorem foN_pos (e : Fo) : 1 ≤ foN e := by cases e; simp [foN]; omega
theorem foNs_len : ∀ l : List Fo, l.length ≤ foNs l
  | [] => Nat.le_refl _
  | e :: r => by have := foN_pos e; have := foNs_len r; simp [foNs]; omega
theorem foNs_mem : ∀ {l : List Fo} {x : Fo}, x ∈ l → foN x ≤ foNs l
  | e :: r, x, h => by
    rcases List.mem_cons.1 h with rfl | h
    · simp [foNs]
    · have := foNs_mem h; simp [foNs]; omega
/-- Arguments are the same but for offsets. -/
def sameA (a b : Ar) : Bool := if a.kind ≠ b.kind then false else if a.kind = 1 ∨ a.kind = 3 then a.s == b.s else if a.kind = 2 then a.n == b.n else if a.kind = 5 then sameE a.e b.e else true
mutual
/-- Forms are the same but for offsets. -/
def sameF : Fo → Fo → Bool
  | .mk w args bs _, y => match y with
    | .mk w' args' bs' _ => w == w' && eqF sameA args args' && sameFs bs bs'
def sameFs : List Fo → List Fo → Bool
  | [], l => match l with
    | [] => true
    | _ :: _ => false
  | x :: xs, l => match l with
    | [] => false
    | y :: ys => sameF x y && sameFs xs ys
end
theorem sameFs_eqF : ∀ l m : List Fo, sameFs l m = eqF sameF l m
  | [], [] => rfl
  | [], _ :: _ => rfl
  | _ :: _, [] => rfl
  | x :: xs, y :: ys => by simp [sameFs, eqF, sameFs_eqF xs ys]

theorem sameArg_ret (x y : Ar) (hm : exN x.e ≤ 1000000) : SRet Tryz.prog LG 41 [.agg (arV x), .agg (arV y)] (.bool (sameA x y)) := by
  intro σ
  obtain ⟨ak, an, as0, e, aat⟩ := x
  obtain ⟨ak', an', as0', e', aat'⟩ := y
  have hse := sameExpr_ret _ e e' hm (Nat.le_refl _)
  obtain ⟨op, n, s, kids, a⟩ := e
  obtain ⟨op', n', s', kids', a'⟩ := e'
  refine code41.call Lex.hm (by simp) ?_
  refine ⟨rfl, ?_⟩
  intro b2 f2
  have o1 : Over σ (σ.put b2 (arV ⟨ak, an, as0, .mk op n s kids a, aat⟩)) := over_put (.refl _) f2
  have h21 : (σ.put b2 (arV ⟨ak, an, as0, .mk op n s kids a, aat⟩)).box b2 = some (arV ⟨ak, an, as0, .mk op n s kids a, aat⟩) := put_box
  refine ⟨rfl, ?_⟩
  intro b3 hb3
  have q2 := over_put (σ0 := σ.put b2 (arV ⟨ak, an, as0, .mk op n s kids a, aat⟩)) (σ := σ.put b2 (arV ⟨ak, an, as0, .mk op n s kids a, aat⟩)) (cs := arV ⟨ak', an', as0', .mk op' n' s' kids' a', aat'⟩) (Over.refl _) hb3
  have o2 := over_tr o1 q2
  have h22 := q2.box _ _ h21
  have h32 : ((σ.put b2 (arV ⟨ak, an, as0, .mk op n s kids a, aat⟩)).put b3 (arV ⟨ak', an', as0', .mk op' n' s' kids' a', aat'⟩)).box b3 = some (arV ⟨ak', an', as0', .mk op' n' s' kids' a', aat'⟩) := put_box
  clear q2
  generalize hσ : (σ.put b2 (arV ⟨ak, an, as0, .mk op n s kids a, aat⟩)).put b3 (arV ⟨ak', an', as0', .mk op' n' s' kids' a', aat'⟩) = σ2 at o2 h22 h32
  have hgoal : ∀ {G : St → Prop}, G σ2 → G ((σ.put b2 (arV ⟨ak, an, as0, .mk op n s kids a, aat⟩)).put b3 (arV ⟨ak', an', as0', .mk op' n' s' kids' a', aat'⟩)) := fun h => by rw [hσ]; exact h
  refine hgoal ?_
  clear hgoal hσ hb3 h21 o1
  refine Load.mk' h22 (by simp [arV, exV]) ?_
  refine Load.mk' h32 (by simp [arV, exV]) ?_
  refine Test.split (fun hk => ?_) (fun hk => ?_)
  · exact Ret.weak (.refl _) (σ' := σ) o2 ⟨rfl, by simp only [sameA]; rw [if_pos hk]⟩
  refine Load.mk' h22 (by simp [arV, exV]) ?_
  have str : (ak = 1 ∨ ak = 3) → sameA ⟨ak, an, as0, .mk op n s kids a, aat⟩ ⟨ak', an', as0', .mk op' n' s' kids' a', aat'⟩ = (as0 == as0') := fun h => by
    simp only [sameA]; rw [if_neg hk, if_pos h]
  refine Test.split (fun h1 => ?_) (fun h1 => ?_)
  · refine Load.mk' h22 (by simp [arV, exV]) ?_
    refine Load.mk' h32 (by simp [arV, exV]) ?_
    rw [str (.inl h1)]
    exact Test.split (fun h3 => Ret.weak (.refl _) (σ' := σ) o2 ⟨rfl, by rw [beq_iff_eq.2 h3]⟩) (fun h3 => Ret.weak (.refl _) (σ' := σ) o2 ⟨rfl, by rw [beq_eq_false_iff_ne.2 h3]⟩)
  refine Test.split (fun h3 => ?_) (fun h3 => ?_)
  · refine Load.mk' h22 (by simp [arV, exV]) ?_
    refine Load.mk' h32 (by simp [arV, exV]) ?_
    rw [str (.inr h3)]
    exact Test.split (fun h3 => Ret.weak (.refl _) (σ' := σ) o2 ⟨rfl, by rw [beq_iff_eq.2 h3]⟩) (fun h3 => Ret.weak (.refl _) (σ' := σ) o2 ⟨rfl, by rw [beq_eq_false_iff_ne.2 h3]⟩)
  have hno : ¬ (ak = 1 ∨ ak = 3) := by
    rintro (h | h)
    · exact h1 h
    · exact h3 h
  refine Test.split (fun h2 => ?_) (fun h2 => ?_)
  · refine Load.mk' h22 (by simp [arV, exV]) ?_
    refine Load.mk' h32 (by simp [arV, exV]) ?_
    have hv : sameA ⟨ak, an, as0, .mk op n s kids a, aat⟩ ⟨ak', an', as0', .mk op' n' s' kids' a', aat'⟩ = (an == an') := by
      simp only [sameA]; rw [if_neg hk, if_neg hno, if_pos h2]
    rw [hv]
    exact Test.split (fun h3 => Ret.weak (.refl _) (σ' := σ) o2 ⟨rfl, by rw [beq_iff_eq.2 h3]⟩) (fun h3 => Ret.weak (.refl _) (σ' := σ) o2 ⟨rfl, by rw [beq_eq_false_iff_ne.2 h3]⟩)
  refine Test.split (fun h5 => ?_) (fun h5 => ?_)
  · refine Load.mk' h22 (by simp [arV, exV]) ?_
    refine Load.mk' h32 (by simp [arV, exV]) ?_
    refine CallK.pure hse ?_
    refine Ret.weak (.refl _) (σ' := σ) o2 ⟨rfl, ?_⟩
    simp only [sameA]; rw [if_neg hk, if_neg hno, if_neg h2, if_pos h5]
  · refine Ret.weak (.refl _) (σ' := σ) o2 ⟨rfl, ?_⟩
    simp only [sameA]; rw [if_neg hk, if_neg hno, if_neg h2, if_neg h5]

theorem same_ret : ∀ (m : Nat) (l l' : List Fo) (t t' : Tag), foNs l ≤ m → m ≤ 1000000 → SRet Tryz.prog LG 20 [.slice t 4 (l.map foV), .slice t' 4 (l'.map foV)] (.bool (sameFs l l')) := by
  intro m
  induction m with
  | zero =>
    intro l l' t t' h0 _ σ
    refine code20.call hm (by simp) ?_
    refine CallK.pure (eqFo_ret (k := 39) (g := sameF) t t' (by have := foNs_len l; omega) fun x hx y _ => ?_) ?_
    · have := foNs_mem hx; have := foN_pos x; omega
    · exact Ret.mk' ⟨rfl, by rw [sameFs_eqF]⟩
  | succ m ih =>
    intro l l' t t' hm1 hm2 σ
    refine code20.call hm (by simp) ?_
    refine CallK.pure (eqFo_ret (k := 39) (g := sameF) t t' (by have := foNs_len l; omega) fun x hx y _ => ?_) ?_
    rotate_left
    · exact Ret.mk' ⟨rfl, by rw [sameFs_eqF]⟩
    intro σ
    have hmem := foNs_mem hx
    obtain ⟨w, args, bs, a⟩ := x
    obtain ⟨w', args', bs', a'⟩ := y
    simp only [foN] at hmem
    refine code39.call hm (by simp) ?_
    refine ⟨rfl, ?_⟩
    intro b2 f2
    have o1 : Over σ (σ.put b2 (foV (.mk w args bs a))) := over_put (.refl _) f2
    have h21 : (σ.put b2 (foV (.mk w args bs a))).box b2 = some (foV (.mk w args bs a)) := put_box
    refine ⟨rfl, ?_⟩
    intro b3 hb3
    have q2 := over_put (σ0 := σ.put b2 (foV (.mk w args bs a))) (σ := σ.put b2 (foV (.mk w args bs a))) (cs := foV (.mk w' args' bs' a')) (Over.refl _) hb3
    have o2 := over_tr o1 q2
    have h22 := q2.box _ _ h21
    have h32 : ((σ.put b2 (foV (.mk w args bs a))).put b3 (foV (.mk w' args' bs' a'))).box b3 = some (foV (.mk w' args' bs' a')) := put_box
    clear q2
    generalize hσ : (σ.put b2 (foV (.mk w args bs a))).put b3 (foV (.mk w' args' bs' a')) = σ2 at o2 h22 h32
    have hgoal : ∀ {G : St → Prop}, G σ2 → G ((σ.put b2 (foV (.mk w args bs a))).put b3 (foV (.mk w' args' bs' a'))) := fun h => by rw [hσ]; exact h
    refine hgoal ?_
    clear hgoal hσ hb3 h21 o1
    refine Load.mk' h22 (by simp [foV]) ?_
    refine Load.mk' h32 (by simp [foV]) ?_
    refine Test.split (fun hw => ?_) (fun hw => ?_)
    rotate_left
    · refine Ret.weak (.refl _) (σ' := σ) o2 ⟨rfl, ?_⟩
      simp [sameF, hw]
    refine Load.mk' h22 (by simp [foV]) ?_
    refine Load.mk' h32 (by simp [foV]) ?_
    refine CallK.pure (eqA_ret (k := 41) (g := sameA) .foreign .foreign (by have := arNs_len args; omega) fun x hx y _ => sameArg_ret x y (by have := arNs_mem hx; omega)) ?_
    cases hA : eqF sameA args args'
    · refine Ret.weak (.refl _) (σ' := σ) o2 ⟨rfl, ?_⟩
      simp [sameF, hA]
    refine Load.mk' h22 (by simp [foV]) ?_
    refine Load.mk' h32 (by simp [foV]) ?_
    have hb := ih bs bs' .foreign .foreign (by omega) (by omega)
    rw [← foVs_map, ← foVs_map] at hb
    refine CallK.pure hb ?_
    refine Ret.weak (.refl _) (σ' := σ) o2 ⟨rfl, ?_⟩
    simp [sameF, hA, hw]

/-! ### the specification's comparisons of equals -/
def scEq13 : SC := match sc13 with
  | .seq _ (.seq _ (.seq _ r)) => r
  | _ => .skip
def scEq32 : SC := match sc32 with
  | .seq _ (.seq _ r) => r
  | _ => .skip
theorem sameRef_refl : ∀ (m : Nat) (x : Ex), exN x ≤ m → m ≤ 1000000 → SRet Tryz.prog LG 13 [.agg (exV x), .agg (exV x), .bool true] (.bool true) := by
  intro m
  induction m with
  | zero => intro x h; have := exN_pos x; omega
  | succ m ih =>
    intro x hm1 hm2 σ
    obtain ⟨op, n, s, kids, a⟩ := x
    simp only [exN] at hm1
    have hkl := exNs_len kids
    refine code13.call hm (by simp) ?_
    refine ⟨rfl, ?_⟩
    intro b2 f2
    have o1 : Over σ (σ.put b2 (exV (.mk op n s kids a))) := over_put (.refl _) f2
    have h21 : (σ.put b2 (exV (.mk op n s kids a))).box b2 = some (exV (.mk op n s kids a)) := put_box
    refine ⟨rfl, ?_⟩
    intro b3 hb3
    have q2 := over_put (σ0 := σ.put b2 (exV (.mk op n s kids a))) (σ := σ.put b2 (exV (.mk op n s kids a))) (cs := exV (.mk op n s kids a)) (Over.refl _) hb3
    have o2 := over_tr o1 q2
    have h22 := q2.box _ _ h21
    have h32 : ((σ.put b2 (exV (.mk op n s kids a))).put b3 (exV (.mk op n s kids a))).box b3 = some (exV (.mk op n s kids a)) := put_box
    clear q2
    generalize hσ : (σ.put b2 (exV (.mk op n s kids a))).put b3 (exV (.mk op n s kids a)) = σ2 at o2 h22 h32
    have hgoal : ∀ {G : St → Prop}, G σ2 → G ((σ.put b2 (exV (.mk op n s kids a))).put b3 (exV (.mk op n s kids a))) := fun h => by rw [hσ]; exact h
    refine hgoal ?_
    clear hgoal hσ hb3 h21 o1
    refine Load.mk' h22 (by simp [exV]) ?_
    refine Load.mk' h32 (by simp [exV]) ?_
    refine Test.no (by simp) ?_
    have hrest : swpE Tryz.prog LG scEq13 (retE [(6, none)] (fun e σ' => σ' = σ ∧ e = .ret (.bool true))) (ofL [(2, some (.bool true)), (3, some (.loc b2 0)), (4, some (.loc b3 0))]) σ2 := by
      refine Load.mk' h22 (by simp [exV]) ?_
      refine Load.mk' h32 (by simp [exV]) ?_
      refine Test.no (by simp) ?_
      refine ⟨fun m sl σ' => σ' = σ2 ∧ ∃ i : Nat, sl = ofL [(2, some (.bool true)), (3, some (.loc b2 0)), (4, some (.loc b3 0)), (7, some (.int .i64 i))] ∧ i ≤ kids.length ∧ m = kids.length - i,
        _, ⟨rfl, 0, rfl, Nat.zero_le _, rfl⟩, ?_⟩
      rintro m' sl σ' ⟨rfl, i, rfl, hi, rfl⟩
      have hlen : (exVs kids).length = kids.length := by rw [exVs_map]; simp
      refine Load.mk' h22 (by simp [exV]) ?_
      refine Test.split (fun hlt => ?_) (fun hlt => ?_)
      · have hlt : i < kids.length := by rw [hlen] at hlt; omega
        obtain ⟨x, hx⟩ : ∃ x, kids[i]? = some x := ⟨_, List.getElem?_eq_getElem hlt⟩
        have hih := ih x (by have := exNs_mem (List.mem_of_getElem? hx); omega) (by omega)
        have hxV : (exVs kids)[i]? = some (exV x) := by rw [exVs_map]; simp [hx]
        obtain ⟨op', n', s', kids', a'⟩ := x
        refine Load.mk' h22 (by simp [exV]) ?_
        refine Sure.mk' (.inl rfl) ?_
        refine IdxE.mk' i _ rfl hxV ?_
        refine ⟨by simp [exV], ?_⟩
        refine Load.mk' h32 (by simp [exV]) ?_
        refine Sure.mk' (.inl rfl) ?_
        refine IdxE.mk' i _ rfl hxV ?_
        refine ⟨by simp [exV], ?_⟩
        refine CallK.pure hih ?_
        refine Arith.i64 ((i + 1 : Nat) : Int) (by simp) (by omega) ?_
        refine ⟨_, _, ?_, Forget.refl _, rfl, i + 1, rfl, by omega, rfl⟩
        omega
      · exact Ret.weak (.refl _) (σ' := σ) o2 ⟨rfl, rfl⟩
    refine Load.mk' h22 (by simp [exV]) ?_
    rcases (show op = 1 ∨ (op = 2 ∨ op = 3) ∨ op = 4 ∨ op < 1 ∨ 4 < op from by omega) with h | h | h | h | h
    · refine Test.yes h ?_
      refine Load.mk' h22 (by simp [exV]) ?_
      refine Load.mk' h32 (by simp [exV]) ?_
      refine Test.no (by simp) ?_
      refine Load.mk' h22 (by simp [exV]) ?_
      refine Test.no (by omega) ?_
      refine Load.mk' h22 (by simp [exV]) ?_
      refine Load.mk' h32 (by simp [exV]) ?_
      refine Test.no (by simp) ?_
      refine Load.mk' h22 (by simp [exV]) ?_
      refine Test.yes (by omega) ?_
      refine Load.mk' h22 (by simp [exV]) ?_
      refine Test.yes (by omega) ?_
      exact Ret.weak (.refl _) (σ' := σ) o2 ⟨rfl, rfl⟩
    · refine Test.no (by omega) ?_
      refine Load.mk' h22 (by simp [exV]) ?_
      refine Test.yes (by omega) ?_
      refine Load.mk' h22 (by simp [exV]) ?_
      refine Test.yes (by omega) ?_
      refine Load.mk' h22 (by simp [exV]) ?_
      refine Load.mk' h32 (by simp [exV]) ?_
      refine Test.no (by simp) ?_
      refine Load.mk' h22 (by simp [exV]) ?_
      refine Load.mk' h32 (by simp [exV]) ?_
      refine Test.no (by simp) ?_
      refine Load.mk' h22 (by simp [exV]) ?_
      refine Test.yes (by omega) ?_
      refine Load.mk' h22 (by simp [exV]) ?_
      refine Test.yes (by omega) ?_
      exact Ret.weak (.refl _) (σ' := σ) o2 ⟨rfl, rfl⟩
    · refine Test.no (by omega) ?_
      refine Load.mk' h22 (by simp [exV]) ?_
      refine Test.yes (by omega) ?_
      refine Load.mk' h22 (by simp [exV]) ?_
      refine Test.yes (by omega) ?_
      refine Load.mk' h22 (by simp [exV]) ?_
      refine Load.mk' h32 (by simp [exV]) ?_
      refine Test.no (by simp) ?_
      refine Load.mk' h22 (by simp [exV]) ?_
      refine Load.mk' h32 (by simp [exV]) ?_
      refine Test.no (by simp) ?_
      refine Load.mk' h22 (by simp [exV]) ?_
      refine Test.yes (by omega) ?_
      refine Load.mk' h22 (by simp [exV]) ?_
      refine Test.no (by omega) ?_
      exact hrest
    · refine Test.no (by omega) ?_
      refine Load.mk' h22 (by simp [exV]) ?_
      refine Test.no (by omega) ?_
      refine Load.mk' h22 (by simp [exV]) ?_
      refine Load.mk' h32 (by simp [exV]) ?_
      refine Test.no (by simp) ?_
      refine Load.mk' h22 (by simp [exV]) ?_
      refine Test.no (by omega) ?_
      exact hrest
    · refine Test.no (by omega) ?_
      refine Load.mk' h22 (by simp [exV]) ?_
      refine Test.yes (by omega) ?_
      refine Load.mk' h22 (by simp [exV]) ?_
      refine Test.no (by omega) ?_
      refine Load.mk' h22 (by simp [exV]) ?_
      refine Load.mk' h32 (by simp [exV]) ?_
      refine Test.no (by simp) ?_
      refine Load.mk' h22 (by simp [exV]) ?_
      refine Test.yes (by omega) ?_
      refine Load.mk' h22 (by simp [exV]) ?_
      refine Test.no (by omega) ?_
      exact hrest

theorem sameArgRef_refl (x : Ar) (hm : exN x.e ≤ 1000000) : SRet Tryz.prog LG 32 [.agg (arV x), .agg (arV x), .bool true] (.bool true) := by
  intro σ
  obtain ⟨ak, an, as0, e, aat⟩ := x
  have hse := sameRef_refl _ e hm (Nat.le_refl _)
  obtain ⟨op, n, s, kids, a⟩ := e
  refine code32.call Lex.hm (by simp) ?_
  refine ⟨rfl, ?_⟩
  intro b2 f2
  have o1 : Over σ (σ.put b2 (arV ⟨ak, an, as0, .mk op n s kids a, aat⟩)) := over_put (.refl _) f2
  have h21 : (σ.put b2 (arV ⟨ak, an, as0, .mk op n s kids a, aat⟩)).box b2 = some (arV ⟨ak, an, as0, .mk op n s kids a, aat⟩) := put_box
  refine ⟨rfl, ?_⟩
  intro b3 hb3
  have q2 := over_put (σ0 := σ.put b2 (arV ⟨ak, an, as0, .mk op n s kids a, aat⟩)) (σ := σ.put b2 (arV ⟨ak, an, as0, .mk op n s kids a, aat⟩)) (cs := arV ⟨ak, an, as0, .mk op n s kids a, aat⟩) (Over.refl _) hb3
  have o2 := over_tr o1 q2
  have h22 := q2.box _ _ h21
  have h32 : ((σ.put b2 (arV ⟨ak, an, as0, .mk op n s kids a, aat⟩)).put b3 (arV ⟨ak, an, as0, .mk op n s kids a, aat⟩)).box b3 = some (arV ⟨ak, an, as0, .mk op n s kids a, aat⟩) := put_box
  clear q2
  generalize hσ : (σ.put b2 (arV ⟨ak, an, as0, .mk op n s kids a, aat⟩)).put b3 (arV ⟨ak, an, as0, .mk op n s kids a, aat⟩) = σ2 at o2 h22 h32
  have hgoal : ∀ {G : St → Prop}, G σ2 → G ((σ.put b2 (arV ⟨ak, an, as0, .mk op n s kids a, aat⟩)).put b3 (arV ⟨ak, an, as0, .mk op n s kids a, aat⟩)) := fun h => by rw [hσ]; exact h
  refine hgoal ?_
  clear hgoal hσ hb3 h21 o1
  refine Load.mk' h22 (by simp [arV, exV]) ?_
  refine Load.mk' h32 (by simp [arV, exV]) ?_
  refine Test.no (by simp) ?_
  refine Load.mk' h22 (by simp [arV, exV]) ?_
  refine Load.mk' h32 (by simp [arV, exV]) ?_
  refine Test.no (by simp) ?_
  refine Load.mk' h22 (by simp [arV, exV]) ?_
  have h13 : ∀ {G : Prop}, (ak = 1 → G) → (ak = 3 → G) → (ak ≠ 1 → ak ≠ 3 → G) → G := fun h1 h2 h3 => if e1 : ak = 1 then h1 e1 else if e2 : ak = 3 then h2 e2 else h3 e1 e2
  have fin : swpE Tryz.prog LG scEq32 (retE [(6, none)] (fun e σ' => σ' = σ ∧ e = .ret (.bool true))) (ofL [(2, some (.bool true)), (3, some (.loc b2 0)), (4, some (.loc b3 0))]) σ2 := by
    refine Load.mk' h22 (by simp [arV, exV]) ?_
    refine Test.split (fun h5 => ?_) (fun h5 => ?_)
    · exact Ret.weak (.refl _) (σ' := σ) o2 ⟨rfl, rfl⟩
    · refine Load.mk' h22 (by simp [arV, exV]) ?_
      refine Load.mk' h32 (by simp [arV, exV]) ?_
      refine CallK.pure hse ?_
      exact Ret.weak (.refl _) (σ' := σ) o2 ⟨rfl, rfl⟩
  refine h13 (fun h => ?_) (fun h => ?_) (fun h h' => ?_)
  · refine Test.yes h ?_
    refine Load.mk' h22 (by simp [arV, exV]) ?_
    refine Load.mk' h32 (by simp [arV, exV]) ?_
    refine Test.no (by simp) ?_
    refine Load.mk' h22 (by simp [arV, exV]) ?_
    refine Test.no (fun (e : ak = 2) => by omega) ?_
    exact fin
  · refine Test.no (fun (e : ak = 1) => by omega) ?_
    refine Load.mk' h22 (by simp [arV, exV]) ?_
    refine Test.yes h ?_
    refine Load.mk' h22 (by simp [arV, exV]) ?_
    refine Load.mk' h32 (by simp [arV, exV]) ?_
    refine Test.no (by simp) ?_
    refine Load.mk' h22 (by simp [arV, exV]) ?_
    refine Test.no (fun (e : ak = 2) => by omega) ?_
    exact fin
  · refine Test.no h ?_
    refine Load.mk' h22 (by simp [arV, exV]) ?_
    refine Test.no h' ?_
    refine Load.mk' h22 (by simp [arV, exV]) ?_
    refine Test.split (fun h2 => ?_) (fun h2 => ?_)
    · refine Load.mk' h22 (by simp [arV, exV]) ?_
      refine Load.mk' h32 (by simp [arV, exV]) ?_
      refine Test.no (by simp) ?_
      exact fin
    · exact fin

set_option maxHeartbeats 2000000 in
theorem sameFRef_refl : ∀ (m : Nat) (l : List Fo) (t t' : Tag), foNs l ≤ m → m ≤ 1000000 → SRet Tryz.prog LG 12 [.slice t 4 (l.map foV), .slice t' 4 (l.map foV), .bool true] (.bool true) := by
  intro m
  induction m with
  | zero =>
    intro l t t' h0 _ σ
    obtain rfl : l = [] := by
      cases l with
      | nil => rfl
      | cons x r => have := foN_pos x; simp [foNs] at h0; omega
    refine code12.call hm (by simp) ?_
    refine Test.no (by simp) ?_
    refine ⟨fun m sl σ' => σ' = σ ∧ sl = ofL [(0, some (.slice t 4 [])), (1, some (.slice t' 4 [])), (2, some (.bool true)), (7, some (.int .i64 0))], 0, ⟨rfl, rfl⟩, ?_⟩
    rintro m sl σ' ⟨rfl, rfl⟩
    refine Test.no (by simp) ?_
    exact Ret.mk' ⟨rfl, rfl⟩
  | succ m ih =>
    intro l t t' hm1 hm2 σ
    have hll := foNs_len l
    refine code12.call hm (by simp) ?_
    refine Test.no (by simp) ?_
    refine ⟨fun q sl σ' => σ' = σ ∧ ∃ i : Nat, sl = ofL [(0, some (.slice t 4 (l.map foV))), (1, some (.slice t' 4 (l.map foV))), (2, some (.bool true)), (7, some (.int .i64 i))] ∧ i ≤ l.length ∧ q = l.length - i,
      _, ⟨rfl, 0, rfl, Nat.zero_le _, rfl⟩, ?_⟩
    rintro q sl σ' ⟨rfl, i, rfl, hi, rfl⟩
    refine Test.split (fun hlt => ?_) (fun hlt => ?_)
    rotate_left
    · exact Ret.mk' ⟨rfl, rfl⟩
    have hlt : i < l.length := by simp only [List.length_map] at hlt; omega
    obtain ⟨x, hx⟩ : ∃ x, l[i]? = some x := ⟨_, List.getElem?_eq_getElem hlt⟩
    have hxV : (l.map foV)[i]? = some (foV x) := by simp [hx]
    have hmem := foNs_mem (List.mem_of_getElem? hx)
    obtain ⟨w, args, bs, a⟩ := x
    simp only [foN] at hmem
    have hal := arNs_len args
    refine Sure.mk' (.inl rfl) ?_
    refine IdxE.mk' i _ rfl hxV ?_
    refine ⟨by simp [foV], ?_⟩
    refine Sure.mk' (.inl rfl) ?_
    refine IdxE.mk' i _ rfl hxV ?_
    refine ⟨by simp [foV], ?_⟩
    refine Test.no (by simp) ?_
    refine Sure.mk' (.inl rfl) ?_
    refine IdxE.mk' i _ rfl hxV ?_
    refine ⟨by simp [foV], ?_⟩
    refine Sure.mk' (.inl rfl) ?_
    refine IdxE.mk' i _ rfl hxV ?_
    refine ⟨by simp [foV], ?_⟩
    refine Test.no (by simp) ?_
    refine Sure.mk' (.inl rfl) ?_
    refine IdxE.mk' i _ rfl hxV ?_
    refine ⟨by simp [foV], ?_⟩
    refine Sure.mk' (.inl rfl) ?_
    refine IdxE.mk' i _ rfl hxV ?_
    refine ⟨by simp [foV], ?_⟩
    refine Test.no (by simp) ?_
    refine ⟨fun q sl σ'' => σ'' = σ' ∧ ∃ j : Nat, sl = ofL [(0, some (.slice t 4 (l.map foV))), (1, some (.slice t' 4 (l.map foV))), (2, some (.bool true)), (7, some (.int .i64 i)), (8, some (.int .i64 j))] ∧ j ≤ args.length ∧ q = args.length - j,
      _, ⟨rfl, 0, rfl, Nat.zero_le _, rfl⟩, ?_⟩
    rintro q2 sl σ' ⟨rfl, j, rfl, hj, rfl⟩
    refine Sure.mk' (.inl rfl) ?_
    refine IdxE.mk' i _ rfl hxV ?_
    refine ⟨by simp [foV], ?_⟩
    refine Test.split (fun hlt2 => ?_) (fun hlt2 => ?_)
    · have hlt2 : j < args.length := by simp only [List.length_map] at hlt2; omega
      obtain ⟨y, hy⟩ : ∃ y, args[j]? = some y := ⟨_, List.getElem?_eq_getElem hlt2⟩
      have hyV : (args.map arV)[j]? = some (arV y) := by simp [hy]
      have hyr := sameArgRef_refl y (by have := arNs_mem (List.mem_of_getElem? hy); omega)
      obtain ⟨ak, an, as0, ⟨op, n, s, kids, ea⟩, aat⟩ := y
      refine Sure.mk' (.inl rfl) ?_
      refine IdxE.mk' i _ rfl hxV ?_
      refine ⟨by simp [foV], ?_⟩
      refine Sure.mk' (.inl rfl) ?_
      refine IdxE.mk' j _ rfl hyV ?_
      refine ⟨by simp [arV, exV], ?_⟩
      refine Sure.mk' (.inl rfl) ?_
      refine IdxE.mk' i _ rfl hxV ?_
      refine ⟨by simp [foV], ?_⟩
      refine Sure.mk' (.inl rfl) ?_
      refine IdxE.mk' j _ rfl hyV ?_
      refine ⟨by simp [arV, exV], ?_⟩
      refine CallK.pure hyr ?_
      refine Arith.i64 ((j + 1 : Nat) : Int) (by simp) (by omega) ?_
      refine ⟨_, _, ?_, Forget.refl _, rfl, j + 1, rfl, by omega, rfl⟩
      omega
    · refine Sure.mk' (.inl rfl) ?_
      refine IdxE.mk' i _ rfl hxV ?_
      refine ⟨by simp [foV], ?_⟩
      refine Sure.mk' (.inl rfl) ?_
      refine IdxE.mk' i _ rfl hxV ?_
      refine ⟨by simp [foV], ?_⟩
      have hb := ih bs .foreign .foreign (by omega) (by omega)
      rw [← foVs_map] at hb
      refine CallK.pure hb ?_
      refine Arith.i64 ((i + 1 : Nat) : Int) (by simp) (by omega) ?_
      refine ⟨_, _, ?_, Forget.refl _, rfl, i + 1, rfl, by omega, rfl⟩
      omega
end Go.Shadow.Lex

/- Shadow code of the laws of the parser (printed by a program). -/
namespace Go.Shadow.Lex
open Go Go.RowKit Go.Proofs
/-- quietus/quietuslaw32.ParseJoins -/
def sc4 : SC := (.seq (.region [.q 4 (.mv (.c (.bool false)))] (some [0, 1])) (.seq (.seq (.region [.q 12 (.mv (.t 0)), .q 13 (.len true (.t 12)), .q 14 (.bin .gtr (.t 13) (.c (.int .i64 300))), .q 15 (.mv (.t 14)), ⟨(some 16), (.mv (.t 1)), (some (15, false))⟩, ⟨(some 17), (.len true (.t 16)), (some (15, false))⟩, ⟨(some 18), (.bin .gtr (.t 17) (.c (.int .i64 300))), (some (15, false))⟩, .q 19 (.pick (.t 15) (.c (.bool true)) (.t 18))] (some [0, 1, 19])) (.cond (.t 19) (some [0, 1]) (.seq (.region [.q 20 (.call 7 []), .q 4 (.mv (.t 20))] (some [4])) .ret) .skip)) (.seq (.region [.q 22 (.mv (.t 0)), .q 23 (.call 8 [(.t 22)]), .q 21 (.mv (.t 23)), .q 24 (.extract 0 (.t 21)), .q 25 (.extract 1 (.t 21)), .q 6 (.alloc [(.int .i64 0), (.int .i64 0)]), .q 5 (.mv (.t 24)), .w (.store 2 (.t 6) (.t 25))] (some [0, 1, 5, 6])) (.seq (.seq (.region [.q 26 (.faddr 1 (.t 6)), .q 27 (.load false 1 (.t 26)), .q 28 (.bin .neq (.t 27) (.c (.int .i64 0)))] (some [0, 1, 5, 6, 28])) (.cond (.t 28) (some [0, 1, 5, 6]) (.seq (.region [.q 29 (.call 7 []), .q 30 (.mv (.t 29)), ⟨(some 31), (.faddr 0 (.t 6)), (some (30, true))⟩, ⟨(some 32), (.load false 1 (.t 31)), (some (30, true))⟩, ⟨(some 33), (.bin .geq (.t 32) (.c (.int .i64 0))), (some (30, true))⟩, .q 34 (.pick (.t 30) (.t 33) (.c (.bool false))), .q 35 (.mv (.t 34)), ⟨(some 36), (.faddr 0 (.t 6)), (some (35, true))⟩, ⟨(some 37), (.load false 1 (.t 36)), (some (35, true))⟩, ⟨(some 38), (.mv (.t 0)), (some (35, true))⟩, ⟨(some 39), (.len true (.t 38)), (some (35, true))⟩, ⟨(some 40), (.bin .leq (.t 37) (.t 39)), (some (35, true))⟩, .q 41 (.pick (.t 35) (.t 40) (.c (.bool false))), .q 42 (.mv (.t 41)), ⟨(some 43), (.mv (.t 5)), (some (42, true))⟩, ⟨(some 44), (.len false (.t 43)), (some (42, true))⟩, ⟨(some 45), (.bin .eql (.t 44) (.c (.int .i64 0))), (some (42, true))⟩, .q 46 (.pick (.t 42) (.t 45) (.c (.bool false))), .q 4 (.mv (.t 46))] (some [4])) .ret) .skip)) (.seq (.region [.q 48 (.mv (.t 1)), .q 49 (.call 8 [(.t 48)]), .q 47 (.mv (.t 49)), .q 50 (.extract 0 (.t 47)), .q 51 (.extract 1 (.t 47)), .q 8 (.alloc [(.int .i64 0), (.int .i64 0)]), .q 7 (.mv (.t 50)), .w (.store 2 (.t 8) (.t 51))] (some [0, 1, 5, 7, 8])) (.seq (.region [.q 53 (.mv (.t 0)), .q 54 (.bins .add (.t 53) (.c (.str [10]))), .q 55 (.mv (.t 1)), .q 56 (.bins .add (.t 54) (.t 55)), .q 57 (.call 8 [(.t 56)]), .q 52 (.mv (.t 57)), .q 58 (.extract 0 (.t 52)), .q 59 (.extract 1 (.t 52)), .q 10 (.alloc [(.int .i64 0), (.int .i64 0)]), .q 9 (.mv (.t 58)), .w (.store 2 (.t 10) (.t 59))] (some [0, 5, 7, 8, 9, 10])) (.seq (.seq (.region [.q 60 (.faddr 1 (.t 8)), .q 61 (.load false 1 (.t 60)), .q 62 (.bin .neq (.t 61) (.c (.int .i64 0)))] (some [0, 5, 7, 8, 9, 10, 62])) (.cond (.t 62) (some [0, 5, 7, 8, 9, 10]) (.seq (.region [.q 63 (.call 7 []), .q 64 (.mv (.t 63)), ⟨(some 65), (.load true 2 (.t 10)), (some (64, true))⟩, ⟨(some 66), (.faddr 0 (.t 8)), (some (64, true))⟩, ⟨(some 67), (.load false 1 (.t 66)), (some (64, true))⟩, ⟨(some 68), (.mv (.t 0)), (some (64, true))⟩, ⟨(some 69), (.len true (.t 68)), (some (64, true))⟩, ⟨(some 70), (.bin .add (.t 67) (.t 69)), (some (64, true))⟩, ⟨(some 71), (.bin .add (.t 70) (.c (.int .i64 1))), (some (64, true))⟩, ⟨(some 72), (.faddr 1 (.t 8)), (some (64, true))⟩, ⟨(some 73), (.load false 1 (.t 72)), (some (64, true))⟩, ⟨(some 74), (.build [(.int .i64 0), (.int .i64 0)] [(0, (1, (.t 71))), (1, (1, (.t 73)))]), (some (64, true))⟩, ⟨(some 75), (.eqs false [0, 0] (.t 65) (.t 74)), (some (64, true))⟩, .q 76 (.pick (.t 64) (.t 75) (.c (.bool false))), .q 77 (.mv (.t 76)), ⟨(some 78), (.mv (.t 9)), (some (77, true))⟩, ⟨(some 79), (.len false (.t 78)), (some (77, true))⟩, ⟨(some 80), (.bin .eql (.t 79) (.c (.int .i64 0))), (some (77, true))⟩, .q 81 (.pick (.t 77) (.t 80) (.c (.bool false))), .q 4 (.mv (.t 81))] (some [4])) .ret) .skip)) (.seq (.region [.q 82 (.mkslice 4 []), .q 83 (.mv (.t 5)), .q 84 (.append 4 72 (.t 82) (.t 83)), .q 85 (.mv (.t 7)), .q 86 (.mv (.t 0)), .q 87 (.len true (.t 86)), .q 88 (.bin .add (.t 87) (.c (.int .i64 1))), .q 89 (.call 14 [(.t 85), (.t 88)]), .q 90 (.append 4 72 (.t 84) (.t 89)), .q 11 (.mv (.t 90))] (some [9, 10, 11])) (.seq (.region [.q 91 (.call 7 []), .q 92 (.mv (.t 91)), ⟨(some 93), (.load true 2 (.t 10)), (some (92, true))⟩, ⟨(some 94), (.build [(.int .i64 0), (.int .i64 0)] []), (some (92, true))⟩, ⟨(some 95), (.eqs false [0, 0] (.t 93) (.t 94)), (some (92, true))⟩, .q 96 (.pick (.t 92) (.t 95) (.c (.bool false))), .q 97 (.mv (.t 96)), ⟨(some 98), (.mv (.t 9)), (some (97, true))⟩, ⟨(some 99), (.mv (.t 11)), (some (97, true))⟩, ⟨(some 100), (.call 12 [(.t 98), (.t 99), (.c (.bool true))]), (some (97, true))⟩, .q 101 (.pick (.t 97) (.t 100) (.c (.bool false))), .q 4 (.mv (.t 101))] (some [4])) .ret)))))))))
theorem code4 : IsCode Tryz.prog 4 sc4 [(4, none)] 102 := .mk' Tryz.func4 (by kernel_rfl) (by kernel_rfl) (by kernel_rfl) (by kernel_rfl)
/-- quietus/quietuslaw32.sanity -/
def sc7 : SC := (.seq (.region [.q 0 (.mv (.c (.bool false)))] (some [])) (.seq (.region [.q 26 (.call 8 [(.c (.str [108, 105, 102, 116, 32, 108, 49, 32, 45, 53, 32, 34, 97, 34, 32, 45, 62, 32, 40, 120, 32, 43, 32, 49, 41, 32, 123, 32, 100, 111, 103, 59, 32, 125]))]), .q 25 (.mv (.t 26)), .q 27 (.extract 0 (.t 25)), .q 28 (.extract 1 (.t 25)), .q 2 (.alloc [(.int .i64 0), (.int .i64 0)]), .q 1 (.mv (.t 27)), .w (.store 2 (.t 2) (.t 28))] (some [1, 2])) (.seq (.seq (.region [.q 29 (.load true 2 (.t 2)), .q 30 (.build [(.int .i64 0), (.int .i64 0)] []), .q 31 (.eqs true [0, 0] (.t 29) (.t 30)), .q 32 (.mv (.t 31)), ⟨(some 33), (.mv (.t 1)), (some (32, false))⟩, ⟨(some 34), (.len false (.t 33)), (some (32, false))⟩, ⟨(some 35), (.bin .neq (.t 34) (.c (.int .i64 1))), (some (32, false))⟩, .q 36 (.pick (.t 32) (.c (.bool true)) (.t 35)), .q 37 (.mv (.t 36)), ⟨(some 38), (.mv (.t 1)), (some (37, false))⟩, ⟨(some 39), (.iaddr 4 (.t 38) (.c (.int .i64 0))), (some (37, false))⟩, ⟨(some 40), (.faddr 0 (.t 39)), (some (37, false))⟩, ⟨(some 41), (.load false 1 (.t 40)), (some (37, false))⟩, ⟨(some 42), (.bins .neq (.t 41) (.c (.str [108, 105, 102, 116]))), (some (37, false))⟩, .q 43 (.pick (.t 37) (.c (.bool true)) (.t 42)), .q 44 (.mv (.t 43)), ⟨(some 45), (.mv (.t 1)), (some (44, false))⟩, ⟨(some 46), (.iaddr 4 (.t 45) (.c (.int .i64 0))), (some (44, false))⟩, ⟨(some 47), (.faddr 1 (.t 46)), (some (44, false))⟩, ⟨(some 48), (.load false 1 (.t 47)), (some (44, false))⟩, ⟨(some 49), (.len false (.t 48)), (some (44, false))⟩, ⟨(some 50), (.bin .neq (.t 49) (.c (.int .i64 5))), (some (44, false))⟩, .q 51 (.pick (.t 44) (.c (.bool true)) (.t 50)), .q 52 (.mv (.t 51)), ⟨(some 53), (.mv (.t 1)), (some (52, false))⟩, ⟨(some 54), (.iaddr 4 (.t 53) (.c (.int .i64 0))), (some (52, false))⟩, ⟨(some 55), (.faddr 2 (.t 54)), (some (52, false))⟩, ⟨(some 56), (.load false 1 (.t 55)), (some (52, false))⟩, ⟨(some 57), (.len false (.t 56)), (some (52, false))⟩, ⟨(some 58), (.bin .neq (.t 57) (.c (.int .i64 1))), (some (52, false))⟩, .q 59 (.pick (.t 52) (.c (.bool true)) (.t 58)), .q 60 (.mv (.t 59)), ⟨(some 61), (.mv (.t 1)), (some (60, false))⟩, ⟨(some 62), (.iaddr 4 (.t 61) (.c (.int .i64 0))), (some (60, false))⟩, ⟨(some 63), (.faddr 1 (.t 62)), (some (60, false))⟩, ⟨(some 64), (.load false 1 (.t 63)), (some (60, false))⟩, ⟨(some 65), (.iaddr 9 (.t 64) (.c (.int .i64 1))), (some (60, false))⟩, ⟨(some 66), (.faddr 1 (.t 65)), (some (60, false))⟩, ⟨(some 67), (.load false 1 (.t 66)), (some (60, false))⟩, ⟨(some 68), (.bin .neq (.t 67) (.c (.int .i64 (-5)))), (some (60, false))⟩, .q 69 (.pick (.t 60) (.c (.bool true)) (.t 68)), .q 70 (.mv (.t 69)), ⟨(some 71), (.mv (.t 1)), (some (70, false))⟩, ⟨(some 72), (.iaddr 4 (.t 71) (.c (.int .i64 0))), (some (70, false))⟩, ⟨(some 73), (.faddr 1 (.t 72)), (some (70, false))⟩, ⟨(some 74), (.load false 1 (.t 73)), (some (70, false))⟩, ⟨(some 75), (.iaddr 9 (.t 74) (.c (.int .i64 3))), (some (70, false))⟩, ⟨(some 76), (.faddr 0 (.t 75)), (some (70, false))⟩, ⟨(some 77), (.load false 1 (.t 76)), (some (70, false))⟩, ⟨(some 78), (.bin .neq (.t 77) (.c (.int .i64 4))), (some (70, false))⟩, .q 79 (.pick (.t 70) (.c (.bool true)) (.t 78)), .q 80 (.mv (.t 79)), ⟨(some 81), (.mv (.t 1)), (some (80, false))⟩, ⟨(some 82), (.iaddr 4 (.t 81) (.c (.int .i64 0))), (some (80, false))⟩, ⟨(some 83), (.faddr 1 (.t 82)), (some (80, false))⟩, ⟨(some 84), (.load false 1 (.t 83)), (some (80, false))⟩, ⟨(some 85), (.iaddr 9 (.t 84) (.c (.int .i64 4))), (some (80, false))⟩, ⟨(some 86), (.faddr 3 (.t 85)), (some (80, false))⟩, ⟨(some 87), (.faddr 0 (.t 86)), (some (80, false))⟩, ⟨(some 88), (.load false 1 (.t 87)), (some (80, false))⟩, ⟨(some 89), (.bin .neq (.t 88) (.c (.int .i64 10))), (some (80, false))⟩, .q 90 (.pick (.t 80) (.c (.bool true)) (.t 89))] (some [1, 90])) (.cond (.t 90) (some [1]) (.seq (.region [.q 0 (.mv (.c (.bool false)))] (some [0])) .ret) .skip)) (.seq (.region [.q 3 (.mv (.f 22))] (some [1, 3])) (.seq (.region [.q 4 (.mv (.f 23))] (some [1, 3, 4])) (.seq (.region [.q 91 (.mv (.t 3)), .q 92 (.callv (.t 91) [(.c (.str [97]))]), .q 5 (.alloc [(.int .i64 0), (.int .i64 0), (.str []), (.slice .nil 0 []), (.int .i64 0)]), .w (.store 5 (.t 5) (.t 92))] (some [1, 3, 4, 5])) (.seq (.region [.q 93 (.mv (.t 3)), .q 94 (.callv (.t 93) [(.c (.str [98]))]), .q 6 (.alloc [(.int .i64 0), (.int .i64 0), (.str []), (.slice .nil 0 []), (.int .i64 0)]), .w (.store 5 (.t 6) (.t 94))] (some [1, 3, 4, 5, 6])) (.seq (.region [.q 95 (.mv (.t 3)), .q 96 (.callv (.t 95) [(.c (.str [99]))]), .q 7 (.alloc [(.int .i64 0), (.int .i64 0), (.str []), (.slice .nil 0 []), (.int .i64 0)]), .w (.store 5 (.t 7) (.t 96))] (some [1, 3, 4, 5, 6, 7])) (.seq (.region [.q 98 (.call 9 [(.c (.str [97, 32, 45, 32, 98, 32, 45, 32, 99, 32, 42, 32, 45, 100]))]), .q 97 (.mv (.t 98)), .q 99 (.extract 0 (.t 97)), .q 100 (.extract 1 (.t 97)), .q 8 (.alloc [(.int .i64 0), (.int .i64 0), (.str []), (.slice .nil 0 []), (.int .i64 0)]), .q 9 (.alloc [(.int .i64 0), (.int .i64 0)]), .w (.store 5 (.t 8) (.t 99)), .w (.store 2 (.t 9) (.t 100))] (some [1, 3, 4, 5, 6, 7, 8, 9])) (.seq (.region [.q 102 (.call 9 [(.c (.str [33, 97, 32, 61, 61, 32, 98, 32, 63, 32, 102, 40, 49, 44, 32, 50, 41, 32, 58, 32, 40, 97, 32, 60, 32, 98, 41, 32, 61, 61, 32, 99]))]), .q 101 (.mv (.t 102)), .q 103 (.extract 0 (.t 101)), .q 104 (.extract 1 (.t 101)), .q 10 (.alloc [(.int .i64 0), (.int .i64 0), (.str []), (.slice .nil 0 []), (.int .i64 0)]), .q 11 (.alloc [(.int .i64 0), (.int .i64 0)]), .w (.store 5 (.t 10) (.t 103)), .w (.store 2 (.t 11) (.t 104))] (some [1, 3, 4, 5, 6, 7, 8, 9, 10, 11])) (.seq (.region [.q 105 (.mv (.t 3)), .q 106 (.callv (.t 105) [(.c (.str [100]))]), .q 107 (.mkslice 5 [(.t 106)]), .q 108 (.build [(.int .i64 0), (.int .i64 0), (.str []), (.slice .nil 0 []), (.int .i64 0)] [(0, (1, (.c (.int .i64 6)))), (3, (1, (.t 107)))]), .q 12 (.alloc [(.int .i64 0), (.int .i64 0), (.str []), (.slice .nil 0 []), (.int .i64 0)]), .w (.store 5 (.t 12) (.t 108))] (some [1, 4, 5, 6, 7, 8, 9, 10, 11, 12])) (.seq (.region [.q 109 (.mv (.t 4)), .q 110 (.load true 5 (.t 5)), .q 111 (.load true 5 (.t 6)), .q 112 (.callv (.t 109) [(.c (.int .i64 12)), (.t 110), (.t 111)]), .q 113 (.mkslice 5 [(.t 112)]), .q 114 (.build [(.int .i64 0), (.int .i64 0), (.str []), (.slice .nil 0 []), (.int .i64 0)] [(0, (1, (.c (.int .i64 5)))), (3, (1, (.t 113)))]), .q 13 (.alloc [(.int .i64 0), (.int .i64 0), (.str []), (.slice .nil 0 []), (.int .i64 0)]), .w (.store 5 (.t 13) (.t 114))] (some [1, 4, 5, 6, 7, 8, 9, 10, 11, 12, 13])) (.seq (.region [.q 115 (.build [(.int .i64 0), (.int .i64 0), (.str []), (.slice .nil 0 []), (.int .i64 0)] [(0, (1, (.c (.int .i64 1)))), (1, (1, (.c (.int .i64 1))))]), .q 116 (.build [(.int .i64 0), (.int .i64 0), (.str []), (.slice .nil 0 []), (.int .i64 0)] [(0, (1, (.c (.int .i64 1)))), (1, (1, (.c (.int .i64 2))))]), .q 117 (.mkslice 5 [(.t 115), (.t 116)]), .q 118 (.build [(.int .i64 0), (.int .i64 0), (.str []), (.slice .nil 0 []), (.int .i64 0)] [(0, (1, (.c (.int .i64 4)))), (2, (1, (.c (.str [102])))), (3, (1, (.t 117)))]), .q 14 (.alloc [(.int .i64 0), (.int .i64 0), (.str []), (.slice .nil 0 []), (.int .i64 0)]), .w (.store 5 (.t 14) (.t 118))] (some [1, 4, 5, 6, 7, 8, 9, 10, 11, 12, 13, 14])) (.seq (.seq (.region [.q 120 (.build [(.int .i64 0), (.int .i64 0)] []), .q 119 (.load true 2 (.t 9)), .q 121 (.eqs true [0, 0] (.t 119) (.t 120)), .q 122 (.mv (.t 121)), ⟨(some 124), (.build [(.int .i64 0), (.int .i64 0)] []), (some (122, false))⟩, ⟨(some 123), (.load true 2 (.t 11)), (some (122, false))⟩, ⟨(some 125), (.eqs true [0, 0] (.t 123) (.t 124)), (some (122, false))⟩, .q 126 (.pick (.t 122) (.c (.bool true)) (.t 125)), .q 127 (.mv (.t 126)), ⟨(some 129), (.mv (.t 4)), (some (127, false))⟩, ⟨(some 130), (.mv (.t 4)), (some (127, false))⟩, ⟨(some 134), (.mv (.t 4)), (some (127, false))⟩, ⟨(some 128), (.loadr (some 8) true 5 (.t 8)), (some (127, false))⟩, ⟨(some 131), (.load true 5 (.t 5)), (some (127, false))⟩, ⟨(some 132), (.load true 5 (.t 6)), (some (127, false))⟩, ⟨(some 135), (.loadr (some 7) true 5 (.t 7)), (some (127, false))⟩, ⟨(some 136), (.loadr (some 12) true 5 (.t 12)), (some (127, false))⟩, ⟨(some 133), (.callvr [8, 7, 12] (.t 130) [(.c (.int .i64 11)), (.t 131), (.t 132)]), (some (127, false))⟩, ⟨(some 137), (.callvr [8] (.t 134) [(.c (.int .i64 7)), (.t 135), (.t 136)]), (some (127, false))⟩, ⟨(some 138), (.callvr [8] (.t 129) [(.c (.int .i64 11)), (.t 133), (.t 137)]), (some (127, false))⟩, ⟨(some 139), (.call 15 [(.t 128), (.t 138)]), (some (127, false))⟩, ⟨(some 140), (.un .not (.t 139)), (some (127, false))⟩, .q 141 (.pick (.t 127) (.c (.bool true)) (.t 140)), .q 142 (.mv (.t 141)), ⟨(some 146), (.mv (.t 4)), (some (142, false))⟩, ⟨(some 147), (.mv (.t 4)), (some (142, false))⟩, ⟨(some 143), (.loadr (some 10) true 5 (.t 10)), (some (142, false))⟩, ⟨(some 144), (.loadr (some 13) true 5 (.t 13)), (some (142, false))⟩, ⟨(some 145), (.loadr (some 14) true 5 (.t 14)), (some (142, false))⟩, ⟨(some 148), (.load true 5 (.t 5)), (some (142, false))⟩, ⟨(some 149), (.load true 5 (.t 6)), (some (142, false))⟩, ⟨(some 151), (.loadr (some 7) true 5 (.t 7)), (some (142, false))⟩, ⟨(some 150), (.callvr [10, 13, 14, 7] (.t 147) [(.c (.int .i64 14)), (.t 148), (.t 149)]), (some (142, false))⟩, ⟨(some 152), (.callvr [10, 13, 14] (.t 146) [(.c (.int .i64 12)), (.t 150), (.t 151)]), (some (142, false))⟩, ⟨(some 153), (.mkslice 5 [(.t 144), (.t 145), (.t 152)]), (some (142, false))⟩, ⟨(some 154), (.build [(.int .i64 0), (.int .i64 0), (.str []), (.slice .nil 0 []), (.int .i64 0)] [(0, (1, (.c (.int .i64 20)))), (3, (1, (.t 153)))]), (some (142, false))⟩, ⟨(some 155), (.call 15 [(.t 143), (.t 154)]), (some (142, false))⟩, ⟨(some 156), (.un .not (.t 155)), (some (142, false))⟩, .q 157 (.pick (.t 142) (.c (.bool true)) (.t 156))] (some [1, 5, 6, 10, 157])) (.cond (.t 157) (some [1, 5, 6, 10]) (.seq (.region [.q 0 (.mv (.c (.bool false)))] (some [0])) .ret) .skip)) (.seq (.region [.q 159 (.load true 5 (.t 10)), .q 160 (.call 21 [(.t 159)]), .q 158 (.mv (.t 160)), .q 161 (.extract 0 (.t 158)), .q 162 (.extract 1 (.t 158)), .q 15 (.mv (.t 161)), .q 16 (.mv (.t 162))] (some [1, 5, 6, 15, 16])) (.seq (.region [.q 164 (.call 9 [(.c (.str [97, 32, 60, 32, 98, 32, 60, 32, 99]))]), .q 163 (.mv (.t 164)), .q 165 (.extract 0 (.t 163)), .q 166 (.extract 1 (.t 163)), .q 17 (.alloc [(.int .i64 0), (.int .i64 0), (.str []), (.slice .nil 0 []), (.int .i64 0)]), .q 18 (.alloc [(.int .i64 0), (.int .i64 0)]), .w (.store 5 (.t 17) (.t 165)), .w (.store 2 (.t 18) (.t 166))] (some [1, 5, 6, 15, 16, 18])) (.seq (.region [.q 168 (.call 9 [(.c (.str [97, 32, 98]))]), .q 167 (.mv (.t 168)), .q 169 (.extract 0 (.t 167)), .q 170 (.extract 1 (.t 167)), .q 19 (.alloc [(.int .i64 0), (.int .i64 0), (.str []), (.slice .nil 0 []), (.int .i64 0)]), .q 20 (.alloc [(.int .i64 0), (.int .i64 0)]), .w (.store 5 (.t 19) (.t 169)), .w (.store 2 (.t 20) (.t 170))] (some [1, 5, 6, 15, 16, 18, 20])) (.seq (.region [.q 172 (.call 9 [(.c (.str [120, 32, 40]))]), .q 171 (.mv (.t 172)), .q 173 (.extract 0 (.t 171)), .q 174 (.extract 1 (.t 171)), .q 21 (.alloc [(.int .i64 0), (.int .i64 0), (.str []), (.slice .nil 0 []), (.int .i64 0)]), .q 22 (.alloc [(.int .i64 0), (.int .i64 0)]), .w (.store 5 (.t 21) (.t 173)), .w (.store 2 (.t 22) (.t 174))] (some [1, 5, 6, 15, 16, 18, 20, 22])) (.seq (.region [.q 176 (.call 8 [(.c (.str [120, 32, 45, 32, 121, 59]))]), .q 175 (.mv (.t 176)), .q 177 (.extract 0 (.t 175)), .q 178 (.extract 1 (.t 175)), .q 24 (.alloc [(.int .i64 0), (.int .i64 0)]), .q 23 (.mv (.t 177)), .w (.store 2 (.t 24) (.t 178))] (some [1, 5, 6, 15, 16, 18, 20, 22, 24])) (.seq (.region [.q 179 (.mv (.t 16)), .q 180 (.bin .eql (.t 179) (.c (.int .i64 0))), .q 181 (.mv (.t 180)), ⟨(some 182), (.mv (.t 15)), (some (181, true))⟩, ⟨(some 183), (.bins .eql (.t 182) (.c (.str [33, 32, 97, 32, 61, 61, 32, 98, 32, 63, 32, 102, 32, 40, 32, 49, 32, 44, 32, 50, 32, 41, 32, 58, 32, 40, 32, 97, 32, 60, 32, 98, 32, 41, 32, 61, 61, 32, 99]))), (some (181, true))⟩, .q 184 (.pick (.t 181) (.t 183) (.c (.bool false))), .q 185 (.mv (.t 184)), ⟨(some 186), (.load true 2 (.t 18)), (some (185, true))⟩, ⟨(some 187), (.build [(.int .i64 0), (.int .i64 0)] [(0, (1, (.c (.int .i64 6)))), (1, (1, (.c (.int .i64 5))))]), (some (185, true))⟩, ⟨(some 188), (.eqs false [0, 0] (.t 186) (.t 187)), (some (185, true))⟩, .q 189 (.pick (.t 185) (.t 188) (.c (.bool false))), .q 190 (.mv (.t 189)), ⟨(some 191), (.load true 2 (.t 20)), (some (190, true))⟩, ⟨(some 192), (.build [(.int .i64 0), (.int .i64 0)] [(0, (1, (.c (.int .i64 2)))), (1, (1, (.c (.int .i64 5))))]), (some (190, true))⟩, ⟨(some 193), (.eqs false [0, 0] (.t 191) (.t 192)), (some (190, true))⟩, .q 194 (.pick (.t 190) (.t 193) (.c (.bool false))), .q 195 (.mv (.t 194)), ⟨(some 196), (.load true 2 (.t 22)), (some (195, true))⟩, ⟨(some 197), (.build [(.int .i64 0), (.int .i64 0)] [(0, (1, (.c (.int .i64 3)))), (1, (1, (.c (.int .i64 5))))]), (some (195, true))⟩, ⟨(some 198), (.eqs false [0, 0] (.t 196) (.t 197)), (some (195, true))⟩, .q 199 (.pick (.t 195) (.t 198) (.c (.bool false))), .q 200 (.mv (.t 199)), ⟨(some 201), (.load true 2 (.t 24)), (some (200, true))⟩, ⟨(some 202), (.build [(.int .i64 0), (.int .i64 0)] [(0, (1, (.c (.int .i64 4)))), (1, (1, (.c (.int .i64 5))))]), (some (200, true))⟩, ⟨(some 203), (.eqs false [0, 0] (.t 201) (.t 202)), (some (200, true))⟩, .q 204 (.pick (.t 200) (.t 203) (.c (.bool false))), .q 205 (.mv (.t 204)), ⟨(some 206), (.mv (.t 1)), (some (205, true))⟩, ⟨(some 207), (.mv (.t 1)), (some (205, true))⟩, ⟨(some 208), (.call 20 [(.t 206), (.t 207)]), (some (205, true))⟩, .q 209 (.pick (.t 205) (.t 208) (.c (.bool false))), .q 210 (.mv (.t 209)), ⟨(some 211), (.load true 5 (.t 5)), (some (210, true))⟩, ⟨(some 212), (.load true 5 (.t 6)), (some (210, true))⟩, ⟨(some 213), (.call 15 [(.t 211), (.t 212)]), (some (210, true))⟩, ⟨(some 214), (.un .not (.t 213)), (some (210, true))⟩, .q 215 (.pick (.t 210) (.t 214) (.c (.bool false))), .q 0 (.mv (.t 215))] (some [0])) .ret))))))))))))))))))))
theorem code7 : IsCode Tryz.prog 7 sc7 [(0, none)] 216 := .mk' Tryz.func7 (by kernel_rfl) (by kernel_rfl) (by kernel_rfl) (by kernel_rfl)
/-- quietus/quietuslaw32.shifted -/
def sc14 : SC := (.seq (.region [.q 4 (.mv (.c (.slice .nil 0 [])))] (some [0, 1])) (.seq (.region [.q 5 (.mv (.c (.slice .nil 0 [])))] (some [0, 1, 5])) (.seq (.seq (.region [.q 6 (.mv (.c (.int .i64 0)))] (some [0, 1, 5, 6])) (.block 0 (.loop (.seq (.seq (.region [.q 10 (.mv (.t 6)), .q 11 (.mv (.t 0)), .q 12 (.len false (.t 11)), .q 13 (.bin .lss (.t 10) (.t 12))] (some [0, 1, 5, 6, 13])) (.cond (.t 13) (some [0, 1, 5, 6]) .skip (.exit 0))) (.seq (.block 1 (.seq (.region [.q 16 (.mv (.t 0)), .q 17 (.mv (.t 6)), .q 18 (.iaddr 4 (.t 16) (.t 17)), .q 19 (.load true 4 (.t 18)), .q 7 (.alloc [(.str []), (.slice .nil 0 []), (.slice .nil 0 []), (.int .i64 0)]), .w (.store 4 (.t 7) (.t 19))] (some [0, 1, 5, 6, 7])) (.seq (.region [.q 20 (.faddr 3 (.t 7)), .q 21 (.load false 1 (.t 20)), .q 22 (.mv (.t 1)), .q 23 (.bin .add (.t 21) (.t 22)), .q 24 (.faddr 3 (.t 7)), .w (.store 1 (.t 24) (.t 23))] (some [0, 1, 5, 6, 7])) (.seq (.region [.q 25 (.faddr 1 (.t 7)), .w (.store 1 (.t 25) (.c (.slice .nil 0 [])))] (some [0, 1, 5, 6, 7])) (.seq (.seq (.region [.q 8 (.mv (.c (.int .i64 0)))] (some [0, 1, 5, 6, 7, 8])) (.block 2 (.loop (.seq (.seq (.region [.q 26 (.mv (.t 8)), .q 27 (.mv (.t 0)), .q 28 (.mv (.t 6)), .q 29 (.iaddr 4 (.t 27) (.t 28)), .q 30 (.faddr 1 (.t 29)), .q 31 (.load false 1 (.t 30)), .q 32 (.len false (.t 31)), .q 33 (.bin .lss (.t 26) (.t 32))] (some [0, 1, 5, 6, 7, 8, 33])) (.cond (.t 33) (some [0, 1, 5, 6, 7, 8]) .skip (.exit 2))) (.seq (.block 3 (.seq (.region [.q 36 (.mv (.t 0)), .q 37 (.mv (.t 6)), .q 38 (.iaddr 4 (.t 36) (.t 37)), .q 39 (.faddr 1 (.t 38)), .q 40 (.load false 1 (.t 39)), .q 41 (.mv (.t 8)), .q 42 (.iaddr 9 (.t 40) (.t 41)), .q 43 (.load true 9 (.t 42)), .q 9 (.alloc [(.int .i64 0), (.int .i64 0), (.str []), (.int .i64 0), (.int .i64 0), (.str []), (.slice .nil 0 []), (.int .i64 0), (.int .i64 0)]), .w (.store 9 (.t 9) (.t 43))] (some [0, 1, 5, 6, 7, 8, 9])) (.seq (.region [.q 44 (.faddr 8 (.t 9)), .q 45 (.load false 1 (.t 44)), .q 46 (.mv (.t 1)), .q 47 (.bin .add (.t 45) (.t 46)), .q 48 (.faddr 8 (.t 9)), .w (.store 1 (.t 48) (.t 47))] (some [0, 1, 5, 6, 7, 8, 9])) (.seq (.region [.q 49 (.faddr 3 (.t 9)), .q 50 (.load true 5 (.t 49)), .q 51 (.mv (.t 1)), .q 52 (.call 33 [(.t 50), (.t 51)]), .q 53 (.faddr 3 (.t 9)), .w (.store 5 (.t 53) (.t 52))] (some [0, 1, 5, 6, 7, 8, 9])) (.region [.q 54 (.faddr 1 (.t 7)), .q 55 (.load false 1 (.t 54)), .q 56 (.load true 9 (.t 9)), .q 57 (.mkslice 9 [(.t 56)]), .q 58 (.append 9 104 (.t 55) (.t 57)), .q 59 (.faddr 1 (.t 7)), .w (.store 1 (.t 59) (.t 58))] (some [0, 1, 5, 6, 7, 8])))))) (.region [.q 34 (.mv (.t 8)), .q 35 (.bin .add (.t 34) (.c (.int .i64 1))), .q 8 (.mv (.t 35))] (some [0, 1, 5, 6, 7, 8]))))))) (.seq (.region [.q 60 (.faddr 2 (.t 7)), .q 61 (.load false 1 (.t 60)), .q 62 (.mv (.t 1)), .q 63 (.call 14 [(.t 61), (.t 62)]), .q 64 (.faddr 2 (.t 7)), .w (.store 1 (.t 64) (.t 63))] (some [0, 1, 5, 6, 7])) (.region [.q 65 (.mv (.t 5)), .q 66 (.load true 4 (.t 7)), .q 67 (.mkslice 4 [(.t 66)]), .q 68 (.append 4 72 (.t 65) (.t 67)), .q 5 (.mv (.t 68))] (some [0, 1, 5, 6])))))))) (.region [.q 14 (.mv (.t 6)), .q 15 (.bin .add (.t 14) (.c (.int .i64 1))), .q 6 (.mv (.t 15))] (some [0, 1, 5, 6]))))))) (.seq (.region [.q 69 (.mv (.t 5)), .q 4 (.mv (.t 69))] (some [4])) .ret))))
theorem code14 : IsCode Tryz.prog 14 sc14 [(4, none)] 70 := .mk' Tryz.func14 (by kernel_rfl) (by kernel_rfl) (by kernel_rfl) (by kernel_rfl)
/-- quietus/quietuslaw32.sanity$1 -/
def sc22 : SC := (.seq (.region [.q 2 (.alloc [(.int .i64 0), (.int .i64 0), (.str []), (.slice .nil 0 []), (.int .i64 0)])] (some [0, 2])) (.seq (.region [.q 3 (.mv (.t 0)), .q 4 (.build [(.int .i64 0), (.int .i64 0), (.str []), (.slice .nil 0 []), (.int .i64 0)] [(0, (1, (.c (.int .i64 3)))), (2, (1, (.t 3)))]), .w (.store 5 (.t 2) (.t 4))] (some [2])) .ret))
theorem code22 : IsCode Tryz.prog 22 sc22 [(2, (some (true, 5)))] 5 := .mk' Tryz.func22 (by kernel_rfl) (by kernel_rfl) (by kernel_rfl) (by kernel_rfl)
/-- quietus/quietuslaw32.sanity$2 -/
def sc23 : SC := (.seq (.region [.q 4 (.box (.t 1)), .q 5 (.box (.t 2)), .q 6 (.alloc [(.int .i64 0), (.int .i64 0), (.str []), (.slice .nil 0 []), (.int .i64 0)])] (some [0, 4, 5, 6])) (.seq (.region [.q 7 (.mv (.t 0)), .q 8 (.load true 5 (.t 4)), .q 9 (.load true 5 (.t 5)), .q 10 (.mkslice 5 [(.t 8), (.t 9)]), .q 11 (.build [(.int .i64 0), (.int .i64 0), (.str []), (.slice .nil 0 []), (.int .i64 0)] [(0, (1, (.t 7))), (3, (1, (.t 10)))]), .w (.store 5 (.t 6) (.t 11))] (some [6])) .ret))
theorem code23 : IsCode Tryz.prog 23 sc23 [(6, (some (true, 5)))] 12 := .mk' Tryz.func23 (by kernel_rfl) (by kernel_rfl) (by kernel_rfl) (by kernel_rfl)
/-- quietus/quietuslaw32.shiftedExpr -/
def sc33 : SC := (.seq (.region [.q 2 (.box (.t 0)), .q 4 (.alloc [(.int .i64 0), (.int .i64 0), (.str []), (.slice .nil 0 []), (.int .i64 0)])] (some [1, 2, 4])) (.seq (.seq (.region [.q 7 (.faddr 0 (.t 2)), .q 8 (.load false 1 (.t 7)), .q 9 (.bin .eql (.t 8) (.c (.int .i64 0)))] (some [1, 2, 4, 9])) (.cond (.t 9) (some [1, 2, 4]) (.seq (.region [.q 10 (.load true 5 (.t 2)), .w (.store 5 (.t 4) (.t 10))] (some [4])) .ret) .skip)) (.seq (.region [.q 11 (.faddr 4 (.t 2)), .q 12 (.load false 1 (.t 11)), .q 13 (.mv (.t 1)), .q 14 (.bin .add (.t 12) (.t 13)), .q 15 (.faddr 4 (.t 2)), .w (.store 1 (.t 15) (.t 14))] (some [1, 2, 4])) (.seq (.region [.q 5 (.mv (.c (.slice .nil 0 [])))] (some [1, 2, 4, 5])) (.seq (.seq (.region [.q 6 (.mv (.c (.int .i64 0)))] (some [1, 2, 4, 5, 6])) (.block 0 (.loop (.seq (.seq (.region [.q 16 (.mv (.t 6)), .q 17 (.faddr 3 (.t 2)), .q 18 (.load false 1 (.t 17)), .q 19 (.len false (.t 18)), .q 20 (.bin .lss (.t 16) (.t 19))] (some [1, 2, 4, 5, 6, 20])) (.cond (.t 20) (some [1, 2, 4, 5, 6]) .skip (.exit 0))) (.seq (.block 1 (.region [.q 23 (.mv (.t 5)), .q 24 (.faddr 3 (.t 2)), .q 25 (.load false 1 (.t 24)), .q 26 (.mv (.t 6)), .q 27 (.iaddr 5 (.t 25) (.t 26)), .q 28 (.load true 5 (.t 27)), .q 29 (.mv (.t 1)), .q 30 (.call 33 [(.t 28), (.t 29)]), .q 31 (.mkslice 5 [(.t 30)]), .q 32 (.append 5 64 (.t 23) (.t 31)), .q 5 (.mv (.t 32))] (some [1, 2, 4, 5, 6]))) (.region [.q 21 (.mv (.t 6)), .q 22 (.bin .add (.t 21) (.c (.int .i64 1))), .q 6 (.mv (.t 22))] (some [1, 2, 4, 5, 6]))))))) (.seq (.region [.q 33 (.mv (.t 5)), .q 34 (.faddr 3 (.t 2)), .w (.store 1 (.t 34) (.t 33))] (some [2, 4])) (.seq (.region [.q 35 (.load true 5 (.t 2)), .w (.store 5 (.t 4) (.t 35))] (some [4])) .ret)))))))
theorem code33 : IsCode Tryz.prog 33 sc33 [(4, (some (true, 5)))] 36 := .mk' Tryz.func33 (by kernel_rfl) (by kernel_rfl) (by kernel_rfl) (by kernel_rfl)
end Go.Shadow.Lex

/- Pure laws of the lexer: what stands behind a token's end does not matter; runs over tokens. -/
namespace Go.Shadow.Lex

/-- What may stand behind: nothing, or a byte that is no word's and no sign's second byte. -/
def Stops (w : List UInt8) : Prop := w = [] ∨ ∃ c r, w = c :: r ∧ isWord c = false ∧ c.toNat ≠ 62 ∧ c.toNat ≠ 61 ∧ c.toNat ≠ 38 ∧ c.toNat ≠ 124 ∧ c.toNat ≠ 46

theorem sk_prefix {r2 r3 : List UInt8} : ∀ (r1 : List UInt8) (b : Bool), sk b (r1 ++ r2) < r1.length → sk b (r1 ++ r3) = sk b (r1 ++ r2)
  | [], b, h => by simp at h
  | c :: r1, false, h => by
    simp only [List.cons_append, sk, List.length_cons] at h ⊢
    split
    · rename_i h1; rw [if_pos h1] at h; rw [sk_prefix (r2 := r2) (r3 := r3) r1 false (by omega)]
    · rename_i h1; rw [if_neg h1] at h
      split
      · rename_i h2; rw [if_pos h2] at h; rw [sk_prefix (r2 := r2) (r3 := r3) r1 true (by omega)]
      · rfl
  | c :: r1, true, h => by
    simp only [List.cons_append, sk, List.length_cons] at h ⊢
    split
    · rename_i h1; rw [if_pos h1] at h; rw [sk_prefix (r2 := r2) (r3 := r3) r1 false (by omega)]
    · rename_i h1; rw [if_neg h1] at h; rw [sk_prefix (r2 := r2) (r3 := r3) r1 true (by omega)]
/-- Skipping to the end, and then a line feed. -/
theorem sk_lf {w : List UInt8} : ∀ (r : List UInt8) (b : Bool), sk b r = r.length → sk b (r ++ 10 :: w) = r.length + 1 + sk false w
  | [], false, h => by simp [sk, isBlank]
  | [], true, h => by simp [sk]
  | c :: r1, false, h => by
    simp only [List.cons_append, sk, List.length_cons] at h ⊢
    split
    · rename_i h1; rw [if_pos h1] at h; rw [sk_lf r1 false (by omega)]; omega
    · rename_i h1; rw [if_neg h1] at h
      split
      · rename_i h2; rw [if_pos h2] at h; rw [sk_lf r1 true (by omega)]; omega
      · rename_i h2; rw [if_neg h2] at h; omega
  | c :: r1, true, h => by
    simp only [List.cons_append, sk, List.length_cons] at h ⊢
    split
    · rename_i h1; rw [if_pos h1] at h; rw [sk_lf r1 false (by omega)]; omega
    · rename_i h1; rw [if_neg h1] at h; rw [sk_lf r1 true (by omega)]; omega
theorem tw {p : UInt8 → Bool} {r2 r3 : List UInt8} (h3 : r3 = [] ∨ ∃ c r, r3 = c :: r ∧ p c = false) : ∀ r1 : List UInt8, ((r1 ++ r2).takeWhile p).length ≤ r1.length → (r1 ++ r3).takeWhile p = (r1 ++ r2).takeWhile p
  | [], h => by
    simp only [List.nil_append, List.length_nil, Nat.le_zero] at h
    rw [List.nil_append, List.nil_append, List.eq_nil_of_length_eq_zero h]
    rcases h3 with rfl | ⟨c, r, rfl, hc⟩
    · rfl
    · simp [List.takeWhile_cons, hc]
  | c :: r1, h => by
    simp only [List.cons_append, List.takeWhile_cons] at h ⊢
    split
    · rename_i h1; rw [if_pos h1] at h; rw [tw h3 r1 (by simpa using h)]
    · rfl
theorem text_tail {r2 r3 : List UInt8} : ∀ (n : Nat) (r1 b s : List UInt8) (left : Nat), r1.length ≤ n → textScan (r1 ++ r2) b = .inr (s, left) → r2.length ≤ left → textScan (r1 ++ r3) b = .inr (s, left - r2.length + r3.length) := by
  intro n
  induction n with
  | zero =>
    intro r1 b s left hn h hl
    obtain rfl := List.eq_nil_of_length_eq_zero (Nat.le_zero.1 hn)
    have := textScan_left _ _ _ _ h
    simp at this; omega
  | succ n ih =>
    intro r1 b s left hn h hl
    cases r1 with
    | nil => have := textScan_left _ _ _ _ h; simp at this; omega
    | cons c r1 =>
      simp only [List.length_cons] at hn
      rw [List.cons_append, textScan_cons] at h
      rw [List.cons_append, textScan_cons]
      split at h
      · cases h
      · rename_i h1
        rw [if_neg h1]
        split at h
        · rename_i h2
          injection h with h; injection h with e1 e2
          rw [if_pos h2, e1]
          simp only [List.length_append] at e2 ⊢
          congr 2; omega
        · rename_i h2
          rw [if_neg h2]
          split at h
          · rename_i h3
            rw [if_pos h3]
            cases r1 with
            | nil =>
              rw [List.nil_append] at h
              split at h
              · cases h
              · split at h
                · cases h
                · have := textScan_left _ _ _ _ h
                  simp at hl; omega
            | cons d r1 =>
              simp only [List.cons_append] at h ⊢
              split at h
              · cases h
              · exact ih r1 _ _ _ (by simp at hn; omega) h hl
          · rename_i h3
            rw [if_neg h3]
            split at h
            · cases h
            · rename_i h4
              rw [if_neg h4]
              exact ih r1 _ _ _ (by omega) h hl
theorem signs2_second : ∀ x ∈ signs2, ∃ a b, x = [a, b] ∧ (b.toNat = 62 ∨ b.toNat = 61 ∨ b.toNat = 38 ∨ b.toNat = 124 ∨ b.toNat = 46) := by
  intro x hx
  simp only [signs2, List.mem_cons, List.not_mem_nil, or_false] at hx
  rcases hx with rfl | rfl | rfl | rfl | rfl | rfl | rfl | rfl | rfl <;> exact ⟨_, _, rfl, by decide⟩
/-- The signs of two bytes ahead of two lists that agree in what counts. -/
theorem find_signs2 {l1 l2 : List UInt8} (h : ∀ x ∈ signs2, x.isPrefixOf l1 = x.isPrefixOf l2) : signs2.find? (·.isPrefixOf l1) = signs2.find? (·.isPrefixOf l2) := by
  have : ∀ s : List (List UInt8), (∀ x ∈ s, x.isPrefixOf l1 = x.isPrefixOf l2) → s.find? (·.isPrefixOf l1) = s.find? (·.isPrefixOf l2) := by
    intro s
    induction s with
    | nil => intro _; rfl
    | cons a s ih =>
      intro h
      rw [List.find?_cons, List.find?_cons, h a (by simp), ih (fun x hx => h x (by simp [hx]))]
  exact this _ h
theorem sign_alone {c : UInt8} {w : List UInt8} (hw : Stops w) : ∀ x ∈ signs2, x.isPrefixOf (c :: w) = false := by
  intro x hx
  obtain ⟨a, b, rfl, hb⟩ := signs2_second x hx
  rcases hw with rfl | ⟨d, r, rfl, _, h1, h2, h3, h4, h5⟩
  · simp [List.isPrefixOf]
  · have : b ≠ d := fun e => by subst e; omega
    simp [List.isPrefixOf, this]
theorem sign_tail {r1 r2 r3 s : List UInt8} (h : signAt (r1 ++ r2) = some s) (hl : s.length ≤ r1.length) (h3 : Stops r3) : signAt (r1 ++ r3) = some s := by
  have hp := signAt_length h
  match r1, hl with
  | [], hl => simp at hl; subst hl; simp at hp
  | [c], hl =>
    unfold signAt at h
    split at h
    · rename_i p hf
      injection h with h; subst h
      obtain ⟨a, b, rfl, _⟩ := signs2_second p (List.mem_of_find?_eq_some hf)
      simp at hl
    · simp only [List.cons_append, List.nil_append] at h
      unfold signAt
      have : signs2.find? (·.isPrefixOf ([c] ++ r3)) = none := by
        rw [List.find?_eq_none]
        intro x hx
        simp [sign_alone h3 x hx]
      rw [this]
      exact h
  | c :: d :: r1, hl =>
    unfold signAt at h ⊢
    rw [find_signs2 (l2 := (c :: d :: r1) ++ r2) (fun x hx => by
      obtain ⟨a, b, rfl, _⟩ := signs2_second x hx
      simp [List.isPrefixOf])]
    exact h
theorem drop_app {u v : List UInt8} {k : Nat} (h : k ≤ u.length) : (u ++ v).drop k = u.drop k ++ v := by
  rw [List.drop_append_of_le_length h]
theorem span_tail {u v w : List UInt8} {k : Nat} (hk : k ≤ u.length) (he : spanTo isWord (u ++ v) k ≤ u.length) (hw : Stops w) : spanTo isWord (u ++ w) k = spanTo isWord (u ++ v) k := by
  have h3 : w = [] ∨ ∃ c r, w = c :: r ∧ isWord c = false := hw.imp id (fun ⟨c, r, h1, h2, _⟩ => ⟨c, r, h1, h2⟩)
  simp only [spanTo, drop_app hk] at he ⊢
  rw [tw (r2 := v) h3 (u.drop k) (by simp only [List.length_drop]; omega)]
theorem take_tail {u v w : List UInt8} {k z : Nat} (h : z ≤ u.length) : ((u ++ w).take z).drop k = ((u ++ v).take z).drop k := by
  rw [List.take_append_of_le_length h, List.take_append_of_le_length h]
/-- What stands behind a token's end does not matter. -/
theorem lexOne_tail {u v w : List UInt8} {k e2 : Nat} {t : Tok} (h : lexOne (u ++ v) k = .inr (t, e2)) (he : e2 ≤ u.length) (hw : Stops w) : lexOne (u ++ w) k = .inr (t, e2) := by
  have hp := lexOne_pos h
  have hget : ∀ x : List UInt8, (u ++ x)[k]? = u[k]? := fun x => List.getElem?_append_left (by omega)
  unfold lexOne at h ⊢
  rw [hget] at h ⊢
  split at h
  · cases h
  · rename_i c hc
    simp only
    split at h
    · rename_i hL
      rw [if_pos hL]
      simp only at h ⊢
      split at h
      · cases h
      · rename_i h5
        injection h with h; injection h with h6 h7
        have h8 := span_tail (w := w) (by omega) (by omega : spanTo isWord (u ++ v) k ≤ u.length) hw
        rw [h8, if_neg h5, take_tail (v := v) (by omega), h6, h7]
    · rename_i hL
      rw [if_neg hL]
      split at h
      · rename_i hD
        rw [if_pos hD]
        simp only at h ⊢
        split at h
        · rename_i n hn
          injection h with h; injection h with h6 h7
          have h8 := span_tail (w := w) (by omega) (by omega : spanTo isWord (u ++ v) k ≤ u.length) hw
          rw [h8, take_tail (v := v) (by omega), hn]
          simp only
          rw [h6, h7]
        · cases h
      · rename_i hD
        rw [if_neg hD]
        split at h
        · rename_i hT
          rw [if_pos hT]
          split at h
          · cases h
          · rename_i b left hsc
            injection h with h; injection h with h6 h7
            rw [drop_app (by omega)] at hsc
            have h9 := textScan_left _ _ _ _ hsc
            simp only [List.length_append, List.length_drop] at h7 h9
            have := text_tail (r3 := w) _ _ _ _ _ (Nat.le_refl _) hsc (by omega)
            rw [drop_app (by omega), this]
            simp only
            rw [h6]
            congr 2
            simp only [List.length_append]
            omega
        · rename_i hT
          rw [if_neg hT]
          split at h
          · rename_i s hs
            injection h with h; injection h with h6 h7
            rw [drop_app (by omega)] at hs
            have := sign_tail (r3 := w) hs (by simp only [List.length_drop]; omega) hw
            rw [drop_app (by omega), this]
            simp only
            rw [h6, h7]
          · cases h
/-! ### a prefix moves all -/
def shTok (n : Nat) (t : Tok) : Tok := ⟨t.kind, t.at_ + n, t.s, t.n⟩
def shJ (n : Nat) : Sum (Nat × Nat) (List Tok) → Sum (Nat × Nat) (List Tok)
  | .inl (k, e) => .inl (n + k, e)
  | .inr ts => .inr (ts.map (shTok n))
theorem drop_pre (p l : List UInt8) (k : Nat) : (p ++ l).drop (p.length + k) = l.drop k := by
  rw [List.drop_append, List.drop_eq_nil_of_le (by omega), List.nil_append]; congr 1; omega
theorem span_shift (f : UInt8 → Bool) (p l : List UInt8) (k : Nat) : spanTo f (p ++ l) (p.length + k) = p.length + spanTo f l k := by
  simp only [spanTo, drop_pre]; omega
theorem skip_shift (p l : List UInt8) (k : Nat) : skipTo (p ++ l) (p.length + k) = p.length + skipTo l k := by
  simp only [skipTo, drop_pre]; omega
theorem lexOne_shift (p l : List UInt8) (k : Nat) : lexOne (p ++ l) (p.length + k) = match lexOne l k with
    | .inl e => .inl e
    | .inr (t, e2) => .inr (shTok p.length t, p.length + e2) := by
  unfold lexOne
  rw [List.getElem?_append_right (by omega), show p.length + k - p.length = k by omega]
  split
  · rfl
  · rename_i c hc
    have hk : k < l.length := (List.getElem?_eq_some_iff.1 hc).1
    have htk : ((p ++ l).take (p.length + spanTo isWord l k)).drop (p.length + k) = (l.take (spanTo isWord l k)).drop k := by
      rw [List.take_append, List.take_of_length_le (by omega), show p.length + spanTo isWord l k - p.length = spanTo isWord l k by omega, drop_pre]
    split
    · simp only [span_shift]
      rw [show p.length + spanTo isWord l k - (p.length + k) = spanTo isWord l k - k by omega, htk]
      split <;> simp [shTok]; omega
    · split
      · simp only [span_shift, htk]
        split <;> simp [shTok]; omega
      · split
        · rw [show p.length + k + 1 = p.length + (k + 1) by omega, drop_pre]
          split
          · rfl
          · rename_i b left hsc
            have := textScan_left _ _ _ _ hsc
            simp only [List.length_drop] at this
            simp [shTok]; omega
        · rw [drop_pre]
          split <;> simp [shTok]; omega
theorem lexJ_shift (p l : List UInt8) : ∀ (n k : Nat), l.length - k ≤ n → lexJ (p ++ l) (p.length + k) = shJ p.length (lexJ l k) := by
  intro n
  induction n with
  | zero =>
    intro k hn
    rw [lexJ_end (by simp; omega), lexJ_end (by omega)]
    simp [shJ, shTok]; omega
  | succ n ih =>
    intro k hn
    by_cases hkl : k < l.length
    · have hs := lexOne_shift p l k
      cases hone : lexOne l k with
      | inl e =>
        rw [hone] at hs
        rw [lexJ_bad (by simp; omega) hs, lexJ_bad hkl hone]; rfl
      | inr x =>
        obtain ⟨t, e2⟩ := x
        rw [hone] at hs
        have hp := lexOne_pos hone
        have hge := skipTo_ge l e2
        rw [lexJ_one hs, lexJ_one hone, skip_shift, ih _ (by omega)]
        cases lexJ l (skipTo l e2) with
        | inl x => rfl
        | inr ts => simp [addAll, shJ]
    · rw [lexJ_end (by simp; omega), lexJ_end (by omega)]
      simp [shJ, shTok]; omega

/-! ### runs -/
/-- Lexing from j, behind a token's end. -/
def J (l : List UInt8) (j : Nat) : Sum (Nat × Nat) (List Tok) := lexJ l (skipTo l j)
theorem J_shift (p l : List UInt8) (k : Nat) : J (p ++ l) (p.length + k) = shJ p.length (J l k) := by
  unfold J; rw [skip_shift, lexJ_shift p l _ _ (Nat.le_refl _)]
theorem lex_J {l : List UInt8} (h : l.length ≤ 65536) : lex l = J l 0 := by unfold lex J; rw [if_neg (by omega)]
inductive Run (l : List UInt8) : Nat → List Tok → Nat → Prop
  | nil (j : Nat) : Run l j [] j
  | cons {j e2 k : Nat} {t : Tok} {ts : List Tok} (h1 : lexOne l (skipTo l j) = .inr (t, e2)) (h2 : Run l e2 ts k) : Run l j (t :: ts) k
theorem Run.le {l : List UInt8} {j k : Nat} {ts : List Tok} (h : Run l j ts k) : j ≤ k := by
  induction h with
  | nil => omega
  | @cons j e2 k t ts h1 _ ih => have := lexOne_pos h1; have := skipTo_ge l j; omega
theorem Run.lt {l : List UInt8} {j k : Nat} {ts : List Tok} (h : Run l j ts k) (hj : j ≤ l.length) : k ≤ l.length := by
  induction h with
  | nil => omega
  | cons h1 _ ih => have := lexOne_pos h1; exact ih (by omega)
theorem Run.J {l : List UInt8} {j k : Nat} {ts : List Tok} (h : Run l j ts k) : J l j = addAll ts (J l k) := by
  induction h with
  | nil => cases Lex.J l ‹_› <;> rfl
  | @cons j e2 k t ts h1 _ ih =>
    have : Lex.J l j = addAll [t] (Lex.J l e2) := lexJ_one h1
    rw [this, ih, ← addAll_addAll]; rfl
theorem Run.trans {l : List UInt8} {j k m : Nat} {ts us : List Tok} (h : Run l j ts k) (h2 : Run l k us m) : Run l j (ts ++ us) m := by
  induction h with
  | nil => exact h2
  | cons h1 _ ih => exact .cons h1 (ih h2)
/-- A run goes on the same, whatever stands behind. -/
theorem Run.tail {u v w : List UInt8} (hw : Stops w) {j k : Nat} {ts : List Tok} (h : Run (u ++ v) j ts k) (hk : k ≤ u.length) : Run (u ++ w) j ts k := by
  induction h with
  | nil => exact .nil _
  | @cons j e2 k t ts h1 h2 ih =>
    have hp := lexOne_pos h1
    have hle := h2.le
    have hge := skipTo_ge (u ++ v) j
    have hs : skipTo (u ++ w) j = skipTo (u ++ v) j := by
      simp only [skipTo] at hp hge ⊢
      rw [drop_app (by omega)] at hp ⊢
      rw [drop_app (by omega), sk_prefix (r2 := v) (r3 := w) (u.drop j) false (by simp only [List.length_drop]; omega)]
    refine .cons (t := t) (e2 := e2) ?_ (ih hk)
    rw [hs]
    exact lexOne_tail h1 (by omega) hw
theorem J_ok {l : List UInt8} : ∀ (n j : Nat) (ts : List Tok), l.length - j ≤ n → j ≤ l.length → J l j = .inr ts → ∀ i, i < ts.length → ∃ k t, Run l j (ts.take i) k ∧ ts[i]? = some t ∧ k ≤ l.length ∧ (skipTo l k : Int) = t.at_ ∧ J l k = .inr (ts.drop i) ∧ (i + 1 = ts.length → ts = ts.take i ++ [⟨5, l.length, [], 0⟩] ∧ skipTo l k = l.length) ∧ (i + 1 < ts.length → skipTo l k < l.length) := by
  intro n
  induction n with
  | zero =>
    intro j ts hn hj h i hi
    have hge := skipTo_ge l j
    have hle := skipTo_le l j hj
    have h0 := h
    unfold J at h
    rw [lexJ_end (by omega)] at h
    injection h with h; subst h
    obtain rfl : i = 0 := by simp at hi; omega
    exact ⟨j, _, .nil j, rfl, hj, by simp; omega, h0, fun _ => ⟨rfl, by omega⟩, fun h => by simp at h⟩
  | succ n ih =>
    intro j ts hn hj h i hi
    have hge := skipTo_ge l j
    have hle := skipTo_le l j hj
    have h0 := h
    unfold J at h
    by_cases hkl : skipTo l j < l.length
    · cases hone : lexOne l (skipTo l j) with
      | inl e => rw [lexJ_bad hkl hone] at h; cases h
      | inr x =>
        obtain ⟨t, e2⟩ := x
        have hp := lexOne_pos hone
        rw [lexJ_one hone] at h
        change addAll [t] (J l e2) = .inr ts at h
        cases hr : J l e2 with
        | inl p => rw [hr] at h; cases h
        | inr ts' =>
          rw [hr] at h
          injection h with h; subst h
          cases i with
          | zero =>
            refine ⟨j, t, .nil j, rfl, hj, ?_, h0, fun hl => ?_, fun _ => hkl⟩
            · have : t.at_ = (skipTo l j : Nat) := by
                unfold lexOne at hone
                split at hone
                · cases hone
                · split at hone
                  · simp only at hone
                    split at hone
                    · cases hone
                    · injection hone with hone; injection hone with hone _; rw [← hone]
                  · split at hone
                    · simp only at hone
                      split at hone
                      · injection hone with hone; injection hone with hone _; rw [← hone]
                      · cases hone
                    · split at hone
                      · split at hone
                        · cases hone
                        · injection hone with hone; injection hone with hone _; rw [← hone]
                      · split at hone
                        · injection hone with hone; injection hone with hone _; rw [← hone]
                        · cases hone
              rw [this]
            · simp only [List.cons_append, List.nil_append, List.length_cons] at hl
              have : ts' ≠ [] := by
                intro e; subst e
                unfold J at hr
                have hx : ∀ (n k : Nat), l.length - k ≤ n → lexJ l k ≠ .inr [] := by
                  intro n
                  induction n with
                  | zero => intro k hn; rw [lexJ_end (by omega)]; simp
                  | succ n ih2 =>
                    intro k hn
                    by_cases hk : k < l.length
                    · cases ho : lexOne l k with
                      | inl e => rw [lexJ_bad hk ho]; simp
                      | inr y =>
                        obtain ⟨t2, e3⟩ := y
                        rw [lexJ_one ho]
                        cases lexJ l (skipTo l e3) <;> simp [addAll]
                    · rw [lexJ_end (by omega)]; simp
                exact hx _ _ (Nat.le_refl _) hr
              have : 0 < ts'.length := List.length_pos_iff.2 this
              omega
          | succ i =>
            obtain ⟨k, t2, h1, h2, h3, h4, h5, h6, h7⟩ := ih e2 ts' (by omega) hp.2 hr i (by simpa using hi)
            refine ⟨k, t2, .cons hone h1, by simpa using h2, h3, h4, by simpa using h5, fun hl => ?_, fun hl => h7 (by simpa using hl)⟩
            obtain ⟨h8, h9⟩ := h6 (by simpa using hl)
            refine ⟨?_, h9⟩
            conv => lhs; rw [h8]
            simp
    · rw [lexJ_end (by omega)] at h
      injection h with h; subst h
      obtain rfl : i = 0 := by simp at hi; omega
      exact ⟨j, _, .nil j, rfl, hj, by simp; omega, h0, fun _ => ⟨rfl, by omega⟩, fun h => by simp at h⟩
theorem J_bad {l : List UInt8} : ∀ (n j p e : Nat), l.length - j ≤ n → j ≤ l.length → J l j = .inl (p, e) → ∃ k ts, Run l j ts k ∧ k ≤ l.length ∧ skipTo l k = p ∧ p < l.length ∧ lexOne l p = .inl e := by
  intro n
  induction n with
  | zero =>
    intro j p e hn hj h
    have hge := skipTo_ge l j
    unfold J at h
    rw [lexJ_end (by omega)] at h
    cases h
  | succ n ih =>
    intro j p e hn hj h
    have hge := skipTo_ge l j
    unfold J at h
    by_cases hkl : skipTo l j < l.length
    · cases hone : lexOne l (skipTo l j) with
      | inl e' =>
        rw [lexJ_bad hkl hone] at h
        injection h with h; injection h with h1 h2; subst h1; subst h2
        exact ⟨j, [], .nil j, hj, rfl, hkl, hone⟩
      | inr x =>
        obtain ⟨t, e2⟩ := x
        have hp := lexOne_pos hone
        rw [lexJ_one hone] at h
        change addAll [t] (J l e2) = .inl (p, e) at h
        cases hr : J l e2 with
        | inr ts' => rw [hr] at h; cases h
        | inl x =>
          rw [hr] at h
          injection h with h; subst h
          obtain ⟨k, ts, h1, h2, h3, h4, h5⟩ := ih e2 p e (by omega) hp.2 hr
          exact ⟨k, _, .cons hone h1, h2, h3, h4, h5⟩
    · rw [lexJ_end (by omega)] at h; cases h
theorem J_ne {l : List UInt8} {j : Nat} : J l j ≠ .inr [] := by
  unfold J
  have hx : ∀ (n k : Nat), l.length - k ≤ n → lexJ l k ≠ .inr [] := by
    intro n
    induction n with
    | zero => intro k hn; rw [lexJ_end (by omega)]; simp
    | succ n ih2 =>
      intro k hn
      by_cases hk : k < l.length
      · cases ho : lexOne l k with
        | inl e => rw [lexJ_bad hk ho]; simp
        | inr y =>
          obtain ⟨t2, e3⟩ := y
          rw [lexJ_one ho]
          cases lexJ l (skipTo l e3) <;> simp [addAll]
      · rw [lexJ_end (by omega)]; simp
  exact hx _ _ (Nat.le_refl _)
end Go.Shadow.Lex
