/- Proved: parts of the proof: What the lexer's tokens are: they end; errors are errors; The grammar by fuel: executable, sound for the relations; the lexer by fuel; Proved: values that are expressions' values, less known; the closures of sanity; Proved: what the printer's small methods do, as shadow contracts; Proved: what the printer's expr and PrintExpr do, as shadow contracts; Proved: what the printer's expr does, as a shadow contract; The parser's forms, args shadow contracts; The parser's run: a reader's panic is its problem; Proved: parse; Shadow code of the replacer of strings (printed by a program); THE SHADOW LOGI. Conditions: as each theorem says. -/
import Derived.Test.YtaefelmojpkpaaaGreatDoorBb3
import Derived.Test.YtaefelmojpkpaaaGreatDoorProg
import Derived.Laws.LoneSync

/- What the lexer's tokens are: they end; errors are errors. -/
namespace Go.Shadow.Lex

/-- A token is one of a name, a number, a text, a sign. -/
def TokOK (t : Tok) : Prop := ((t.kind = 2 → t.s = []) ∧ (t.kind ≠ 2 → t.n = 0)) ∧ 0 ≤ t.n ∧ t.n ≤ 999999999999999
theorem numVal_le {s : List UInt8} {n : Nat} (h : numVal s = some n) : n ≤ 999999999999999 := by
  unfold numVal at h
  split at h
  · rename_i hc
    injection h with h; subst h
    have h1 := digitsVal_bound s 0 hc.1
    have h2 : 10 ^ s.length ≤ 10 ^ 15 := Nat.pow_le_pow_right (by omega) hc.2.1
    unfold digitsVal
    omega
  · cases h
theorem lexOne_ok {l : List UInt8} {k z : Nat} {t : Tok} (h : lexOne l k = .inr (t, z)) : TokOK t ∧ t.kind ≠ 5 := by
  unfold lexOne at h
  split at h
  · cases h
  · split at h
    · simp only at h
      split at h
      · cases h
      · injection h with h; injection h with h _; subst h; simp [TokOK]
    · split at h
      · simp only at h
        split at h
        · rename_i n hn
          have := numVal_le hn
          injection h with h; injection h with h _; subst h; simp [TokOK]; omega
        · cases h
      · split at h
        · split at h
          · cases h
          · injection h with h; injection h with h _; subst h; simp [TokOK]
        · split at h
          · injection h with h; injection h with h _; subst h; simp [TokOK]
          · cases h
theorem textScanE0 : ∀ (n : Nat) (r b : List UInt8) (e : Nat), r.length ≤ n → textScan r b = .inl e → e ≠ 0 := by
  intro n
  induction n with
  | zero =>
    intro r b e hn h
    obtain rfl := List.eq_nil_of_length_eq_zero (Nat.le_zero.1 hn)
    rw [textScan_nil] at h
    split at h <;> injection h with h <;> omega
  | succ n ih =>
    intro r b e hn h
    cases r with
    | nil =>
      rw [textScan_nil] at h
      split at h <;> injection h with h <;> omega
    | cons c r =>
      rw [textScan_cons] at h
      simp only [List.length_cons] at hn
      split at h
      · injection h with h; omega
      · split at h
        · cases h
        · split at h
          · split at h
            · injection h with h; omega
            · split at h
              · injection h with h; omega
              · exact ih _ _ _ (by simp at hn; omega) h
          · split at h
            · injection h with h; omega
            · exact ih _ _ _ (by omega) h
theorem lexOneE0 {l : List UInt8} {k e : Nat} (h : lexOne l k = .inl e) : e ≠ 0 := by
  unfold lexOne at h
  split at h
  · injection h with h; omega
  · split at h
    · simp only at h
      split at h
      · injection h with h; omega
      · cases h
    · split at h
      · simp only at h
        split at h
        · cases h
        · injection h with h; omega
      · split at h
        · split at h
          · rename_i hs; injection h with h; subst h; exact textScanE0 _ _ _ _ (Nat.le_refl _) hs
          · cases h
        · split at h
          · cases h
          · injection h with h; omega
theorem lex_err {l : List UInt8} {k e : Nat} (h : lex l = .inl (k, e)) : e ≠ 0 ∧ k ≤ l.length := by
  unfold lex at h
  split at h
  · injection h with h; injection h with h1 h2; omega
  · obtain ⟨_, _, _, _, _, h4, h5⟩ := J_bad (l := l) _ 0 k e (Nat.le_refl _) (Nat.zero_le _) h
    exact ⟨lexOneE0 h5, by omega⟩
theorem lexJ_ended {l : List UInt8} : ∀ (n k : Nat) (ts : List Tok), l.length - k ≤ n → lexJ l k = .inr ts → Ended ts ∧ ts.length ≤ l.length - k + 1 := by
  intro n
  induction n with
  | zero =>
    intro k ts hn h
    rw [lexJ_end (by omega)] at h
    injection h with h; subst h
    exact ⟨⟨[], _, rfl, rfl, by simp, by simp⟩, by simp⟩
  | succ n ih =>
    intro k ts hn h
    by_cases hkl : k < l.length
    · cases hone : lexOne l k with
      | inl e' => rw [lexJ_bad hkl hone] at h; cases h
      | inr x =>
        obtain ⟨t, e2⟩ := x
        have hp := lexOne_pos hone
        have hge := skipTo_ge l e2
        rw [lexJ_one hone] at h
        cases hr : lexJ l (skipTo l e2) with
        | inl x => rw [hr] at h; cases h
        | inr ts' =>
          rw [hr] at h
          injection h with h
          simp only [List.cons_append, List.nil_append] at h
          subst h
          obtain ⟨⟨i, e, rfl, h1, h2, h3⟩, hl⟩ := ih _ _ (by omega) hr
          obtain ⟨g1, g2⟩ := lexOne_ok hone
          refine ⟨⟨t :: i, e, by simp, h1, fun u hu => ?_, fun u hu => ?_⟩, by simp at hl ⊢; omega⟩
          · rcases List.mem_cons.1 hu with rfl | hu
            · exact g2
            · exact h2 u hu
          · rcases List.mem_cons.1 hu with rfl | hu
            · exact g1
            · exact h3 u hu
    · rw [lexJ_end (by omega)] at h
      injection h with h; subst h
      exact ⟨⟨[], _, rfl, rfl, by simp, by simp⟩, by simp⟩
theorem lex_ended {l : List UInt8} {ts : List Tok} (h : lex l = .inr ts) : Ended ts ∧ ts.length ≤ l.length + 1 := by
  unfold lex at h
  split at h
  · cases h
  · obtain ⟨h1, h2⟩ := lexJ_ended _ _ _ (Nat.le_refl _) h
    exact ⟨h1, by omega⟩

/-! ### what a source is -/
theorem first_err {l : List Tok} {d : Int} {no : Bool} {E : Int} (h : first l d no = some E) : E = 5 ∨ E = 2 := by
  unfold first at h
  split at h
  · injection h with h; omega
  · split at h
    · injection h with h; omega
    · cases h
theorem PE.errno {nt : NT} {d : Int} {l : List Tok} {x : Res} (h : PE nt d l x) : ∀ {E r}, x = .err E r → E = 5 ∨ E = 2 := by
  induction h with
  | args_full h h1 h2 =>
    intro E r e
    injection e with e1 e2; subst e1
    unfold first
    split
    · exact .inl rfl
    · split
      · exact .inr rfl
      · exact .inr rfl
  | _ => intro E r e; first
    | (cases e; done)
    | (injection e with e1 e2; subst e1; exact .inl rfl)
    | (injection e with e1 e2; subst e1; exact first_err (by assumption))
    | (rename_i ih; exact ih e)
    | (rename_i ih1 ih; exact ih e)
    | (rename_i ih1 ih2; exact ih1 e)
    | (subst e; rename_i ih; exact ih rfl)
    | grind
theorem PA.errno {l : List Tok} {E : Int} {r : List Tok} (h : PA l (.err E r)) : E = 5 ∨ E = 2 := by
  cases h with
  | neg_bad => exact .inl rfl
  | paren_err _ h1 => exact h1.errno rfl
  | paren_bad => exact .inl rfl
theorem PF.errno {nt : NF} {d n : Int} {l : List Tok} {x : ResF} (h : PF nt d n l x) : ∀ {E r}, x = .err E r → E = 5 ∨ E = 2 := by
  induction h with
  | args_err h h1 h2 h3 h4 => intro E r e; injection e with e1 e2; subst e1; exact h4.errno
  | _ => intro E r e; first
    | (cases e; done)
    | (injection e with e1 e2; subst e1; first | exact .inl rfl | exact .inr rfl)
    | grind
theorem PL.errno {n : Int} {out : List Fo} {l : List Tok} {x : ResL} (h : PL n out l x) : ∀ {E r}, x = .err E r → E = 5 ∨ E = 2 := by
  induction h with
  | done => intro E r e; cases e
  | err _ h1 => intro E r e; injection e with e1 e2; subst e1; exact h1.errno rfl
  | go _ _ _ ih => exact ih

/-- What a source is as an expression: the expression, or where its problem is, and which. -/
inductive ExprIs (src : List UInt8) : Ex → Int → Int → Prop
  | lex {k e : Nat} (h : lex src = .inl (k, e)) : ExprIs src .none k e
  | bad {ts E r} (h : Lex.lex src = .inr ts) (h1 : PE .expr 1 ts (.err E r)) : ExprIs src .none (hd r).at_ E
  | more {ts x r} (h : Lex.lex src = .inr ts) (h1 : PE .expr 1 ts (.ok x r)) (h2 : (hd r).kind ≠ 5) : ExprIs src .none (hd r).at_ 5
  | ok {ts x r} (h : Lex.lex src = .inr ts) (h1 : PE .expr 1 ts (.ok x r)) (h2 : (hd r).kind = 5) : ExprIs src x 0 0
theorem ExprIs.det {src : List UInt8} {x y : Ex} {a b e f : Int} (h : ExprIs src x a e) (k : ExprIs src y b f) : x = y ∧ a = b ∧ e = f := by
  cases h <;> cases k <;> grind [PE.det]
/-- What a source is as forms. -/
inductive FormsIs (src : List UInt8) : List Fo → Int → Int → Prop
  | lex {k e : Nat} (h : lex src = .inl (k, e)) : FormsIs src [] k e
  | bad {ts E r} (h : Lex.lex src = .inr ts) (h1 : PL 0 [] ts (.err E r)) : FormsIs src [] (hd r).at_ E
  | ok {ts out} (h : Lex.lex src = .inr ts) (h1 : PL 0 [] ts (.ok out)) : FormsIs src out 0 0
theorem FormsIs.det {src : List UInt8} {x y : List Fo} {a b e f : Int} (h : FormsIs src x a e) (k : FormsIs src y b f) : x = y ∧ a = b ∧ e = f := by
  cases h <;> cases k <;> grind [PL.det]
end Go.Shadow.Lex

/- The grammar by fuel: executable, sound for the relations; the lexer by fuel. -/
namespace Go.Shadow.Lex

def bindR (o : Option Res) (k : Ex → List Tok → Option Res) : Option Res := match o with
  | none => none
  | some (.err E r) => some (.err E r)
  | some (.ok e r) => k e r
theorem bindR_some {o : Option Res} {k : Ex → List Tok → Option Res} {x : Res} (h : bindR o k = some x) : (∃ E r, o = some (.err E r) ∧ x = .err E r) ∨ ∃ e r, o = some (.ok e r) ∧ k e r = some x := by
  unfold bindR at h
  split at h
  · cases h
  · injection h with h; exact .inl ⟨_, _, rfl, h.symm⟩
  · exact .inr ⟨_, _, rfl, h⟩

def pE : Nat → NT → Int → List Tok → Option Res
  | 0, _, _, _ => none
  | f + 1, .expr, d, l => match first l d true with
    | some E => some (.err E l)
    | none => bindR (pE f (.lvl 1) d l) fun e r => if isS [63] r = false then some (.ok e r) else
      bindR (pE f .expr (d + 1) r.tail) fun a r2 => if isS [58] r2 = false then some (.err 5 r2) else
      bindR (pE f .expr (d + 1) r2.tail) fun b r3 => some (.ok (.mk 20 0 [] [e, a, b] e.off) r3)
  | f + 1, .lvl n, d, l => if n = 7 then pE f .neg d l else if n = 3 then
      if isS [33] l = false then pE f (.lvl 4) d l else match first l.tail (d + 1) true with
      | some E => some (.err E l.tail)
      | none => bindR (pE f (.lvl 3) (d + 1) l.tail) fun e r => some (.ok (.mk 5 0 [] [e] (hd l).at_) r)
    else if n < 7 then bindR (pE f (.lvl (n + 1)) d l) fun e r => pE f (.more n e) d r else none
  | f + 1, .more n e, d, l => match opOf l with
    | none => some (.ok e l)
    | some (op, m) => if m ≠ n then some (.ok e l) else bindR (pE f (.lvl (n + 1)) d l.tail) fun b r =>
      if n = 4 then some (.ok (.mk op 0 [] [e, b] e.off) r) else pE f (.more n (.mk op 0 [] [e, b] e.off)) d r
  | f + 1, .neg, d, l => if isS [45] l = false then pE f .atom d l else match first l.tail (d + 1) false with
    | some E => some (.err E l.tail)
    | none => bindR (pE f .neg (d + 1) l.tail) fun e r => some (.ok (.mk 6 0 [] [e] (hd l).at_) r)
  | f + 1, .atom, d, l => if begins l = false then some (.err 5 l) else
    if (hd l).kind = 2 then some (.ok (.mk 1 (hd l).n [] [] (hd l).at_) l.tail) else
    if (hd l).kind = 3 then some (.ok (.mk 2 0 (hd l).s [] (hd l).at_) l.tail) else
    if (hd l).kind = 1 then
      if isS [40] l.tail = false then some (.ok (.mk 3 0 (hd l).s [] (hd l).at_) l.tail) else pE f (.args (hd l).s (hd l).at_ []) d l.tail.tail
    else if isS [40] l = true then bindR (pE f .expr (d + 1) l.tail) fun e r => if isS [41] r = false then some (.err 5 r) else some (.ok e r.tail)
    else none
  | f + 1, .args s a kids, d, l => if isS [41] l = true then some (.ok (.mk 4 0 s kids a) l.tail) else
    if kids.isEmpty = false ∧ isS [44] l = false then some (.err 5 l) else
    if kids.length = 40 then some (.err ((first (argL kids l) 0 true).getD 2) (argL kids l)) else
    bindR (pE f .expr (d + 1) (argL kids l)) fun e r => pE f (.args s a (kids ++ [e])) d r

theorem pE_sound : ∀ {f nt d l x}, pE f nt d l = some x → PE nt d l x := by
  intro f
  induction f with
  | zero => intro nt d l x h; cases h
  | succ f ih =>
    intro nt d l x h
    cases nt with
    | expr =>
      simp only [pE] at h
      split at h
      · rename_i hf; injection h with h; subst h; exact .expr_first hf
      · rename_i hf
        rcases bindR_some h with ⟨E, r, h1, rfl⟩ | ⟨e, r, h1, h⟩
        · exact .expr_err hf (ih h1)
        · split at h
          · rename_i hq; injection h with h; subst h; exact .expr_one hf (ih h1) hq
          · rename_i hq
            have hq : isS [63] r = true := by simpa using hq
            rcases bindR_some h with ⟨E, r2, h3, rfl⟩ | ⟨a, r2, h3, h⟩
            · exact .if_err1 hf (ih h1) hq (ih h3)
            · split at h
              · rename_i hc; injection h with h; subst h; exact .if_colon hf (ih h1) hq (ih h3) hc
              · rename_i hc
                have hc : isS [58] r2 = true := by simpa using hc
                rcases bindR_some h with ⟨E, r3, h4, rfl⟩ | ⟨b, r3, h4, h⟩
                · exact .if_err2 hf (ih h1) hq (ih h3) hc (ih h4)
                · injection h with h; subst h; exact .if_ok hf (ih h1) hq (ih h3) hc (ih h4)
    | lvl n =>
      simp only [pE] at h
      split at h
      · rename_i hn; subst hn; exact .lvl7 (ih h)
      split at h
      · rename_i hn; subst hn
        split at h
        · rename_i hb; exact .lvl3 hb (ih h)
        · rename_i hb
          have hb : isS [33] l = true := by simpa using hb
          split at h
          · rename_i hf; injection h with h; subst h; exact .bang_first hb hf
          · rename_i hf
            rcases bindR_some h with ⟨E, r, h1, rfl⟩ | ⟨e, r, h1, h⟩
            · exact .bang_err hb hf (ih h1)
            · injection h with h; subst h; exact .bang_ok hb hf (ih h1)
      split at h
      · rcases bindR_some h with ⟨E, r, h1, rfl⟩ | ⟨e, r, h1, h⟩
        · exact .lvl_err (by omega) (ih h1)
        · exact .lvl_ok (by omega) (ih h1) (ih h)
      · cases h
    | more n e =>
      simp only [pE] at h
      split at h
      · rename_i ho; injection h with h; subst h; exact .more_end fun op h => by rw [ho] at h; cases h
      · rename_i op m ho
        split at h
        · rename_i hm; injection h with h; subst h; exact .more_end fun op h => by rw [ho] at h; injection h with h; injection h with _ h; exact hm h
        · rename_i hm
          have hm : m = n := Classical.byContradiction hm
          subst hm
          rcases bindR_some h with ⟨E, r, h1, rfl⟩ | ⟨b, r, h1, h⟩
          · exact .more_err ho (ih h1)
          · split at h
            · rename_i h4; have h := Option.some.inj h; subst h; subst h4; exact .more_last ho (ih h1)
            · rename_i h4; exact .more_go h4 ho (ih h1) (ih h)
    | neg =>
      simp only [pE] at h
      split at h
      · rename_i hb; exact .neg_no hb (ih h)
      · rename_i hb
        have hb : isS [45] l = true := by simpa using hb
        split at h
        · rename_i hf; injection h with h; subst h; exact .neg_first hb hf
        · rename_i hf
          rcases bindR_some h with ⟨E, r, h1, rfl⟩ | ⟨e, r, h1, h⟩
          · exact .neg_err hb hf (ih h1)
          · injection h with h; subst h; exact .neg_ok hb hf (ih h1)
    | atom =>
      simp only [pE] at h
      split at h
      · rename_i hb; injection h with h; subst h; exact .atom_bad hb
      split at h
      · rename_i hk; injection h with h; subst h; exact .atom_num hk
      split at h
      · rename_i hk; injection h with h; subst h; exact .atom_text hk
      split at h
      · rename_i hk
        split at h
        · rename_i hp; injection h with h; subst h; exact .atom_name hk hp
        · rename_i hp; exact .atom_call hk (by simpa using hp) (ih h)
      split at h
      · rename_i hp
        rcases bindR_some h with ⟨E, r, h1, rfl⟩ | ⟨e, r, h1, h⟩
        · exact .paren_err hp (ih h1)
        · split at h
          · rename_i hq; injection h with h; subst h; exact .paren_bad hp (ih h1) hq
          · rename_i hq; injection h with h; subst h; exact .paren_ok hp (ih h1) (by simpa using hq)
      · cases h
    | args s a kids =>
      simp only [pE] at h
      split at h
      · rename_i hb; injection h with h; subst h; exact .args_end hb
      rename_i hb
      have hb : isS [41] l = false := by simpa using hb
      split at h
      · rename_i hc; injection h with h; subst h; exact .args_comma hb (by intro hk; rw [hk] at hc; simp at hc) hc.2
      rename_i hc
      have hc : kids ≠ [] → isS [44] l = true := by
        intro hk
        cases h : isS [44] l with
        | true => rfl
        | false => exact absurd ⟨by cases kids with
          | nil => exact absurd rfl hk
          | cons => rfl, h⟩ hc
      split at h
      · rename_i h4; injection h with h; subst h; exact .args_full hb hc h4
      · rename_i h4
        rcases bindR_some h with ⟨E, r, h1, rfl⟩ | ⟨e, r, h1, h⟩
        · exact .args_err hb hc h4 (ih h1)
        · exact .args_go hb hc h4 (ih h1) (ih h)

def pA (f : Nat) (l : List Tok) : Option ResA :=
  if (hd l).kind = 1 ∨ (hd l).kind = 2 ∨ (hd l).kind = 3 then some (.ok ⟨(hd l).kind, (hd l).n, (hd l).s, .none, (hd l).at_⟩ l.tail) else
  if isS [45] l = true then if (hd l.tail).kind = 2 then some (.ok ⟨2, -(hd l.tail).n, [], .none, (hd l).at_⟩ l.tail.tail) else some (.err 5 l.tail) else
  if isS [45, 62] l = true then some (.ok ⟨4, 0, [], .none, (hd l).at_⟩ l.tail) else
  if isS [40] l = true then match pE f .expr 1 l.tail with
    | none => none
    | some (.err E r) => some (.err E r)
    | some (.ok e r) => if isS [41] r = true then some (.ok ⟨5, 0, [], e, (hd l).at_⟩ r.tail) else some (.err 5 r)
  else none
theorem pA_sound {f : Nat} {l : List Tok} {x : ResA} (h : pA f l = some x) : PA l x := by
  unfold pA at h
  split at h
  · rename_i hk; injection h with h; subst h; exact .tok hk
  split at h
  · rename_i hm
    split at h
    · rename_i hk; injection h with h; subst h; exact .neg_ok hm hk
    · rename_i hk; injection h with h; subst h; exact .neg_bad hm hk
  split at h
  · rename_i hm; injection h with h; subst h; exact .arrow hm
  split at h
  · rename_i hm
    split at h
    · cases h
    · rename_i hp; injection h with h; subst h; exact .paren_err hm (pE_sound hp)
    · rename_i hp
      split at h
      · rename_i hq; injection h with h; subst h; exact .paren_ok hm (pE_sound hp) hq
      · rename_i hq; injection h with h; subst h; exact .paren_bad hm (pE_sound hp) (by simpa using hq)
  · cases h

def pF : Nat → NF → Int → Int → List Tok → Option ResF
  | 0, _, _, _, _ => none
  | f + 1, .form, d, n, l => if (hd l).kind ≠ 1 then some (.err 5 l) else if d > 30 ∨ n ≥ 2000 then some (.err 2 l) else pF f (.args (hd l).s (hd l).at_ []) d (n + 1) l.tail
  | f + 1, .args w a u, d, n, l => if isS [59] l = true then some (.ok (.mk w u [] a) n l.tail) else
    if isS [123] l = true then pF f (.body w a u []) d n l.tail else
    if begins l = true ∨ isS [45, 62] l = true then if u.length = 40 then some (.err 2 l) else match pA f l with
      | none => none
      | some (.err E r) => some (.err E r)
      | some (.ok b r) => pF f (.args w a (u ++ [b])) d n r
    else some (.err 5 l)
  | f + 1, .body w a u b, d, n, l => if isS [125] l = true then some (.ok (.mk w u b a) n l.tail) else match pF f .form (d + 1) n l with
    | none => none
    | some (.err E r) => some (.err E r)
    | some (.ok g n' r) => pF f (.body w a u (b ++ [g])) d n' r
theorem pF_sound : ∀ {f nt d n l x}, pF f nt d n l = some x → PF nt d n l x := by
  intro f
  induction f with
  | zero => intro nt d n l x h; cases h
  | succ f ih =>
    intro nt d n l x h
    cases nt with
    | form =>
      simp only [pF] at h
      split at h
      · rename_i hk; injection h with h; subst h; exact .form_bad hk
      rename_i hk
      have hk : (hd l).kind = 1 := Classical.byContradiction hk
      split at h
      · rename_i hl; injection h with h; subst h; exact .form_limit hk hl
      · rename_i hl; exact .form_go hk hl (ih h)
    | args w a u =>
      simp only [pF] at h
      split at h
      · rename_i hs; injection h with h; subst h; exact .args_end hs
      rename_i hs
      have hs : isS [59] l = false := by simpa using hs
      split at h
      · rename_i hb; exact .args_body hb (ih h)
      rename_i hb
      have hb : isS [123] l = false := by simpa using hb
      split at h
      · rename_i ho
        split at h
        · rename_i h4; injection h with h; subst h; exact .args_limit hs hb ho h4
        · rename_i h4
          split at h
          · cases h
          · rename_i hp; injection h with h; subst h; exact .args_err hs hb ho h4 (pA_sound hp)
          · rename_i hp; exact .args_go hs hb ho h4 (pA_sound hp) (ih h)
      · rename_i ho; injection h with h; subst h
        simp only [not_or, Bool.not_eq_true] at ho
        exact .args_bad hs hb ho.1 ho.2
    | body w a u b =>
      simp only [pF] at h
      split at h
      · rename_i hs; injection h with h; subst h; exact .body_end hs
      rename_i hs
      have hs : isS [125] l = false := by simpa using hs
      split at h
      · cases h
      · rename_i hp; injection h with h; subst h; exact .body_err hs (ih hp)
      · rename_i hp; exact .body_go hs (ih hp) (ih h)

def pL : Nat → Int → List Fo → List Tok → Option ResL
  | 0, _, _, _ => none
  | f + 1, n, out, l => if (hd l).kind = 5 then some (.ok out) else match pF f .form 1 n l with
    | none => none
    | some (.err E r) => some (.err E r)
    | some (.ok g n' r) => pL f n' (out ++ [g]) r
theorem pL_sound : ∀ {f n out l x}, pL f n out l = some x → PL n out l x := by
  intro f
  induction f with
  | zero => intro n out l x h; cases h
  | succ f ih =>
    intro n out l x h
    simp only [pL] at h
    split at h
    · rename_i hk; injection h with h; subst h; exact .done hk
    rename_i hk
    split at h
    · cases h
    · rename_i hp; injection h with h; subst h; exact .err hk (pF_sound hp)
    · rename_i hp; exact .go hk (pF_sound hp) (ih h)

def lexF (l : List UInt8) : Nat → Nat → Sum (Nat × Nat) (List Tok)
  | 0, k => .inl (k, 0)
  | f + 1, k => if k < l.length then match lexOne l k with
    | .inl e => .inl (k, e)
    | .inr (t, e2) => addAll [t] (lexF l f (skipTo l e2))
    else .inr [⟨5, l.length, [], 0⟩]
theorem lexF_eq {l : List UInt8} : ∀ {f k : Nat}, l.length - k < f → lexJ l k = lexF l f k
  | 0, k, h => by omega
  | f + 1, k, h => by
    unfold lexF
    split
    · rename_i hk
      split
      · rename_i e he; exact lexJ_bad hk he
      · rename_i t e2 he
        have h2 := lexOne_pos he
        have h3 := skipTo_ge l e2
        rw [lexJ_one he, lexF_eq (f := f) (by omega)]
    · exact lexJ_end (by omega)
theorem lex_eq {l : List UInt8} {x : Sum (Nat × Nat) (List Tok)} (f : Nat) (h1 : l.length < f) (h2 : f ≤ 65536) (h : lexF l f (skipTo l 0) = x) : lex l = x := by
  unfold lex
  rw [if_neg (by omega), lexF_eq (f := f) (by omega), h]

/-- A source as an expression, by fuel. -/
def exprF (f : Nat) (src : List UInt8) : Option (Ex × Int × Int) := if f ≤ src.length then none else if 65536 < f then none else match lexF src f (skipTo src 0) with
  | .inl (k, e) => some (.none, k, e)
  | .inr ts => match pE f .expr 1 ts with
    | none => none
    | some (.err E r) => some (.none, (hd r).at_, E)
    | some (.ok x r) => if (hd r).kind = 5 then some (x, 0, 0) else some (.none, (hd r).at_, 5)
theorem exprF_is {f : Nat} {src : List UInt8} {x : Ex} {a E : Int} (h : exprF f src = some (x, a, E)) : ExprIs src x a E := by
  unfold exprF at h
  split at h
  · cases h
  rename_i h1
  split at h
  · cases h
  rename_i h2
  have hl := lex_eq (l := src) f (by omega) (by omega) rfl
  split at h
  · rename_i k e hx; rw [hx] at hl; injection h with h; injection h with e1 h; injection h with e2 e3; subst e1; subst e2; subst e3; exact .lex hl
  · rename_i ts hx
    rw [hx] at hl
    split at h
    · cases h
    · rename_i hp; injection h with h; injection h with e1 h; injection h with e2 e3; subst e1; subst e2; subst e3; exact .bad hl (pE_sound hp)
    · rename_i hp
      split at h
      · rename_i hk; injection h with h; injection h with e1 h; injection h with e2 e3; subst e1; subst e2; subst e3; exact .ok hl (pE_sound hp) hk
      · rename_i hk; injection h with h; injection h with e1 h; injection h with e2 e3; subst e1; subst e2; subst e3; exact .more hl (pE_sound hp) hk
def formsF (f : Nat) (src : List UInt8) : Option (List Fo × Int × Int) := if f ≤ src.length then none else if 65536 < f then none else match lexF src f (skipTo src 0) with
  | .inl (k, e) => some ([], k, e)
  | .inr ts => match pL f 0 [] ts with
    | none => none
    | some (.err E r) => some ([], (hd r).at_, E)
    | some (.ok out) => some (out, 0, 0)
theorem formsF_is {f : Nat} {src : List UInt8} {x : List Fo} {a E : Int} (h : formsF f src = some (x, a, E)) : FormsIs src x a E := by
  unfold formsF at h
  split at h
  · cases h
  rename_i h1
  split at h
  · cases h
  rename_i h2
  have hl := lex_eq (l := src) f (by omega) (by omega) rfl
  split at h
  · rename_i k e hx; rw [hx] at hl; injection h with h; injection h with e1 h; injection h with e2 e3; subst e1; subst e2; subst e3; exact .lex hl
  · rename_i ts hx
    rw [hx] at hl
    split at h
    · cases h
    · rename_i hp; injection h with h; injection h with e1 h; injection h with e2 e3; subst e1; subst e2; subst e3; exact .bad hl (pL_sound hp)
    · rename_i hp; injection h with h; injection h with e1 h; injection h with e2 e3; subst e1; subst e2; subst e3; exact .ok hl (pL_sound hp)

end Go.Shadow.Lex

/- Proved: values that are expressions' values, less known; the closures of sanity. Conditions: none. -/
namespace Go.Shadow.Lex
open Go Go.RowKit Go.Proofs

theorem _root_.Go.Shadow.SCall.weak {f : FuncId} {us bs : List V} {σ : St} {Post : SEnd → St → Prop} (hl : us.length = bs.length) (hw : ∀ (i : Nat) (x y : V), us[i]? = some x → bs[i]? = some y → Weak x y) (h : SCall Tryz.prog LG f bs σ Post) : SCall Tryz.prog LG f us σ Post := by
  intro w0 γ w xs hI hr
  refine h w0 γ w xs hI ⟨hl ▸ hr.1, fun i x y hx hy => ?_⟩
  have hi : i < us.length := by rw [hl]; exact (List.getElem?_eq_some_iff.1 hx).1
  exact hw i _ x (List.getElem?_eq_getElem hi) hx _ _ _ _ (hr.2 i _ y (List.getElem?_eq_getElem hi) hy)
theorem _root_.Go.Shadow.SCall.weak2 {f : FuncId} {a b a' b' : V} {σ : St} {Post : SEnd → St → Prop} (h1 : Weak a a') (h2 : Weak b b') (h : SCall Tryz.prog LG f [a', b'] σ Post) : SCall Tryz.prog LG f [a, b] σ Post :=
  SCall.weak (us := [a, b]) (bs := [a', b']) rfl (fun i x y hx hy => by
    match i, hx, hy with
    | 0, hx, hy => simp at hx hy; subst hx; subst hy; exact h1
    | 1, hx, hy => simp at hx hy; subst hx; subst hy; exact h2
    | _ + 2, hx, hy => simp at hx) h
theorem _root_.Go.Shadow.SCall.weak3 {f : FuncId} {a b c a' b' c' : V} {σ : St} {Post : SEnd → St → Prop} (h1 : Weak a a') (h2 : Weak b b') (h3 : Weak c c') (h : SCall Tryz.prog LG f [a', b', c'] σ Post) : SCall Tryz.prog LG f [a, b, c] σ Post :=
  SCall.weak (us := [a, b, c]) (bs := [a', b', c']) rfl (fun i x y hx hy => by
    match i, hx, hy with
    | 0, hx, hy => simp at hx hy; subst hx; subst hy; exact h1
    | 1, hx, hy => simp at hx hy; subst hx; subst hy; exact h2
    | 2, hx, hy => simp at hx hy; subst hx; subst hy; exact h3
    | _ + 3, hx, hy => simp at hx) h

theorem _root_.Go.Shadow.WeakL.refl {cs : List V} (h : ∀ (j : Nat) (y : V), cs[j]? = some y → y.one = true) : WeakL cs cs := ⟨rfl, h, fun j x y hx hy => by rw [hx] at hy; injection hy with hy; subst hy; exact Weak.refl _⟩
theorem _root_.Go.Shadow.WeakL.nil : WeakL [] [] := .refl (by simp)
theorem _root_.Go.Shadow.WeakL.cons {c d : V} {cs ds : List V} (h1 : d.one = true) (h : Weak c d) (k : WeakL cs ds) : WeakL (c :: cs) (d :: ds) := by
  refine ⟨by simp [k.len], fun j y hy => ?_, fun j x y hx hy => ?_⟩
  · cases j with
    | zero => simp at hy; subst hy; exact h1
    | succ j => exact k.one j y (by simpa using hy)
  · cases j with
    | zero => simp at hx hy; subst hx; subst hy; exact h
    | succ j => exact k.weak j x y (by simpa using hx) (by simpa using hy)
theorem _root_.Go.Shadow.WeakL.append {cs ds es fs : List V} (h : WeakL cs ds) (k : WeakL es fs) : WeakL (cs ++ es) (ds ++ fs) := by
  refine ⟨by simp [h.len, k.len], fun j y hy => ?_, fun j x y hx hy => ?_⟩
  · rw [List.getElem?_append] at hy
    split at hy
    · exact h.one j y hy
    · exact k.one _ y hy
  · rw [List.getElem?_append] at hx hy
    rw [h.len] at hx
    split at hy
    · rename_i hj; rw [if_pos hj] at hx; exact h.weak j x y hx hy
    · rename_i hj; rw [if_neg hj] at hx; exact k.weak _ x y hx hy
theorem _root_.Go.Shadow.WeakL.agg {cs ds : List V} (h : WeakL cs ds) : Weak (.agg cs) (.agg ds) := weak_agg h.len h.one h.weak
/-- Rows of cells of which less is known. -/
inductive WeakR : List (List V) → List (List V) → Prop
  | nil : WeakR [] []
  | cons {c d : List V} {cs ds : List (List V)} (h : WeakL c d) (k : WeakR cs ds) : WeakR (c :: cs) (d :: ds)
theorem WeakR.len {es fs : List (List V)} (h : WeakR es fs) : es.length = fs.length := by
  induction h with
  | nil => rfl
  | cons _ _ ih => simp [ih]
theorem WeakR.flat {es fs : List (List V)} (h : WeakR es fs) : WeakL es.flatten fs.flatten := by
  induction h with
  | nil => exact .nil
  | cons h _ ih => simpa using h.append ih
theorem weak_rows {t : Tag} {s z : Nat} {es fs : List (List V)} (h : WeakR es fs) (hz : z = s ∨ es = []) (hf : ∀ f ∈ fs, f.length = s) : Weak (.slice t z es) (.slice .foreign s fs) := by
  intro B γ w x hx
  have hn := h.len
  have hw := h.flat
  cases hx with | slice _ _ _ a cap b o vs hs hl ha ht h1 hc hr =>
  rw [hn] at hl ⊢
  have hlen := hw.len
  have get : ∀ {k : Nat} {y : V}, fs.flatten[k]? = some y → ∃ x, es.flatten[k]? = some x := fun {k y} hy => by
    have hk : k < es.flatten.length := by rw [hlen]; exact (List.getElem?_eq_some_iff.1 hy).1
    exact ⟨_, List.getElem?_eq_getElem hk⟩
  refine .slice .foreign s fs a cap b o vs (fun i e he => hf e (List.mem_of_getElem? he)) hl ?_ trivial hw.one (fun k y hy => ?_) (fun k y hy => ?_)
  · rcases ha with ha | ⟨ha, he⟩
    · exact .inl ha
    · refine .inr ⟨ha, ?_⟩
      rw [he] at hn
      exact List.eq_nil_of_length_eq_zero hn.symm
  · obtain ⟨x, hx⟩ := get hy
    exact hc k x hx
  · obtain ⟨x, hx⟩ := get hy
    exact hw.weak k x y hx hy _ _ _ _ (hr k x hx)
theorem exV_len (e : Ex) : (exV e).length = 5 := by cases e; rfl
/-- Cells that are an expression's. -/
abbrev WX (c : List V) (x : Ex) : Prop := WeakL c (exV x)
theorem weak_exL {op n a : Int} {s : List UInt8} {t : Tag} {z : Nat} {kids : List Ex} {es : List (List V)} (h : WeakR es (kids.map exV)) (hz : z = 5 ∨ es = []) : WX [.int .i64 op, .int .i64 n, .str s, .slice t z es, .int .i64 a] (.mk op n s kids a) := by
  refine .cons rfl (.refl _) (.cons rfl (.refl _) (.cons rfl (.refl _) (.cons rfl ?_ (.cons rfl (.refl _) .nil))))
  rw [exVs_map]
  exact weak_rows h hz (fun f hf => by
    obtain ⟨e, _, rfl⟩ := List.mem_map.1 hf
    exact exV_len e)
theorem wx_refl (x : Ex) : WX (exV x) x := by
  obtain ⟨op, n, s, kids, a⟩ := x
  exact ⟨rfl, fun j y hy => by
    match j, hy with
    | 0, hy | 1, hy | 2, hy | 3, hy | 4, hy => simp [exV] at hy; subst hy; rfl
    | _ + 5, hy => simp [exV] at hy, fun j x y hx hy => by rw [hx] at hy; injection hy with hy; subst hy; exact Weak.refl _⟩
/-- sameExpr for cells. -/
theorem sameExprW {c d : List V} {x y : Ex} (hc : WX c x) (hd : WX d y) (hn : exN x ≤ 1000000) : SRet Tryz.prog LG 15 [.agg c, .agg d] (.bool (sameE x y)) :=
  fun σ => SCall.weak2 hc.agg hd.agg (sameExpr_ret _ x y hn (Nat.le_refl _) σ)

theorem name22_ret (s : List UInt8) : SRet Tryz.prog LG 22 [.str s] (.agg (exV (.mk 3 0 s [] 0))) := by
  intro σ
  refine code22.call hm (by simp) ?_
  intro b2 f2
  refine Sure.mk' rfl ?_
  refine Store.mk' [.int .i64 3, .int .i64 0, .str s, .slice .nil 0 [], .int .i64 0] put_box (Nat.le_refl _) rfl (fun σ2 e2 => ?_)
  rw [put_put] at e2
  refine Load.mk' (by rw [e2]; exact put_box) (Nat.le_refl _) ?_
  refine Ret.weak (r := .agg (exV (.mk 3 0 s [] 0))) (WeakL.agg (weak_exL .nil (.inr rfl))) (σ' := σ) ?_ ⟨rfl, rfl⟩
  rw [e2]; exact over_put (.refl _) f2
theorem node23_ret (op : Int) (x y : Ex) : SRet Tryz.prog LG 23 [.int .i64 op, .agg (exV x), .agg (exV y)] (.agg (exV (.mk op 0 [] [x, y] 0))) := by
  intro σ
  obtain ⟨op1, n1, s1, kids1, a1⟩ := x
  obtain ⟨op2, n2, s2, kids2, a2⟩ := y
  refine code23.call hm (by simp) ?_
  refine ⟨rfl, ?_⟩
  intro b4 f4
  refine ⟨rfl, ?_⟩
  intro b5 f5
  intro b6 f6
  have n45 := box_ne put_box f5
  have n46 := box_ne (show ((σ.put b4 (V.agg (exV (.mk op1 n1 s1 kids1 a1))).cells).put b5 (V.agg (exV (.mk op2 n2 s2 kids2 a2))).cells).box b4 = some (exV (.mk op1 n1 s1 kids1 a1)) from by rw [put_ne n45]; exact put_box) f6
  have n56 := box_ne put_box f6
  refine Load.mk' (by rw [put_ne n46, put_ne n45]; exact put_box) (by simp [exV, V.cells]) ?_
  refine Load.mk' (by rw [put_ne n56]; exact put_box) (by simp [exV, V.cells]) ?_
  refine Sure.mk' rfl ?_
  refine Store.mk' [.int .i64 op, .int .i64 0, .str [], .slice .full 5 [exV (.mk op1 n1 s1 kids1 a1), exV (.mk op2 n2 s2 kids2 a2)], .int .i64 0] put_box (Nat.le_refl _) rfl (fun σ2 e2 => ?_)
  rw [put_put] at e2
  refine Load.mk' (by rw [e2]; exact put_box) (Nat.le_refl _) ?_
  refine Ret.weak (r := .agg (exV (.mk op 0 [] [.mk op1 n1 s1 kids1 a1, .mk op2 n2 s2 kids2 a2] 0))) (WeakL.agg (weak_exL (.cons (wx_refl _) (.cons (wx_refl _) .nil)) (.inl rfl))) (σ' := σ) ?_ ⟨rfl, rfl⟩
  rw [e2]; exact over_put (over_put (over_put (.refl _) f4) (put_none f5)) (put_none (put_none f6))
end Go.Shadow.Lex

/- Proved: what the printer's small methods do, as shadow contracts. Conditions: as each theorem says. -/
namespace Go.Shadow.Lex
open Go Go.RowKit Go.Proofs

/-- The printer in its box, out of the state 'σ0' (in which its tokens' row is not yet there). -/
structure PrI (σ0 σ : St) (p : Nat) (toks : List Tok) (bad : Bool) : Prop where
  box : ∃ tag z, σ.box p = some [.slice tag z (toks.map tokV), .bool bad] ∧ Mine (sans σ0) σ tag ∧ (tag = .nil ∨ z = 4) ∧ (z = 4 ∨ toks.map tokV = [])
  over : Over (sans σ0) σ
/-- All but the printer's box is as it was. -/
def Kp (p : Nat) (σ σ' : St) : Prop := ∀ b cs, b ≠ p → σ.box b = some cs → σ'.box b = some cs
theorem Kp.refl (p : Nat) (σ : St) : Kp p σ σ := fun _ _ _ h => h
theorem Kp.trans {p : Nat} {a b c : St} (h : Kp p a b) (k : Kp p b c) : Kp p a c := fun x cs hx hb => k x cs hx (h x cs hx hb)
theorem Kp.putp {p : Nat} {σ σ' : St} {cs : List V} (h : Kp p σ σ') : Kp p σ (σ'.put p cs) := fun x ds hx hb => by rw [put_ne hx]; exact h x ds hx hb
theorem Kp.new {p b : Nat} {σ σ' : St} {cs : List V} (h : Kp p σ σ') (hb : σ'.box b = none) : Kp p σ (σ'.put b cs) := fun x ds hx hx2 => by
  rw [put_ne (box_ne (h x ds hx hx2) hb)]; exact h x ds hx hx2
theorem PrI.new {σ0 σ : St} {p b : Nat} {toks : List Tok} {bad : Bool} {cs : List V} (h : PrI σ0 σ p toks bad) (hb : σ.box b = none) : PrI σ0 (σ.put b cs) p toks bad := by
  obtain ⟨⟨tag, z, h1, h2, h3, h4⟩, h5⟩ := h
  exact ⟨⟨tag, z, by rw [put_ne (box_ne h1 hb)]; exact h1, Mine.put h2, h3, h4⟩, ⟨fun _ _ h => (by cases h), h5.live, h5.map⟩⟩
theorem PrI.ne {σ0 σ : St} {p b : Nat} {toks : List Tok} {bad : Bool} (h : PrI σ0 σ p toks bad) (hb : σ.box b = none) : p ≠ b := by
  obtain ⟨⟨tag, z, h1, _⟩, _⟩ := h
  exact box_ne h1 hb
def sgT (s : List UInt8) : Tok := ⟨4, 0, s, 0⟩
def Prs (σ0 σ : St) (p : Nat) (toks : List Tok) (bad : Bool) (e : SEnd) (σ' : St) : Prop := e = .ret (.tup []) ∧ PrI σ0 σ' p toks bad ∧ Kp p σ σ'

def scN60 : SC := match sc60 with
  | .seq _ (.seq _ r) => r
  | _ => .skip
def scN62 : SC := match sc62 with
  | .seq _ r => r
  | _ => .skip
def scN63 : SC := match sc63 with
  | .seq _ r => r
  | _ => .skip
theorem toks_small {n : Nat} (h : n ≤ 1000000) : (n + (0 + 1)) * 40 ≤ 140737488355328 ∧ n + (0 + 1) ≤ 9223372036854775807 := by omega

theorem signs_call {σ0 σ : St} {p : Nat} {toks : List Tok} {bad : Bool} (hp : PrI σ0 σ p toks bad) (hl : toks.length ≤ 1000000) (s : List UInt8) (tg : Tag) :
    SCall Tryz.prog LG 61 [.loc p 0, .slice tg 1 [[.str s]]] σ (Prs σ0 σ p (toks ++ [sgT s]) bad) := by
  refine code61.call hm (by simp) ?_
  refine ⟨fun m sl σ' => ∃ i : Nat, sl = ofL [(0, some (.loc p 0)), (6, some (.slice tg 1 [[.str s]])), (7, some (.int .i64 1)), (8, some (.int .i64 i))] ∧ Kp p σ σ' ∧ ((i = 0 ∧ PrI σ0 σ' p toks bad) ∨ (i = 1 ∧ PrI σ0 σ' p (toks ++ [sgT s]) bad)) ∧ m = 1 - i,
    _, ⟨0, rfl, .refl _ _, .inl ⟨rfl, hp⟩, rfl⟩, ?_⟩
  rintro m sl σ' ⟨i, rfl, hk, hi, rfl⟩
  rcases hi with ⟨rfl, ⟨⟨tag, z, h1, h2, h3, h4⟩, h5⟩⟩ | ⟨rfl, hp'⟩
  · refine Test.yes (by decide) ?_
    refine Sure.mk' (.inl rfl) ?_
    refine IdxE.mk' 0 _ rfl rfl ?_
    refine ⟨by simp, ?_⟩
    refine Load.mk' h1 (by simp) ?_
    refine App.mk' h5 h2 h3 rfl (by simp only [List.length_map, List.length_cons, List.length_nil]; exact (toks_small hl).1) (by simp only [List.length_map, List.length_cons, List.length_nil]; exact (toks_small hl).2) (List.cons_ne_nil _ _) (fun t' σ2 o2 m2 b2 _ => ?_)
    refine Sure.mk' rfl ?_
    refine Store.mk' [.slice (.tip t') 4 (toks.map tokV ++ [tokV (sgT s)]), .bool bad] (by rw [b2]; exact h1) (by simp [V.cells]) rfl (fun σ3 e3 => ?_)
    refine Arith.i64 1 rfl (by omega) ?_
    refine ⟨0, σ3, by decide, Forget.refl _, 1, rfl, ?_, .inr ⟨rfl, ⟨.tip t', 4, by rw [e3, List.map_append]; exact put_box, by rw [e3]; exact m2, .inr rfl, .inl rfl⟩, by rw [e3]; exact ⟨fun _ _ h => (by cases h), o2.live, o2.map⟩⟩, rfl⟩
    rw [e3]
    exact Kp.putp (fun b cs hb hc => by rw [b2]; exact hk b cs hb hc)
  · refine Test.no (by decide) ?_
    exact Ret.mk' ⟨rfl, hp', hk⟩

/-- The bits of a letter. -/
theorem letter_bits : ∀ n : Fin 256, ((decide (97 ≤ bitsOp .or .u8 (n.val : Int) 32) && decide (bitsOp .or .u8 (n.val : Int) 32 ≤ 122)) || decide ((n.val : Int) = 95)) = ((n.val == 95) || (decide (97 ≤ n.val) && decide (n.val ≤ 122)) || (decide (65 ≤ n.val) && decide (n.val ≤ 90))) := by
  decide +kernel
theorem letterP_ret (c : UInt8) : SRet Tryz.prog LG 87 [.int .u8 c.toNat] (.bool (isLetter c)) := by
  intro σ
  have hb := letter_bits ⟨c.toNat, c.toNat_lt⟩
  have hv : isLetter c = ((c.toNat == 95) || (decide (97 ≤ c.toNat) && decide (c.toNat ≤ 122)) || (decide (65 ≤ c.toNat) && decide (c.toNat ≤ 90))) := rfl
  rw [hv, ← hb]
  refine code87.call hm (by simp) ?_
  refine Test.split (fun h1 => ?_) (fun h1 => ?_)
  · refine Test.split (fun h2 => ?_) (fun h2 => ?_)
    · refine Ret.mk' ⟨rfl, ?_⟩
      rw [decide_eq_true (show 97 ≤ bitsOp .or .u8 (c.toNat : Int) 32 from h1), decide_eq_true (show bitsOp .or .u8 (c.toNat : Int) 32 ≤ 122 from h2)]; rfl
    · rw [decide_eq_false (show ¬ bitsOp .or .u8 (c.toNat : Int) 32 ≤ 122 from h2), Bool.and_false, Bool.false_or]
      refine Test.split (fun h3 => ?_) (fun h3 => ?_)
      · exact Ret.mk' ⟨rfl, by rw [decide_eq_true (show (c.toNat : Int) = 95 from h3)]⟩
      · exact Ret.mk' ⟨rfl, by rw [decide_eq_false (show ¬ (c.toNat : Int) = 95 from h3)]⟩
  · rw [decide_eq_false (show ¬ 97 ≤ bitsOp .or .u8 (c.toNat : Int) 32 from h1), Bool.false_and, Bool.false_or]
    refine Test.split (fun h3 => ?_) (fun h3 => ?_)
    · exact Ret.mk' ⟨rfl, by rw [decide_eq_true (show (c.toNat : Int) = 95 from h3)]⟩
    · exact Ret.mk' ⟨rfl, by rw [decide_eq_false (show ¬ (c.toNat : Int) = 95 from h3)]⟩

/-- Whether the first bytes of a name are right. -/
def okUp (b : Bool) (s : List UInt8) : Nat → Bool
  | 0 => b
  | i + 1 => okUp b s i && (match s[i]? with
    | some c => isLetter c || (decide (0 < i) && isDigit c)
    | none => true)
def nameOK (s : List UInt8) : Bool := okUp (decide (0 < s.length) && decide (s.length ≤ 32)) s s.length

theorem namePr_call {σ0 σ : St} {p : Nat} {toks : List Tok} {bad : Bool} (hp : PrI σ0 σ p toks bad) (hl : toks.length ≤ 1000000) (s : List UInt8) (hs : s.length ≤ 1000000) :
    SCall Tryz.prog LG 60 [.loc p 0, .str s] σ (Prs σ0 σ p (toks ++ [⟨1, 0, s, 0⟩]) (bad || !nameOK s)) := by
  refine code60.call hm (by simp) ?_
  obtain ⟨⟨tag, z, h1, h2, h3, h4⟩, h5⟩ := hp
  have key : ∀ (b0 : Bool), b0 = (decide (0 < s.length) && decide (s.length ≤ 32)) → swpE Tryz.prog LG scN60 (retE [] (Prs σ0 σ p (toks ++ [⟨1, 0, s, 0⟩]) (bad || !nameOK s))) (ofL [(0, some (.loc p 0)), (1, some (.str s)), (4, some (.func 87 [] [])), (5, some (.bool b0))]) σ := by
    intro b0 hb0
    refine ⟨fun m sl σ' => σ' = σ ∧ ∃ i : Nat, sl = ofL [(0, some (.loc p 0)), (1, some (.str s)), (4, some (.func 87 [] [])), (5, some (.bool (okUp b0 s i))), (16, some (.int .i64 s.length)), (17, some (.int .i64 i))] ∧ i ≤ s.length ∧ m = s.length - i,
      _, ⟨rfl, 0, rfl, Nat.zero_le _, rfl⟩, ?_⟩
    rintro m sl σ' ⟨rfl, i, rfl, hi, rfl⟩
    refine Test.split (fun hlt => ?_) (fun hlt => ?_)
    · have hlt : i < s.length := by omega
      obtain ⟨c, hc⟩ : ∃ c, s[i]? = some c := ⟨_, List.getElem?_eq_getElem hlt⟩
      have hms : s.length - (i + 1) < s.length - i := by omega
      have next : ∀ v : Bool, v = okUp b0 s (i + 1) → ∃ m' σ'', m' < s.length - i ∧ Forget σ' σ'' ∧ σ'' = σ' ∧ ∃ i' : Nat, ofL [(0, some (.loc p 0)), (1, some (.str s)), (4, some (.func 87 [] [])), (5, some (.bool v)), (16, some (.int .i64 s.length)), (17, some (.int .i64 (i + 1 : Nat)))] = ofL [(0, some (.loc p 0)), (1, some (.str s)), (4, some (.func 87 [] [])), (5, some (.bool (okUp b0 s i'))), (16, some (.int .i64 s.length)), (17, some (V.int .i64 i'))] ∧ i' ≤ s.length ∧ m' = s.length - i' :=
        fun v hv => ⟨_, _, hms, Forget.refl _, rfl, i + 1, by rw [hv], by omega, rfl⟩
      have hup : okUp b0 s (i + 1) = (okUp b0 s i && (isLetter c || (decide (0 < i) && isDigit c))) := by simp only [okUp, hc]
      cases hb : okUp b0 s i
      · refine Arith.i64 ((i + 1 : Nat) : Int) (by simp) (by omega) ?_
        exact next false (by rw [hup, hb]; rfl)
      refine Idx.mk' i c rfl hc ?_
      refine CallK.pure (letterP_ret c) ?_
      cases hL : isLetter c
      · refine Test.split (fun hi0 => ?_) (fun hi0 => ?_)
        · refine Idx.mk' i c rfl hc ?_
          have hi0 : 0 < i := by omega
          refine Test.split (fun h48 => ?_) (fun h48 => ?_)
          · refine Idx.mk' i c rfl hc ?_
            refine Test.split (fun h57 => ?_) (fun h57 => ?_)
            · refine Arith.i64 ((i + 1 : Nat) : Int) (by simp) (by omega) ?_
              exact next true (by rw [hup, hb, hL]; simp [isDigit, hi0]; omega)
            · refine Arith.i64 ((i + 1 : Nat) : Int) (by simp) (by omega) ?_
              exact next false (by rw [hup, hb, hL]; simp [isDigit, hi0]; omega)
          · refine Arith.i64 ((i + 1 : Nat) : Int) (by simp) (by omega) ?_
            exact next false (by rw [hup, hb, hL]; simp [isDigit, hi0]; omega)
        · refine Arith.i64 ((i + 1 : Nat) : Int) (by simp) (by omega) ?_
          exact next false (by rw [hup, hb, hL]; simp; omega)
      · refine Arith.i64 ((i + 1 : Nat) : Int) (by simp) (by omega) ?_
        exact next true (by rw [hup, hb, hL]; rfl)
    · have : i = s.length := by omega
      subst this
      have hnk : nameOK s = okUp b0 s s.length := by unfold nameOK; rw [hb0]
      rw [hnk]
      refine Load.mk' h1 (by simp) ?_
      have st : ∀ v : Bool, v = (bad || !okUp b0 s s.length) → ∀ σ2, σ2 = σ'.put p [.slice tag z (toks.map tokV), .bool v] → σ2.box p = some [.slice tag z (toks.map tokV), .bool (bad || !okUp b0 s s.length)] ∧ Mine (sans σ0) σ2 tag ∧ Over (sans σ0) σ2 ∧ Kp p σ' σ2 := by
        intro v hv σ2 e
        subst e
        exact ⟨by rw [← hv]; exact put_box, Mine.put h2, ⟨fun _ _ h => (by cases h), h5.live, h5.map⟩, Kp.putp (.refl _ _)⟩
      cases bad
      · cases hkk : okUp b0 s s.length
        · refine Sure.mk' rfl ?_
          refine Store.mk' [.slice tag z (toks.map tokV), .bool true] h1 (by simp [V.cells]) rfl (fun σ2 e2 => ?_)
          obtain ⟨g1, g2, g3, g4⟩ := st true (by rw [hkk]; rfl) σ2 e2
          rw [hkk] at g1
          refine Load.mk' g1 (by simp) ?_
          refine App.mk' g3 g2 h3 rfl (by simp only [List.length_map, List.length_cons, List.length_nil]; exact (toks_small hl).1) (by simp only [List.length_map, List.length_cons, List.length_nil]; exact (toks_small hl).2) (List.cons_ne_nil _ _) (fun t' σ8 o8 m8 b8 _ => ?_)
          refine Sure.mk' rfl ?_
          refine Store.mk' [.slice (.tip t') 4 (toks.map tokV ++ [tokV (⟨1, 0, s, 0⟩ : Tok)]), .bool (true)] (by rw [b8]; exact g1) (by simp [V.cells]) rfl (fun σ9 e9 => ?_)
          refine Ret.mk' ⟨rfl, ⟨⟨.tip t', 4, by rw [e9, List.map_append]; exact put_box, by rw [e9]; exact m8, .inr rfl, .inl rfl⟩, by rw [e9]; exact ⟨fun _ _ h => (by cases h), o8.live, o8.map⟩⟩, ?_⟩
          rw [e9]
          exact Kp.putp (fun b cs hb hc => by rw [b8]; exact g4 b cs hb hc)
        · refine Sure.mk' rfl ?_
          refine Store.mk' [.slice tag z (toks.map tokV), .bool false] h1 (by simp [V.cells]) rfl (fun σ2 e2 => ?_)
          obtain ⟨g1, g2, g3, g4⟩ := st false (by rw [hkk]; rfl) σ2 e2
          rw [hkk] at g1
          refine Load.mk' g1 (by simp) ?_
          refine App.mk' g3 g2 h3 rfl (by simp only [List.length_map, List.length_cons, List.length_nil]; exact (toks_small hl).1) (by simp only [List.length_map, List.length_cons, List.length_nil]; exact (toks_small hl).2) (List.cons_ne_nil _ _) (fun t' σ8 o8 m8 b8 _ => ?_)
          refine Sure.mk' rfl ?_
          refine Store.mk' [.slice (.tip t') 4 (toks.map tokV ++ [tokV (⟨1, 0, s, 0⟩ : Tok)]), .bool (false)] (by rw [b8]; exact g1) (by simp [V.cells]) rfl (fun σ9 e9 => ?_)
          refine Ret.mk' ⟨rfl, ⟨⟨.tip t', 4, by rw [e9, List.map_append]; exact put_box, by rw [e9]; exact m8, .inr rfl, .inl rfl⟩, by rw [e9]; exact ⟨fun _ _ h => (by cases h), o8.live, o8.map⟩⟩, ?_⟩
          rw [e9]
          exact Kp.putp (fun b cs hb hc => by rw [b8]; exact g4 b cs hb hc)
      · refine Sure.mk' rfl ?_
        refine Store.mk' [.slice tag z (toks.map tokV), .bool true] h1 (by simp [V.cells]) rfl (fun σ2 e2 => ?_)
        obtain ⟨g1, g2, g3, g4⟩ := st true rfl σ2 e2
        refine Load.mk' g1 (by simp) ?_
        refine App.mk' g3 g2 h3 rfl (by simp only [List.length_map, List.length_cons, List.length_nil]; exact (toks_small hl).1) (by simp only [List.length_map, List.length_cons, List.length_nil]; exact (toks_small hl).2) (List.cons_ne_nil _ _) (fun t' σ8 o8 m8 b8 _ => ?_)
        refine Sure.mk' rfl ?_
        refine Store.mk' [.slice (.tip t') 4 (toks.map tokV ++ [tokV (⟨1, 0, s, 0⟩ : Tok)]), .bool (true)] (by rw [b8]; exact g1) (by simp [V.cells]) rfl (fun σ9 e9 => ?_)
        refine Ret.mk' ⟨rfl, ⟨⟨.tip t', 4, by rw [e9, List.map_append]; exact put_box, by rw [e9]; exact m8, .inr rfl, .inl rfl⟩, by rw [e9]; exact ⟨fun _ _ h => (by cases h), o8.live, o8.map⟩⟩, ?_⟩
        rw [e9]
        exact Kp.putp (fun b cs hb hc => by rw [b8]; exact g4 b cs hb hc)
  refine Test.split (fun hs0 => ?_) (fun hs0 => ?_)
  · refine Test.split (fun hs32 => ?_) (fun hs32 => ?_)
    · exact key true (by simp; omega)
    · exact key false (by simp; omega)
  · exact key false (by simp; omega)

theorem numberPr_call {σ0 σ : St} {p : Nat} {toks : List Tok} {bad : Bool} (hp : PrI σ0 σ p toks bad) (hl : toks.length ≤ 1000000) (n : Int) :
    SCall Tryz.prog LG 62 [.loc p 0, .int .i64 n] σ (Prs σ0 σ p (toks ++ [⟨2, 0, [], n⟩]) (bad || (decide (n < 0) || decide (999999999999999 < n)))) := by
  refine code62.call hm (by simp) ?_
  obtain ⟨⟨tag, z, h1, h2, h3, h4⟩, h5⟩ := hp
  refine Load.mk' h1 (by simp) ?_
  have st : ∀ v : Bool, v = (bad || (decide (n < 0) || decide (999999999999999 < n))) → ∀ σ2, σ2 = σ.put p [.slice tag z (toks.map tokV), .bool v] → σ2.box p = some [.slice tag z (toks.map tokV), .bool (bad || (decide (n < 0) || decide (999999999999999 < n)))] ∧ Mine (sans σ0) σ2 tag ∧ Over (sans σ0) σ2 ∧ Kp p σ σ2 := by
    intro v hv σ2 e
    subst e
    exact ⟨by rw [← hv]; exact put_box, Mine.put h2, ⟨fun _ _ h => (by cases h), h5.live, h5.map⟩, Kp.putp (.refl _ _)⟩
  have fin : ∀ v : Bool, v = (bad || (decide (n < 0) || decide (999999999999999 < n))) → Store σ p 1 [.bool v] (fun σ2 => swpE Tryz.prog LG scN62 (retE [] (Prs σ0 σ p (toks ++ [⟨2, 0, [], n⟩]) (bad || (decide (n < 0) || decide (999999999999999 < n))))) (ofL [(0, some (.loc p 0)), (1, some (.int .i64 n))]) σ2) := by
    intro v hv
    refine Store.mk' [.slice tag z (toks.map tokV), .bool v] h1 (by simp) rfl (fun σ2 e2 => ?_)
    obtain ⟨g1, g2, g3, g4⟩ := st v hv σ2 e2
    refine Load.mk' g1 (by simp) ?_
    refine App.mk' g3 g2 h3 rfl (by simp only [List.length_map, List.length_cons, List.length_nil]; exact (toks_small hl).1) (by simp only [List.length_map, List.length_cons, List.length_nil]; exact (toks_small hl).2) (List.cons_ne_nil _ _) (fun t' σ8 o8 m8 b8 _ => ?_)
    refine Sure.mk' rfl ?_
    refine Store.mk' [.slice (.tip t') 4 (toks.map tokV ++ [tokV (⟨2, 0, [], n⟩ : Tok)]), .bool ((bad || (decide (n < 0) || decide (999999999999999 < n))))] (by rw [b8]; exact g1) (by simp [V.cells]) rfl (fun σ9 e9 => ?_)
    refine Ret.mk' ⟨rfl, ⟨⟨.tip t', 4, by rw [e9, List.map_append]; exact put_box, by rw [e9]; exact m8, .inr rfl, .inl rfl⟩, by rw [e9]; exact ⟨fun _ _ h => (by cases h), o8.live, o8.map⟩⟩, ?_⟩
    rw [e9]
    exact Kp.putp (fun b cs hb hc => by rw [b8]; exact g4 b cs hb hc)
  cases bad
  · refine Test.split (fun hn => ?_) (fun hn => ?_)
    · refine Sure.mk' rfl ?_
      exact fin true (by simp [show n < 0 from hn])
    · refine Test.split (fun hn2 => ?_) (fun hn2 => ?_)
      · refine Sure.mk' rfl ?_
        exact fin true (by simp [show 999999999999999 < n from hn2])
      · refine Sure.mk' rfl ?_
        exact fin false (by have h1 : ¬ n < 0 := hn; have h2 : ¬ 999999999999999 < n := hn2; simp [h1, h2])
  · refine Sure.mk' rfl ?_
    exact fin true rfl

/-- Whether one of the first bytes of a text is wrong. -/
def badUp (b : Bool) (s : List UInt8) : Nat → Bool
  | 0 => b
  | i + 1 => badUp b s i || (match s[i]? with
    | some c => c.toNat != 10 && (decide (c.toNat < 32) || decide (126 < c.toNat))
    | none => false)
def textBad (s : List UInt8) : Bool := badUp (decide (200 < s.length)) s s.length
theorem badUp_or (a b : Bool) (s : List UInt8) : ∀ i, badUp (a || b) s i = (a || badUp b s i)
  | 0 => rfl
  | i + 1 => by simp only [badUp, badUp_or a b s i, Bool.or_assoc]

theorem textPr_call {σ0 σ : St} {p : Nat} {toks : List Tok} {bad : Bool} (hp : PrI σ0 σ p toks bad) (hl : toks.length ≤ 1000000) (s : List UInt8) (hs : s.length ≤ 1000000) :
    SCall Tryz.prog LG 63 [.loc p 0, .str s] σ (Prs σ0 σ p (toks ++ [⟨3, 0, s, 0⟩]) (bad || textBad s)) := by
  refine code63.call hm (by simp) ?_
  obtain ⟨⟨tag, z, h1, h2, h3, h4⟩, h5⟩ := hp
  refine Load.mk' h1 (by simp) ?_
  have key : ∀ (b0 : Bool), b0 = (bad || decide (200 < s.length)) → Store σ p 1 [.bool b0] (fun σ2 => swpE Tryz.prog LG scN63 (retE [] (Prs σ0 σ p (toks ++ [⟨3, 0, s, 0⟩]) (bad || textBad s))) (ofL [(0, some (.loc p 0)), (1, some (.str s))]) σ2) := by
    intro b0 hb0
    have hfin : (bad || textBad s) = badUp b0 s s.length := by rw [hb0, badUp_or]; rfl
    rw [hfin]
    refine Store.mk' [.slice tag z (toks.map tokV), .bool b0] h1 (by simp) rfl (fun σ2 e2 => ?_)
    refine ⟨fun m sl σ' => ∃ i : Nat, sl = ofL [(0, some (.loc p 0)), (1, some (.str s)), (18, some (.int .i64 s.length)), (19, some (.int .i64 i))] ∧ σ'.box p = some [.slice tag z (toks.map tokV), .bool (badUp b0 s i)] ∧ Mine (sans σ0) σ' tag ∧ Over (sans σ0) σ' ∧ Kp p σ σ' ∧ i ≤ s.length ∧ m = s.length - i,
      _, ⟨0, rfl, by rw [e2]; exact put_box, by rw [e2]; exact Mine.put h2, by rw [e2]; exact ⟨fun _ _ h => (by cases h), h5.live, h5.map⟩, by rw [e2]; exact Kp.putp (.refl _ _), Nat.zero_le _, rfl⟩, ?_⟩
    clear e2 h1 h2 h5
    rintro m sl σ' ⟨i, rfl, h1, h2, h5, hk, hi, rfl⟩
    refine Test.split (fun hlt => ?_) (fun hlt => ?_)
    · have hlt : i < s.length := by omega
      obtain ⟨c, hc⟩ : ∃ c, s[i]? = some c := ⟨_, List.getElem?_eq_getElem hlt⟩
      have hms : s.length - (i + 1) < s.length - i := by omega
      have hup : badUp b0 s (i + 1) = (badUp b0 s i || (c.toNat != 10 && (decide (c.toNat < 32) || decide (126 < c.toNat)))) := by simp only [badUp, hc]
      have next : ∀ v : Bool, v = badUp b0 s (i + 1) → ∀ σ2, σ2 = σ'.put p [.slice tag z (toks.map tokV), .bool v] → ∃ m' σ3, m' < s.length - i ∧ Forget σ2 σ3 ∧ ∃ i' : Nat, ofL [(0, some (.loc p 0)), (1, some (.str s)), (18, some (.int .i64 s.length)), (19, some (V.int .i64 (i + 1 : Nat)))] = ofL [(0, some (.loc p 0)), (1, some (.str s)), (18, some (.int .i64 s.length)), (19, some (V.int .i64 i'))] ∧ σ3.box p = some [.slice tag z (toks.map tokV), .bool (badUp b0 s i')] ∧ Mine (sans σ0) σ3 tag ∧ Over (sans σ0) σ3 ∧ Kp p σ σ3 ∧ i' ≤ s.length ∧ m' = s.length - i' := by
        intro v hv σ2 e2
        exact ⟨_, σ2, hms, Forget.refl _, i + 1, rfl, by rw [e2, ← hv]; exact put_box, by rw [e2]; exact Mine.put h2, by rw [e2]; exact ⟨fun _ _ h => (by cases h), h5.live, h5.map⟩, by rw [e2]; exact Kp.putp hk, by omega, rfl⟩
      refine Load.mk' h1 (by simp) ?_
      cases hb : badUp b0 s i
      · refine Idx.mk' i c rfl hc ?_
        refine Test.split (fun h10 => ?_) (fun h10 => ?_)
        · have h10 : (c.toNat != 10) = true := by simp; omega
          refine Idx.mk' i c rfl hc ?_
          refine Test.split (fun h32 => ?_) (fun h32 => ?_)
          · refine Sure.mk' rfl ?_
            refine Store.mk' [.slice tag z (toks.map tokV), .bool true] h1 (by simp [V.cells]) rfl (fun σ2 e2 => ?_)
            refine Arith.i64 ((i + 1 : Nat) : Int) (by simp) (by omega) ?_
            exact next true (by rw [hup, hb, h10]; simp; omega) σ2 e2
          · refine Idx.mk' i c rfl hc ?_
            refine Test.split (fun h126 => ?_) (fun h126 => ?_)
            · refine Sure.mk' rfl ?_
              refine Store.mk' [.slice tag z (toks.map tokV), .bool true] h1 (by simp [V.cells]) rfl (fun σ2 e2 => ?_)
              refine Arith.i64 ((i + 1 : Nat) : Int) (by simp) (by omega) ?_
              exact next true (by rw [hup, hb, h10]; simp; omega) σ2 e2
            · refine Sure.mk' rfl ?_
              refine Store.mk' [.slice tag z (toks.map tokV), .bool false] h1 (by simp [V.cells]) rfl (fun σ2 e2 => ?_)
              refine Arith.i64 ((i + 1 : Nat) : Int) (by simp) (by omega) ?_
              exact next false (by rw [hup, hb, h10]; simp; omega) σ2 e2
        · refine Sure.mk' rfl ?_
          refine Store.mk' [.slice tag z (toks.map tokV), .bool false] h1 (by simp [V.cells]) rfl (fun σ2 e2 => ?_)
          refine Arith.i64 ((i + 1 : Nat) : Int) (by simp) (by omega) ?_
          exact next false (by rw [hup, hb]; simp; omega) σ2 e2
      · refine Sure.mk' rfl ?_
        refine Store.mk' [.slice tag z (toks.map tokV), .bool true] h1 (by simp [V.cells]) rfl (fun σ2 e2 => ?_)
        refine Arith.i64 ((i + 1 : Nat) : Int) (by simp) (by omega) ?_
        exact next true (by rw [hup, hb]; rfl) σ2 e2
    · have : i = s.length := by omega
      subst this
      refine Load.mk' h1 (by simp) ?_
      refine App.mk' h5 h2 h3 rfl (by simp only [List.length_map, List.length_cons, List.length_nil]; exact (toks_small hl).1) (by simp only [List.length_map, List.length_cons, List.length_nil]; exact (toks_small hl).2) (List.cons_ne_nil _ _) (fun t' σ8 o8 m8 b8 _ => ?_)
      refine Sure.mk' rfl ?_
      refine Store.mk' [.slice (.tip t') 4 (toks.map tokV ++ [tokV (⟨3, 0, s, 0⟩ : Tok)]), .bool (badUp b0 s s.length)] (by rw [b8]; exact h1) (by simp [V.cells]) rfl (fun σ9 e9 => ?_)
      refine Ret.mk' ⟨rfl, ⟨⟨.tip t', 4, by rw [e9, List.map_append]; exact put_box, by rw [e9]; exact m8, .inr rfl, .inl rfl⟩, by rw [e9]; exact ⟨fun _ _ h => (by cases h), o8.live, o8.map⟩⟩, ?_⟩
      rw [e9]
      exact Kp.putp (fun b cs hb hc => by rw [b8]; exact hk b cs hb hc)
  cases bad
  · refine Test.split (fun hn => ?_) (fun hn => ?_)
    · refine Sure.mk' rfl ?_
      exact key true (by simp; omega)
    · refine Sure.mk' rfl ?_
      exact key false (by simp; omega)
  · refine Sure.mk' rfl ?_
    exact key true rfl
end Go.Shadow.Lex

/- Proved: what the printer's expr and PrintExpr do, as shadow contracts. Conditions: as each theorem says. -/
namespace Go.Shadow.Lex
open Go Go.RowKit Go.Proofs

abbrev PT := List Tok × Bool
def opFind (op : Int) : Option (List UInt8 × Int × Nat) := opsT.find? fun o => o.2.1 == op
/-- The level of an operation. -/
def lvlOp (op : Int) : Int := if op = 20 then 0 else if op = 5 then 3 else if op = 6 then 7 else match opFind op with
  | some o => o.2.2
  | none => 8
/-- What is printed where a level is needed. -/
def par (need : Int) (k : Int × PT) : PT := if need ≤ k.1 then k.2 else ([sgT [40]] ++ k.2.1 ++ [sgT [41]], k.2.2)
def catP (a b : PT) : PT := (a.1 ++ b.1, a.2 || b.2)
def sgP (s : List UInt8) : PT := ([sgT s], false)
def commaP : Bool → List (Int × PT) → PT
  | _, [] => ([], false)
  | first, k :: r => catP (if first = true then par 0 k else catP (sgP [44]) (par 0 k)) (commaP false r)
/-- What is printed of an expression, out of what is printed of its operands (with their levels). -/
def prB (op n : Int) (s : List UInt8) (ks : List (Int × PT)) : PT :=
  if op = 1 then ([⟨2, 0, [], n⟩], decide (n < 0) || decide (999999999999999 < n)) else
  if op = 2 then ([⟨3, 0, s, 0⟩], textBad s) else
  if op = 3 then ([⟨1, 0, s, 0⟩], !nameOK s) else
  if op = 4 then catP (catP (catP ([⟨1, 0, s, 0⟩], !nameOK s) (sgP [40])) (commaP true ks)) (sgP [41]) else
  if op = 5 then (match ks with
    | [a] => catP (sgP [33]) (par 3 a)
    | _ => ([], true)) else
  if op = 6 then (match ks with
    | [a] => catP (sgP [45]) (par 7 a)
    | _ => ([], true)) else
  if op = 20 then (match ks with
    | [a, b, c] => catP (catP (catP (catP (par 1 a) (sgP [63])) (par 0 b)) (sgP [58])) (par 0 c)
    | _ => ([], true)) else
  match opFind op with
  | none => ([], true)
  | some o => match ks with
    | [a, b] => catP (catP (par (if o.2.2 = 4 then 5 else o.2.2) a) (sgP o.1)) (par (max (if o.2.2 = 4 then 5 else o.2.2) (o.2.2 + 1)) b)
    | _ => ([], true)
mutual
def prE : Ex → PT
  | .mk op n s kids _ => prB op n s (prKs kids)
def prKs : List Ex → List (Int × PT)
  | [] => []
  | e :: r => (lvlOp e.op, prE e) :: prKs r
end
theorem prKs_map : ∀ l : List Ex, prKs l = l.map fun e => (lvlOp e.op, prE e)
  | [] => rfl
  | e :: r => by simp [prKs, prKs_map r]
mutual
/-- Texts are not too long. -/
def exS : Ex → Prop
  | .mk _ _ s kids _ => s.length ≤ 1000000 ∧ exSs kids
def exSs : List Ex → Prop
  | [] => True
  | e :: r => exS e ∧ exSs r
end
theorem exSs_mem : ∀ {l : List Ex} {x : Ex}, exSs l → x ∈ l → exS x
  | e :: r, x, h, hm => by
    simp only [exSs] at h
    rcases List.mem_cons.1 hm with rfl | hm
    · exact h.1
    · exact exSs_mem h.2 hm

theorem par_len (need : Int) (k : Int × PT) : (par need k).1.length ≤ k.2.1.length + 2 := by
  unfold par; split <;> simp
theorem commaP_len : ∀ (f : Bool) (l : List (Int × PT)) (m : Nat), (∀ k ∈ l, True) → (l.map fun k => k.2.1.length + 3).sum ≤ m → (commaP f l).1.length ≤ m
  | _, [], m, _, _ => by simp [commaP]
  | f, k :: r, m, h, hm => by
    simp only [List.map_cons, List.sum_cons] at hm
    have h1 := commaP_len false r (m - (k.2.1.length + 3)) (fun _ _ => trivial) (by omega)
    have h2 := par_len 0 k
    cases f <;> simp [commaP, catP, sgP] <;> omega
theorem sum_le {α : Type} {f g : α → Nat} : ∀ {l : List α}, (∀ x ∈ l, f x ≤ g x) → (l.map f).sum ≤ (l.map g).sum
  | [], _ => by simp
  | x :: r, h => by
    have h1 := h x (by simp)
    have h2 := sum_le (l := r) fun y hy => h y (by simp [hy])
    simp; omega
theorem exNs_sum : ∀ l : List Ex, (l.map fun e => 8 * exN e).sum = 8 * exNs l
  | [] => rfl
  | e :: r => by simp [exNs, exNs_sum r]; omega
theorem prE_len : ∀ (m : Nat) (x : Ex), exN x ≤ m → (prE x).1.length + 4 ≤ 8 * exN x := by
  intro m
  induction m with
  | zero => intro x h; have := exN_pos x; omega
  | succ m ih =>
    intro x hm
    obtain ⟨op, n, s, kids, a⟩ := x
    simp only [exN] at hm ⊢
    have hk : ∀ k ∈ kids, (prE k).1.length + 4 ≤ 8 * exN k := fun k hk => ih k (by have := exNs_mem hk; omega)
    have hp : ∀ (need : Int) (k : Ex), k ∈ kids → (par need (lvlOp k.op, prE k)).1.length + 2 ≤ 8 * exN k := fun need k hkm => by
      have := par_len need (lvlOp k.op, prE k)
      have := hk k hkm
      simp only at *
      omega
    simp only [prE]
    unfold prB
    split
    · simp; omega
    split
    · simp; omega
    split
    · simp; omega
    split
    · have h1 : (commaP true (prKs kids)).1.length ≤ 8 * exNs kids := by
        refine commaP_len _ _ _ (fun _ _ => trivial) ?_
        rw [prKs_map, List.map_map, ← exNs_sum]
        refine sum_le fun k hkm => ?_
        have := hk k hkm
        simp only [Function.comp_apply]
        omega
      simp [catP, sgP]; omega
    split
    · rw [prKs_map]
      match kids, hp with
      | [], _ => simp; omega
      | [k], hp => have := hp 3 k (by simp); simp [catP, sgP, exNs]; omega
      | _ :: _ :: _, _ => simp; omega
    split
    · rw [prKs_map]
      match kids, hp with
      | [], _ => simp; omega
      | [k], hp => have := hp 7 k (by simp); simp [catP, sgP, exNs]; omega
      | _ :: _ :: _, _ => simp; omega
    split
    · rw [prKs_map]
      match kids, hp with
      | [], _ => simp; omega
      | [_], _ => simp; omega
      | [_, _], _ => simp; omega
      | [k1, k2, k3], hp => have := hp 1 k1 (by simp); have := hp 0 k2 (by simp); have := hp 0 k3 (by simp); simp [catP, sgP, exNs]; omega
      | _ :: _ :: _ :: _ :: _, _ => simp; omega
    split
    · simp; omega
    · rename_i o _
      rw [prKs_map]
      match kids, hp with
      | [], _ => simp; omega
      | [_], _ => simp; omega
      | [k1, k2], hp =>
        have := hp (if o.2.2 = 4 then 5 else o.2.2) k1 (by simp)
        have := hp (max (if o.2.2 = 4 then 5 else o.2.2) (o.2.2 + 1)) k2 (by simp)
        simp [catP, sgP, exNs]; omega
      | _ :: _ :: _ :: _, _ => simp; omega

/-! ### the level -/
theorem opFind_some {op : Int} {i : Nat} {o : List UInt8 × Int × Nat} (hi : opsT[i]? = some o) (h : o.2.1 = op) (hno : ∀ j, j < i → ∀ o, opsT[j]? = some o → o.2.1 ≠ op) : opFind op = some o := by
  unfold opFind
  obtain ⟨hlt, he⟩ := List.getElem?_eq_some_iff.1 hi
  rw [List.find?_eq_some_iff_getElem]
  refine ⟨by simp [h], i, hlt, he, fun j hj => ?_⟩
  have := hno j hj _ (List.getElem?_eq_getElem (by omega))
  simp [this]
theorem opFind_none {op : Int} (hno : ∀ j : Nat, j < 13 → ∀ o, opsT[j]? = some o → o.2.1 ≠ op) : opFind op = none := by
  unfold opFind
  rw [List.find?_eq_none]
  intro o ho
  obtain ⟨j, hj⟩ := List.getElem?_of_mem ho
  have := hno j (List.getElem?_eq_some_iff.1 hj).1 o hj
  simp [this]

theorem levelPr_ret (x : Ex) : SRet Tryz.prog LG 94 [.agg (exV x)] (.int .i64 (lvlOp x.op)) := by
  intro σ
  obtain ⟨op, n, s, kids, a⟩ := x
  simp only [Ex.op]
  refine code94.call hm (by simp) ?_
  refine ⟨rfl, ?_⟩
  intro b1 f1
  have o1 : Over σ (σ.put b1 (exV (.mk op n s kids a))) := over_put (.refl _) f1
  have h1 : (σ.put b1 (exV (.mk op n s kids a))).box b1 = some (exV (.mk op n s kids a)) := put_box
  refine Load.mk' h1 (by simp [V.cells, exV]) ?_
  refine Test.split (fun h20 => ?_) (fun h20 => ?_)
  · exact Ret.weak (.refl _) (σ' := σ) o1 ⟨rfl, by rw [show lvlOp op = 0 from if_pos h20]⟩
  refine Test.split (fun h5 => ?_) (fun h5 => ?_)
  · exact Ret.weak (.refl _) (σ' := σ) o1 ⟨rfl, by rw [show lvlOp op = 3 from (if_neg h20).trans (if_pos h5)]⟩
  refine Test.split (fun h6 => ?_) (fun h6 => ?_)
  · exact Ret.weak (.refl _) (σ' := σ) o1 ⟨rfl, by rw [show lvlOp op = 7 from (if_neg h20).trans ((if_neg h5).trans (if_pos h6))]⟩
  have hv : lvlOp op = match opFind op with
      | some o => (o.2.2 : Int)
      | none => 8 := (if_neg h20).trans ((if_neg h5).trans (if_neg h6))
  rw [hv]
  refine CallK.pure operators_ret ?_
  refine ⟨fun m sl σ' => ∃ i : Nat, sl = ofL [(1, some (.loc b1 0)), (13, some (.slice .full 3 (opsT.map opV))), (14, some (.int .i64 13)), (15, some (.int .i64 i))] ∧ Over σ σ' ∧ σ'.box b1 = some (exV (.mk op n s kids a)) ∧ i ≤ 13 ∧ (∀ j, j < i → ∀ o, opsT[j]? = some o → o.2.1 ≠ op) ∧ m = 13 - i,
    _, ⟨0, rfl, o1, h1, by omega, fun j hj => by omega, rfl⟩, ?_⟩
  clear o1 h1
  rintro m sl σ' ⟨i, rfl, o1, h1, hi, hno, rfl⟩
  refine Test.split (fun hlt => ?_) (fun hlt => ?_)
  · obtain ⟨o, hoi⟩ : ∃ o, opsT[i]? = some o := ⟨_, List.getElem?_eq_getElem (by show i < 13; omega)⟩
    refine Sure.mk' (.inl rfl) ?_
    refine IdxE.mk' i (opV o) rfl (by simp [hoi]) ?_
    refine ⟨by simp [opV], ?_⟩
    intro b4 hb4
    refine Sure.mk' rfl ?_
    refine Store.mk' (opV o) put_box (by simp [V.cells, opV]) (by simp [setL, V.cells, opV]) (fun σ2 e2 => ?_)
    rw [put_put] at e2
    have q2 := over_put (cs := opV o) (Over.refl _) hb4
    rw [← e2] at q2
    have h42 : σ2.box b4 = some (opV o) := by rw [e2]; exact put_box
    have h12 := q2.box _ _ h1
    have o2 := over_tr o1 q2
    refine Load.mk' h42 (by simp [opV]) ?_
    refine Load.mk' h12 (by simp [exV]) ?_
    refine Test.split (fun he => ?_) (fun he => ?_)
    · refine Load.mk' h42 (by simp [opV]) ?_
      refine Ret.weak (.refl _) (σ' := σ) o2 ⟨rfl, ?_⟩
      rw [opFind_some hoi he hno]
    · refine Arith.i64 ((i + 1 : Nat) : Int) (by simp) (by omega) ?_
      refine ⟨_, _, ?_, Forget.refl _, i + 1, rfl, o2, h12, by omega, fun j hj o' ho' => ?_, rfl⟩
      · omega
      · by_cases e : j = i
        · subst e; rw [hoi] at ho'; injection ho' with ho'; rw [← ho']; exact he
        · exact hno j (by omega) o' ho'
  · refine Ret.weak (.refl _) (σ' := σ) o1 ⟨rfl, ?_⟩
    rw [opFind_none fun j hj => hno j (by omega)]

/-! ### expressions -/
theorem PrI.over' {σ0 σ σ' : St} {p : Nat} {toks : List Tok} {bad : Bool} (h : PrI σ0 σ p toks bad) (o : Over σ σ') : PrI σ0 σ' p toks bad := by
  obtain ⟨⟨tag, z, h1, h2, h3, h4⟩, h5⟩ := h
  exact ⟨⟨tag, z, o.box _ _ h1, h2.over o, h3, h4⟩, ⟨fun _ _ h => (by cases h), fun t ht => o.live t (h5.live t ht), fun r m hm => o.map r m (h5.map r m hm)⟩⟩
theorem Kp.over {p : Nat} {σ σ' : St} (o : Over σ σ') : Kp p σ σ' := fun b cs _ hb => o.box b cs hb
theorem PrI.putm {σ0 σ : St} {p r : Nat} {toks : List Tok} {bad : Bool} {m : List (V × V)} (h : PrI σ0 σ p toks bad) (f : σ0.map r = none) : PrI σ0 (σ.putm r m) p toks bad := by
  obtain ⟨⟨tag, z, h1, h2, h3, h4⟩, h5⟩ := h
  refine ⟨⟨tag, z, h1, ?_, h3, h4⟩, ⟨fun _ _ h => (by cases h), h5.live, fun r' m' hm => ?_⟩⟩
  · cases tag <;> exact h2
  · have hne : r' ≠ r := by
      rintro rfl
      have hm : σ0.map r' = some m' := hm
      rw [f] at hm; cases hm
    simp only [St.putm, if_neg hne]
    exact h5.map r' m' hm
theorem PrI.setbad {σ0 σ : St} {p : Nat} {toks : List Tok} {bad : Bool} (h : PrI σ0 σ p toks bad) : ∃ u, σ.box p = some [u, .bool bad] ∧ ∀ v, PrI σ0 (σ.put p [u, .bool v]) p toks v := by
  obtain ⟨⟨tag, z, h1, h2, h3, h4⟩, h5⟩ := h
  exact ⟨_, h1, fun v => ⟨⟨tag, z, put_box, Mine.put h2, h3, h4⟩, ⟨fun _ _ h => (by cases h), h5.live, h5.map⟩⟩⟩

structure PrTo (m : Nat) : Prop where
  expr : ∀ (σ0 σ : St) (p : Nat) (toks : List Tok) (bad : Bool) (x : Ex), 2 * exN x ≤ m → exS x → PrI σ0 σ p toks bad → toks.length + 8 * exN x ≤ 1000000 → SCall Tryz.prog LG 42 [.loc p 0, .agg (exV x)] σ (Prs σ0 σ p (toks ++ (prE x).1) (bad || (prE x).2))
  operand : ∀ (σ0 σ : St) (p : Nat) (toks : List Tok) (bad : Bool) (x : Ex) (need : Int), 2 * exN x + 1 ≤ m → exS x → PrI σ0 σ p toks bad → toks.length + 8 * exN x + 2 ≤ 1000000 → SCall Tryz.prog LG 68 [.loc p 0, .agg (exV x), .int .i64 need] σ (Prs σ0 σ p (toks ++ (par need (lvlOp x.op, prE x)).1) (bad || (par need (lvlOp x.op, prE x)).2))

theorem operand_walk {m : Nat} (ih : ∀ k, k < m → PrTo k) {σ0 σ : St} {p : Nat} {toks : List Tok} {bad : Bool} {x : Ex} {need : Int} (hm1 : 2 * exN x + 1 ≤ m) (hS : exS x) (hp : PrI σ0 σ p toks bad) (hl : toks.length + 8 * exN x + 2 ≤ 1000000) :
    SCall Tryz.prog LG 68 [.loc p 0, .agg (exV x), .int .i64 need] σ (Prs σ0 σ p (toks ++ (par need (lvlOp x.op, prE x)).1) (bad || (par need (lvlOp x.op, prE x)).2)) := by
  have hlev := levelPr_ret x
  have hex := fun σ toks bad hp hl => (ih (2 * exN x) (by omega)).expr σ0 σ p toks bad x (Nat.le_refl _) hS hp hl
  have hlen := prE_len _ x (Nat.le_refl _)
  generalize hP : prE x = P at hex hlen ⊢
  generalize hN : exN x = N at hl hlen hex
  obtain ⟨op, n, s, kids, a⟩ := x
  simp only [Ex.op] at hlev ⊢
  refine code68.call hm (by simp) ?_
  refine ⟨rfl, ?_⟩
  intro b4 hb4
  have np := hp.ne hb4
  have hp1 := hp.new (cs := exV (.mk op n s kids a)) hb4
  have k1 : Kp p σ (σ.put b4 (exV (.mk op n s kids a))) := (Kp.refl p σ).new hb4
  have h4 : (σ.put b4 (exV (.mk op n s kids a))).box b4 = some (exV (.mk op n s kids a)) := put_box
  generalize hσ : σ.put b4 (exV (.mk op n s kids a)) = σ1 at hp1 k1 h4
  have hgoal : ∀ {G : St → Prop}, G σ1 → G (σ.put b4 (exV (.mk op n s kids a))) := fun h => by rw [hσ]; exact h
  refine hgoal ?_
  clear hgoal hσ
  refine Load.mk' h4 (Nat.le_refl _) ?_
  refine CallK.pure hlev ?_
  refine Test.split (fun hn => ?_) (fun hn => ?_)
  · have hn : need ≤ lvlOp op := hn
    refine Load.mk' h4 (Nat.le_refl _) ?_
    refine CallK.mk' (hex _ _ _ hp1 (by omega)) ?_
    rintro e σ2 ⟨rfl, hp2, k2⟩
    rw [show par need (lvlOp op, P) = P from if_pos hn]
    exact Ret.mk' ⟨rfl, hp2, k1.trans k2⟩
  · have hn : ¬ need ≤ lvlOp op := hn
    rw [show par need (lvlOp op, P) = ([sgT [40]] ++ P.1 ++ [sgT [41]], P.2) from if_neg hn]
    refine CallK.mk' (signs_call hp1 (by omega) _ _) ?_
    rintro e σ2 ⟨rfl, hp2, k2⟩
    refine Load.mk' (k2 _ _ (Ne.symm np) h4) (Nat.le_refl _) ?_
    refine CallK.mk' (hex _ _ _ hp2 (by simp only [List.length_append, List.length_cons, List.length_nil]; omega)) ?_
    rintro e σ3 ⟨rfl, hp3, k3⟩
    refine CallK.mk' (signs_call hp3 (by simp only [List.length_append, List.length_cons, List.length_nil]; omega) _ _) ?_
    rintro e σ4 ⟨rfl, hp4, k4⟩
    refine Ret.mk' ⟨rfl, ?_, ((k1.trans k2).trans k3).trans k4⟩
    simpa only [List.append_assoc] using hp4
end Go.Shadow.Lex

/- Proved: what the printer's expr does, as a shadow contract. Conditions: as each theorem says. -/
namespace Go.Shadow.Lex
open Go Go.RowKit Go.Proofs

theorem commaP_snoc : ∀ (f : Bool) (l : List (Int × PT)) (k : Int × PT), commaP f (l ++ [k]) = catP (commaP f l) (if f = true ∧ l = [] then par 0 k else catP (sgP [44]) (par 0 k))
  | f, [], k => by cases f <;> simp [commaP, catP]
  | f, x :: l, k => by
    simp only [List.cons_append, commaP, commaP_snoc false l k]
    cases f <;> simp [catP, List.append_assoc, Bool.or_assoc]
theorem exNs_take : ∀ {l : List Ex} {i : Nat} {x : Ex}, l[i]? = some x → exNs (l.take i) + exN x ≤ exNs l
  | e :: r, 0, x, h => by simp at h; subst h; simp [exNs]
  | e :: r, i + 1, x, h => by
    have := exNs_take (l := r) (i := i) (x := x) (by simpa using h)
    simp [exNs]; omega
theorem commaP_prKs_len (l : List Ex) : (commaP true (prKs l)).1.length ≤ 8 * exNs l := by
  refine commaP_len _ _ _ (fun _ _ => trivial) ?_
  rw [prKs_map, List.map_map, ← exNs_sum]
  refine sum_le fun k _ => ?_
  have := prE_len _ k (Nat.le_refl _)
  simp only [Function.comp_apply]
  omega
theorem par_prE_len (need : Int) (k : Ex) : (par need (lvlOp k.op, prE k)).1.length + 2 ≤ 8 * exN k := by
  have h1 := par_len need (lvlOp k.op, prE k)
  have h2 := prE_len _ k (Nat.le_refl _)
  simp only at h1
  omega

theorem opIdx_find (op : Int) : (opIdx (fun o => o.2.1 == op) = -1 ∧ opFind op = none) ∨ ∃ (k : Nat) (o : List UInt8 × Int × Nat), opIdx (fun o => o.2.1 == op) = k ∧ opsT[k]? = some o ∧ opFind op = some o := by
  unfold opIdx
  cases hf : opsT.findIdx? fun o => o.2.1 == op with
  | none =>
    refine .inl ⟨rfl, ?_⟩
    unfold opFind
    rw [List.find?_eq_none]
    intro o ho
    have := List.findIdx?_eq_none_iff.1 hf o ho
    simpa using this
  | some k =>
    rw [List.findIdx?_eq_some_iff_getElem] at hf
    obtain ⟨hk, h1, h2⟩ := hf
    refine .inr ⟨k, opsT[k], rfl, List.getElem?_eq_getElem hk, ?_⟩
    refine opFind_some (List.getElem?_eq_getElem hk) (by simpa using h1) fun j hj o ho => ?_
    have := h2 j hj
    obtain ⟨hjl, he⟩ := List.getElem?_eq_some_iff.1 ho
    rw [he] at this
    simpa using this
theorem opSame_call {σ : St} {b3 : Nat} {x : Ex} (h3 : σ.box b3 = some (exV x)) (o : List UInt8 × Int × Nat) :
    SCall Tryz.prog LG 71 ([] ++ [.agg (opV o)] ++ [.loc b3 0]) σ fun e σ' => e = .ret (.bool (o.2.1 == x.op)) ∧ Over σ σ' := by
  obtain ⟨op, n, s, kids, a⟩ := x
  refine code71.call hm (by simp) ?_
  refine ⟨rfl, ?_⟩
  intro b hb
  have n3 := box_ne h3 hb
  refine Load.mk' put_box (by simp [V.cells, opV]) ?_
  refine Load.mk' (by rw [put_ne n3]; exact h3) (by simp [exV]) ?_
  refine Test.split (fun h => ?_) (fun h => ?_)
  · refine Ret.mk' ⟨?_, over_put (.refl _) hb⟩
    have h : o.2.1 = op := h
    simp [Ex.op, h]
  · refine Ret.mk' ⟨?_, over_put (.refl _) hb⟩
    have h : ¬ o.2.1 = op := h
    simp [Ex.op, h]

theorem kid_get {kids : List Ex} {i : Nat} {x : Ex} (h : kids[i]? = some x) : (exVs kids)[i]? = some (exV x) := by rw [exVs_map]; simp [h]
theorem exVs_len (kids : List Ex) : (exVs kids).length = kids.length := by rw [exVs_map]; simp

set_option maxHeartbeats 2000000 in
set_option maxRecDepth 4000 in
theorem exprPr_walk {m : Nat} (ih : ∀ k, k < m → PrTo k) {σ0 σ : St} {p : Nat} {toks : List Tok} {bad : Bool} {x : Ex} (hm1 : 2 * exN x ≤ m) (hS : exS x) (hp : PrI σ0 σ p toks bad) (hl : toks.length + 8 * exN x ≤ 1000000) :
    SCall Tryz.prog LG 42 [.loc p 0, .agg (exV x)] σ (Prs σ0 σ p (toks ++ (prE x).1) (bad || (prE x).2)) := by
  obtain ⟨op, n, s, kids, a⟩ := x
  simp only [exN] at hm1 hl
  simp only [exS] at hS
  have hopd : ∀ (σ : St) (toks : List Tok) (bad : Bool) (x : Ex) (need : Int), x ∈ kids → PrI σ0 σ p toks bad → toks.length + 8 * exN x + 2 ≤ 1000000 → SCall Tryz.prog LG 68 [.loc p 0, .agg (exV x), .int .i64 need] σ (Prs σ0 σ p (toks ++ (par need (lvlOp x.op, prE x)).1) (bad || (par need (lvlOp x.op, prE x)).2)) :=
    fun σ toks bad x need hx hp hl => (ih (m - 1) (by omega)).operand σ0 σ p toks bad x need (by have := exNs_mem hx; omega) (exSs_mem hS.2 hx) hp hl
  refine code42.call hm (by simp) ?_
  refine ⟨rfl, ?_⟩
  intro b3 hb3
  have np3 := hp.ne hb3
  have hp1 := hp.new (cs := exV (.mk op n s kids a)) hb3
  have k1 : Kp p σ (σ.put b3 (exV (.mk op n s kids a))) := (Kp.refl p σ).new hb3
  have h31 : (σ.put b3 (exV (.mk op n s kids a))).box b3 = some (exV (.mk op n s kids a)) := put_box
  generalize hσ : σ.put b3 (exV (.mk op n s kids a)) = σ1 at hp1 k1 h31
  have hgoal : ∀ {G : St → Prop}, G σ1 → G (σ.put b3 (exV (.mk op n s kids a))) := fun h => by rw [hσ]; exact h
  refine hgoal ?_
  clear hgoal hσ
  intro r hr
  have f : σ0.map r = none := by
    cases h : σ0.map r with
    | none => rfl
    | some m => have := hp1.over.map r m h; rw [hr] at this; cases this
  refine MIns.mk' (es := []) (by simp [St.putm]) ⟨rfl, rfl, rfl⟩ (fun σa ea => ?_)
  refine MIns.mk' (es := [(.int .i64 5, .int .i64 1)]) (by rw [ea]; simp [St.putm]) ⟨rfl, rfl, rfl⟩ (fun σb eb => ?_)
  refine MIns.mk' (es := [(.int .i64 5, .int .i64 1), (.int .i64 6, .int .i64 1)]) (by rw [eb]; simp [St.putm]) ⟨rfl, rfl, rfl⟩ (fun σc ec => ?_)
  have hp2 : PrI σ0 σc p toks bad := by rw [ec, eb, ea]; exact (((hp1.putm f).putm f).putm f).putm f
  have h3 : σc.box b3 = some (exV (.mk op n s kids a)) := by rw [ec, eb, ea]; exact h31
  have kc : Kp p σ σc := by rw [ec, eb, ea]; exact k1
  have hmap : σc.map r = some [(.int .i64 5, .int .i64 1), (.int .i64 6, .int .i64 1), (.int .i64 20, .int .i64 3)] := by rw [ec]; simp [St.putm]
  clear ea eb ec h31 hp1 k1 hp hb3
  refine Load.mk' h3 (by simp [exV]) ?_
  refine Test.split (fun h1 => ?_) (fun h1 => ?_)
  · refine Load.mk' h3 (by simp [exV]) ?_
    refine CallK.mk' (numberPr_call hp2 (by omega) n) ?_
    rintro e σ2 ⟨rfl, hp3, k3⟩
    have hP : prE (.mk op n s kids a) = ([⟨2, 0, [], n⟩], decide (n < 0) || decide (999999999999999 < n)) := if_pos h1
    rw [hP]
    exact Ret.mk' ⟨rfl, hp3, kc.trans k3⟩
  refine Test.split (fun h2 => ?_) (fun h2 => ?_)
  · refine Load.mk' h3 (by simp [exV]) ?_
    refine CallK.mk' (textPr_call hp2 (by omega) s hS.1) ?_
    rintro e σ2 ⟨rfl, hp3, k3⟩
    have hP : prE (.mk op n s kids a) = ([⟨3, 0, s, 0⟩], textBad s) := (if_neg h1).trans (if_pos h2)
    rw [hP]
    exact Ret.mk' ⟨rfl, hp3, kc.trans k3⟩
  refine Test.split (fun h3' => ?_) (fun h3' => ?_)
  · refine Load.mk' h3 (by simp [exV]) ?_
    refine CallK.mk' (namePr_call hp2 (by omega) s hS.1) ?_
    rintro e σ2 ⟨rfl, hp3, k3⟩
    have hP : prE (.mk op n s kids a) = ([⟨1, 0, s, 0⟩], !nameOK s) := (if_neg h1).trans ((if_neg h2).trans (if_pos h3'))
    rw [hP]
    exact Ret.mk' ⟨rfl, hp3, kc.trans k3⟩
  refine Test.split (fun h4 => ?_) (fun h4 => ?_)
  · have hP : prE (.mk op n s kids a) = catP (catP (catP ([⟨1, 0, s, 0⟩], !nameOK s) (sgP [40])) (commaP true (prKs kids))) (sgP [41]) := (if_neg h1).trans ((if_neg h2).trans ((if_neg h3').trans (if_pos h4)))
    rw [hP]
    clear hmap
    refine Load.mk' h3 (by simp [exV]) ?_
    refine CallK.mk' (namePr_call hp2 (by omega) s hS.1) ?_
    rintro e σ2 ⟨rfl, hp3, k3⟩
    refine CallK.mk' (signs_call hp3 (by simp only [List.length_append, List.length_cons, List.length_nil]; omega) _ _) ?_
    rintro e σ3 ⟨rfl, hp4, k4⟩
    have kk := (kc.trans k3).trans k4
    have h34 := k4 _ _ (Ne.symm np3) (k3 _ _ (Ne.symm np3) h3)
    refine Load.mk' h34 (by simp [exV]) ?_
    have hcl := commaP_prKs_len kids
    have hel := exNs_len kids
    refine ⟨fun q sl σ' => ∃ i : Nat, sl = ofL [(0, some (.loc p 0)), (87, some (.slice .foreign 5 (exVs kids))), (88, some (.int .i64 kids.length)), (89, some (.int .i64 i))] ∧ PrI σ0 σ' p ((toks ++ [⟨1, 0, s, 0⟩] ++ [sgT [40]]) ++ (commaP true (prKs (kids.take i))).1) ((bad || !nameOK s) || (commaP true (prKs (kids.take i))).2) ∧ Kp p σ σ' ∧ i ≤ kids.length ∧ q = kids.length - i,
      _, ⟨0, by rw [← exVs_len kids]; rfl, by simpa [prKs, commaP] using hp4, kk, Nat.zero_le _, rfl⟩, ?_⟩
    clear hp2 hp3 hp4 k3 k4 kk h3 h34 kc
    rintro q sl σ' ⟨i, rfl, hpi, ki, hi, rfl⟩
    refine Test.split (fun hlt => ?_) (fun hlt => ?_)
    · have hlt : i < kids.length := by omega
      obtain ⟨x, hx⟩ : ∃ x, kids[i]? = some x := ⟨_, List.getElem?_eq_getElem hlt⟩
      have hxm := List.mem_of_getElem? hx
      have hxt := exNs_take hx
      have hcti := commaP_prKs_len (kids.take i)
      have hms : kids.length - (i + 1) < kids.length - i := by omega
      have htake : prKs (kids.take (i + 1)) = prKs (kids.take i) ++ [(lvlOp x.op, prE x)] := by
        rw [prKs_map, prKs_map, List.take_add_one, hx]; simp
      have hemp : prKs (kids.take i) = [] ↔ i = 0 := by
        rw [prKs_map]
        simp only [List.map_eq_nil_iff, List.take_eq_nil_iff]
        constructor
        · rintro (h | h)
          · exact h
          · rw [h] at hlt; simp at hlt
        · exact .inl
      have hgx := kid_get hx
      have hopx := fun σ toks bad hp hl => hopd σ toks bad x 0 hxm hp hl
      have hkp : (par 0 (lvlOp x.op, prE x)).1.length + 2 ≤ 8 * exN x := par_prE_len 0 x
      generalize hPX : par 0 (lvlOp x.op, prE x) = PX at hopx hkp
      have hsn := commaP_snoc true (prKs (kids.take i)) (lvlOp x.op, prE x)
      rw [← htake, hPX] at hsn
      generalize hN : exN x = N at hxt hopx hkp
      obtain ⟨op', n', s', kids', a'⟩ := x
      refine Sure.mk' (.inl rfl) ?_
      refine IdxE.mk' i _ rfl hgx ?_
      refine ⟨by simp [exV], ?_⟩
      intro b6 hb6
      have np6 := hpi.ne hb6
      refine Sure.mk' rfl ?_
      refine Store.mk' (exV (.mk op' n' s' kids' a')) put_box (Nat.le_refl _) rfl (fun σ2 e2 => ?_)
      rw [put_put] at e2
      have hp2 : PrI σ0 σ2 p ((toks ++ [⟨1, 0, s, 0⟩] ++ [sgT [40]]) ++ (commaP true (prKs (kids.take i))).1) ((bad || !nameOK s) || (commaP true (prKs (kids.take i))).2) := by rw [e2]; exact hpi.new hb6
      have k2 : Kp p σ σ2 := by rw [e2]; exact ki.new hb6
      have h62 : σ2.box b6 = some (exV (.mk op' n' s' kids' a')) := by rw [e2]; exact put_box
      clear e2 hb6 hpi ki
      refine Test.split (fun h0 => ?_) (fun h0 => ?_)
      · have h0 : 0 < i := by omega
        refine CallK.mk' (signs_call hp2 (by simp only [List.length_append, List.length_cons, List.length_nil]; omega) _ _) ?_
        rintro e σ3 ⟨rfl, hp3, k3⟩
        refine Load.mk' (k3 _ _ (Ne.symm np6) h62) (Nat.le_refl _) ?_
        refine CallK.mk' (hopx _ _ _ hp3 (by simp only [List.length_append, List.length_cons, List.length_nil]; omega)) ?_
        rintro e σ4 ⟨rfl, hp4, k4⟩
        refine Arith.i64 ((i + 1 : Nat) : Int) (by simp) (by omega) ?_
        refine ⟨_, _, hms, Forget.refl _, i + 1, rfl, ?_, (k2.trans k3).trans k4, by omega, rfl⟩
        rw [hsn, if_neg (by rintro ⟨_, h⟩; rw [hemp] at h; omega)]
        simpa [catP, sgP, List.append_assoc, Bool.or_assoc] using hp4
      · have h0 : i = 0 := by omega
        refine Load.mk' h62 (Nat.le_refl _) ?_
        refine CallK.mk' (hopx _ _ _ hp2 (by simp only [List.length_append, List.length_cons, List.length_nil]; omega)) ?_
        rintro e σ4 ⟨rfl, hp4, k4⟩
        refine Arith.i64 ((i + 1 : Nat) : Int) (by simp) (by omega) ?_
        refine ⟨_, _, hms, Forget.refl _, i + 1, rfl, ?_, k2.trans k4, by omega, rfl⟩
        rw [hsn, if_pos ⟨rfl, hemp.2 h0⟩]
        simpa [catP, sgP, List.append_assoc, Bool.or_assoc] using hp4
    · have hik : i = kids.length := by omega
      subst hik
      rw [List.take_length] at hpi
      refine CallK.mk' (signs_call hpi (by simp only [List.length_append, List.length_cons, List.length_nil]; omega) _ _) ?_
      rintro e σ3 ⟨rfl, hp3, k3⟩
      refine Ret.mk' ⟨rfl, ?_, ki.trans k3⟩
      simpa [catP, sgP, List.append_assoc, Bool.or_assoc] using hp3
  have hrest : ∀ (a b : PT), (if op = 1 then ([(⟨2, 0, [], n⟩ : Tok)], decide (n < 0) || decide (999999999999999 < n)) else if op = 2 then ([⟨3, 0, s, 0⟩], textBad s) else if op = 3 then ([⟨1, 0, s, 0⟩], !nameOK s) else if op = 4 then a else b) = b :=
    fun a b => (if_neg h1).trans ((if_neg h2).trans ((if_neg h3').trans (if_neg h4)))
  refine Test.split (fun h5 => ?_) (fun h5 => ?_)
  · have hP : prE (.mk op n s kids a) = (match prKs kids with
      | [a] => catP (sgP [33]) (par 3 a)
      | _ => ([], true)) := (hrest _ _).trans (if_pos h5)
    refine Load.mk' h3 (by simp [exV]) ?_
    refine Load.mk' h3 (by simp [exV]) ?_
    have h5' : op = 5 := h5
    subst h5'
    refine MLook.mk' (v := .int .i64 1) hmap rfl rfl ?_
    refine Test.split (fun hk => ?_) (fun hk => ?_)
    · have hP' : prE (.mk 5 n s kids a) = ([], true) := by
        rw [hP, prKs_map]
        match kids, hk with
        | [], _ => rfl
        | [k], hk => exact absurd rfl hk
        | _ :: _ :: _, _ => rfl
      obtain ⟨u, hu, hv⟩ := hp2.setbad
      refine Sure.mk' rfl ?_
      refine Store.mk' [u, .bool true] hu (by simp [V.cells]) rfl (fun σ9 e9 => ?_)
      refine Ret.mk' ⟨rfl, ?_, by rw [e9]; exact Kp.putp kc⟩
      rw [e9, hP']
      simpa using hv true
    · obtain ⟨k, rfl⟩ : ∃ k, kids = [k] := by
        match kids, hk with
        | [], hk => exact absurd (by decide) hk
        | [k], _ => exact ⟨k, rfl⟩
        | _ :: _ :: r, hk => exfalso; apply hk; rw [exVs_len]; simp; omega
      rw [hP]
      simp only [exNs] at hl
      refine Load.mk' h3 (by simp [exV]) ?_
      refine Test.yes rfl ?_
      refine CallK.mk' (signs_call hp2 (by omega) _ _) ?_
      rintro e σ3 ⟨rfl, hp3, k3⟩
      have hop1 := fun σ toks bad hp hl => hopd σ toks bad k 3 (by simp) hp hl
      have hg := kid_get (kids := [k]) (i := 0) (x := k) rfl
      have h33 := k3 _ _ (Ne.symm np3) h3
      simp only [prKs]
      generalize hPX : par 3 (lvlOp k.op, prE k) = PX at hop1
      generalize hN : exN k = N at hl hop1
      obtain ⟨op', n', s', kids', a'⟩ := k
      refine Load.mk' h33 (by simp [exV]) ?_
      refine Sure.mk' (.inl rfl) ?_
      refine IdxE.mk' 0 _ rfl hg ?_
      refine ⟨by simp [exV], ?_⟩
      refine CallK.mk' (hop1 _ _ _ hp3 (by simp only [List.length_append, List.length_cons, List.length_nil]; omega)) ?_
      rintro e σ4 ⟨rfl, hp4, k4⟩
      refine Ret.mk' ⟨rfl, ?_, (kc.trans k3).trans k4⟩
      simpa [catP, sgP, List.append_assoc, Bool.or_assoc] using hp4
  refine Test.split (fun h6 => ?_) (fun h6 => ?_)
  · have hP : prE (.mk op n s kids a) = (match prKs kids with
      | [a] => catP (sgP [45]) (par 7 a)
      | _ => ([], true)) := (hrest _ _).trans ((if_neg h5).trans (if_pos h6))
    refine Load.mk' h3 (by simp [exV]) ?_
    refine Load.mk' h3 (by simp [exV]) ?_
    have h6' : op = 6 := h6
    subst h6'
    refine MLook.mk' (v := .int .i64 1) hmap rfl rfl ?_
    refine Test.split (fun hk => ?_) (fun hk => ?_)
    · have hP' : prE (.mk 6 n s kids a) = ([], true) := by
        rw [hP, prKs_map]
        match kids, hk with
        | [], _ => rfl
        | [k], hk => exact absurd rfl hk
        | _ :: _ :: _, _ => rfl
      obtain ⟨u, hu, hv⟩ := hp2.setbad
      refine Sure.mk' rfl ?_
      refine Store.mk' [u, .bool true] hu (by simp [V.cells]) rfl (fun σ9 e9 => ?_)
      refine Ret.mk' ⟨rfl, ?_, by rw [e9]; exact Kp.putp kc⟩
      rw [e9, hP']
      simpa using hv true
    · obtain ⟨k, rfl⟩ : ∃ k, kids = [k] := by
        match kids, hk with
        | [], hk => exact absurd (by decide) hk
        | [k], _ => exact ⟨k, rfl⟩
        | _ :: _ :: r, hk => exfalso; apply hk; rw [exVs_len]; simp; omega
      rw [hP]
      simp only [exNs] at hl
      refine Load.mk' h3 (by simp [exV]) ?_
      refine Test.no (by decide) ?_
      refine Test.yes rfl ?_
      refine CallK.mk' (signs_call hp2 (by omega) _ _) ?_
      rintro e σ3 ⟨rfl, hp3, k3⟩
      have hop1 := fun σ toks bad hp hl => hopd σ toks bad k 7 (by simp) hp hl
      have hg := kid_get (kids := [k]) (i := 0) (x := k) rfl
      have h33 := k3 _ _ (Ne.symm np3) h3
      simp only [prKs]
      generalize hPX : par 7 (lvlOp k.op, prE k) = PX at hop1
      generalize hN : exN k = N at hl hop1
      obtain ⟨op', n', s', kids', a'⟩ := k
      refine Load.mk' h33 (by simp [exV]) ?_
      refine Sure.mk' (.inl rfl) ?_
      refine IdxE.mk' 0 _ rfl hg ?_
      refine ⟨by simp [exV], ?_⟩
      refine CallK.mk' (hop1 _ _ _ hp3 (by simp only [List.length_append, List.length_cons, List.length_nil]; omega)) ?_
      rintro e σ4 ⟨rfl, hp4, k4⟩
      refine Ret.mk' ⟨rfl, ?_, (kc.trans k3).trans k4⟩
      simpa [catP, sgP, List.append_assoc, Bool.or_assoc] using hp4
  refine Test.split (fun h20 => ?_) (fun h20 => ?_)
  · have hP : prE (.mk op n s kids a) = (match prKs kids with
      | [a, b, c] => catP (catP (catP (catP (par 1 a) (sgP [63])) (par 0 b)) (sgP [58])) (par 0 c)
      | _ => ([], true)) := (hrest _ _).trans ((if_neg h5).trans ((if_neg h6).trans (if_pos h20)))
    refine Load.mk' h3 (by simp [exV]) ?_
    refine Load.mk' h3 (by simp [exV]) ?_
    have h20' : op = 20 := h20
    subst h20'
    refine MLook.mk' (v := .int .i64 3) hmap rfl rfl ?_
    refine Test.split (fun hk => ?_) (fun hk => ?_)
    · have hP' : prE (.mk 20 n s kids a) = ([], true) := by
        rw [hP, prKs_map]
        match kids, hk with
        | [], _ => rfl
        | [_], _ => rfl
        | [_, _], _ => rfl
        | [_, _, _], hk => exact absurd rfl hk
        | _ :: _ :: _ :: _ :: _, _ => rfl
      obtain ⟨u, hu, hv⟩ := hp2.setbad
      refine Sure.mk' rfl ?_
      refine Store.mk' [u, .bool true] hu (by simp [V.cells]) rfl (fun σ9 e9 => ?_)
      refine Ret.mk' ⟨rfl, ?_, by rw [e9]; exact Kp.putp kc⟩
      rw [e9, hP']
      simpa using hv true
    · obtain ⟨ka, kb, kd, rfl⟩ : ∃ ka kb kd, kids = [ka, kb, kd] := by
        match kids, hk with
        | [], hk => exact absurd (by decide) hk
        | [_], hk => exfalso; apply hk; rw [exVs_len]; simp
        | [_, _], hk => exfalso; apply hk; rw [exVs_len]; simp
        | [ka, kb, kd], _ => exact ⟨ka, kb, kd, rfl⟩
        | _ :: _ :: _ :: _ :: r, hk => exfalso; apply hk; rw [exVs_len]; simp; omega
      rw [hP]
      simp only [exNs] at hl
      refine Load.mk' h3 (by simp [exV]) ?_
      refine Test.no (by decide) ?_
      refine Test.no (by decide) ?_
      have hop1 := fun σ toks bad hp hl => hopd σ toks bad ka 1 (by simp) hp hl
      have hop2 := fun σ toks bad hp hl => hopd σ toks bad kb 0 (by simp) hp hl
      have hop3 := fun σ toks bad hp hl => hopd σ toks bad kd 0 (by simp) hp hl
      have l1 := par_prE_len 1 ka
      have l2 := par_prE_len 0 kb
      have hg1 := kid_get (kids := [ka, kb, kd]) (i := 0) (x := ka) rfl
      have hg2 := kid_get (kids := [ka, kb, kd]) (i := 1) (x := kb) rfl
      have hg3 := kid_get (kids := [ka, kb, kd]) (i := 2) (x := kd) rfl
      simp only [prKs]
      generalize hPX1 : par 1 (lvlOp ka.op, prE ka) = PX1 at hop1 l1
      generalize hPX2 : par 0 (lvlOp kb.op, prE kb) = PX2 at hop2 l2
      generalize hPX3 : par 0 (lvlOp kd.op, prE kd) = PX3 at hop3
      generalize hN1 : exN ka = N1 at hl hop1 l1
      generalize hN2 : exN kb = N2 at hl hop2 l2
      generalize hN3 : exN kd = N3 at hl hop3
      obtain ⟨op1, n1, s1, kids1, a1⟩ := ka
      obtain ⟨op2, n2, s2, kids2, a2⟩ := kb
      obtain ⟨op3, n3, s3, kids3, a3⟩ := kd
      refine Load.mk' h3 (by simp [exV]) ?_
      refine Sure.mk' (.inl rfl) ?_
      refine IdxE.mk' 0 _ rfl hg1 ?_
      refine ⟨by simp [exV], ?_⟩
      refine CallK.mk' (hop1 _ _ _ hp2 (by omega)) ?_
      rintro e σ3 ⟨rfl, hp3, k3⟩
      refine CallK.mk' (signs_call hp3 (by simp only [List.length_append, List.length_cons, List.length_nil]; omega) _ _) ?_
      rintro e σ4 ⟨rfl, hp4, k4⟩
      have k34 := k3.trans k4
      refine Load.mk' (k34 _ _ (Ne.symm np3) h3) (by simp [exV]) ?_
      refine Sure.mk' (.inl rfl) ?_
      refine IdxE.mk' 1 _ rfl hg2 ?_
      refine ⟨by simp [exV], ?_⟩
      refine CallK.mk' (hop2 _ _ _ hp4 (by simp only [List.length_append, List.length_cons, List.length_nil]; omega)) ?_
      rintro e σ5 ⟨rfl, hp5, k5⟩
      refine CallK.mk' (signs_call hp5 (by simp only [List.length_append, List.length_cons, List.length_nil]; omega) _ _) ?_
      rintro e σ6 ⟨rfl, hp6, k6⟩
      have k36 := (k34.trans k5).trans k6
      refine Load.mk' (k36 _ _ (Ne.symm np3) h3) (by simp [exV]) ?_
      refine Sure.mk' (.inl rfl) ?_
      refine IdxE.mk' 2 _ rfl hg3 ?_
      refine ⟨by simp [exV], ?_⟩
      refine CallK.mk' (hop3 _ _ _ hp6 (by simp only [List.length_append, List.length_cons, List.length_nil]; omega)) ?_
      rintro e σ7 ⟨rfl, hp7, k7⟩
      refine Ret.mk' ⟨rfl, ?_, (kc.trans k36).trans k7⟩
      simpa [catP, sgP, List.append_assoc, Bool.or_assoc] using hp7
  have hP : prE (.mk op n s kids a) = (match opFind op with
    | none => ([], true)
    | some o => match prKs kids with
      | [a, b] => catP (catP (par (if o.2.2 = 4 then 5 else o.2.2) a) (sgP o.1)) (par (max (if o.2.2 = 4 then 5 else o.2.2) (o.2.2 + 1)) b)
      | _ => ([], true)) := (hrest _ _).trans ((if_neg h5).trans ((if_neg h6).trans (if_neg h20)))
  refine CallK.pure operators_ret ?_
  refine CallK.mk' (index_call (fun o => o.2.1 == op) (fun σ2 ho o => opSame_call (x := .mk op n s kids a) (ho.box _ _ h3) o)) ?_
  rintro e σ2 ⟨rfl, o2⟩
  have h32 := o2.box _ _ h3
  have hp2 := hp2.over' o2
  have kc : Kp p σ σ2 := kc.trans (Kp.over o2)
  clear hmap h3 o2
  rcases opIdx_find op with ⟨hi, hof⟩ | ⟨ki, o, hi, hok, hof⟩
  · rw [hi]
    refine Test.yes (by decide) ?_
    have hP' : prE (.mk op n s kids a) = ([], true) := by rw [hP, hof]
    obtain ⟨u, hu, hv⟩ := hp2.setbad
    refine Sure.mk' rfl ?_
    refine Store.mk' [u, .bool true] hu (by simp [V.cells]) rfl (fun σ9 e9 => ?_)
    refine Ret.mk' ⟨rfl, ?_, by rw [e9]; exact Kp.putp kc⟩
    rw [e9, hP']
    simpa using hv true
  rw [hi]
  refine Test.no (by omega) ?_
  refine Load.mk' h32 (by simp [exV]) ?_
  refine Test.split (fun hk => ?_) (fun hk => ?_)
  · have hP' : prE (.mk op n s kids a) = ([], true) := by
      rw [hP, hof, prKs_map]
      match kids, hk with
      | [], _ => rfl
      | [_], _ => rfl
      | [_, _], hk => exact absurd rfl hk
      | _ :: _ :: _ :: _, _ => rfl
    obtain ⟨u, hu, hv⟩ := hp2.setbad
    refine Sure.mk' rfl ?_
    refine Store.mk' [u, .bool true] hu (by simp [V.cells]) rfl (fun σ9 e9 => ?_)
    refine Ret.mk' ⟨rfl, ?_, by rw [e9]; exact Kp.putp kc⟩
    rw [e9, hP']
    simpa using hv true
  obtain ⟨ka, kb, rfl⟩ : ∃ ka kb, kids = [ka, kb] := by
    match kids, hk with
    | [], hk => exact absurd (by decide) hk
    | [_], hk => exfalso; apply hk; rw [exVs_len]; simp
    | [ka, kb], _ => exact ⟨ka, kb, rfl⟩
    | _ :: _ :: _ :: r, hk => exfalso; apply hk; rw [exVs_len]; simp; omega
  rw [hP, hof]
  simp only [exNs] at hl
  have hlv : (o.2.2 : Int) ≤ 6 ∧ 0 ≤ (o.2.2 : Int) := by
    have : ∀ o ∈ opsT, (o.2.2 : Int) ≤ 6 ∧ 0 ≤ (o.2.2 : Int) := by decide
    exact this o (List.mem_of_getElem? hok)
  refine CallK.pure operators_ret ?_
  refine Sure.mk' (.inl rfl) ?_
  refine IdxE.mk' ki (opV o) rfl (by simp [hok]) ?_
  refine ⟨by simp [opV], ?_⟩
  intro b8 hb8
  have np8 := hp2.ne hb8
  refine Sure.mk' rfl ?_
  refine Store.mk' (opV o) put_box (by simp [V.cells, opV]) (by simp [setL, V.cells, opV]) (fun σ3 e3 => ?_)
  rw [put_put] at e3
  have q3 := over_put (cs := opV o) (Over.refl _) hb8
  rw [← e3] at q3
  have hp3 := hp2.over' q3
  have kc : Kp p σ σ3 := kc.trans (Kp.over q3)
  have h33 := q3.box _ _ h32
  have h83 : σ3.box b8 = some (opV o) := by rw [e3]; exact put_box
  clear e3 q3 hb8 h32 hp2
  have hop1 := fun (l : Int) σ toks bad hp hl => hopd σ toks bad ka l (by simp) hp hl
  have hop2 := fun (l : Int) σ toks bad hp hl => hopd σ toks bad kb l (by simp) hp hl
  have l1 := fun l => par_prE_len l ka
  have hg1 := kid_get (kids := [ka, kb]) (i := 0) (x := ka) rfl
  have hg2 := kid_get (kids := [ka, kb]) (i := 1) (x := kb) rfl
  simp only [prKs]
  generalize hPX1 : (lvlOp ka.op, prE ka) = PX1 at hop1 l1
  generalize hPX2 : (lvlOp kb.op, prE kb) = PX2 at hop2
  generalize hN1 : exN ka = N1 at hl hop1 l1
  generalize hN2 : exN kb = N2 at hl hop2
  obtain ⟨op1, n1, s1, kids1, a1⟩ := ka
  obtain ⟨op2, n2, s2, kids2, a2⟩ := kb
  refine Load.mk' h83 (by simp [opV]) ?_
  refine Test.split (fun h4' => ?_) (fun h4' => ?_)
  · have hleft : (if o.2.2 = 4 then (5 : Int) else o.2.2) = 5 := if_pos (by have h4' : (o.2.2 : Int) = 4 := h4'; omega)
    rw [hleft]
    have l1' := l1 (5)
    refine Load.mk' h33 (by simp [exV]) ?_
    refine Sure.mk' (.inl rfl) ?_
    refine IdxE.mk' 0 _ rfl hg1 ?_
    refine ⟨by simp [exV], ?_⟩
    refine CallK.mk' (hop1 (5) _ _ _ hp3 (by omega)) ?_
    rintro e σ4 ⟨rfl, hp4, k4⟩
    refine Load.mk' (k4 _ _ (Ne.symm np8) h83) (by simp [opV]) ?_
    refine CallK.mk' (signs_call hp4 (by simp only [List.length_append, List.length_cons, List.length_nil]; omega) _ _) ?_
    rintro e σ5 ⟨rfl, hp5, k5⟩
    have k45 := k4.trans k5
    refine Load.mk' (k45 _ _ (Ne.symm np3) h33) (by simp [exV]) ?_
    refine Sure.mk' (.inl rfl) ?_
    refine IdxE.mk' 1 _ rfl hg2 ?_
    refine ⟨by simp [exV], ?_⟩
    refine Load.mk' (k45 _ _ (Ne.symm np8) h83) (by simp [opV]) ?_
    refine Arith.i64 ((o.2.2 : Int) + 1) rfl (by omega) ?_
    have hmax : (if (o.2.2 : Int) + 1 > (5) then (o.2.2 : Int) + 1 else (5)) = max (5) ((o.2.2 : Int) + 1) := by omega
    refine CallK.mk' (hop2 (if (o.2.2 : Int) + 1 > (5) then (o.2.2 : Int) + 1 else (5)) _ _ _ hp5 (by simp only [List.length_append, List.length_cons, List.length_nil]; omega)) ?_
    rintro e σ6 ⟨rfl, hp6, k6⟩
    refine Ret.mk' ⟨rfl, ?_, (kc.trans k45).trans k6⟩
    rw [hmax] at hp6
    simpa [catP, sgP, List.append_assoc, Bool.or_assoc] using hp6
  · have hleft : (if o.2.2 = 4 then (5 : Int) else o.2.2) = o.2.2 := if_neg (by have h4' : ¬ (o.2.2 : Int) = 4 := h4'; omega)
    rw [hleft]
    have l1' := l1 ((o.2.2 : Int))
    refine Load.mk' h33 (by simp [exV]) ?_
    refine Sure.mk' (.inl rfl) ?_
    refine IdxE.mk' 0 _ rfl hg1 ?_
    refine ⟨by simp [exV], ?_⟩
    refine CallK.mk' (hop1 ((o.2.2 : Int)) _ _ _ hp3 (by omega)) ?_
    rintro e σ4 ⟨rfl, hp4, k4⟩
    refine Load.mk' (k4 _ _ (Ne.symm np8) h83) (by simp [opV]) ?_
    refine CallK.mk' (signs_call hp4 (by simp only [List.length_append, List.length_cons, List.length_nil]; omega) _ _) ?_
    rintro e σ5 ⟨rfl, hp5, k5⟩
    have k45 := k4.trans k5
    refine Load.mk' (k45 _ _ (Ne.symm np3) h33) (by simp [exV]) ?_
    refine Sure.mk' (.inl rfl) ?_
    refine IdxE.mk' 1 _ rfl hg2 ?_
    refine ⟨by simp [exV], ?_⟩
    refine Load.mk' (k45 _ _ (Ne.symm np8) h83) (by simp [opV]) ?_
    refine Arith.i64 ((o.2.2 : Int) + 1) rfl (by omega) ?_
    have hmax : (if (o.2.2 : Int) + 1 > ((o.2.2 : Int)) then (o.2.2 : Int) + 1 else ((o.2.2 : Int))) = max ((o.2.2 : Int)) ((o.2.2 : Int) + 1) := by omega
    refine CallK.mk' (hop2 (if (o.2.2 : Int) + 1 > ((o.2.2 : Int)) then (o.2.2 : Int) + 1 else ((o.2.2 : Int))) _ _ _ hp5 (by simp only [List.length_append, List.length_cons, List.length_nil]; omega)) ?_
    rintro e σ6 ⟨rfl, hp6, k6⟩
    refine Ret.mk' ⟨rfl, ?_, (kc.trans k45).trans k6⟩
    rw [hmax] at hp6
    simpa [catP, sgP, List.append_assoc, Bool.or_assoc] using hp6

theorem prTo : ∀ m, PrTo m := by
  intro m
  induction m using Nat.strongRecOn with
  | _ m ih => exact ⟨fun σ0 σ p toks bad x hm hS hp hl => exprPr_walk ih hm hS hp hl, fun σ0 σ p toks bad x need hm hS hp hl => operand_walk ih hm hS hp hl⟩
theorem exprPr_call {σ0 σ : St} {p : Nat} {toks : List Tok} {bad : Bool} {x : Ex} (hS : exS x) (hp : PrI σ0 σ p toks bad) (hl : toks.length + 8 * exN x ≤ 1000000) :
    SCall Tryz.prog LG 42 [.loc p 0, .agg (exV x)] σ (Prs σ0 σ p (toks ++ (prE x).1) (bad || (prE x).2)) := (prTo _).expr σ0 σ p toks bad x (Nat.le_refl _) hS hp hl
end Go.Shadow.Lex

/- The parser's forms, args shadow contracts. Conditions: args each theorem says. -/
namespace Go.Shadow.Lex
open Go Go.RowKit Go.Proofs

def scA0 : SC := match sc26 with
  | .seq _ (.seq _ (.seq _ (.seq _ (.seq _ (.seq _ (.seq _ r)))))) => r
  | _ => .skip
def scB0 : SC := match scA0 with
  | .seq _ r => r
  | _ => .skip
def foS (p : Nat) (d : Int) (b4 b6 : Nat) : List (Nat × Option V) := [(0, some (.loc p 0)), (1, some (.int .i64 d)), (4, some (.loc b4 0)), (6, some (.loc b6 0))]
/-- What holds in a form: the parser, the result's places. -/
structure FoI (σ0 σ : St) (p : Nat) (l : List Tok) (n : Int) (b4 b6 : Nat) : Prop where
  ps : Ps σ p l n
  fr : Fr p σ0 σ
  h4 : σ.box b4 = some noFo
  n4 : p ≠ b4
  n6 : p ≠ b6
  n46 : b4 ≠ b6
  f4 : σ0.box b4 = none
  f6 : σ0.box b6 = none
theorem FoI.fr' {σ0 σ σ' : St} {p : Nat} {l l' : List Tok} {n n' : Int} {b4 b6 : Nat} (h : FoI σ0 σ p l n b4 b6) (hf : Fr p σ σ') (hp : Ps σ' p l' n') : FoI σ0 σ' p l' n' b4 b6 :=
  ⟨hp, h.fr.trans hf, hf.box _ _ (Ne.symm h.n4) h.h4, h.n4, h.n6, h.n46, h.f4, h.f6⟩
theorem FoI.put6 {σ0 σ : St} {p : Nat} {l : List Tok} {n : Int} {b4 b6 : Nat} (h : FoI σ0 σ p l n b4 b6) (cs : List V) : FoI σ0 (σ.put b6 cs) p l n b4 b6 :=
  ⟨h.ps.put h.n6, h.fr.put (.inl h.f6), by rw [put_ne h.n46]; exact h.h4, h.n4, h.n6, h.n46, h.f4, h.f6⟩
theorem FoI.app {σ0 σ σ' : St} {p : Nat} {l : List Tok} {n : Int} {b4 b6 : Nat} (h : FoI σ0 σ p l n b4 b6) (hb : σ'.box = σ.box) (ho : Over (sans σ0) σ') : FoI σ0 σ' p l n b4 b6 :=
  ⟨h.ps.box hb, h.fr.app hb ho, by rw [hb]; exact h.h4, h.n4, h.n6, h.n46, h.f4, h.f6⟩

theorem weak_es {tag : Tag} {z s : Nat} {es : List (List V)} (hz : z = s ∨ es = []) : Weak (.slice tag z es) (.slice .foreign s es) := by
  rcases hz with rfl | rfl
  · exact weak_slice _ _ _
  · exact weak_nil _ _ _
theorem weak_fo {w : List UInt8} {args : List Ar} {bs : List Fo} {a : Int} {t1 t2 : Tag} {z1 z2 : Nat} {es1 es2 : List (List V)} (h1 : es1 = args.map arV) (h2 : es2 = bs.map foV) (hz1 : z1 = 9 ∨ es1 = []) (hz2 : z2 = 4 ∨ es2 = []) :
    Weak (.agg [.str w, .slice t1 z1 es1, .slice t2 z2 es2, .int .i64 a]) (.agg (foV (.mk w args bs a))) := by
  subst h1; subst h2
  refine weak_agg rfl (fun i y hy => ?_) (fun i x y hx hy => ?_)
  · match i, hy with
    | 0, hy | 1, hy | 2, hy | 3, hy => simp [foV] at hy; subst hy; rfl
    | _ + 4, hy => simp [foV] at hy
  · match i, hx, hy with
    | 0, hx, hy | 3, hx, hy => simp [foV] at hx hy; subst hx; subst hy; exact Weak.refl _
    | 1, hx, hy => simp [foV] at hx hy; subst hx; subst hy; exact weak_es hz1
    | 2, hx, hy => simp [foV] at hx hy; subst hx; subst hy; rw [foVs_map]; exact weak_es hz2
    | _ + 4, hx, hy => simp [foV] at hy

/-- Forms of fewer tokens are read args the grammar says. -/
def FormsTo (m : Nat) : Prop := ∀ (σ : St) (p : Nat) (l : List Tok) (n d : Int), Ps σ p l n → Ended l → 0 ≤ n → n ≤ 2000 → 0 ≤ d → d ≤ 31 → l.length ≤ m → SCall Tryz.prog LG 26 [.loc p 0, .int .i64 d] σ (ReadsF d n l p σ)

theorem len_small {α : Type} {l : List α} {m k : Nat} (h : l.length ≤ m) (hm : m ≤ 1000000) (hk : k ≤ 1000) : (l.length + (0 + 1)) * k ≤ 140737488355328 ∧ l.length + (0 + 1) ≤ 9223372036854775807 := by
  refine ⟨Nat.le_trans (Nat.mul_le_mul (show l.length + (0 + 1) ≤ 1000001 by omega) hk) (by decide), by omega⟩

theorem form_body {m : Nat} (ih : ∀ k, k < m → FormsTo k) (hm6 : m ≤ 1000000) {σ0 σ : St} {p : Nat} {l0 l : List Tok} {n n0 d : Int} {b4 b6 : Nat} (hI : FoI σ0 σ p l n b4 b6) (he : Ended l) (hl : l.length < l0.length) (hlm : l.length < m) (hn0 : 0 ≤ n) (hn : n ≤ 2000) (hd0 : 0 ≤ d) (hd1 : d ≤ 30)
    {w : List UInt8} {args : List Ar} {a : Int} {t1 : Tag} {z1 : Nat} (h6 : σ.box b6 = some [.str w, .slice t1 z1 (args.map arV), .slice .nil 0 [], .int .i64 a]) (hz1 : z1 = 9 ∨ args.map arV = [])
    (hPE : ∀ x, PF (.body w a args []) d n l x → PF .form d n0 l0 x) :
    swpE Tryz.prog LG scB0 (retE [(4, some (true, 4))] (ReadsF d n0 l0 p σ0)) (ofL (foS p d b4 b6)) σ := by
  refine ⟨fun k sl σ' => ∃ (bs : List Fo) (lc : List Tok) (nc : Int) (tag : Tag) (z : Nat), sl = ofL (foS p d b4 b6) ∧ FoI σ0 σ' p lc nc b4 b6 ∧ Ended lc ∧ lc.length ≤ l.length ∧ 0 ≤ nc ∧ nc ≤ 2000 ∧
      σ'.box b6 = some [.str w, .slice t1 z1 (args.map arV), .slice tag z (bs.map foV), .int .i64 a] ∧ Mine (sans σ0) σ' tag ∧ (tag = .nil ∨ z = 4) ∧ (z = 4 ∨ bs.map foV = []) ∧ bs.length + lc.length ≤ l.length ∧ (∀ x, PF (.body w a args bs) d nc lc x → PF .form d n0 l0 x) ∧ k = lc.length,
    _, ⟨[], l, n, .nil, 0, rfl, hI, he, Nat.le_refl _, hn0, hn, h6, trivial, .inl rfl, .inr rfl, by simp, hPE, rfl⟩, ?_⟩
  clear hI he h6 hPE hn0 hn
  rintro k sl σ' ⟨bs, lc, nc, tag, z, rfl, hI, he, hlc, hn0, hn, h6, hM, hz, hz5, hbl, hPE, rfl⟩
  refine CallK.mk' (is_call hI.ps he.ne _) ?_
  rintro e σ' ⟨rfl, rfl⟩
  cases hc : isS [125] lc
  rotate_left
  · obtain ⟨t3, r3, rfl⟩ := he.cons
    obtain ⟨het3, hlt3⟩ := he.tail_sign hc
    simp only [List.tail_cons, List.length_cons] at het3 hlt3 hlc
    refine CallK.mk' (nextTok_call hI.ps) ?_
    rintro e σ8 ⟨rfl, hp8, hf8⟩
    have hI8 := hI.fr' hf8 hp8
    refine Load.mk' (hf8.box _ _ (Ne.symm hI.n6) h6) (Nat.le_refl _) ?_
    refine Sure.mk' rfl ?_
    refine Store.mk' [.str w, .slice t1 z1 (args.map arV), .slice tag z (bs.map foV), .int .i64 a] hI8.h4 (Nat.le_refl _) rfl (fun σ9 e9 => ?_)
    refine Load.mk' (by rw [e9]; exact put_box) (Nat.le_refl _) ?_
    refine Ret.weak (weak_fo rfl rfl hz1 hz5) (.refl _) ⟨_, hPE _ (.body_end hc), by rw [e9]; exact hI8.fr.put (.inl hI8.f4), rfl, by rw [e9]; exact hI8.ps.put hI8.n4, het3, by simp only [List.tail_cons]; omega, hn0, hn⟩
  · refine Arith.i64 (d + 1) rfl (by omega) ?_
    refine Sure.mk' rfl ?_
    refine Load.mk' h6 (by simp) ?_
    have hbs : bs.length ≤ m := by omega
    refine CallK.mk' (ih lc.length (by omega) _ p lc nc (d + 1) hI.ps he hn0 hn (by omega) (by omega) (Nat.le_refl _)) ?_
    rintro e σ9 ⟨r9, hr9, hf9, hres⟩
    cases r9 with
    | err E rest =>
      obtain ⟨rfl, h2⟩ := hres
      exact ⟨_, _, Weak.refl _, Forget.refl _, _, hPE _ (.body_err hc hr9), hI.fr.trans hf9, rfl, h2⟩
    | ok x n' rest =>
      obtain ⟨rfl, hp9, he9, hlt9, hn9, hn9'⟩ := hres
      have hI9 := hI.fr' hf9 hp9
      have h69 := hf9.box _ _ (Ne.symm hI.n6) h6
      have hM9 := Mine.fr hM hf9
      obtain ⟨w2, as2, bs2, a2⟩ := x
      have hb1 : bs.length + 1 + rest.length ≤ l.length := by omega
      have hb2 : rest.length ≤ l.length := by omega
      refine Kept1.mk' (fun cs h => hf9.box _ _ (Ne.symm hI.n6) h) ?_
      refine App.mk' hI9.fr.sans hM9 hz rfl (by simp only [List.length_map, List.length_cons, List.length_nil]; exact (len_small hbs hm6 (by decide)).1) (by simp only [List.length_map, List.length_cons, List.length_nil]; exact (len_small hbs hm6 (Nat.zero_le _)).2) (List.cons_ne_nil _ _) (fun t' σ10 o10 m10 b10 _ => ?_)
      have hI10 := hI9.app b10 o10
      refine Sure.mk' rfl ?_
      refine Store.mk' [.str w, .slice t1 z1 (args.map arV), .slice (.tip t') 4 (bs.map foV ++ [foV (.mk w2 as2 bs2 a2)]), .int .i64 a] (by rw [b10]; exact h69) (by simp [V.cells]) rfl (fun σ11 e11 => ?_)
      refine ⟨_, _, hlt9, Forget.refl _, bs ++ [.mk w2 as2 bs2 a2], rest, n', .tip t', 4, rfl, by rw [e11]; exact hI10.put6 _, he9, hb2, hn9, hn9', by rw [e11, List.map_append]; exact put_box, by rw [e11]; exact Mine.put m10, .inr rfl, .inl rfl, by simp only [List.length_append, List.length_cons, List.length_nil]; exact hb1, fun x hx => hPE _ (.body_go hc hr9 hx), rfl⟩

theorem form_call {m : Nat} (ih : ∀ k, k < m → FormsTo k) (hm6 : m ≤ 1000000) {σ : St} {p : Nat} {l : List Tok} {n d : Int} (hp : Ps σ p l n) (he : Ended l) (hn0 : 0 ≤ n) (hn : n ≤ 2000) (hd0 : 0 ≤ d) (hd1 : d ≤ 31) (hlm : l.length ≤ m) :
    SCall Tryz.prog LG 26 [.loc p 0, .int .i64 d] σ (ReadsF d n l p σ) := by
  obtain ⟨t, r, rfl⟩ := he.cons
  refine code26.call hm (by simp) ?_
  intro b4 hb4
  have np4 := hp.ne hb4
  have hp1 := hp.put (cs := noFo) np4
  have hf1 : Fr p σ (σ.put b4 noFo) := (Fr.refl p σ).new hb4
  have h41 : (σ.put b4 noFo).box b4 = some noFo := put_box
  obtain ⟨tag0, hbx⟩ := id hp1
  refine Load.mk' hbx (by simp) ?_
  refine Sure.mk' (.inl rfl) ?_
  refine IdxE.mk' 0 (tokV t) rfl rfl ?_
  refine ⟨by simp [tokV], ?_⟩
  refine Test.split (fun k1 => ?_) (fun k1 => ?_)
  · refine CallK.mk' (fail_call hp1 he.ne 5) ?_
    rintro e σ' ⟨rfl, rfl⟩
    exact ⟨_, _, Weak.refl _, Forget.refl _, _, .form_bad k1, hf1, rfl, he⟩
  have k1 : (hd (t :: r)).kind = 1 := by
    apply Classical.byContradiction
    intro hx; exact k1 hx
  refine Load.mk' hbx (by simp) ?_
  refine Arith.i64 (n + 1) rfl (by omega) ?_
  refine Sure.mk' rfl ?_
  refine Store.mk' [.slice tag0 4 ((t :: r).map tokV), .int .i64 (n + 1)] hbx (by simp [V.cells]) (by simp [setL, V.cells]) (fun σ2 e2 => ?_)
  have hp2 : Ps σ2 p (t :: r) (n + 1) := ⟨tag0, by rw [e2]; exact put_box⟩
  have hbx2 : σ2.box p = some [.slice tag0 4 ((t :: r).map tokV), .int .i64 (n + 1)] := by rw [e2]; exact put_box
  have h42 : σ2.box b4 = some noFo := by rw [e2, put_ne (Ne.symm np4)]; exact h41
  have hf2 : Fr p σ σ2 := by rw [e2]; exact hf1.put (.inr rfl)
  clear e2 hbx hp1 hf1 h41
  have hlim : ∀ {G : Prop}, (d > 30 ∨ n ≥ 2000 → G) → (¬ (d > 30 ∨ n ≥ 2000) → G) → G := fun h1 h2 => if h : d > 30 ∨ n ≥ 2000 then h1 h else h2 h
  refine hlim (fun hl => ?_) (fun hl => ?_)
  · refine Test.split (fun h30 => ?_) (fun h30 => ?_)
    · refine CallK.mk' (fail_call hp2 he.ne 2) ?_
      rintro e σ' ⟨rfl, rfl⟩
      exact ⟨_, _, Weak.refl _, Forget.refl _, _, .form_limit k1 hl, hf2, rfl, he⟩
    · refine Load.mk' hbx2 (by simp) ?_
      refine Test.yes (by omega) ?_
      refine CallK.mk' (fail_call hp2 he.ne 2) ?_
      rintro e σ' ⟨rfl, rfl⟩
      exact ⟨_, _, Weak.refl _, Forget.refl _, _, .form_limit k1 hl, hf2, rfl, he⟩
  refine Test.no (by omega) ?_
  refine Load.mk' hbx2 (by simp) ?_
  refine Test.no (by omega) ?_
  obtain ⟨het, hlt⟩ := he.tail (by rw [k1]; decide)
  simp only [List.tail_cons, List.length_cons] at het hlt hlm
  refine CallK.mk' (nextTok_call hp2) ?_
  rintro e σ3 ⟨rfl, hp3, hf3⟩
  have h43 := hf3.box b4 _ (Ne.symm np4) h42
  intro b5 hb5
  have np5 := hp3.ne hb5
  have n45 := box_ne h43 hb5
  refine Sure.mk' rfl ?_
  refine Store.mk' (tokV t) put_box (by simp [V.cells, tokV]) (by simp [setL, V.cells, tokV]) (fun σ4 e4 => ?_)
  rw [put_put] at e4
  have h54 : σ4.box b5 = some (tokV t) := by rw [e4]; exact put_box
  have h44 : σ4.box b4 = some noFo := by rw [e4, put_ne n45]; exact h43
  have hp4 : Ps σ4 p r (n + 1) := by rw [e4]; exact hp3.put np5
  have hf4 : Fr p σ σ4 := by rw [e4]; exact (hf2.trans hf3).new hb5
  clear e4 hb5
  refine Load.mk' h54 (by simp [tokV]) ?_
  refine Load.mk' h54 (by simp [tokV]) ?_
  intro b6 hb6
  have np6 := hp4.ne hb6
  have n46 := box_ne h44 hb6
  refine Sure.mk' rfl ?_
  refine Store.mk' [.str t.s, .slice .nil 0 [], .slice .nil 0 [], .int .i64 t.at_] put_box (Nat.le_refl _) rfl (fun σ5 e5 => ?_)
  rw [put_put] at e5
  have h65 : σ5.box b6 = some [.str t.s, .slice .nil 0 [], .slice .nil 0 [], .int .i64 t.at_] := by rw [e5]; exact put_box
  have hI : FoI σ σ5 p r (n + 1) b4 b6 := ⟨by rw [e5]; exact hp4.put np6, by rw [e5]; exact hf4.new hb6, by rw [e5, put_ne n46]; exact h44, np4, np6, n46, hb4, hf4.fresh (Ne.symm np6) hb6⟩
  clear e5 hb6 hp4 hf4 h44 h54 hp3 hf3 h43 hp2 hf2 h42 hbx2
  refine ⟨fun k sl σ' => ∃ (args : List Ar) (lc : List Tok) (tag : Tag) (z : Nat), sl = ofL (foS p d b4 b6) ∧ FoI σ σ' p lc (n + 1) b4 b6 ∧ Ended lc ∧ lc.length ≤ r.length ∧
      σ'.box b6 = some [.str t.s, .slice tag z (args.map arV), .slice .nil 0 [], .int .i64 t.at_] ∧ Mine (sans σ) σ' tag ∧ (tag = .nil ∨ z = 9) ∧ (z = 9 ∨ args.map arV = []) ∧ args.length ≤ 40 ∧ (∀ x, PF (.args t.s t.at_ args) d (n + 1) lc x → PF .form d n (t :: r) x) ∧ k = lc.length,
    _, ⟨[], r, .nil, 0, rfl, hI, het, Nat.le_refl _, h65, trivial, .inl rfl, .inr rfl, by simp, fun x hx => .form_go k1 hl hx, rfl⟩, ?_⟩
  clear hI het hlt h65
  rintro k sl σ' ⟨args, lc, tag, z, rfl, hI, he, hlc, h6, hM, hz, hz9, hk40, hPE, rfl⟩
  refine CallK.mk' (is_call hI.ps he.ne _) ?_
  rintro e σ' ⟨rfl, rfl⟩
  cases hq1 : isS [59] lc
  rotate_left
  · obtain ⟨t3, r3, rfl⟩ := he.cons
    obtain ⟨het3, hlt3⟩ := he.tail_sign hq1
    simp only [List.tail_cons, List.length_cons] at het3 hlt3 hlc
    refine CallK.mk' (nextTok_call hI.ps) ?_
    rintro e σ8 ⟨rfl, hp8, hf8⟩
    have hI8 := hI.fr' hf8 hp8
    refine ⟨by simp [tokV], ?_⟩
    refine Test.yes (hd_sign hq1).2 ?_
    refine Load.mk' (hf8.box _ _ (Ne.symm hI.n6) h6) (Nat.le_refl _) ?_
    refine Sure.mk' rfl ?_
    refine Store.mk' [.str t.s, .slice tag z (args.map arV), .slice .nil 0 [], .int .i64 t.at_] hI8.h4 (Nat.le_refl _) rfl (fun σ9 e9 => ?_)
    refine Load.mk' (by rw [e9]; exact put_box) (Nat.le_refl _) ?_
    refine Ret.weak (weak_fo (bs := []) rfl rfl hz9 (.inr rfl)) (.refl _) ⟨_, hPE _ (.args_end hq1), by rw [e9]; exact hI8.fr.put (.inl hI8.f4), rfl, by rw [e9]; exact hI8.ps.put hI8.n4, het3, by simp only [List.tail_cons, List.length_cons]; omega, by omega, by omega⟩
  refine CallK.mk' (is_call hI.ps he.ne _) ?_
  rintro e σ' ⟨rfl, rfl⟩
  cases hq2 : isS [123] lc
  rotate_left
  · obtain ⟨t3, r3, rfl⟩ := he.cons
    obtain ⟨het3, hlt3⟩ := he.tail_sign hq2
    simp only [List.tail_cons, List.length_cons] at het3 hlt3 hlc
    refine CallK.mk' (nextTok_call hI.ps) ?_
    rintro e σ8 ⟨rfl, hp8, hf8⟩
    have hI8 := hI.fr' hf8 hp8
    refine ⟨by simp [tokV], ?_⟩
    refine Test.no (by rw [show t3.s = _ from (hd_sign hq2).2]; decide) ?_
    exact form_body ih hm6 hI8 het3 (by simp only [List.length_cons]; omega) (by omega) (by omega) (by omega) hd0 (by omega) (hf8.box _ _ (Ne.symm hI.n6) h6) hz9 (fun x hx => hPE _ (.args_body hq2 hx))
  refine CallK.mk' (begins_call hI.ps he.ne) ?_
  rintro e σ' ⟨rfl, rfl⟩
  have hstart : ∀ {G : Prop}, (begins lc = false → isS [45, 62] lc = false → G) → (argStart lc → G) → G := by
    intro G h1 h2
    cases hx : begins lc
    · cases hy : isS [45, 62] lc
      · exact h1 hx hy
      · exact h2 (.inr hy)
    · exact h2 (.inl hx)
  refine hstart (fun hx hy => ?_) (fun hst => ?_)
  · rw [hx]
    refine CallK.mk' (is_call hI.ps he.ne _) ?_
    rintro e σ' ⟨rfl, rfl⟩
    rw [hy]
    refine CallK.mk' (fail_call hI.ps he.ne 5) ?_
    rintro e σ' ⟨rfl, rfl⟩
    exact ⟨_, _, Weak.refl _, Forget.refl _, _, hPE _ (.args_bad hq1 hq2 hx hy), hI.fr, rfl, he⟩
  cases hx : begins lc
  · have hy : isS [45, 62] lc = true := by
      rcases hst with h | h
      · rw [hx] at h; cases h
      · exact h
    refine CallK.mk' (is_call hI.ps he.ne _) ?_
    rintro e σ' ⟨rfl, rfl⟩
    rw [hy]
    refine Load.mk' h6 (by simp) ?_
    refine Test.split (fun h40 => ?_) (fun h40 => ?_)
    · refine CallK.mk' (fail_call hI.ps he.ne 2) ?_
      rintro e σ' ⟨rfl, rfl⟩
      exact ⟨_, _, Weak.refl _, Forget.refl _, _, hPE _ (.args_limit hq1 hq2 hst (by simp at h40; omega)), hI.fr, rfl, he⟩
    · have hn40 : args.length ≠ 40 := by simp at h40; omega
      have hk39 : args.length ≤ 39 := by omega
      refine Sure.mk' rfl ?_
      refine Load.mk' h6 (by simp) ?_
      refine CallK.mk' (arg_call hI.ps he hst) ?_
      rintro e σ9 ⟨r9, hr9, hf9, hres⟩
      cases r9 with
      | err E rest =>
        obtain ⟨rfl, h2⟩ := hres
        exact ⟨_, _, Weak.refl _, Forget.refl _, _, hPE _ (.args_err hq1 hq2 hst hn40 hr9), hI.fr.trans hf9, rfl, h2⟩
      | ok x rest =>
        obtain ⟨rfl, hp9, he9, hlt9⟩ := hres
        have hI9 := hI.fr' hf9 hp9
        have h69 := hf9.box _ _ (Ne.symm hI.n6) h6
        have hM9 := Mine.fr hM hf9
        have hr2 : rest.length ≤ r.length := by omega
        obtain ⟨ak, an, as0, ⟨op, nn, s, kk, a⟩, aat⟩ := x
        refine Kept1.mk' (fun cs h => hf9.box _ _ (Ne.symm hI.n6) h) ?_
        refine App.mk' hI9.fr.sans hM9 hz rfl (by simp only [List.length_map, List.length_cons, List.length_nil]; exact (len_small hk39 (by decide) (by decide)).1) (by simp only [List.length_map, List.length_cons, List.length_nil]; exact (len_small hk39 (by decide) (Nat.zero_le _)).2) (List.cons_ne_nil _ _) (fun t' σ10 o10 m10 b10 _ => ?_)
        have hI10 := hI9.app b10 o10
        refine Sure.mk' rfl ?_
        refine Store.mk' [.str t.s, .slice (.tip t') 9 (args.map arV ++ [arV ⟨ak, an, as0, .mk op nn s kk a, aat⟩]), .slice .nil 0 [], .int .i64 t.at_] (by rw [b10]; exact h69) (by simp [V.cells]) rfl (fun σ11 e11 => ?_)
        refine ⟨_, _, hlt9, Forget.refl _, args ++ [⟨ak, an, as0, .mk op nn s kk a, aat⟩], rest, .tip t', 9, rfl, by rw [e11]; exact hI10.put6 _, he9, hr2, by rw [e11, List.map_append]; exact put_box, by rw [e11]; exact Mine.put m10, .inr rfl, .inl rfl, by simp only [List.length_append, List.length_cons, List.length_nil]; omega, fun x hx => hPE _ (.args_go hq1 hq2 hst hn40 hr9 hx), rfl⟩
  · refine Load.mk' h6 (by simp) ?_
    refine Test.split (fun h40 => ?_) (fun h40 => ?_)
    · refine CallK.mk' (fail_call hI.ps he.ne 2) ?_
      rintro e σ' ⟨rfl, rfl⟩
      exact ⟨_, _, Weak.refl _, Forget.refl _, _, hPE _ (.args_limit hq1 hq2 hst (by simp at h40; omega)), hI.fr, rfl, he⟩
    · have hn40 : args.length ≠ 40 := by simp at h40; omega
      have hk39 : args.length ≤ 39 := by omega
      refine Sure.mk' rfl ?_
      refine Load.mk' h6 (by simp) ?_
      refine CallK.mk' (arg_call hI.ps he hst) ?_
      rintro e σ9 ⟨r9, hr9, hf9, hres⟩
      cases r9 with
      | err E rest =>
        obtain ⟨rfl, h2⟩ := hres
        exact ⟨_, _, Weak.refl _, Forget.refl _, _, hPE _ (.args_err hq1 hq2 hst hn40 hr9), hI.fr.trans hf9, rfl, h2⟩
      | ok x rest =>
        obtain ⟨rfl, hp9, he9, hlt9⟩ := hres
        have hI9 := hI.fr' hf9 hp9
        have h69 := hf9.box _ _ (Ne.symm hI.n6) h6
        have hM9 := Mine.fr hM hf9
        have hr2 : rest.length ≤ r.length := by omega
        obtain ⟨ak, an, as0, ⟨op, nn, s, kk, a⟩, aat⟩ := x
        refine Kept1.mk' (fun cs h => hf9.box _ _ (Ne.symm hI.n6) h) ?_
        refine App.mk' hI9.fr.sans hM9 hz rfl (by simp only [List.length_map, List.length_cons, List.length_nil]; exact (len_small hk39 (by decide) (by decide)).1) (by simp only [List.length_map, List.length_cons, List.length_nil]; exact (len_small hk39 (by decide) (Nat.zero_le _)).2) (List.cons_ne_nil _ _) (fun t' σ10 o10 m10 b10 _ => ?_)
        have hI10 := hI9.app b10 o10
        refine Sure.mk' rfl ?_
        refine Store.mk' [.str t.s, .slice (.tip t') 9 (args.map arV ++ [arV ⟨ak, an, as0, .mk op nn s kk a, aat⟩]), .slice .nil 0 [], .int .i64 t.at_] (by rw [b10]; exact h69) (by simp [V.cells]) rfl (fun σ11 e11 => ?_)
        refine ⟨_, _, hlt9, Forget.refl _, args ++ [⟨ak, an, as0, .mk op nn s kk a, aat⟩], rest, .tip t', 9, rfl, by rw [e11]; exact hI10.put6 _, he9, hr2, by rw [e11, List.map_append]; exact put_box, by rw [e11]; exact Mine.put m10, .inr rfl, .inl rfl, by simp only [List.length_append, List.length_cons, List.length_nil]; omega, fun x hx => hPE _ (.args_go hq1 hq2 hst hn40 hr9 hx), rfl⟩
end Go.Shadow.Lex

/- The parser's run: a reader's panic is its problem. Conditions: as each theorem says. -/
namespace Go.Shadow.Lex
open Go Go.RowKit Go.Proofs

theorem rec_some {σ : St} {b4 : Nat} {u v : V} (hb : σ.box b4 = some [u, v]) (E : Int) (l : List Tok) :
    SDCall Tryz.prog LG 44 [.loc b4 0] (some (stopV E l)) σ fun r σ' => r = true ∧ ∃ b2 cs, σ.box b2 = none ∧ σ' = (σ.put b2 cs).put b4 [.int .i64 (hd l).at_, .int .i64 E] := by
  refine SDCall.of_rec hm code44 (by simp) ?_
  intro b2 hb2
  have n := box_ne hb hb2
  refine Sure.mk' rfl ?_
  refine Store.mk' [.int .i64 (hd l).at_, .int .i64 E] put_box (Nat.le_refl _) rfl (fun σ3 e3 => ?_)
  rw [put_put] at e3
  refine Load.mk' (by rw [e3]; exact put_box) (Nat.le_refl _) ?_
  refine Sure.mk' rfl ?_
  refine Store.mk' [.int .i64 (hd l).at_, .int .i64 E] (by rw [e3, put_ne n]; exact hb) (Nat.le_refl _) rfl (fun σ4 e4 => ?_)
  refine Ret.mk' ⟨⟨_, rfl⟩, rfl, b2, _, hb2, by rw [e4, e3]⟩
theorem rec_none {σ : St} {b4 : Nat} : SDCall Tryz.prog LG 44 [.loc b4 0] none σ fun r σ' => r = false ∧ σ' = σ := by
  refine SDCall.of_rec hm code44 (by simp) ?_
  exact Ret.mk' ⟨⟨_, rfl⟩, rfl, rfl⟩

/-- All but two variables are as they were. -/
structure Fr2 (p q : Nat) (σ σ' : St) : Prop where
  box : ∀ b cs, b ≠ p → b ≠ q → σ.box b = some cs → σ'.box b = some cs
  live : ∀ t, σ.live t = true → σ'.live t = true
  map : ∀ r m, σ.map r = some m → σ'.map r = some m
theorem Fr2.fr {p q : Nat} {σ0 σ σ' : St} (h : Fr p σ0 σ) (k : Fr2 p q σ σ') (hq : σ0.box q = none) : Fr p σ0 σ' :=
  ⟨fun b cs hb hc => k.box b cs hb (by rintro rfl; rw [hq] at hc; cases hc) (h.box b cs hb hc), fun t ht => k.live t (h.live t ht), fun r m hm => k.map r m (h.map r m hm)⟩
/-- What a reader that run is given does. -/
structure Reader (k : FuncId) (bc : Nat) (ts : List Tok) (σ : St) (Ok : List V → List Tok → Prop) (Bad : Int → List Tok → Prop) : Prop where
  call : ∀ (p : Nat) (σ' : St), Fr bc σ σ' → σ.box p = none → σ'.box bc = σ.box bc → bc ≠ p → Ps σ' p ts 0 → SCall Tryz.prog LG k ([] ++ [.loc p 0] ++ [.loc bc 0]) σ' fun e σ'' => Fr2 bc p σ' σ'' ∧
    ((∃ rest f cs, e = .ret (.tup []) ∧ Ps σ'' p rest f ∧ Ended rest ∧ σ''.box bc = some cs ∧ Ok cs rest) ∨ ∃ E rest, e = .pan (stopV E rest) ∧ Ended rest ∧ Bad E rest)

theorem run_ok {σ : St} {src : List UInt8} (hs : src.length ≤ 70000) {ts : List Tok} (hl : lex src = .inr ts) {k : FuncId} {bc : Nat} {cs0 : List V} (hbc : σ.box bc = some cs0) {Ok : List V → List Tok → Prop} {Bad : Int → List Tok → Prop} (hr : Reader k bc ts σ Ok Bad) :
    SCall Tryz.prog LG 24 [.str src, .func k [] [.loc bc 0]] σ fun e σ'' => Fr bc σ σ'' ∧
      ((∃ rest cs, (hd rest).kind = 5 ∧ Ok cs rest ∧ σ''.box bc = some cs ∧ e = .ret (.agg [.int .i64 0, .int .i64 0])) ∨
        (∃ E rest, Ended rest ∧ (Bad E rest ∨ (E = 5 ∧ (hd rest).kind ≠ 5 ∧ ∃ cs, Ok cs rest)) ∧ e = .ret (.agg [.int .i64 (hd rest).at_, .int .i64 E]))) := by
  refine code24.call hm (by simp) ?_
  intro b4 hb4
  have nc4 := box_ne hbc hb4
  have h41 : (σ.put b4 [.int .i64 0, .int .i64 0]).box b4 = some [.int .i64 0, .int .i64 0] := put_box
  have hf1 : Fr bc σ (σ.put b4 [.int .i64 0, .int .i64 0]) := (Fr.refl bc σ).new hb4
  have hc1 : (σ.put b4 [.int .i64 0, .int .i64 0]).box bc = σ.box bc := put_ne nc4
  generalize hσ1 : σ.put b4 [.int .i64 0, .int .i64 0] = σ1 at h41 hf1 hc1
  refine CallK.pure (tokens_ret src hs) ?_
  rw [hl]
  refine Sure.mk' rfl ?_
  refine Store.mk' [.int .i64 0, .int .i64 0] h41 (Nat.le_refl _) rfl (fun σ2 e2 => ?_)
  have h42 : σ2.box b4 = some [.int .i64 0, .int .i64 0] := by rw [e2]; exact put_box
  have hf2 : Fr bc σ σ2 := by rw [e2]; exact hf1.put (.inl hb4)
  have hc2 : σ2.box bc = σ.box bc := by rw [e2, put_ne nc4]; exact hc1
  clear e2 hσ1 h41 hf1 hc1
  refine Load.mk' h42 (by simp) ?_
  refine Test.no (by simp) ?_
  refine ⟨rfl, ?_⟩
  intro p hp0
  have n4p := box_ne h42 hp0
  have hf3 : Fr bc σ (σ2.put p [.slice .foreign 4 (ts.map tokV), .int .i64 0]) := hf2.new hp0
  have hncp : bc ≠ p := by rintro rfl; rw [hc2, hbc] at hp0; cases hp0
  have hpσ : σ.box p = none := hf2.fresh (Ne.symm hncp) hp0
  have h43 : (σ2.put p [.slice .foreign 4 (ts.map tokV), .int .i64 0]).box b4 = some [.int .i64 0, .int .i64 0] := by rw [put_ne n4p]; exact h42
  have hcc : (σ2.put p [.slice .foreign 4 (ts.map tokV), .int .i64 0]).box bc = σ.box bc := by rw [put_ne hncp]; exact hc2
  refine CallK.mk' (hr.call p _ hf3 hpσ hcc hncp ⟨.foreign, put_box⟩) ?_
  rintro e σ4 ⟨hf4, (⟨rest, f, cs, rfl, hp4, he4, hbc4, hok⟩ | ⟨E, rest, rfl, he4, hbad⟩)⟩
  · have h44 := hf4.box b4 _ (Ne.symm nc4) n4p h43
    have hfr := Fr2.fr hf3 hf4 hpσ
    obtain ⟨tag, hpx⟩ := id hp4
    obtain ⟨t, r, rfl⟩ := he4.cons
    refine Load.mk' hpx (by simp) ?_
    refine Sure.mk' (.inl rfl) ?_
    refine IdxE.mk' 0 (tokV t) rfl rfl ?_
    refine ⟨by simp [tokV], ?_⟩
    refine Test.split (fun hk => ?_) (fun hk => ?_)
    · refine CallK.mk' (fail_call hp4 he4.ne 5) ?_
      rintro e σ' ⟨rfl, rfl⟩
      refine (rec_some h44 5 (t :: r)).mono ?_
      rintro r' σ5 ⟨rfl, b2, ds, hb2, rfl⟩
      have hn2 : b4 ≠ b2 := box_ne h44 hb2
      refine SLeaveE.leave (ds := []) (m := none) ?_
      refine Load.mk' put_box (Nat.le_refl _) ?_
      refine Ret.mk' ⟨?_, .inr ⟨5, t :: r, he4, .inr ⟨rfl, hk, cs, hok⟩, rfl⟩⟩
      exact (hfr.new hb2).put (.inl hb4)
    · refine Sure.mk' rfl ?_
      refine Store.mk' [.int .i64 0, .int .i64 0] h44 (Nat.le_refl _) rfl (fun σ5 e5 => ?_)
      refine DefK.mk' rec_none ?_
      rintro r' σ6 ⟨rfl, rfl⟩
      refine Load.mk' (by rw [e5]; exact put_box) (Nat.le_refl _) ?_
      refine Ret.mk' ⟨by rw [e5]; exact hfr.put (.inl hb4), .inl ⟨t :: r, cs, ?_, hok, by rw [e5, put_ne nc4]; exact hbc4, rfl⟩⟩
      apply Classical.byContradiction
      intro hx; exact hk hx
  · have h44 := hf4.box b4 _ (Ne.symm nc4) n4p h43
    have hfr := Fr2.fr hf3 hf4 hpσ
    refine (rec_some h44 E rest).mono ?_
    rintro r' σ5 ⟨rfl, b2, ds, hb2, rfl⟩
    refine SLeaveE.leave (ds := []) (m := none) ?_
    refine Load.mk' put_box (Nat.le_refl _) ?_
    refine Ret.mk' ⟨?_, .inr ⟨E, rest, he4, .inl hbad, rfl⟩⟩
    exact (hfr.new hb2).put (.inl hb4)

theorem run_bad {σ : St} {src : List UInt8} (hs : src.length ≤ 70000) {at_ E : Nat} (hl : lex src = .inl (at_, E)) (hE : E ≠ 0) (v : V) :
    SCall Tryz.prog LG 24 [.str src, v] σ fun e σ'' => Over σ σ'' ∧ e = .ret (.agg [.int .i64 at_, .int .i64 E]) := by
  refine code24.call hm (by simp) ?_
  intro b4 hb4
  refine CallK.pure (tokens_ret src hs) ?_
  rw [hl]
  refine Sure.mk' rfl ?_
  refine Store.mk' [.int .i64 at_, .int .i64 E] put_box (Nat.le_refl _) rfl (fun σ2 e2 => ?_)
  rw [put_put] at e2
  have h42 : σ2.box b4 = some [.int .i64 at_, .int .i64 E] := by rw [e2]; exact put_box
  refine Load.mk' h42 (by simp) ?_
  refine Test.yes (by simp; omega) ?_
  refine Load.mk' h42 (Nat.le_refl _) ?_
  refine Sure.mk' rfl ?_
  refine Store.mk' [.int .i64 at_, .int .i64 E] h42 (Nat.le_refl _) rfl (fun σ3 e3 => ?_)
  refine Load.mk' (by rw [e3]; exact put_box) (Nat.le_refl _) ?_
  refine Ret.mk' ⟨?_, rfl⟩
  rw [e3, e2, put_put]
  exact over_put (.refl _) hb4

/-! ### the readers -/
theorem expr_reader {bc : Nat} {ts : List Tok} (he : Ended ts) {σ : St} (hbc : σ.box bc = some noEx) :
    Reader 27 bc ts σ (fun cs rest => ∃ x, cs = exV x ∧ PE .expr 1 ts (.ok x rest)) (fun E rest => PE .expr 1 ts (.err E rest)) := by
  refine ⟨fun p σ' hf hp0 hcc hne hp => ?_⟩
  refine code27.call hm (by simp) ?_
  refine CallK.mk' (expr_call hp he (by omega) (by omega)) ?_
  rintro e σ2 ⟨r, hr, hfr, hres⟩
  cases r with
  | err E rest =>
    obtain ⟨rfl, h2⟩ := hres
    exact ⟨_, _, Weak.refl _, Forget.refl _, ⟨fun b cs _ hb hc => hfr.box b cs hb hc, hfr.live, hfr.map⟩, .inr ⟨E, rest, rfl, h2, hr⟩⟩
  | ok x rest =>
    obtain ⟨rfl, hp2, he2, hlt⟩ := hres
    obtain ⟨op, n, s, kids, a⟩ := x
    have hb2 := hfr.box bc _ hne (hcc.trans hbc)
    refine Sure.mk' rfl ?_
    refine Store.mk' (exV (.mk op n s kids a)) hb2 (Nat.le_refl _) rfl (fun σ3 e3 => ?_)
    refine Ret.mk' ⟨⟨fun b cs hb hb' hc => by rw [e3, put_ne hb]; exact hfr.box b cs hb' hc, fun t ht => by rw [e3]; exact hfr.live t ht, fun r m hm => by rw [e3]; exact hfr.map r m hm⟩, .inl ⟨rest, 0, _, rfl, ?_, he2, by rw [e3]; exact put_box, _, rfl, hr⟩⟩
    rw [e3]; exact hp2.put (Ne.symm hne)

theorem formsTo : ∀ m, m ≤ 1000000 → FormsTo m := by
  intro m
  induction m using Nat.strongRecOn with
  | _ m ih => exact fun hm6 σ p l n d hp he hn0 hn hd0 hd1 hlm => form_call (fun k hk => ih k hk (by omega)) hm6 hp he hn0 hn hd0 hd1 hlm

theorem Mine.app1 {σ1 σ : St} {tag : Tag} (o : Over σ1 σ) (hm : Mine σ1 σ tag) : (tag = .nil ∨ tag = .full ∨ ∃ k, tag = .tip k ∧ σ.live k = true) ∧ ∀ t', σ.live t' = false →
    ((match tag with | .tip k => σ.off k | _ => σ).on t').box = σ.box ∧ Over σ1 ((match tag with | .tip k => σ.off k | _ => σ).on t') ∧ Mine σ1 ((match tag with | .tip k => σ.off k | _ => σ).on t') (.tip t') := by
  have hn : ∀ t', σ.live t' = false → σ1.live t' = false := fun t' ht => by
    cases h : σ1.live t' with
    | false => rfl
    | true => rw [o.live t' h] at ht; cases ht
  cases tag with
  | foreign => exact hm.elim
  | nil => exact ⟨.inl rfl, fun t' ht => ⟨rfl, ⟨o.box, fun t h => by simp [St.on, o.live t h], o.map⟩, by simp [St.on], hn t' ht⟩⟩
  | full => exact ⟨.inr (.inl rfl), fun t' ht => ⟨rfl, ⟨o.box, fun t h => by simp [St.on, o.live t h], o.map⟩, by simp [St.on], hn t' ht⟩⟩
  | tip u =>
    refine ⟨.inr (.inr ⟨u, rfl, hm.1⟩), fun t' ht => ⟨rfl, ⟨o.box, fun t h => ?_, o.map⟩, by simp [St.on], hn t' ht⟩⟩
    have hne : t ≠ u := fun e => by subst e; rw [hm.2] at h; cases h
    simp [St.on, St.off, o.live t h, hne]

theorem forms_reader {bc : Nat} {ts : List Tok} (he : Ended ts) (hlen : ts.length ≤ 1000000) {σ : St} (hbc : σ.box bc = some [.slice .nil 0 []]) :
    Reader 25 bc ts σ (fun cs rest => (∃ out tag z, cs = [.slice tag z (out.map foV)] ∧ (z = 4 ∨ out.map foV = []) ∧ PL 0 [] ts (.ok out)) ∧ (hd rest).kind = 5) (fun E rest => PL 0 [] ts (.err E rest)) := by
  refine ⟨fun p σ' hf hp0 hcc hne hp => ?_⟩
  refine code25.call hm (by simp) ?_
  refine ⟨fun k sl σ2 => ∃ (out : List Fo) (lc : List Tok) (nc : Int) (tag : Tag) (z : Nat), sl = ofL [(0, some (.loc p 0)), (1, some (.loc bc 0))] ∧ Ps σ2 p lc nc ∧ Fr2 bc p σ' σ2 ∧ Ended lc ∧ lc.length ≤ ts.length ∧ 0 ≤ nc ∧ nc ≤ 2000 ∧
      σ2.box bc = some [.slice tag z (out.map foV)] ∧ Mine (sans σ') σ2 tag ∧ (tag = .nil ∨ z = 4) ∧ (z = 4 ∨ out.map foV = []) ∧ out.length + lc.length ≤ ts.length ∧ (∀ x, PL nc out lc x → PL 0 [] ts x) ∧ k = lc.length,
    _, ⟨[], ts, 0, .nil, 0, rfl, hp, ⟨fun _ _ _ _ h => h, fun _ h => h, fun _ _ h => h⟩, he, Nat.le_refl _, by omega, by omega, hcc.trans hbc, trivial, .inl rfl, .inr rfl, by simp, fun x hx => hx, rfl⟩, ?_⟩
  clear hp he
  rintro k sl σ2 ⟨out, lc, nc, tag, z, rfl, hp, hf2, he, hlc, hn0, hn, hb, hM, hz, hz4, hol, hPL, rfl⟩
  obtain ⟨tag0, hpx⟩ := id hp
  obtain ⟨t, r, rfl⟩ := he.cons
  refine Load.mk' hpx (by simp) ?_
  refine Sure.mk' (.inl rfl) ?_
  refine IdxE.mk' 0 (tokV t) rfl rfl ?_
  refine ⟨by simp [tokV], ?_⟩
  refine Test.split (fun hk => ?_) (fun hk => ?_)
  · refine Sure.mk' rfl ?_
    refine Load.mk' hb (by simp) ?_
    refine CallK.mk' (formsTo _ (by omega : (t :: r).length ≤ 1000000) _ p (t :: r) nc 1 hp he hn0 hn (by omega) (by omega) (Nat.le_refl _)) ?_
    rintro e σ3 ⟨r3, hr3, hf3, hres⟩
    cases r3 with
    | err E rest =>
      obtain ⟨rfl, h2⟩ := hres
      exact ⟨_, _, Weak.refl _, Forget.refl _, ⟨fun b cs hb hb' hc => hf3.box b cs hb' (hf2.box b cs hb hb' hc), fun t ht => hf3.live t (hf2.live t ht), fun r m hm => hf3.map r m (hf2.map r m hm)⟩, .inr ⟨E, rest, rfl, h2, hPL _ (.err hk hr3)⟩⟩
    | ok x n' rest =>
      obtain ⟨rfl, hp3, he3, hlt3, hn3, hn3'⟩ := hres
      have hb3 := hf3.box bc _ hne hb
      have hM3 := Mine.fr hM hf3
      obtain ⟨w, as_, bs, a⟩ := x
      have hol3 : out.length + 1 + rest.length ≤ ts.length := by omega
      have hlc3 : rest.length ≤ ts.length := by omega
      have hsm := len_small (show out.length ≤ 1000000 by omega) (Nat.le_refl _) (show 72 ≤ 1000 by decide)
      refine Kept1.mk' (fun cs h => hf3.box _ _ hne h) ?_
      have hfr3 : Fr2 bc p σ' σ3 := ⟨fun b cs hb hb' hc => hf3.box b cs hb' (hf2.box b cs hb hb' hc), fun t ht => hf3.live t (hf2.live t ht), fun r m hm => hf3.map r m (hf2.map r m hm)⟩
      obtain ⟨htg, hap⟩ := Mine.app1 (σ1 := sans σ') (σ := σ3) ⟨fun _ _ h => (by cases h), hfr3.live, hfr3.map⟩ hM3
      refine ⟨hz, rfl, by simp, rfl, rfl, by simp only [List.length_map]; exact hsm.1, by simp only [List.length_map]; exact hsm.2, htg, _, hb3, by simp, fun t' ht' => ?_⟩
      obtain ⟨q1, q2, q3⟩ := hap t' ht'
      refine ⟨_, _, hlt3, Forget.refl _, out ++ [.mk w as_ bs a], rest, n', .tip t', 4, rfl, (hp3.box q1).put (Ne.symm hne), ⟨fun b cs hb hb' hc => ?_, q2.live, q2.map⟩, he3, hlc3, hn3, hn3', ?_, Mine.put q3, .inr rfl, .inl rfl, by simp only [List.length_append, List.length_cons, List.length_nil]; exact hol3, fun x hx => hPL _ (.go hk hr3 hx), rfl⟩
      · rw [put_ne hb]; exact (congrFun q1 b).trans (hfr3.box b cs hb hb' hc)
      · rw [put_box, List.map_append]; rfl
  · refine Ret.mk' ⟨hf2, .inl ⟨t :: r, nc, _, rfl, hp, he, hb, ⟨out, tag, z, rfl, hz4, hPL _ (.done ?_)⟩, ?_⟩⟩
    · apply Classical.byContradiction
      intro hx; exact hk hx
    · apply Classical.byContradiction
      intro hx; exact hk hx
end Go.Shadow.Lex

/- Proved: parse.Expr and parse.Forms return what the grammar says of the source. Conditions: sources of at most 70000 bytes. -/
namespace Go.Shadow.Lex
open Go Go.RowKit Go.Proofs

theorem weak_noEx : Weak (.agg noEx) (.agg (exV .none)) := by
  refine weak_agg rfl (fun i y hy => ?_) (fun i x y hx hy => ?_)
  · match i, hy with
    | 0, hy | 1, hy | 2, hy | 3, hy | 4, hy => simp [exV, Ex.none] at hy; subst hy; rfl
    | _ + 5, hy => simp [exV, Ex.none] at hy
  · match i, hx, hy with
    | 0, hx, hy | 1, hx, hy | 2, hx, hy | 4, hx, hy => simp [exV, Ex.none] at hx hy; subst hx; subst hy; exact Weak.refl _
    | 3, hx, hy => simp [exV, exVs, Ex.none] at hx hy; subst hx; subst hy; exact weak_nil _ _ _
    | _ + 5, hx, hy => simp [exV, Ex.none] at hy
/-- What parse.Expr returns. -/
def exprR (x : Ex) (a E : Int) : V := .tup [.agg (exV x), .agg [.int .i64 a, .int .i64 E]]
def formsR (l : List Fo) (a E : Int) : V := .tup [.slice .foreign 4 (l.map foV), .agg [.int .i64 a, .int .i64 E]]

def scE9 : SC := match sc9 with
  | .seq _ (.seq _ (.seq _ r)) => r
  | _ => .skip
theorem expr9_end {σ0 σ : St} {src : List UInt8} {b2 b3 b4 b5 : Nat} {a E : Int} {cs : List V} {x : Ex} (ho : Over σ0 σ) (f2 : σ0.box b2 = none) (f3 : σ0.box b3 = none) (h2 : σ.box b2 = some noEx) (h3 : σ.box b3 = some [.int .i64 0, .int .i64 0]) (h4 : E = 0 → σ.box b4 = some cs) (h5 : σ.box b5 = some [.int .i64 a, .int .i64 E]) (n23 : b2 ≠ b3) (n25 : b2 ≠ b5)
    (hE : E ≠ 0 → x = .none) (h0 : E = 0 → a = 0 ∧ cs = exV x) (hx : ExprIs src x a E) :
    swpE Tryz.prog LG scE9 (retE [(2, some (true, 5)), (3, some (true, 2))] (fun e σ' => σ' = σ0 ∧ ∃ x a E, ExprIs src x a E ∧ e = .ret (exprR x a E))) (ofL [(2, some (.loc b2 0)), (3, some (.loc b3 0)), (4, some (.loc b4 0)), (5, some (.loc b5 0))]) σ := by
  refine Load.mk' h5 (by simp) ?_
  refine Test.split (fun hk => ?_) (fun hk => ?_)
  · refine Load.mk' h5 (Nat.le_refl _) ?_
    refine Sure.mk' ⟨⟨Ne.symm n25, trivial⟩, rfl⟩ ?_
    refine Store.mk' noEx h2 (Nat.le_refl _) rfl (fun σ1 e1 => ?_)
    refine Sure.mk' ⟨trivial, rfl⟩ ?_
    refine Store.mk' [.int .i64 a, .int .i64 E] (by rw [e1, put_ne (Ne.symm n23)]; exact h3) (Nat.le_refl _) rfl (fun σ2 e2 => ?_)
    refine Load.mk' (by rw [e2, put_ne n23, e1]; exact put_box) (Nat.le_refl _) ?_
    refine Load.mk' (by rw [e2]; exact put_box) (Nat.le_refl _) ?_
    refine Ret.weak (r := exprR x a E) ?_ (σ' := σ0) ?_ ⟨rfl, x, a, E, hx, rfl⟩
    · rw [hE hk]; exact Weak.tup2 weak_noEx (.refl _)
    · rw [e2, e1]; exact over_put (over_put ho f2) f3
  · have hk : E = 0 := by
      apply Classical.byContradiction
      intro h; exact hk h
    obtain ⟨rfl, hcs⟩ := h0 hk
    obtain ⟨op, n, s, kids, aa⟩ := x
    have h4' := h4 hk
    rw [hcs] at h4'
    subst hk
    refine Load.mk' h4' (Nat.le_refl _) ?_
    refine Load.mk' h5 (Nat.le_refl _) ?_
    refine Sure.mk' ⟨⟨Ne.symm n25, trivial⟩, rfl⟩ ?_
    refine Store.mk' (exV (.mk op n s kids aa)) h2 (Nat.le_refl _) rfl (fun σ1 e1 => ?_)
    refine Sure.mk' ⟨trivial, rfl⟩ ?_
    refine Store.mk' [.int .i64 0, .int .i64 0] (by rw [e1, put_ne (Ne.symm n23)]; exact h3) (Nat.le_refl _) rfl (fun σ2 e2 => ?_)
    refine Load.mk' (by rw [e2, put_ne n23, e1]; exact put_box) (Nat.le_refl _) ?_
    refine Load.mk' (by rw [e2]; exact put_box) (Nat.le_refl _) ?_
    refine Ret.weak (r := exprR (.mk op n s kids aa) 0 0) (.refl _) (σ' := σ0) ?_ ⟨rfl, _, _, _, hx, rfl⟩
    rw [e2, e1]; exact over_put (over_put ho f2) f3

theorem errno_ne {E : Int} (h : E = 5 ∨ E = 2) : E ≠ 0 := by omega
theorem over_fr {σ0 σ σ' : St} {p : Nat} (h : Over σ0 σ) (hf : Fr p σ σ') (hp : σ0.box p = none) : Over σ0 σ' :=
  ⟨fun b cs hb => hf.box b cs (by rintro rfl; rw [hp] at hb; cases hb) (h.box b cs hb), fun t ht => hf.live t (h.live t ht), fun r m hm => hf.map r m (h.map r m hm)⟩

theorem exprP_call (src : List UInt8) (hs : src.length ≤ 70000) (σ : St) :
    SCall Tryz.prog LG 9 [.str src] σ fun e σ' => σ' = σ ∧ ∃ x a E, ExprIs src x a E ∧ e = .ret (exprR x a E) := by
  refine code9.call hm (by simp) ?_
  intro b2 f2
  intro b3 hb3
  have n23 := box_ne put_box hb3
  have f3 : σ.box b3 = none := put_none hb3
  have o2 : Over σ ((σ.put b2 noEx).put b3 [.int .i64 0, .int .i64 0]) := over_put (over_put (.refl _) f2) f3
  have h22 : ((σ.put b2 noEx).put b3 [.int .i64 0, .int .i64 0]).box b2 = some noEx := by rw [put_ne n23]; exact put_box
  have h32 : ((σ.put b2 noEx).put b3 [.int .i64 0, .int .i64 0]).box b3 = some [.int .i64 0, .int .i64 0] := put_box
  intro b4 hb4
  have n24 := box_ne h22 hb4
  have n34 := box_ne h32 hb4
  have f4 : σ.box b4 = none := put_none (put_none hb4)
  have o4 := over_put (cs := noEx) o2 f4
  have h24 : (((σ.put b2 noEx).put b3 [.int .i64 0, .int .i64 0]).put b4 noEx).box b2 = some noEx := by rw [put_ne n24]; exact h22
  have h34 : (((σ.put b2 noEx).put b3 [.int .i64 0, .int .i64 0]).put b4 noEx).box b3 = some [.int .i64 0, .int .i64 0] := by rw [put_ne n34]; exact h32
  have h44 : (((σ.put b2 noEx).put b3 [.int .i64 0, .int .i64 0]).put b4 noEx).box b4 = some noEx := put_box
  generalize ((σ.put b2 noEx).put b3 [.int .i64 0, .int .i64 0]).put b4 noEx = σ4 at o4 h24 h34 h44
  cases hl : lex src with
  | inl p =>
    obtain ⟨k, E⟩ := p
    have hE := (lex_err hl).1
    refine CallK.mk' (run_bad hs hl hE _) ?_
    rintro e σ5 ⟨o5, rfl⟩
    intro b5 hb5
    have h25 := o5.box _ _ h24
    have h35 := o5.box _ _ h34
    have n25 := box_ne h25 hb5
    have n35 := box_ne h35 hb5
    have o5' := over_tr o4 o5
    have f5 : σ.box b5 = none := by
      cases h : σ.box b5 with
      | none => rfl
      | some cs => rw [o5'.box _ _ h] at hb5; cases hb5
    refine Sure.mk' rfl ?_
    refine Store.mk' [.int .i64 k, .int .i64 E] put_box (Nat.le_refl _) rfl (fun σ6 e6 => ?_)
    rw [put_put] at e6
    exact expr9_end (cs := []) (x := .none) (by rw [e6]; exact over_put o5' f5) f2 f3 (by rw [e6, put_ne n25]; exact h25) (by rw [e6, put_ne n35]; exact h35) (fun h => absurd h (by omega)) (by rw [e6]; exact put_box) n23 n25 (fun _ => rfl) (fun h => absurd h (by omega)) (.lex hl)
  | inr ts =>
    obtain ⟨het, hlen⟩ := lex_ended hl
    refine CallK.mk' (run_ok hs hl h44 (expr_reader het h44)) ?_
    have fin : ∀ {a E : Int} {cs : List V} {x : Ex} {σ5 : St}, Fr b4 σ4 σ5 → (E = 0 → σ5.box b4 = some cs) → (E ≠ 0 → x = .none) → (E = 0 → a = 0 ∧ cs = exV x) → ExprIs src x a E → ∀ b5, σ5.box b5 = none → ∀ σ6, σ6 = σ5.put b5 [.int .i64 a, .int .i64 E] →
        swpE Tryz.prog LG scE9 (retE [(2, some (true, 5)), (3, some (true, 2))] (fun e σ' => σ' = σ ∧ ∃ x a E, ExprIs src x a E ∧ e = .ret (exprR x a E))) (ofL [(2, some (.loc b2 0)), (3, some (.loc b3 0)), (4, some (.loc b4 0)), (5, some (.loc b5 0))]) σ6 := by
      intro a E cs x σ5 hf5 h45 hE h0 hx b5 hb5 σ6 e6
      have h25 := hf5.box _ _ n24 h24
      have h35 := hf5.box _ _ n34 h34
      have n25 := box_ne h25 hb5
      have n35 := box_ne h35 hb5
      have o5' := over_fr o4 hf5 f4
      have f5 : σ.box b5 = none := by
        cases h : σ.box b5 with
        | none => rfl
        | some cs => rw [o5'.box _ _ h] at hb5; cases hb5
      exact expr9_end (cs := cs) (x := x) (by rw [e6]; exact over_put o5' f5) f2 f3 (by rw [e6, put_ne n25]; exact h25) (by rw [e6, put_ne n35]; exact h35) (fun h => by rw [e6, put_ne (box_ne (h45 h) hb5)]; exact h45 h) (by rw [e6]; exact put_box) n23 n25 hE h0 hx
    rintro e σ5 ⟨hf5, (⟨rest, cs, hk5, ⟨x, rfl, hx⟩, h45, rfl⟩ | ⟨E, rest, her, hbad, rfl⟩)⟩
    · intro b5 hb5
      refine Sure.mk' rfl ?_
      refine Store.mk' [.int .i64 0, .int .i64 0] put_box (Nat.le_refl _) rfl (fun σ6 e6 => ?_)
      rw [put_put] at e6
      exact fin hf5 (fun _ => h45) (fun h => absurd rfl h) (fun _ => ⟨rfl, rfl⟩) (.ok hl hx hk5) b5 hb5 σ6 e6
    · intro b5 hb5
      refine Sure.mk' rfl ?_
      refine Store.mk' [.int .i64 (hd rest).at_, .int .i64 E] put_box (Nat.le_refl _) rfl (fun σ6 e6 => ?_)
      rw [put_put] at e6
      rcases hbad with hbad | ⟨rfl, hk5, cs, x, rfl, hx⟩
      · have hE := errno_ne (hbad.errno rfl)
        exact fin (cs := []) (x := .none) hf5 (fun h => absurd h hE) (fun _ => rfl) (fun h => absurd h hE) (.bad hl hbad) b5 hb5 σ6 e6
      · exact fin (cs := []) (x := .none) hf5 (fun h => absurd h (by decide)) (fun _ => rfl) (fun h => absurd h (by decide)) (.more hl hx hk5) b5 hb5 σ6 e6

def scE8 : SC := match sc8 with
  | .seq _ (.seq _ (.seq _ r)) => r
  | _ => .skip
theorem forms8_end {σ0 σ : St} {src : List UInt8} {b3 b4 b5 : Nat} {a E : Int} {x : List Fo} {tag : Tag} {z : Nat} (ho : Over σ0 σ) (f3 : σ0.box b3 = none) (h3 : σ.box b3 = some [.int .i64 0, .int .i64 0]) (h4 : E = 0 → σ.box b4 = some [.slice tag z (x.map foV)] ∧ (z = 4 ∨ x.map foV = [])) (h5 : σ.box b5 = some [.int .i64 a, .int .i64 E])
    (hE : E ≠ 0 → x = []) (hx : FormsIs src x a E) :
    swpE Tryz.prog LG scE8 (retE [(2, none), (3, some (true, 2))] (fun e σ' => σ' = σ0 ∧ ∃ x a E, FormsIs src x a E ∧ e = .ret (formsR x a E))) (ofL [(3, some (.loc b3 0)), (4, some (.loc b4 0)), (5, some (.loc b5 0))]) σ := by
  refine Load.mk' h5 (by simp) ?_
  refine Test.split (fun hk => ?_) (fun hk => ?_)
  · refine Load.mk' h5 (Nat.le_refl _) ?_
    refine Sure.mk' rfl ?_
    refine Store.mk' [.int .i64 a, .int .i64 E] h3 (Nat.le_refl _) rfl (fun σ2 e2 => ?_)
    refine Load.mk' (by rw [e2]; exact put_box) (Nat.le_refl _) ?_
    refine Ret.weak (r := formsR x a E) ?_ (σ' := σ0) ?_ ⟨rfl, x, a, E, hx, rfl⟩
    · rw [hE hk]; exact Weak.tup2 (weak_nil _ _ _) (.refl _)
    · rw [e2]; exact over_put ho f3
  · have hk : E = 0 := by
      apply Classical.byContradiction
      intro h; exact hk h
    obtain ⟨h4, hz⟩ := h4 hk
    refine Load.mk' h4 (Nat.le_refl _) ?_
    refine Load.mk' h5 (Nat.le_refl _) ?_
    refine Sure.mk' rfl ?_
    refine Store.mk' [.int .i64 a, .int .i64 E] h3 (Nat.le_refl _) rfl (fun σ2 e2 => ?_)
    refine Load.mk' (by rw [e2]; exact put_box) (Nat.le_refl _) ?_
    refine Ret.weak (r := formsR x a E) (Weak.tup2 (weak_es hz) (.refl _)) (σ' := σ0) ?_ ⟨rfl, _, _, _, hx, rfl⟩
    rw [e2]; exact over_put ho f3

theorem formsP_call (src : List UInt8) (hs : src.length ≤ 70000) (σ : St) :
    SCall Tryz.prog LG 8 [.str src] σ fun e σ' => σ' = σ ∧ ∃ x a E, FormsIs src x a E ∧ e = .ret (formsR x a E) := by
  refine code8.call hm (by simp) ?_
  intro b3 f3
  have o2 : Over σ (σ.put b3 [.int .i64 0, .int .i64 0]) := over_put (.refl _) f3
  have h32 : (σ.put b3 [.int .i64 0, .int .i64 0]).box b3 = some [.int .i64 0, .int .i64 0] := put_box
  intro b4 hb4
  have n34 := box_ne h32 hb4
  have f4 : σ.box b4 = none := put_none hb4
  have o4 := over_put (cs := [.slice .nil 0 []]) o2 f4
  have h34 : ((σ.put b3 [.int .i64 0, .int .i64 0]).put b4 [.slice .nil 0 []]).box b3 = some [.int .i64 0, .int .i64 0] := by rw [put_ne n34]; exact h32
  have h44 : ((σ.put b3 [.int .i64 0, .int .i64 0]).put b4 [.slice .nil 0 []]).box b4 = some [.slice .nil 0 []] := put_box
  generalize (σ.put b3 [.int .i64 0, .int .i64 0]).put b4 [.slice .nil 0 []] = σ4 at o4 h34 h44
  cases hl : lex src with
  | inl p =>
    obtain ⟨k, E⟩ := p
    have hE := (lex_err hl).1
    refine CallK.mk' (run_bad hs hl hE _) ?_
    rintro e σ5 ⟨o5, rfl⟩
    intro b5 hb5
    have h35 := o5.box _ _ h34
    have n35 := box_ne h35 hb5
    have o5' := over_tr o4 o5
    have f5 : σ.box b5 = none := by
      cases h : σ.box b5 with
      | none => rfl
      | some cs => rw [o5'.box _ _ h] at hb5; cases hb5
    refine Sure.mk' rfl ?_
    refine Store.mk' [.int .i64 k, .int .i64 E] put_box (Nat.le_refl _) rfl (fun σ6 e6 => ?_)
    rw [put_put] at e6
    exact forms8_end (x := []) (tag := .nil) (z := 0) (by rw [e6]; exact over_put o5' f5) f3 (by rw [e6, put_ne n35]; exact h35) (fun h => absurd h (by omega)) (by rw [e6]; exact put_box) (fun _ => rfl) (.lex hl)
  | inr ts =>
    obtain ⟨het, hlen⟩ := lex_ended hl
    refine CallK.mk' (run_ok hs hl h44 (forms_reader het (by omega) h44)) ?_
    have fin : ∀ {a E : Int} {x : List Fo} {tag : Tag} {z : Nat} {σ5 : St}, Fr b4 σ4 σ5 → (E = 0 → σ5.box b4 = some [.slice tag z (x.map foV)] ∧ (z = 4 ∨ x.map foV = [])) → (E ≠ 0 → x = []) → FormsIs src x a E → ∀ b5, σ5.box b5 = none → ∀ σ6, σ6 = σ5.put b5 [.int .i64 a, .int .i64 E] →
        swpE Tryz.prog LG scE8 (retE [(2, none), (3, some (true, 2))] (fun e σ' => σ' = σ ∧ ∃ x a E, FormsIs src x a E ∧ e = .ret (formsR x a E))) (ofL [(3, some (.loc b3 0)), (4, some (.loc b4 0)), (5, some (.loc b5 0))]) σ6 := by
      intro a E x tag z σ5 hf5 h45 hE hx b5 hb5 σ6 e6
      have h35 := hf5.box _ _ n34 h34
      have n35 := box_ne h35 hb5
      have o5' := over_fr o4 hf5 f4
      have f5 : σ.box b5 = none := by
        cases h : σ.box b5 with
        | none => rfl
        | some cs => rw [o5'.box _ _ h] at hb5; cases hb5
      exact forms8_end (x := x) (tag := tag) (z := z) (by rw [e6]; exact over_put o5' f5) f3 (by rw [e6, put_ne n35]; exact h35) (fun h => ⟨by rw [e6, put_ne (box_ne (h45 h).1 hb5)]; exact (h45 h).1, (h45 h).2⟩) (by rw [e6]; exact put_box) hE hx
    rintro e σ5 ⟨hf5, (⟨rest, cs, hk5, ⟨⟨out, tag, z, rfl, hz, hx⟩, _⟩, h45, rfl⟩ | ⟨E, rest, her, hbad, rfl⟩)⟩
    · intro b5 hb5
      refine Sure.mk' rfl ?_
      refine Store.mk' [.int .i64 0, .int .i64 0] put_box (Nat.le_refl _) rfl (fun σ6 e6 => ?_)
      rw [put_put] at e6
      exact fin hf5 (fun _ => ⟨h45, hz⟩) (fun h => absurd rfl h) (.ok hl hx) b5 hb5 σ6 e6
    · intro b5 hb5
      refine Sure.mk' rfl ?_
      refine Store.mk' [.int .i64 (hd rest).at_, .int .i64 E] put_box (Nat.le_refl _) rfl (fun σ6 e6 => ?_)
      rw [put_put] at e6
      rcases hbad with hbad | ⟨rfl, hk5, cs, _, hx⟩
      · have hE := errno_ne (hbad.errno rfl)
        exact fin (x := []) (tag := .nil) (z := 0) hf5 (fun h => absurd h hE) (fun _ => rfl) (.bad hl hbad) b5 hb5 σ6 e6
      · exact absurd hx hk5
end Go.Shadow.Lex

/- Shadow code of the replacer of strings (printed by a program). -/
namespace Go.Shadow.Lex
open Go Go.RowKit Go.Proofs
/-- strings.NewReplacer -/
def sc65 : SC := (.seq (.region [.q 2 (.mv (.c .nilptr))] (some [0])) (.seq (.seq (.region [.q 3 (.mv (.t 0)), .q 4 (.len false (.t 3)), .q 5 (.bin .rem (.t 4) (.c (.int .i64 2))), .q 6 (.bin .eql (.t 5) (.c (.int .i64 1)))] (some [0, 6])) (.cond (.t 6) (some [0]) (.region [.q 7 (.mkif 9 (.c (.str [115, 116, 114, 105, 110, 103, 115, 46, 78, 101, 119, 82, 101, 112, 108, 97, 99, 101, 114, 58, 32, 111, 100, 100, 32, 97, 114, 103, 117, 109, 101, 110, 116, 32, 99, 111, 117, 110, 116]))), .w (.panic (.t 7))] (some [0])) .skip)) (.seq (.region [.q 8 (.mv (.t 0)), .q 9 (.append 1 16 (.c (.slice .nil 0 [])) (.t 8)), .q 10 (.build [(.int .u32 0), (.int .i32 0), (.int .u32 0), .nilIface, (.slice .nil 0 [])] [(4, (1, (.t 9)))]), .q 11 (.box (.t 10)), .q 2 (.mv (.t 11))] (some [2])) .ret)))
theorem code65 : IsCode Tryz.prog 65 sc65 [(2, none)] 12 := .mk' Tryz.func65 (by kernel_rfl) (by kernel_rfl) (by kernel_rfl) (by kernel_rfl)
/-- (*strings.Replacer).Replace -/
def sc66 : SC := (.seq (.region [.q 4 (.mv (.c (.str [])))] (some [0, 1])) (.seq (.region [.q 5 (.mv (.t 0)), .q 6 (.nilchk (.t 5)), .q 7 (.faddr 0 (.t 6)), .q 8 (.mv (.t 0)), .q 9 (.mkfn 90 [(.t 8)] []), .q 10 (.call 89 [(.t 7), (.t 9)])] (some [0, 1])) (.seq (.region [.q 11 (.mv (.t 0)), .q 12 (.nilchk (.t 11)), .q 13 (.faddr 3 (.t 12)), .q 14 (.load false 1 (.t 13)), .q 15 (.mv (.t 1)), .q 16 (.calli [(201, 209), (197, 207), (193, 203), (191, 200), (117, 66)] (.t 14) [(.t 15)]), .q 4 (.mv (.t 16))] (some [4])) .ret)))
theorem code66 : IsCode Tryz.prog 66 sc66 [(4, none)] 17 := .mk' Tryz.func66 (by kernel_rfl) (by kernel_rfl) (by kernel_rfl) (by kernel_rfl)
/-- (*sync.Once).Do -/
def sc89 : SC := (.seq (.region [.q 4 (.mv (.t 0)), .q 5 (.nilchk (.t 4)), .q 6 (.faddr 0 (.t 5)), .q 7 (.call 106 [(.t 6)]), .q 8 (.un .not (.t 7))] (some [0, 1, 8])) (.cond (.t 8) (some [0, 1]) (.region [.q 9 (.mv (.t 0)), .q 10 (.mv (.t 1)), .q 11 (.call 107 [(.t 9), (.t 10)])] (some [])) .skip))
theorem code89 : IsCode Tryz.prog 89 sc89 [] 12 := .mk' Tryz.func89 (by kernel_rfl) (by kernel_rfl) (by kernel_rfl) (by kernel_rfl)
/-- (*strings.Replacer).buildOnce -/
def sc90 : SC := (.seq (.region [.q 2 (.mv (.t 0)), .q 3 (.mv (.t 0)), .q 4 (.call 108 [(.t 3)]), .q 5 (.nilchk (.t 2)), .q 6 (.faddr 3 (.t 5)), .w (.store 1 (.t 6) (.t 4))] (some [0])) (.region [.q 7 (.mv (.t 0)), .q 8 (.nilchk (.t 7)), .q 9 (.faddr 4 (.t 8)), .w (.store 1 (.t 9) (.c (.slice .nil 0 [])))] (some [])))
theorem code90 : IsCode Tryz.prog 90 sc90 [] 10 := .mk' Tryz.func90 (by kernel_rfl) (by kernel_rfl) (by kernel_rfl) (by kernel_rfl)
/-- (*sync/atomic.Bool).Load -/
def sc106 : SC := (.seq (.region [.q 2 (.mv (.c (.bool false)))] (some [0])) (.seq (.region [.q 3 (.mv (.t 0)), .q 4 (.nilchk (.t 3)), .q 5 (.faddr 0 (.t 4)), .q 6 (.call 122 [(.t 5)]), .q 7 (.bin .neq (.t 6) (.c (.int .u32 0))), .q 2 (.mv (.t 7))] (some [2])) .ret))
theorem code106 : IsCode Tryz.prog 106 sc106 [(2, none)] 8 := .mk' Tryz.func106 (by kernel_rfl) (by kernel_rfl) (by kernel_rfl) (by kernel_rfl)
/-- (*sync.Once).doSlow -/
def sc107 : SD := (.seq (.region [.q 4 (.mv (.t 0)), .q 5 (.nilchk (.t 4)), .q 6 (.faddr 1 (.t 5)), .q 7 (.call 123 [(.t 6)])] (some [0, 1])) (.defer [.q 8 (.mv (.t 0)), .q 9 (.nilchk (.t 8)), .q 10 (.faddr 1 (.t 9))] (.f 124) [(.t 10)] (some [0, 1]) (.seq (.region [.q 11 (.mv (.t 0)), .q 12 (.nilchk (.t 11)), .q 13 (.faddr 0 (.t 12)), .q 14 (.call 106 [(.t 13)]), .q 15 (.un .not (.t 14))] (some [0, 1, 15])) (.cond (.t 15) (some [0, 1]) (.defer [.q 16 (.mv (.t 0)), .q 17 (.nilchk (.t 16)), .q 18 (.faddr 0 (.t 17))] (.f 125) [(.t 18), (.c (.bool true))] (some [1]) (.code (.region [.q 19 (.mv (.t 1)), .q 20 (.callv (.t 19) [])] (some [])))) (.code .skip)))))
theorem code107 : IsCodeD Tryz.prog 107 sc107 [] 21 := .mk' Tryz.func107 (by kernel_rfl) (by kernel_rfl) (by kernel_rfl) (by kernel_rfl)
/-- (*strings.Replacer).build -/
def sc108 : SC := (.seq (.region [.q 2 (.mv (.c .nilIface))] (some [0])) (.seq (.region [.q 15 (.mv (.t 0)), .q 16 (.nilchk (.t 15)), .q 17 (.faddr 4 (.t 16)), .q 18 (.load false 1 (.t 17)), .q 3 (.mv (.t 18))] (some [3])) (.seq (.seq (.region [.q 19 (.mv (.t 3)), .q 20 (.len false (.t 19)), .q 21 (.bin .eql (.t 20) (.c (.int .i64 2))), .q 22 (.mv (.t 21)), ⟨(some 23), (.mv (.t 3)), (some (22, true))⟩, ⟨(some 24), (.iaddr 1 (.t 23) (.c (.int .i64 0))), (some (22, true))⟩, ⟨(some 25), (.load false 1 (.t 24)), (some (22, true))⟩, ⟨(some 26), (.len true (.t 25)), (some (22, true))⟩, ⟨(some 27), (.bin .gtr (.t 26) (.c (.int .i64 1))), (some (22, true))⟩, .q 28 (.pick (.t 22) (.t 27) (.c (.bool false)))] (some [3, 28])) (.cond (.t 28) (some [3]) (.seq (.region [.q 29 (.mv (.t 3)), .q 30 (.iaddr 1 (.t 29) (.c (.int .i64 0))), .q 31 (.load false 1 (.t 30)), .q 32 (.mv (.t 3)), .q 33 (.iaddr 1 (.t 32) (.c (.int .i64 1))), .q 34 (.load false 1 (.t 33)), .q 35 (.call 126 [(.t 31), (.t 34)]), .q 36 (.mkif 191 (.t 35)), .q 2 (.mv (.t 36))] (some [2])) .ret) .skip)) (.seq (.region [.q 4 (.mv (.c (.bool true)))] (some [3, 4])) (.seq (.seq (.region [.q 5 (.mv (.c (.int .i64 0)))] (some [3, 4, 5])) (.block 0 (.loop (.seq (.seq (.region [.q 37 (.mv (.t 5)), .q 38 (.mv (.t 3)), .q 39 (.len false (.t 38)), .q 40 (.bin .lss (.t 37) (.t 39))] (some [3, 4, 5, 40])) (.cond (.t 40) (some [3, 4, 5]) .skip (.exit 0))) (.seq (.block 1 (.seq (.seq (.region [.q 43 (.mv (.t 3)), .q 44 (.mv (.t 5)), .q 45 (.iaddr 1 (.t 43) (.t 44)), .q 46 (.load false 1 (.t 45)), .q 47 (.len true (.t 46)), .q 48 (.bin .neq (.t 47) (.c (.int .i64 1)))] (some [3, 4, 5, 48])) (.cond (.t 48) (some [3, 4, 5]) (.seq (.region [.q 49 (.mv (.t 3)), .q 50 (.call 127 [(.t 49)]), .q 51 (.mkif 193 (.t 50)), .q 2 (.mv (.t 51))] (some [2])) .ret) .skip)) (.seq (.region [.q 52 (.mv (.t 3)), .q 53 (.mv (.t 5)), .q 54 (.bin .add (.t 53) (.c (.int .i64 1))), .q 55 (.iaddr 1 (.t 52) (.t 54)), .q 56 (.load false 1 (.t 55)), .q 57 (.len true (.t 56)), .q 58 (.bin .neq (.t 57) (.c (.int .i64 1)))] (some [3, 4, 5, 58])) (.cond (.t 58) (some [3, 4, 5]) (.region [.q 4 (.mv (.c (.bool false)))] (some [3, 4, 5])) .skip)))) (.region [.q 41 (.mv (.t 5)), .q 42 (.bin .add (.t 41) (.c (.int .i64 2))), .q 5 (.mv (.t 42))] (some [3, 4, 5]))))))) (.seq (.seq (.region [.q 59 (.mv (.t 4))] (some [3, 59])) (.cond (.t 59) (some [3]) (.seq (.region [.q 60 (.build [(.int .u8 0), (.int .u8 0), (.int .u8 0), (.int .u8 0), (.int .u8 0), (.int .u8 0), (.int .u8 0), (.int .u8 0), (.int .u8 0), (.int .u8 0), (.int .u8 0), (.int .u8 0), (.int .u8 0), (.int .u8 0), (.int .u8 0), (.int .u8 0), (.int .u8 0), (.int .u8 0), (.int .u8 0), (.int .u8 0), (.int .u8 0), (.int .u8 0), (.int .u8 0), (.int .u8 0), (.int .u8 0), (.int .u8 0), (.int .u8 0), (.int .u8 0), (.int .u8 0), (.int .u8 0), (.int .u8 0), (.int .u8 0), (.int .u8 0), (.int .u8 0), (.int .u8 0), (.int .u8 0), (.int .u8 0), (.int .u8 0), (.int .u8 0), (.int .u8 0), (.int .u8 0), (.int .u8 0), (.int .u8 0), (.int .u8 0), (.int .u8 0), (.int .u8 0), (.int .u8 0), (.int .u8 0), (.int .u8 0), (.int .u8 0), (.int .u8 0), (.int .u8 0), (.int .u8 0), (.int .u8 0), (.int .u8 0), (.int .u8 0), (.int .u8 0), (.int .u8 0), (.int .u8 0), (.int .u8 0), (.int .u8 0), (.int .u8 0), (.int .u8 0), (.int .u8 0), (.int .u8 0), (.int .u8 0), (.int .u8 0), (.int .u8 0), (.int .u8 0), (.int .u8 0), (.int .u8 0), (.int .u8 0), (.int .u8 0), (.int .u8 0), (.int .u8 0), (.int .u8 0), (.int .u8 0), (.int .u8 0), (.int .u8 0), (.int .u8 0), (.int .u8 0), (.int .u8 0), (.int .u8 0), (.int .u8 0), (.int .u8 0), (.int .u8 0), (.int .u8 0), (.int .u8 0), (.int .u8 0), (.int .u8 0), (.int .u8 0), (.int .u8 0), (.int .u8 0), (.int .u8 0), (.int .u8 0), (.int .u8 0), (.int .u8 0), (.int .u8 0), (.int .u8 0), (.int .u8 0), (.int .u8 0), (.int .u8 0), (.int .u8 0), (.int .u8 0), (.int .u8 0), (.int .u8 0), (.int .u8 0), (.int .u8 0), (.int .u8 0), (.int .u8 0), (.int .u8 0), (.int .u8 0), (.int .u8 0), (.int .u8 0), (.int .u8 0), (.int .u8 0), (.int .u8 0), (.int .u8 0), (.int .u8 0), (.int .u8 0), (.int .u8 0), (.int .u8 0), (.int .u8 0), (.int .u8 0), (.int .u8 0), (.int .u8 0), (.int .u8 0), (.int .u8 0), (.int .u8 0), (.int .u8 0), (.int .u8 0), (.int .u8 0), (.int .u8 0), (.int .u8 0), (.int .u8 0), (.int .u8 0), (.int .u8 0), (.int .u8 0), (.int .u8 0), (.int .u8 0), (.int .u8 0), (.int .u8 0), (.int .u8 0), (.int .u8 0), (.int .u8 0), (.int .u8 0), (.int .u8 0), (.int .u8 0), (.int .u8 0), (.int .u8 0), (.int .u8 0), (.int .u8 0), (.int .u8 0), (.int .u8 0), (.int .u8 0), (.int .u8 0), (.int .u8 0), (.int .u8 0), (.int .u8 0), (.int .u8 0), (.int .u8 0), (.int .u8 0), (.int .u8 0), (.int .u8 0), (.int .u8 0), (.int .u8 0), (.int .u8 0), (.int .u8 0), (.int .u8 0), (.int .u8 0), (.int .u8 0), (.int .u8 0), (.int .u8 0), (.int .u8 0), (.int .u8 0), (.int .u8 0), (.int .u8 0), (.int .u8 0), (.int .u8 0), (.int .u8 0), (.int .u8 0), (.int .u8 0), (.int .u8 0), (.int .u8 0), (.int .u8 0), (.int .u8 0), (.int .u8 0), (.int .u8 0), (.int .u8 0), (.int .u8 0), (.int .u8 0), (.int .u8 0), (.int .u8 0), (.int .u8 0), (.int .u8 0), (.int .u8 0), (.int .u8 0), (.int .u8 0), (.int .u8 0), (.int .u8 0), (.int .u8 0), (.int .u8 0), (.int .u8 0), (.int .u8 0), (.int .u8 0), (.int .u8 0), (.int .u8 0), (.int .u8 0), (.int .u8 0), (.int .u8 0), (.int .u8 0), (.int .u8 0), (.int .u8 0), (.int .u8 0), (.int .u8 0), (.int .u8 0), (.int .u8 0), (.int .u8 0), (.int .u8 0), (.int .u8 0), (.int .u8 0), (.int .u8 0), (.int .u8 0), (.int .u8 0), (.int .u8 0), (.int .u8 0), (.int .u8 0), (.int .u8 0), (.int .u8 0), (.int .u8 0), (.int .u8 0), (.int .u8 0), (.int .u8 0), (.int .u8 0), (.int .u8 0), (.int .u8 0), (.int .u8 0), (.int .u8 0), (.int .u8 0), (.int .u8 0), (.int .u8 0), (.int .u8 0), (.int .u8 0), (.int .u8 0), (.int .u8 0), (.int .u8 0), (.int .u8 0), (.int .u8 0), (.int .u8 0), (.int .u8 0), (.int .u8 0), (.int .u8 0), (.int .u8 0), (.int .u8 0), (.int .u8 0), (.int .u8 0)] []), .q 6 (.alloc [(.int .u8 0), (.int .u8 0), (.int .u8 0), (.int .u8 0), (.int .u8 0), (.int .u8 0), (.int .u8 0), (.int .u8 0), (.int .u8 0), (.int .u8 0), (.int .u8 0), (.int .u8 0), (.int .u8 0), (.int .u8 0), (.int .u8 0), (.int .u8 0), (.int .u8 0), (.int .u8 0), (.int .u8 0), (.int .u8 0), (.int .u8 0), (.int .u8 0), (.int .u8 0), (.int .u8 0), (.int .u8 0), (.int .u8 0), (.int .u8 0), (.int .u8 0), (.int .u8 0), (.int .u8 0), (.int .u8 0), (.int .u8 0), (.int .u8 0), (.int .u8 0), (.int .u8 0), (.int .u8 0), (.int .u8 0), (.int .u8 0), (.int .u8 0), (.int .u8 0), (.int .u8 0), (.int .u8 0), (.int .u8 0), (.int .u8 0), (.int .u8 0), (.int .u8 0), (.int .u8 0), (.int .u8 0), (.int .u8 0), (.int .u8 0), (.int .u8 0), (.int .u8 0), (.int .u8 0), (.int .u8 0), (.int .u8 0), (.int .u8 0), (.int .u8 0), (.int .u8 0), (.int .u8 0), (.int .u8 0), (.int .u8 0), (.int .u8 0), (.int .u8 0), (.int .u8 0), (.int .u8 0), (.int .u8 0), (.int .u8 0), (.int .u8 0), (.int .u8 0), (.int .u8 0), (.int .u8 0), (.int .u8 0), (.int .u8 0), (.int .u8 0), (.int .u8 0), (.int .u8 0), (.int .u8 0), (.int .u8 0), (.int .u8 0), (.int .u8 0), (.int .u8 0), (.int .u8 0), (.int .u8 0), (.int .u8 0), (.int .u8 0), (.int .u8 0), (.int .u8 0), (.int .u8 0), (.int .u8 0), (.int .u8 0), (.int .u8 0), (.int .u8 0), (.int .u8 0), (.int .u8 0), (.int .u8 0), (.int .u8 0), (.int .u8 0), (.int .u8 0), (.int .u8 0), (.int .u8 0), (.int .u8 0), (.int .u8 0), (.int .u8 0), (.int .u8 0), (.int .u8 0), (.int .u8 0), (.int .u8 0), (.int .u8 0), (.int .u8 0), (.int .u8 0), (.int .u8 0), (.int .u8 0), (.int .u8 0), (.int .u8 0), (.int .u8 0), (.int .u8 0), (.int .u8 0), (.int .u8 0), (.int .u8 0), (.int .u8 0), (.int .u8 0), (.int .u8 0), (.int .u8 0), (.int .u8 0), (.int .u8 0), (.int .u8 0), (.int .u8 0), (.int .u8 0), (.int .u8 0), (.int .u8 0), (.int .u8 0), (.int .u8 0), (.int .u8 0), (.int .u8 0), (.int .u8 0), (.int .u8 0), (.int .u8 0), (.int .u8 0), (.int .u8 0), (.int .u8 0), (.int .u8 0), (.int .u8 0), (.int .u8 0), (.int .u8 0), (.int .u8 0), (.int .u8 0), (.int .u8 0), (.int .u8 0), (.int .u8 0), (.int .u8 0), (.int .u8 0), (.int .u8 0), (.int .u8 0), (.int .u8 0), (.int .u8 0), (.int .u8 0), (.int .u8 0), (.int .u8 0), (.int .u8 0), (.int .u8 0), (.int .u8 0), (.int .u8 0), (.int .u8 0), (.int .u8 0), (.int .u8 0), (.int .u8 0), (.int .u8 0), (.int .u8 0), (.int .u8 0), (.int .u8 0), (.int .u8 0), (.int .u8 0), (.int .u8 0), (.int .u8 0), (.int .u8 0), (.int .u8 0), (.int .u8 0), (.int .u8 0), (.int .u8 0), (.int .u8 0), (.int .u8 0), (.int .u8 0), (.int .u8 0), (.int .u8 0), (.int .u8 0), (.int .u8 0), (.int .u8 0), (.int .u8 0), (.int .u8 0), (.int .u8 0), (.int .u8 0), (.int .u8 0), (.int .u8 0), (.int .u8 0), (.int .u8 0), (.int .u8 0), (.int .u8 0), (.int .u8 0), (.int .u8 0), (.int .u8 0), (.int .u8 0), (.int .u8 0), (.int .u8 0), (.int .u8 0), (.int .u8 0), (.int .u8 0), (.int .u8 0), (.int .u8 0), (.int .u8 0), (.int .u8 0), (.int .u8 0), (.int .u8 0), (.int .u8 0), (.int .u8 0), (.int .u8 0), (.int .u8 0), (.int .u8 0), (.int .u8 0), (.int .u8 0), (.int .u8 0), (.int .u8 0), (.int .u8 0), (.int .u8 0), (.int .u8 0), (.int .u8 0), (.int .u8 0), (.int .u8 0), (.int .u8 0), (.int .u8 0), (.int .u8 0), (.int .u8 0), (.int .u8 0), (.int .u8 0), (.int .u8 0), (.int .u8 0), (.int .u8 0), (.int .u8 0), (.int .u8 0), (.int .u8 0), (.int .u8 0), (.int .u8 0), (.int .u8 0), (.int .u8 0), (.int .u8 0), (.int .u8 0), (.int .u8 0), (.int .u8 0), (.int .u8 0), (.int .u8 0), (.int .u8 0), (.int .u8 0), (.int .u8 0), (.int .u8 0), (.int .u8 0), (.int .u8 0), (.int .u8 0)]), .w (.store 256 (.t 6) (.t 60))] (some [3, 6])) (.seq (.seq (.region [.q 61 (.mv (.c (.int .i64 0)))] (some [3, 6, 61])) (.block 2 (.loop (.seq (.region [.q 62 (.bin .lss (.t 61) (.c (.int .i64 256)))] (some [3, 6, 61, 62])) (.seq (.cond (.t 62) (some [3, 6, 61]) .skip (.exit 2)) (.seq (.block 3 (.seq (.region [.q 63 (.mv (.t 61)), .q 7 (.mv (.t 63))] (some [3, 6, 7, 61])) (.region [.q 64 (.mv (.t 7)), .q 65 (.mv (.t 7)), .q 66 (.i2i .u8 (.t 65)), .q 67 (.iaddrA 1 256 (.t 6) (.t 64)), .w (.store 1 (.t 67) (.t 66))] (some [3, 6, 61])))) (.region [.q 68 (.bin .add (.t 61) (.c (.int .i64 1))), .q 61 (.mv (.t 68))] (some [3, 6, 61])))))))) (.seq (.seq (.region [.q 69 (.mv (.t 3)), .q 70 (.len false (.t 69)), .q 71 (.bin .sub (.t 70) (.c (.int .i64 2))), .q 8 (.mv (.t 71))] (some [3, 6, 8])) (.block 4 (.loop (.seq (.seq (.region [.q 72 (.mv (.t 8)), .q 73 (.bin .geq (.t 72) (.c (.int .i64 0)))] (some [3, 6, 8, 73])) (.cond (.t 73) (some [3, 6, 8]) .skip (.exit 4))) (.seq (.block 5 (.seq (.region [.q 76 (.mv (.t 3)), .q 77 (.mv (.t 8)), .q 78 (.iaddr 1 (.t 76) (.t 77)), .q 79 (.load false 1 (.t 78)), .q 80 (.idxs (.t 79) (.c (.int .i64 0))), .q 9 (.mv (.t 80))] (some [3, 6, 8, 9])) (.seq (.region [.q 81 (.mv (.t 3)), .q 82 (.mv (.t 8)), .q 83 (.bin .add (.t 82) (.c (.int .i64 1))), .q 84 (.iaddr 1 (.t 81) (.t 83)), .q 85 (.load false 1 (.t 84)), .q 86 (.idxs (.t 85) (.c (.int .i64 0))), .q 10 (.mv (.t 86))] (some [3, 6, 8, 9, 10])) (.region [.q 87 (.mv (.t 9)), .q 88 (.mv (.t 10)), .q 89 (.iaddrA 1 256 (.t 6) (.t 87)), .w (.store 1 (.t 89) (.t 88))] (some [3, 6, 8]))))) (.region [.q 74 (.mv (.t 8)), .q 75 (.bin .sub (.t 74) (.c (.int .i64 2))), .q 8 (.mv (.t 75))] (some [3, 6, 8]))))))) (.seq (.region [.q 90 (.mkif 197 (.t 6)), .q 2 (.mv (.t 90))] (some [2])) .ret)))) .skip)) (.seq (.region [.q 91 (.mv (.t 3)), .q 92 (.len false (.t 91)), .q 93 (.bin .quo (.t 92) (.c (.int .i64 2))), .q 94 (.mkmsl 1 16 [(.str [])] (.c (.int .i64 0)) (.t 93)), .q 95 (.build [(.slice .nil 0 []), (.slice .nil 0 []), (.slice .nil 0 []), (.slice .nil 0 []), (.slice .nil 0 []), (.slice .nil 0 []), (.slice .nil 0 []), (.slice .nil 0 []), (.slice .nil 0 []), (.slice .nil 0 []), (.slice .nil 0 []), (.slice .nil 0 []), (.slice .nil 0 []), (.slice .nil 0 []), (.slice .nil 0 []), (.slice .nil 0 []), (.slice .nil 0 []), (.slice .nil 0 []), (.slice .nil 0 []), (.slice .nil 0 []), (.slice .nil 0 []), (.slice .nil 0 []), (.slice .nil 0 []), (.slice .nil 0 []), (.slice .nil 0 []), (.slice .nil 0 []), (.slice .nil 0 []), (.slice .nil 0 []), (.slice .nil 0 []), (.slice .nil 0 []), (.slice .nil 0 []), (.slice .nil 0 []), (.slice .nil 0 []), (.slice .nil 0 []), (.slice .nil 0 []), (.slice .nil 0 []), (.slice .nil 0 []), (.slice .nil 0 []), (.slice .nil 0 []), (.slice .nil 0 []), (.slice .nil 0 []), (.slice .nil 0 []), (.slice .nil 0 []), (.slice .nil 0 []), (.slice .nil 0 []), (.slice .nil 0 []), (.slice .nil 0 []), (.slice .nil 0 []), (.slice .nil 0 []), (.slice .nil 0 []), (.slice .nil 0 []), (.slice .nil 0 []), (.slice .nil 0 []), (.slice .nil 0 []), (.slice .nil 0 []), (.slice .nil 0 []), (.slice .nil 0 []), (.slice .nil 0 []), (.slice .nil 0 []), (.slice .nil 0 []), (.slice .nil 0 []), (.slice .nil 0 []), (.slice .nil 0 []), (.slice .nil 0 []), (.slice .nil 0 []), (.slice .nil 0 []), (.slice .nil 0 []), (.slice .nil 0 []), (.slice .nil 0 []), (.slice .nil 0 []), (.slice .nil 0 []), (.slice .nil 0 []), (.slice .nil 0 []), (.slice .nil 0 []), (.slice .nil 0 []), (.slice .nil 0 []), (.slice .nil 0 []), (.slice .nil 0 []), (.slice .nil 0 []), (.slice .nil 0 []), (.slice .nil 0 []), (.slice .nil 0 []), (.slice .nil 0 []), (.slice .nil 0 []), (.slice .nil 0 []), (.slice .nil 0 []), (.slice .nil 0 []), (.slice .nil 0 []), (.slice .nil 0 []), (.slice .nil 0 []), (.slice .nil 0 []), (.slice .nil 0 []), (.slice .nil 0 []), (.slice .nil 0 []), (.slice .nil 0 []), (.slice .nil 0 []), (.slice .nil 0 []), (.slice .nil 0 []), (.slice .nil 0 []), (.slice .nil 0 []), (.slice .nil 0 []), (.slice .nil 0 []), (.slice .nil 0 []), (.slice .nil 0 []), (.slice .nil 0 []), (.slice .nil 0 []), (.slice .nil 0 []), (.slice .nil 0 []), (.slice .nil 0 []), (.slice .nil 0 []), (.slice .nil 0 []), (.slice .nil 0 []), (.slice .nil 0 []), (.slice .nil 0 []), (.slice .nil 0 []), (.slice .nil 0 []), (.slice .nil 0 []), (.slice .nil 0 []), (.slice .nil 0 []), (.slice .nil 0 []), (.slice .nil 0 []), (.slice .nil 0 []), (.slice .nil 0 []), (.slice .nil 0 []), (.slice .nil 0 []), (.slice .nil 0 []), (.slice .nil 0 []), (.slice .nil 0 []), (.slice .nil 0 []), (.slice .nil 0 []), (.slice .nil 0 []), (.slice .nil 0 []), (.slice .nil 0 []), (.slice .nil 0 []), (.slice .nil 0 []), (.slice .nil 0 []), (.slice .nil 0 []), (.slice .nil 0 []), (.slice .nil 0 []), (.slice .nil 0 []), (.slice .nil 0 []), (.slice .nil 0 []), (.slice .nil 0 []), (.slice .nil 0 []), (.slice .nil 0 []), (.slice .nil 0 []), (.slice .nil 0 []), (.slice .nil 0 []), (.slice .nil 0 []), (.slice .nil 0 []), (.slice .nil 0 []), (.slice .nil 0 []), (.slice .nil 0 []), (.slice .nil 0 []), (.slice .nil 0 []), (.slice .nil 0 []), (.slice .nil 0 []), (.slice .nil 0 []), (.slice .nil 0 []), (.slice .nil 0 []), (.slice .nil 0 []), (.slice .nil 0 []), (.slice .nil 0 []), (.slice .nil 0 []), (.slice .nil 0 []), (.slice .nil 0 []), (.slice .nil 0 []), (.slice .nil 0 []), (.slice .nil 0 []), (.slice .nil 0 []), (.slice .nil 0 []), (.slice .nil 0 []), (.slice .nil 0 []), (.slice .nil 0 []), (.slice .nil 0 []), (.slice .nil 0 []), (.slice .nil 0 []), (.slice .nil 0 []), (.slice .nil 0 []), (.slice .nil 0 []), (.slice .nil 0 []), (.slice .nil 0 []), (.slice .nil 0 []), (.slice .nil 0 []), (.slice .nil 0 []), (.slice .nil 0 []), (.slice .nil 0 []), (.slice .nil 0 []), (.slice .nil 0 []), (.slice .nil 0 []), (.slice .nil 0 []), (.slice .nil 0 []), (.slice .nil 0 []), (.slice .nil 0 []), (.slice .nil 0 []), (.slice .nil 0 []), (.slice .nil 0 []), (.slice .nil 0 []), (.slice .nil 0 []), (.slice .nil 0 []), (.slice .nil 0 []), (.slice .nil 0 []), (.slice .nil 0 []), (.slice .nil 0 []), (.slice .nil 0 []), (.slice .nil 0 []), (.slice .nil 0 []), (.slice .nil 0 []), (.slice .nil 0 []), (.slice .nil 0 []), (.slice .nil 0 []), (.slice .nil 0 []), (.slice .nil 0 []), (.slice .nil 0 []), (.slice .nil 0 []), (.slice .nil 0 []), (.slice .nil 0 []), (.slice .nil 0 []), (.slice .nil 0 []), (.slice .nil 0 []), (.slice .nil 0 []), (.slice .nil 0 []), (.slice .nil 0 []), (.slice .nil 0 []), (.slice .nil 0 []), (.slice .nil 0 []), (.slice .nil 0 []), (.slice .nil 0 []), (.slice .nil 0 []), (.slice .nil 0 []), (.slice .nil 0 []), (.slice .nil 0 []), (.slice .nil 0 []), (.slice .nil 0 []), (.slice .nil 0 []), (.slice .nil 0 []), (.slice .nil 0 []), (.slice .nil 0 []), (.slice .nil 0 []), (.slice .nil 0 []), (.slice .nil 0 []), (.slice .nil 0 []), (.slice .nil 0 []), (.slice .nil 0 []), (.slice .nil 0 []), (.slice .nil 0 []), (.slice .nil 0 []), (.slice .nil 0 []), (.slice .nil 0 []), (.slice .nil 0 []), (.slice .nil 0 []), (.slice .nil 0 []), (.slice .nil 0 []), (.slice .nil 0 []), (.slice .nil 0 []), (.slice .nil 0 []), (.slice .nil 0 [])] [(256, (1, (.t 94)))]), .q 11 (.alloc [(.slice .nil 0 []), (.slice .nil 0 []), (.slice .nil 0 []), (.slice .nil 0 []), (.slice .nil 0 []), (.slice .nil 0 []), (.slice .nil 0 []), (.slice .nil 0 []), (.slice .nil 0 []), (.slice .nil 0 []), (.slice .nil 0 []), (.slice .nil 0 []), (.slice .nil 0 []), (.slice .nil 0 []), (.slice .nil 0 []), (.slice .nil 0 []), (.slice .nil 0 []), (.slice .nil 0 []), (.slice .nil 0 []), (.slice .nil 0 []), (.slice .nil 0 []), (.slice .nil 0 []), (.slice .nil 0 []), (.slice .nil 0 []), (.slice .nil 0 []), (.slice .nil 0 []), (.slice .nil 0 []), (.slice .nil 0 []), (.slice .nil 0 []), (.slice .nil 0 []), (.slice .nil 0 []), (.slice .nil 0 []), (.slice .nil 0 []), (.slice .nil 0 []), (.slice .nil 0 []), (.slice .nil 0 []), (.slice .nil 0 []), (.slice .nil 0 []), (.slice .nil 0 []), (.slice .nil 0 []), (.slice .nil 0 []), (.slice .nil 0 []), (.slice .nil 0 []), (.slice .nil 0 []), (.slice .nil 0 []), (.slice .nil 0 []), (.slice .nil 0 []), (.slice .nil 0 []), (.slice .nil 0 []), (.slice .nil 0 []), (.slice .nil 0 []), (.slice .nil 0 []), (.slice .nil 0 []), (.slice .nil 0 []), (.slice .nil 0 []), (.slice .nil 0 []), (.slice .nil 0 []), (.slice .nil 0 []), (.slice .nil 0 []), (.slice .nil 0 []), (.slice .nil 0 []), (.slice .nil 0 []), (.slice .nil 0 []), (.slice .nil 0 []), (.slice .nil 0 []), (.slice .nil 0 []), (.slice .nil 0 []), (.slice .nil 0 []), (.slice .nil 0 []), (.slice .nil 0 []), (.slice .nil 0 []), (.slice .nil 0 []), (.slice .nil 0 []), (.slice .nil 0 []), (.slice .nil 0 []), (.slice .nil 0 []), (.slice .nil 0 []), (.slice .nil 0 []), (.slice .nil 0 []), (.slice .nil 0 []), (.slice .nil 0 []), (.slice .nil 0 []), (.slice .nil 0 []), (.slice .nil 0 []), (.slice .nil 0 []), (.slice .nil 0 []), (.slice .nil 0 []), (.slice .nil 0 []), (.slice .nil 0 []), (.slice .nil 0 []), (.slice .nil 0 []), (.slice .nil 0 []), (.slice .nil 0 []), (.slice .nil 0 []), (.slice .nil 0 []), (.slice .nil 0 []), (.slice .nil 0 []), (.slice .nil 0 []), (.slice .nil 0 []), (.slice .nil 0 []), (.slice .nil 0 []), (.slice .nil 0 []), (.slice .nil 0 []), (.slice .nil 0 []), (.slice .nil 0 []), (.slice .nil 0 []), (.slice .nil 0 []), (.slice .nil 0 []), (.slice .nil 0 []), (.slice .nil 0 []), (.slice .nil 0 []), (.slice .nil 0 []), (.slice .nil 0 []), (.slice .nil 0 []), (.slice .nil 0 []), (.slice .nil 0 []), (.slice .nil 0 []), (.slice .nil 0 []), (.slice .nil 0 []), (.slice .nil 0 []), (.slice .nil 0 []), (.slice .nil 0 []), (.slice .nil 0 []), (.slice .nil 0 []), (.slice .nil 0 []), (.slice .nil 0 []), (.slice .nil 0 []), (.slice .nil 0 []), (.slice .nil 0 []), (.slice .nil 0 []), (.slice .nil 0 []), (.slice .nil 0 []), (.slice .nil 0 []), (.slice .nil 0 []), (.slice .nil 0 []), (.slice .nil 0 []), (.slice .nil 0 []), (.slice .nil 0 []), (.slice .nil 0 []), (.slice .nil 0 []), (.slice .nil 0 []), (.slice .nil 0 []), (.slice .nil 0 []), (.slice .nil 0 []), (.slice .nil 0 []), (.slice .nil 0 []), (.slice .nil 0 []), (.slice .nil 0 []), (.slice .nil 0 []), (.slice .nil 0 []), (.slice .nil 0 []), (.slice .nil 0 []), (.slice .nil 0 []), (.slice .nil 0 []), (.slice .nil 0 []), (.slice .nil 0 []), (.slice .nil 0 []), (.slice .nil 0 []), (.slice .nil 0 []), (.slice .nil 0 []), (.slice .nil 0 []), (.slice .nil 0 []), (.slice .nil 0 []), (.slice .nil 0 []), (.slice .nil 0 []), (.slice .nil 0 []), (.slice .nil 0 []), (.slice .nil 0 []), (.slice .nil 0 []), (.slice .nil 0 []), (.slice .nil 0 []), (.slice .nil 0 []), (.slice .nil 0 []), (.slice .nil 0 []), (.slice .nil 0 []), (.slice .nil 0 []), (.slice .nil 0 []), (.slice .nil 0 []), (.slice .nil 0 []), (.slice .nil 0 []), (.slice .nil 0 []), (.slice .nil 0 []), (.slice .nil 0 []), (.slice .nil 0 []), (.slice .nil 0 []), (.slice .nil 0 []), (.slice .nil 0 []), (.slice .nil 0 []), (.slice .nil 0 []), (.slice .nil 0 []), (.slice .nil 0 []), (.slice .nil 0 []), (.slice .nil 0 []), (.slice .nil 0 []), (.slice .nil 0 []), (.slice .nil 0 []), (.slice .nil 0 []), (.slice .nil 0 []), (.slice .nil 0 []), (.slice .nil 0 []), (.slice .nil 0 []), (.slice .nil 0 []), (.slice .nil 0 []), (.slice .nil 0 []), (.slice .nil 0 []), (.slice .nil 0 []), (.slice .nil 0 []), (.slice .nil 0 []), (.slice .nil 0 []), (.slice .nil 0 []), (.slice .nil 0 []), (.slice .nil 0 []), (.slice .nil 0 []), (.slice .nil 0 []), (.slice .nil 0 []), (.slice .nil 0 []), (.slice .nil 0 []), (.slice .nil 0 []), (.slice .nil 0 []), (.slice .nil 0 []), (.slice .nil 0 []), (.slice .nil 0 []), (.slice .nil 0 []), (.slice .nil 0 []), (.slice .nil 0 []), (.slice .nil 0 []), (.slice .nil 0 []), (.slice .nil 0 []), (.slice .nil 0 []), (.slice .nil 0 []), (.slice .nil 0 []), (.slice .nil 0 []), (.slice .nil 0 []), (.slice .nil 0 []), (.slice .nil 0 []), (.slice .nil 0 []), (.slice .nil 0 []), (.slice .nil 0 []), (.slice .nil 0 []), (.slice .nil 0 []), (.slice .nil 0 []), (.slice .nil 0 []), (.slice .nil 0 []), (.slice .nil 0 []), (.slice .nil 0 []), (.slice .nil 0 []), (.slice .nil 0 []), (.slice .nil 0 []), (.slice .nil 0 []), (.slice .nil 0 []), (.slice .nil 0 []), (.slice .nil 0 []), (.slice .nil 0 []), (.slice .nil 0 []), (.slice .nil 0 []), (.slice .nil 0 []), (.slice .nil 0 [])]), .w (.store 257 (.t 11) (.t 95))] (some [3, 11])) (.seq (.seq (.region [.q 96 (.mv (.t 3)), .q 97 (.len false (.t 96)), .q 98 (.bin .sub (.t 97) (.c (.int .i64 2))), .q 12 (.mv (.t 98))] (some [3, 11, 12])) (.block 6 (.loop (.seq (.seq (.region [.q 99 (.mv (.t 12)), .q 100 (.bin .geq (.t 99) (.c (.int .i64 0)))] (some [3, 11, 12, 100])) (.cond (.t 100) (some [3, 11, 12]) .skip (.exit 6))) (.seq (.block 7 (.seq (.region [.q 103 (.mv (.t 3)), .q 104 (.mv (.t 12)), .q 105 (.iaddr 1 (.t 103) (.t 104)), .q 106 (.load false 1 (.t 105)), .q 107 (.idxs (.t 106) (.c (.int .i64 0))), .q 13 (.mv (.t 107))] (some [3, 11, 12, 13])) (.seq (.region [.q 108 (.mv (.t 3)), .q 109 (.mv (.t 12)), .q 110 (.bin .add (.t 109) (.c (.int .i64 1))), .q 111 (.iaddr 1 (.t 108) (.t 110)), .q 112 (.load false 1 (.t 111)), .q 14 (.mv (.t 112))] (some [3, 11, 12, 13, 14])) (.seq (.seq (.region [.q 113 (.mv (.t 13)), .q 114 (.faddr 0 (.t 11)), .q 115 (.iaddrA 1 256 (.t 114) (.t 113)), .q 116 (.load false 1 (.t 115)), .q 117 (.eqn false (.t 116) (.c (.slice .nil 0 [])))] (some [3, 11, 12, 13, 14, 117])) (.cond (.t 117) (some [3, 11, 12, 13, 14]) (.region [.q 118 (.faddr 256 (.t 11)), .q 119 (.load false 1 (.t 118)), .q 120 (.mv (.t 13)), .q 121 (.mkslice 1 [(.t 120)]), .q 122 (.b2s (.t 121)), .q 123 (.mkslice 1 [(.t 122)]), .q 124 (.append 1 16 (.t 119) (.t 123)), .q 125 (.faddr 256 (.t 11)), .w (.store 1 (.t 125) (.t 124))] (some [3, 11, 12, 13, 14])) .skip)) (.region [.q 126 (.mv (.t 13)), .q 127 (.mv (.t 14)), .q 128 (.s2b (.t 127)), .q 129 (.faddr 0 (.t 11)), .q 130 (.iaddrA 1 256 (.t 129) (.t 126)), .w (.store 1 (.t 130) (.t 128))] (some [3, 11, 12])))))) (.region [.q 101 (.mv (.t 12)), .q 102 (.bin .sub (.t 101) (.c (.int .i64 2))), .q 12 (.mv (.t 102))] (some [3, 11, 12]))))))) (.seq (.region [.q 131 (.mkif 201 (.t 11)), .q 2 (.mv (.t 131))] (some [2])) .ret)))))))))
theorem code108 : IsCode Tryz.prog 108 sc108 [(2, none)] 132 := .mk' Tryz.func108 (by kernel_rfl) (by kernel_rfl) (by kernel_rfl) (by kernel_rfl)
/-- (*sync.Mutex).Lock -/
def sc123 : SC := (.region [.q 2 (.mv (.t 0)), .q 3 (.nilchk (.t 2)), .q 4 (.faddr 0 (.t 3)), .q 5 (.call 142 [(.t 4)])] (some []))
theorem code123 : IsCode Tryz.prog 123 sc123 [] 6 := .mk' Tryz.func123 (by kernel_rfl) (by kernel_rfl) (by kernel_rfl) (by kernel_rfl)
/-- (*sync.Mutex).Unlock -/
def sc124 : SC := (.region [.q 2 (.mv (.t 0)), .q 3 (.nilchk (.t 2)), .q 4 (.faddr 0 (.t 3)), .q 5 (.call 143 [(.t 4)])] (some []))
theorem code124 : IsCode Tryz.prog 124 sc124 [] 6 := .mk' Tryz.func124 (by kernel_rfl) (by kernel_rfl) (by kernel_rfl) (by kernel_rfl)
/-- (*sync/atomic.Bool).Store -/
def sc125 : SC := (.region [.q 4 (.mv (.t 0)), .q 5 (.nilchk (.t 4)), .q 6 (.faddr 0 (.t 5)), .q 7 (.mv (.t 1)), .q 8 (.call 145 [(.t 7)]), .q 9 (.call 144 [(.t 6), (.t 8)])] (some []))
theorem code125 : IsCode Tryz.prog 125 sc125 [] 10 := .mk' Tryz.func125 (by kernel_rfl) (by kernel_rfl) (by kernel_rfl) (by kernel_rfl)
/-- (*internal/sync.Mutex).Lock -/
def sc142 : SC := (.seq (.region [.q 2 (.call 157 [])] (some [0])) (.seq (.seq (.region [.q 3 (.mv (.t 0)), .q 4 (.nilchk (.t 3)), .q 5 (.faddr 0 (.t 4)), .q 6 (.call 158 [(.t 5), (.c (.int .i32 0)), (.c (.int .i32 1))])] (some [0, 6])) (.cond (.t 6) (some [0]) (.seq (.cond (.c (.bool true)) (some [0]) (.seq (.region [.q 7 (.call 159 [])] (some [0])) (.region [.q 8 (.mv (.t 0)), .q 9 (.conv2u (.t 8)), .q 10 (.call 160 [(.t 9)])] (some []))) .skip) .ret) .skip)) (.region [.q 11 (.mv (.t 0)), .q 12 (.call 161 [(.t 11)])] (some []))))
theorem code142 : IsCode Tryz.prog 142 sc142 [] 13 := .mk' Tryz.func142 (by kernel_rfl) (by kernel_rfl) (by kernel_rfl) (by kernel_rfl)
/-- (*internal/sync.Mutex).Unlock -/
def sc143 : SC := (.seq (.cond (.c (.bool true)) (some [0]) (.seq (.region [.q 3 (.mv (.t 0)), .q 4 (.nilchk (.t 3)), .q 5 (.faddr 0 (.t 4)), .q 6 (.load false 1 (.t 5))] (some [0])) (.seq (.region [.q 7 (.mv (.t 0)), .q 8 (.conv2u (.t 7)), .q 9 (.call 162 [(.t 8)])] (some [0])) (.region [.q 10 (.call 157 [])] (some [0])))) .skip) (.seq (.region [.q 11 (.mv (.t 0)), .q 12 (.nilchk (.t 11)), .q 13 (.faddr 0 (.t 12)), .q 14 (.call 163 [(.t 13), (.c (.int .i32 (-1)))]), .q 2 (.mv (.t 14))] (some [0, 2])) (.seq (.seq (.region [.q 15 (.mv (.t 2)), .q 16 (.bin .neq (.t 15) (.c (.int .i32 0)))] (some [0, 2, 16])) (.cond (.t 16) (some [0, 2]) (.region [.q 17 (.mv (.t 0)), .q 18 (.mv (.t 2)), .q 19 (.call 164 [(.t 17), (.t 18)])] (some [])) .skip)) (.region [.q 20 (.call 159 [])] (some [])))))
theorem code143 : IsCode Tryz.prog 143 sc143 [] 21 := .mk' Tryz.func143 (by kernel_rfl) (by kernel_rfl) (by kernel_rfl) (by kernel_rfl)
/-- sync/atomic.b32 -/
def sc145 : SC := (.seq (.region [.q 2 (.mv (.c (.int .u32 0)))] (some [0])) (.seq (.seq (.region [.q 3 (.mv (.t 0))] (some [3])) (.cond (.t 3) (some []) (.seq (.region [.q 2 (.mv (.c (.int .u32 1)))] (some [2])) .ret) .skip)) (.seq (.region [.q 2 (.mv (.c (.int .u32 0)))] (some [2])) .ret)))
theorem code145 : IsCode Tryz.prog 145 sc145 [(2, none)] 4 := .mk' Tryz.func145 (by kernel_rfl) (by kernel_rfl) (by kernel_rfl) (by kernel_rfl)
/-- (*strings.byteStringReplacer).Replace -/
def sc209 : SC := (.seq (.region [.q 4 (.mv (.c (.str [])))] (some [0, 1])) (.seq (.region [.q 16 (.mv (.t 1)), .q 17 (.len true (.t 16)), .q 5 (.mv (.t 17))] (some [0, 1, 5])) (.seq (.region [.q 6 (.mv (.c (.bool false)))] (some [0, 1, 5, 6])) (.seq (.seq (.region [.q 18 (.mv (.t 0)), .q 19 (.nilchk (.t 18)), .q 20 (.faddr 256 (.t 19)), .q 21 (.load false 1 (.t 20)), .q 22 (.len false (.t 21)), .q 23 (.bin .mul (.t 22) (.c (.int .i64 8))), .q 24 (.mv (.t 1)), .q 25 (.len true (.t 24)), .q 26 (.bin .leq (.t 23) (.t 25))] (some [0, 1, 5, 6, 26])) (.cond (.t 26) (some [0, 1, 5, 6]) (.seq (.region [.q 27 (.mv (.t 0)), .q 28 (.nilchk (.t 27)), .q 29 (.faddr 256 (.t 28)), .q 30 (.load false 1 (.t 29)), .q 31 (.len false (.t 30)), .q 32 (.mv (.c (.int .i64 0)))] (some [0, 1, 5, 6, 30, 31, 32])) (.block 0 (.loop (.seq (.region [.q 33 (.bin .lss (.t 32) (.t 31))] (some [0, 1, 5, 6, 30, 31, 32, 33])) (.seq (.cond (.t 33) (some [0, 1, 5, 6, 30, 31, 32]) .skip (.exit 0)) (.seq (.block 1 (.seq (.region [.q 34 (.iaddr 1 (.t 30) (.t 32)), .q 35 (.load false 1 (.t 34)), .q 8 (.mv (.t 35))] (some [0, 1, 5, 6, 8, 30, 31, 32])) (.seq (.region [.q 36 (.mv (.t 1)), .q 37 (.mv (.t 8)), .q 38 (.call 211 [(.t 36), (.t 37)]), .q 9 (.mv (.t 38))] (some [0, 1, 5, 6, 8, 9, 30, 31, 32])) (.seq (.region [.q 39 (.mv (.t 9)), .q 40 (.bin .neq (.t 39) (.c (.int .i64 0)))] (some [0, 1, 5, 6, 8, 9, 30, 31, 32, 40])) (.cond (.t 40) (some [0, 1, 5, 6, 8, 9, 30, 31, 32]) (.seq (.region [.q 41 (.mv (.t 5)), .q 42 (.mv (.t 9)), .q 43 (.mv (.t 0)), .q 44 (.mv (.t 8)), .q 45 (.idxs (.t 44) (.c (.int .i64 0))), .q 46 (.nilchk (.t 43)), .q 47 (.faddr 0 (.t 46)), .q 48 (.iaddrA 1 256 (.t 47) (.t 45)), .q 49 (.load false 1 (.t 48)), .q 50 (.len false (.t 49)), .q 51 (.bin .sub (.t 50) (.c (.int .i64 1))), .q 52 (.bin .mul (.t 42) (.t 51)), .q 53 (.bin .add (.t 41) (.t 52)), .q 5 (.mv (.t 53))] (some [0, 1, 5, 30, 31, 32])) (.region [.q 6 (.mv (.c (.bool true)))] (some [0, 1, 5, 6, 30, 31, 32]))) .skip))))) (.region [.q 54 (.bin .add (.t 32) (.c (.int .i64 1))), .q 32 (.mv (.t 54))] (some [0, 1, 5, 6, 30, 31, 32])))))))) (.seq (.region [.q 10 (.mv (.c (.int .i64 0)))] (some [0, 1, 5, 6, 10])) (.block 2 (.loop (.seq (.seq (.region [.q 55 (.mv (.t 10)), .q 56 (.mv (.t 1)), .q 57 (.len true (.t 56)), .q 58 (.bin .lss (.t 55) (.t 57))] (some [0, 1, 5, 6, 10, 58])) (.cond (.t 58) (some [0, 1, 5, 6, 10]) .skip (.exit 2))) (.seq (.block 3 (.seq (.region [.q 61 (.mv (.t 1)), .q 62 (.mv (.t 10)), .q 63 (.idxs (.t 61) (.t 62)), .q 11 (.mv (.t 63))] (some [0, 1, 5, 6, 10, 11])) (.seq (.region [.q 64 (.mv (.t 0)), .q 65 (.mv (.t 11)), .q 66 (.nilchk (.t 64)), .q 67 (.faddr 0 (.t 66)), .q 68 (.iaddrA 1 256 (.t 67) (.t 65)), .q 69 (.load false 1 (.t 68)), .q 70 (.eqn true (.t 69) (.c (.slice .nil 0 [])))] (some [0, 1, 5, 6, 10, 11, 70])) (.cond (.t 70) (some [0, 1, 5, 6, 10, 11]) (.seq (.region [.q 71 (.mv (.t 5)), .q 72 (.mv (.t 0)), .q 73 (.mv (.t 11)), .q 74 (.nilchk (.t 72)), .q 75 (.faddr 0 (.t 74)), .q 76 (.iaddrA 1 256 (.t 75) (.t 73)), .q 77 (.load false 1 (.t 76)), .q 78 (.len false (.t 77)), .q 79 (.bin .sub (.t 78) (.c (.int .i64 1))), .q 80 (.bin .add (.t 71) (.t 79)), .q 5 (.mv (.t 80))] (some [0, 1, 5, 10])) (.region [.q 6 (.mv (.c (.bool true)))] (some [0, 1, 5, 6, 10]))) .skip)))) (.region [.q 59 (.mv (.t 10)), .q 60 (.bin .add (.t 59) (.c (.int .i64 1))), .q 10 (.mv (.t 60))] (some [0, 1, 5, 6, 10]))))))))) (.seq (.seq (.region [.q 81 (.mv (.t 6)), .q 82 (.un .not (.t 81))] (some [0, 1, 5, 82])) (.cond (.t 82) (some [0, 1, 5]) (.seq (.region [.q 83 (.mv (.t 1)), .q 4 (.mv (.t 83))] (some [4])) .ret) .skip)) (.seq (.region [.q 84 (.mv (.t 5)), .q 85 (.mkmsl 1 1 [(.int .u8 0)] (.t 84) (.t 84)), .q 12 (.mv (.t 85))] (some [0, 1, 12])) (.seq (.region [.q 13 (.mv (.c (.int .i64 0)))] (some [0, 1, 12, 13])) (.seq (.seq (.region [.q 14 (.mv (.c (.int .i64 0)))] (some [0, 1, 12, 13, 14])) (.block 4 (.loop (.seq (.seq (.region [.q 86 (.mv (.t 14)), .q 87 (.mv (.t 1)), .q 88 (.len true (.t 87)), .q 89 (.bin .lss (.t 86) (.t 88))] (some [0, 1, 12, 13, 14, 89])) (.cond (.t 89) (some [0, 1, 12, 13, 14]) .skip (.exit 4))) (.seq (.block 5 (.seq (.region [.q 92 (.mv (.t 1)), .q 93 (.mv (.t 14)), .q 94 (.idxs (.t 92) (.t 93)), .q 15 (.mv (.t 94))] (some [0, 1, 12, 13, 14, 15])) (.seq (.region [.q 95 (.mv (.t 0)), .q 96 (.mv (.t 15)), .q 97 (.nilchk (.t 95)), .q 98 (.faddr 0 (.t 97)), .q 99 (.iaddrA 1 256 (.t 98) (.t 96)), .q 100 (.load false 1 (.t 99)), .q 101 (.eqn true (.t 100) (.c (.slice .nil 0 [])))] (some [0, 1, 12, 13, 14, 15, 101])) (.cond (.t 101) (some [0, 1, 12, 13, 14, 15]) (.region [.q 102 (.mv (.t 13)), .q 103 (.mv (.t 12)), .q 104 (.mv (.t 13)), .q 105 (.slice 1 (.t 103) (some (.t 104)) none), .q 106 (.mv (.t 0)), .q 107 (.mv (.t 15)), .q 108 (.nilchk (.t 106)), .q 109 (.faddr 0 (.t 108)), .q 110 (.iaddrA 1 256 (.t 109) (.t 107)), .q 111 (.load false 1 (.t 110)), .q 112 (.copy (.t 105) (.t 111)), .q 113 (.bin .add (.t 102) (.t 112)), .q 13 (.mv (.t 113))] (some [0, 1, 12, 13, 14])) (.seq (.region [.q 114 (.mv (.t 12)), .q 115 (.mv (.t 13)), .q 116 (.mv (.t 15)), .q 117 (.iaddr 1 (.t 114) (.t 115)), .w (.store 1 (.t 117) (.t 116))] (some [0, 1, 12, 13, 14])) (.region [.q 118 (.mv (.t 13)), .q 119 (.bin .add (.t 118) (.c (.int .i64 1))), .q 13 (.mv (.t 119))] (some [0, 1, 12, 13, 14]))))))) (.region [.q 90 (.mv (.t 14)), .q 91 (.bin .add (.t 90) (.c (.int .i64 1))), .q 14 (.mv (.t 91))] (some [0, 1, 12, 13, 14]))))))) (.seq (.region [.q 120 (.mv (.t 12)), .q 121 (.b2s (.t 120)), .q 4 (.mv (.t 121))] (some [4])) .ret)))))))))
theorem code209 : IsCode Tryz.prog 209 sc209 [(4, none)] 122 := .mk' Tryz.func209 (by kernel_rfl) (by kernel_rfl) (by kernel_rfl) (by kernel_rfl)
/-- strings.Count -/
def sc211 : SC := (.seq (.region [.q 4 (.mv (.c (.int .i64 0)))] (some [0, 1])) (.seq (.seq (.region [.q 7 (.mv (.t 1)), .q 8 (.len true (.t 7)), .q 9 (.bin .eql (.t 8) (.c (.int .i64 0)))] (some [0, 1, 9])) (.cond (.t 9) (some [0, 1]) (.seq (.region [.q 10 (.mv (.t 0)), .q 11 (.call 212 [(.t 10)]), .q 12 (.bin .add (.t 11) (.c (.int .i64 1))), .q 4 (.mv (.t 12))] (some [4])) .ret) .skip)) (.seq (.seq (.region [.q 13 (.mv (.t 1)), .q 14 (.len true (.t 13)), .q 15 (.bin .eql (.t 14) (.c (.int .i64 1)))] (some [0, 1, 15])) (.cond (.t 15) (some [0, 1]) (.seq (.region [.q 16 (.mv (.t 0)), .q 17 (.mv (.t 1)), .q 18 (.idxs (.t 17) (.c (.int .i64 0))), .q 19 (.call 213 [(.t 16), (.t 18)]), .q 4 (.mv (.t 19))] (some [4])) .ret) .skip)) (.seq (.region [.q 5 (.mv (.c (.int .i64 0)))] (some [0, 1, 5])) (.block 0 (.loop (.block 1 (.seq (.region [.q 20 (.mv (.t 0)), .q 21 (.mv (.t 1)), .q 22 (.call 136 [(.t 20), (.t 21)]), .q 6 (.mv (.t 22))] (some [0, 1, 5, 6])) (.seq (.seq (.region [.q 23 (.mv (.t 6)), .q 24 (.bin .eql (.t 23) (.c (.int .i64 (-1))))] (some [0, 1, 5, 6, 24])) (.cond (.t 24) (some [0, 1, 5, 6]) (.seq (.region [.q 25 (.mv (.t 5)), .q 4 (.mv (.t 25))] (some [4])) .ret) .skip)) (.seq (.region [.q 26 (.mv (.t 5)), .q 27 (.bin .add (.t 26) (.c (.int .i64 1))), .q 5 (.mv (.t 27))] (some [0, 1, 5, 6])) (.region [.q 28 (.mv (.t 0)), .q 29 (.mv (.t 6)), .q 30 (.mv (.t 1)), .q 31 (.len true (.t 30)), .q 32 (.bin .add (.t 29) (.t 31)), .q 33 (.cuts (.t 28) (some (.t 32)) none), .q 0 (.mv (.t 33))] (some [0, 1, 5]))))))))))))
theorem code211 : IsCode Tryz.prog 211 sc211 [(4, none)] 34 := .mk' Tryz.func211 (by kernel_rfl) (by kernel_rfl) (by kernel_rfl) (by kernel_rfl)
end Go.Shadow.Lex

/- THE SHADOW LOGIC, part 20: the library's own operations on single cells (sync/atomic, internal/race). -/
namespace Go.Shadow
open Go Go.RowKit
section
variable {P : Program} {G : Globs} {w0 w : World} {γ : Gh} {σ : St} {f : FuncId} {fn : Func}

theorem Inv.box_cell (hI : Inv G w0 γ σ w) {b o : Nat} {cs : List V} {v : V} (hb : σ.box b = some cs) (ho : cs[o]? = some v) : ∃ x, w.cell? ⟨b, o, none⟩ = some x ∧ w.frozen? ⟨b, o, none⟩ = false ∧ R w0.heap.size γ w v x := by
  obtain ⟨_, _, h1, vs, ty, hh, hRL⟩ := hI.box b cs hb
  have hlt : o < cs.length := (List.getElem?_eq_some_iff.1 ho).1
  have hvl : o < vs.size := by have := hRL.1; simp at this; omega
  have hR := hRL.2 o v vs[o] ho (by simp [hvl])
  obtain ⟨_, hf, _⟩ := hI.box_set hb hlt hR (h1 o v ho)
  exact ⟨vs[o], by simp [World.cell?, hh, hvl], hf, hR⟩

theorem ext_load (hf : P.funcs[f]? = some fn) (hname : (fn.name == "runtime.NumGoroutine") = false) (hb : fn.body.isNone = true) (hn : Extern.findNext fn = none) (k : IntKind)
    (he : Extern.find fn = some (Extern.Atomic.loadT (.int k))) {b o : Nat} {cs : List V} {n : Int} (hbx : σ.box b = some cs) (ho : cs[o]? = some (.int k n)) :
    SCall P G f [.loc b o] σ fun e σ' => σ' = σ ∧ e = .ret (.int k n) := by
  intro w0 γ w xs hI hRL
  obtain ⟨x, rfl, hx⟩ := hRL.inv1
  cases hx
  obtain ⟨y, hc, _, hy⟩ := hI.box_cell hbx ho
  cases hy
  exact .inr ⟨_, w, run_call_load hf hname hb hn k he hc, γ, σ, .refl _ _ _, hI, .int k n, _, .int _ _, .inl ⟨rfl, rfl, rfl⟩⟩
theorem ext_store (hf : P.funcs[f]? = some fn) (hname : (fn.name == "runtime.NumGoroutine") = false) (hb : fn.body.isNone = true) (hn : Extern.findNext fn = none)
    (he : Extern.find fn = some Extern.Atomic.storeT) {b o : Nat} {cs : List V} {k : IntKind} {y : Int} (hbx : σ.box b = some cs) (ho : o < cs.length) :
    SCall P G f [.loc b o, .int k y] σ fun e σ' => σ' = σ.put b (cs.set o (.int k y)) ∧ e = .ret (.tup []) := by
  intro w0 γ w xs hI hRL
  obtain ⟨x, z, rfl, hx, hz⟩ := hRL.inv2
  cases hx; cases hz
  obtain ⟨⟨u, hc⟩, hfr, hI', hE⟩ := hI.box_set hbx ho (R.int k y) rfl
  exact .inr ⟨_, _, run_call_store hf hname hb hn he hc hfr, γ, _, hE, hI', .tup [], _, .undef, .inl ⟨rfl, rfl, rfl⟩⟩
theorem ext_cas (hf : P.funcs[f]? = some fn) (hname : (fn.name == "runtime.NumGoroutine") = false) (hb : fn.body.isNone = true) (hn : Extern.findNext fn = none) (k : IntKind)
    (he : Extern.find fn = some (Extern.Atomic.casT (.int k))) {b o : Nat} {cs : List V} {n y : Int} (hbx : σ.box b = some cs) (ho : cs[o]? = some (.int k n)) :
    SCall P G f [.loc b o, .int k n, .int k y] σ fun e σ' => σ' = σ.put b (cs.set o (.int k y)) ∧ e = .ret (.bool true) := by
  intro w0 γ w xs hI hRL
  obtain ⟨x, z, u, rfl, hx, hz, hu⟩ := hRL.inv3
  cases hx; cases hz; cases hu
  obtain ⟨q, hc, hfr, hq⟩ := hI.box_cell hbx ho
  cases hq
  obtain ⟨_, _, hI', hE⟩ := hI.box_set hbx (List.getElem?_eq_some_iff.1 ho).1 (R.int k y) rfl
  exact .inr ⟨_, _, run_call_cas_hit hf hname hb hn k he hc hfr, γ, _, hE, hI', .bool true, _, .bool _, .inl ⟨rfl, rfl, rfl⟩⟩
theorem ext_add (hf : P.funcs[f]? = some fn) (hname : (fn.name == "runtime.NumGoroutine") = false) (hb : fn.body.isNone = true) (hn : Extern.findNext fn = none) (k : IntKind)
    (he : Extern.find fn = some (Extern.Atomic.update (Op.intArith .add) k true)) {b o : Nat} {cs : List V} {n y s : Int} (hbx : σ.box b = some cs) (ho : cs[o]? = some (.int k n)) (hs : k.wrap (n + y) = s) :
    SCall P G f [.loc b o, .int k y] σ fun e σ' => σ' = σ.put b (cs.set o (.int k s)) ∧ e = .ret (.int k s) := by
  intro w0 γ w xs hI hRL
  obtain ⟨x, z, rfl, hx, hz⟩ := hRL.inv2
  cases hx; cases hz
  obtain ⟨q, hc, hfr, hq⟩ := hI.box_cell hbx ho
  cases hq
  obtain ⟨_, _, hI', hE⟩ := hI.box_set hbx (List.getElem?_eq_some_iff.1 ho).1 (R.int k s) rfl
  exact .inr ⟨_, _, run_call_add hf hname hb hn k he hc hfr (by subst hs; simp [Op.intArith]), γ, _, hE, hI', .int k s, _, .int _ _, .inl ⟨rfl, rfl, rfl⟩⟩
theorem ext_mark0 (hf : P.funcs[f]? = some fn) (hname : (fn.name == "runtime.NumGoroutine") = false) (hb : fn.body.isNone = true) (hn : Extern.findNext fn = none) (m : Mark)
    (he : Extern.find fn = some (fun _ => do mark m; pure Extern.Race.none_)) : SRet P G f [] (.tup []) := by
  intro σ w0 γ w xs hI hRL
  have hx : xs = #[] := by have := hRL.1; apply Array.eq_empty_of_size_eq_zero; simpa using this.symm
  subst hx
  exact .inr ⟨_, w, run_call_mark0 hf hname hb hn m he w, γ, σ, .refl _ _ _, hI, .tup [], _, .undef, .inl ⟨rfl, rfl, rfl⟩⟩
theorem ext_marked (hf : P.funcs[f]? = some fn) (hname : (fn.name == "runtime.NumGoroutine") = false) (hb : fn.body.isNone = true) (hn : Extern.findNext fn = none) (m : Addr → Mark)
    (he : Extern.find fn = some (Extern.Race.marked m)) (b o : Nat) : SRet P G f [.loc b o] (.tup []) := by
  intro σ w0 γ w xs hI hRL
  obtain ⟨x, rfl, hx⟩ := hRL.inv1
  cases hx
  exact .inr ⟨_, w, run_call_marked hf hname hb hn m he _ w, γ, σ, .refl _ _ _, hI, .tup [], _, .undef, .inl ⟨rfl, rfl, rfl⟩⟩
end
end Go.Shadow

/- Proved: what strings.NewReplacer of the lexer's three pairs does, up to its table, as shadow contracts. Conditions: none. -/
namespace Go.Shadow.Lex
open Go Go.RowKit Go.Proofs

theorem Load.one {σ : St} {b off : Nat} {K : List V → Prop} {cs : List V} {v : V} (hb : σ.box b = some cs) (hv : cs[off]? = some v) (k : K [v]) : Load σ b off 1 K := by
  obtain ⟨hlt, he⟩ := List.getElem?_eq_some_iff.1 hv
  refine Load.mk' hb (by omega) ?_
  rw [List.drop_eq_getElem_cons hlt, he]
  exact k

/-! ### the lock -/
theorem bload {σ : St} {b o : Nat} {cs : List V} {n : Int} (hb : σ.box b = some cs) (ho : cs[o]? = some (.int .u32 n)) : SCall Tryz.prog LG 106 [.loc b o] σ fun e σ' => σ' = σ ∧ e = .ret (.bool (decide (n ≠ 0))) := by
  refine code106.call hm (by simp) ?_
  refine CallK.mk' (ext_load Tryz.func122 (by kernel_rfl) (by kernel_rfl) (by kernel_rfl) .u32 (by kernel_rfl) hb ho) ?_
  rintro e σ' ⟨rfl, rfl⟩
  refine Test.split (fun h => ?_) (fun h => ?_)
  · exact Ret.mk' ⟨rfl, by simp [h]⟩
  · exact Ret.mk' ⟨rfl, by simp at h; simp [h]⟩
theorem lock93 {σ : St} {b o : Nat} {cs : List V} (hb : σ.box b = some cs) (ho : cs[o]? = some (.int .i32 0)) : SCall Tryz.prog LG 142 [.loc b o] σ fun e σ' => σ' = σ.put b (cs.set o (.int .i32 1)) ∧ e = .ret (.tup []) := by
  have hlt := (List.getElem?_eq_some_iff.1 ho).1
  refine code142.call hm (by simp) ?_
  refine CallK.pure (ext_mark0 Tryz.func157 (by kernel_rfl) (by kernel_rfl) (by kernel_rfl) .disable (by kernel_rfl)) ?_
  refine CallK.mk' (ext_cas Tryz.func158 (by kernel_rfl) (by kernel_rfl) (by kernel_rfl) .i32 (by kernel_rfl) hb ho) ?_
  rintro e σ' ⟨rfl, rfl⟩
  refine CallK.pure (ext_mark0 Tryz.func159 (by kernel_rfl) (by kernel_rfl) (by kernel_rfl) .enable (by kernel_rfl)) ?_
  refine Load.mk' put_box (by simp; omega) ?_
  refine CallK.pure (ext_marked Tryz.func160 (by kernel_rfl) (by kernel_rfl) (by kernel_rfl) .acquire (by kernel_rfl) b o) ?_
  exact Ret.mk' ⟨rfl, rfl⟩
theorem lock74 {σ : St} {b o : Nat} {cs : List V} (hb : σ.box b = some cs) (ho : cs[o]? = some (.int .i32 0)) : SCall Tryz.prog LG 123 [.loc b o] σ fun e σ' => σ' = σ.put b (cs.set o (.int .i32 1)) ∧ e = .ret (.tup []) := by
  refine code123.call hm (by simp) ?_
  refine CallK.mk' (lock93 hb ho) ?_
  rintro e σ' ⟨rfl, rfl⟩
  exact Ret.mk' ⟨rfl, rfl⟩
theorem unlock94 {σ : St} {b o : Nat} {cs : List V} (hb : σ.box b = some cs) (ho : cs[o]? = some (.int .i32 1)) : SCall Tryz.prog LG 143 [.loc b o] σ fun e σ' => σ' = σ.put b (cs.set o (.int .i32 0)) ∧ e = .ret (.tup []) := by
  have hlt := (List.getElem?_eq_some_iff.1 ho).1
  refine code143.call hm (by simp) ?_
  refine Load.one hb ho ?_
  refine Load.mk' hb (by omega) ?_
  refine CallK.pure (ext_marked Tryz.func162 (by kernel_rfl) (by kernel_rfl) (by kernel_rfl) .releaseMerge (by kernel_rfl) b o) ?_
  refine CallK.pure (ext_mark0 Tryz.func157 (by kernel_rfl) (by kernel_rfl) (by kernel_rfl) .disable (by kernel_rfl)) ?_
  refine CallK.mk' (ext_add (s := 0) Tryz.func163 (by kernel_rfl) (by kernel_rfl) (by kernel_rfl) .i32 (by kernel_rfl) hb ho (by decide)) ?_
  rintro e σ' ⟨rfl, rfl⟩
  refine Test.no (by decide) ?_
  refine CallK.pure (ext_mark0 Tryz.func159 (by kernel_rfl) (by kernel_rfl) (by kernel_rfl) .enable (by kernel_rfl)) ?_
  exact Ret.mk' ⟨rfl, rfl⟩
theorem unlock75 {σ : St} {b o : Nat} {cs : List V} (mode : Option V) (hb : σ.box b = some cs) (ho : cs[o]? = some (.int .i32 1)) : SDCall Tryz.prog LG 124 [.loc b o] mode σ fun r σ' => r = false ∧ σ' = σ.put b (cs.set o (.int .i32 0)) := by
  refine SDCall.of_code hm code124 (by simp) ?_
  refine CallK.mk' (unlock94 hb ho) ?_
  rintro e σ' ⟨rfl, rfl⟩
  exact Ret.mk' ⟨⟨_, rfl⟩, rfl, rfl⟩
theorem b32_ret : SRet Tryz.prog LG 145 [.bool true] (.int .u32 1) := by
  intro σ
  refine code145.call hm (by simp) ?_
  exact Ret.mk' ⟨rfl, rfl⟩
theorem store76 {σ : St} {b o : Nat} {cs : List V} (mode : Option V) (hb : σ.box b = some cs) (ho : o < cs.length) : SDCall Tryz.prog LG 125 [.loc b o, .bool true] mode σ fun r σ' => r = false ∧ σ' = σ.put b (cs.set o (.int .u32 1)) := by
  refine SDCall.of_code hm code125 (by simp) ?_
  refine CallK.pure b32_ret ?_
  refine CallK.mk' (ext_store (k := .u32) (y := 1) Tryz.func144 (by kernel_rfl) (by kernel_rfl) (by kernel_rfl) (by kernel_rfl) hb ho) ?_
  rintro e σ' ⟨rfl, rfl⟩
  exact Ret.mk' ⟨⟨_, rfl⟩, rfl, rfl⟩

/-! ### the table -/
def cellOf (m : Nat → Option (List UInt8)) (i : Nat) : V := match m i with
  | some n => .slice .foreign 1 (byteEls n)
  | none => .slice .nil 0 []
def tabOf (m : Nat → Option (List UInt8)) (k : Nat) : List V := (List.range k).map (cellOf m)
theorem tab_length (m : Nat → Option (List UInt8)) (k : Nat) : (tabOf m k).length = k := by simp [tabOf]
theorem tab_get {m : Nat → Option (List UInt8)} {k i : Nat} {r : V} (h : i < k) : (tabOf m k ++ [r])[i]? = some (cellOf m i) := by
  rw [List.getElem?_append_left (by rw [tab_length]; exact h)]
  simp [tabOf, h]
theorem tab_last {m : Nat → Option (List UInt8)} {k : Nat} {r : V} : (tabOf m k ++ [r])[k]? = some r := by
  rw [List.getElem?_append_right (by rw [tab_length]; exact Nat.le_refl _)]
  simp [tab_length]
theorem tab_set {m m' : Nat → Option (List UInt8)} {k i : Nat} {r : V} {n : List UInt8} (h : i < k) (hm : ∀ j, m' j = if j = i then some n else m j) : (tabOf m k ++ [r]).set i (.slice .foreign 1 (byteEls n)) = tabOf m' k ++ [r] := by
  rw [List.set_append_left _ _ (by rw [tab_length]; exact h)]
  congr 1
  apply List.ext_getElem?
  intro j
  rw [List.getElem?_set]
  by_cases hj : i = j
  · subst hj
    simp [tab_length, h]
    simp [tabOf, h, cellOf, hm]
  · simp only [if_neg hj]
    simp only [tabOf, List.getElem?_map]
    by_cases hk : j < k
    · simp [hk, cellOf, hm, Ne.symm hj]
    · simp [hk]
theorem tab_set_last {m : Nat → Option (List UInt8)} {k : Nat} {r r' : V} : (tabOf m k ++ [r]).set k r' = tabOf m k ++ [r'] := by
  rw [List.set_append_right _ _ (by rw [tab_length]; exact Nat.le_refl _)]
  simp [tab_length]
/-- The table behind j pairs, from the last one. -/
def mJ (j : Nat) (i : Nat) : Option (List UInt8) := if i = 10 ∧ 1 ≤ j then some [92, 110] else if i = 92 ∧ 2 ≤ j then some [92, 92] else if i = 34 ∧ 3 ≤ j then some [92, 34] else none
def pairs6 : List (List UInt8) := [[34], [92, 34], [92], [92, 92], [10], [92, 110]]
def reps (j : Nat) : List (List UInt8) := [[10], [92], [34]].take j

theorem mJ_step10 (j : Nat) : mJ 1 j = if j = 10 then some [92, 110] else mJ 0 j := by simp [mJ]
theorem mJ_step92 (j : Nat) : mJ 2 j = if j = 92 then some [92, 92] else mJ 1 j := by
  simp only [mJ]; by_cases h : j = 10 <;> by_cases h2 : j = 92 <;> simp_all
theorem mJ_step34 (j : Nat) : mJ 3 j = if j = 34 then some [92, 34] else mJ 2 j := by
  simp only [mJ]; by_cases h : j = 10 <;> by_cases h2 : j = 92 <;> by_cases h3 : j = 34 <;> simp_all

def BuildPost (σ : St) (e : SEnd) (σ' : St) : Prop := ∃ b2 t', e = .ret (.iface 201 (.loc b2 0)) ∧ Over σ σ' ∧ σ.box b2 = none ∧ σ'.box b2 = some (tabOf (mJ 3) 256 ++ [.slice (.tip t') 1 (strEls (reps 3))])

set_option maxRecDepth 100000 in
set_option maxHeartbeats 4000000 in
theorem build_call {σ : St} {b : Nat} {x0 x1 x2 r : V} {tag : Tag} (hb : σ.box b = some [x0, x1, x2, r, .slice tag 1 (strEls pairs6)]) : SCall Tryz.prog LG 108 [.loc b 0] σ (BuildPost σ) := by
  refine code108.call hm (by simp) ?_
  refine Load.mk' hb (Nat.le_of_ble_eq_true rfl) ?_
  refine Test.no (by decide) ?_
  -- all of one byte
  refine ⟨fun m sl σ' => σ' = σ ∧ ∃ j : Nat, j ≤ 3 ∧ sl = ofL [(3, some (.slice tag 1 (strEls pairs6))), (4, some (.bool (decide (j = 0)))), (5, some (.int .i64 (2 * j : Nat)))] ∧ m = 3 - j, 3, ⟨rfl, 0, by omega, rfl, rfl⟩, ?_⟩
  rintro m sl σ' ⟨rfl, j, hj, rfl, rfl⟩
  have hstep : ∀ j' : Nat, j' < 3 → ∀ (x : List UInt8) (y : List UInt8), pairs6[2 * j']? = some x → pairs6[2 * j' + 1]? = some y → x.length = 1 → y.length = 2 → True := fun _ _ _ _ _ _ _ _ => trivial
  obtain rfl | rfl | rfl | rfl : j = 0 ∨ j = 1 ∨ j = 2 ∨ j = 3 := by omega
  · refine Test.yes (by decide) ?_
    refine Sure.mk' (.inl rfl) ?_
    refine IdxE.mk' 0 _ rfl rfl ?_
    refine ⟨⟨Nat.le_of_ble_eq_true rfl, ?_⟩⟩
    refine Test.no (by decide) ?_
    refine Arith.i64 1 (by decide) (by decide) ?_
    refine Sure.mk' (.inl rfl) ?_
    refine IdxE.mk' 1 _ rfl rfl ?_
    refine ⟨⟨Nat.le_of_ble_eq_true rfl, ?_⟩⟩
    refine Test.yes (by decide) ?_
    refine Arith.i64 2 (by decide) (by decide) ?_
    exact ⟨_, _, by omega, Forget.refl _, rfl, 1, by omega, rfl, rfl⟩
  · refine Test.yes (by decide) ?_
    refine Sure.mk' (.inl rfl) ?_
    refine IdxE.mk' 2 _ rfl rfl ?_
    refine ⟨⟨Nat.le_of_ble_eq_true rfl, ?_⟩⟩
    refine Test.no (by decide) ?_
    refine Arith.i64 3 (by decide) (by decide) ?_
    refine Sure.mk' (.inl rfl) ?_
    refine IdxE.mk' 3 _ rfl rfl ?_
    refine ⟨⟨Nat.le_of_ble_eq_true rfl, ?_⟩⟩
    refine Test.yes (by decide) ?_
    refine Arith.i64 4 (by decide) (by decide) ?_
    exact ⟨_, _, by omega, Forget.refl _, rfl, 2, by omega, rfl, rfl⟩
  · refine Test.yes (by decide) ?_
    refine Sure.mk' (.inl rfl) ?_
    refine IdxE.mk' 4 _ rfl rfl ?_
    refine ⟨⟨Nat.le_of_ble_eq_true rfl, ?_⟩⟩
    refine Test.no (by decide) ?_
    refine Arith.i64 5 (by decide) (by decide) ?_
    refine Sure.mk' (.inl rfl) ?_
    refine IdxE.mk' 5 _ rfl rfl ?_
    refine ⟨⟨Nat.le_of_ble_eq_true rfl, ?_⟩⟩
    refine Test.yes (by decide) ?_
    refine Arith.i64 6 (by decide) (by decide) ?_
    exact ⟨_, _, by omega, Forget.refl _, rfl, 3, by omega, rfl, rfl⟩
  · refine Test.no (by decide) ?_
    -- the table
    refine Sure.mk' (by decide) ?_
    refine Arith.i64 3 (by decide) (by decide) ?_
    refine MkSl.empty (by decide) (by decide) (by decide) (by decide) ?_
    intro t0 ht0
    intro b2 h2
    refine Sure.mk' rfl ?_
    refine Store.mk' (tabOf (mJ 0) 256 ++ [.slice (.tip t0) 1 (strEls (reps 0))]) put_box (Nat.le_of_ble_eq_true rfl) (by kernel_rfl) (fun σ1 e1 => ?_)
    rw [put_put] at e1
    have o1 : Over σ' σ1 := by
      rw [e1]
      exact over_put ⟨fun _ _ h => h, fun t h => by simp [St.on, h], fun _ _ h => h⟩ h2
    have hm1 : Mine σ' σ1 (.tip t0) := by rw [e1]; exact ⟨by simp [St.on, St.put], ht0⟩
    have g1 : σ1.box b2 = some (tabOf (mJ 0) 256 ++ [.slice (.tip t0) 1 (strEls (reps 0))]) := by rw [e1]; exact put_box
    have h2' : σ'.box b2 = none := h2
    clear e1
    refine Arith.i64 4 (by decide) (by decide) ?_
    refine ⟨fun m sl σ2 => ∃ (j t' : Nat), j ≤ 3 ∧ sl = ofL [(3, some (.slice tag 1 (strEls pairs6))), (11, some (.loc b2 0)), (12, some (.int .i64 (4 - 2 * (j : Int))))] ∧ Over σ' σ2 ∧ Mine σ' σ2 (.tip t') ∧ σ2.box b2 = some (tabOf (mJ j) 256 ++ [.slice (.tip t') 1 (strEls (reps j))]) ∧ m = 3 - j, 3,
      ⟨0, t0, by omega, rfl, o1, hm1, g1, rfl⟩, ?_⟩
    rintro m sl σ2 ⟨j, t', hj, rfl, o2, hm2, g2, rfl⟩
    obtain rfl | rfl | rfl | rfl : j = 0 ∨ j = 1 ∨ j = 2 ∨ j = 3 := by omega
    · refine Test.yes (by decide) ?_
      refine Sure.mk' (.inl rfl) ?_
      refine IdxE.mk' 4 _ (by decide) rfl ?_
      refine ⟨⟨Nat.le_of_ble_eq_true rfl, ?_⟩⟩
      refine Idx.mk' 0 10 rfl rfl ?_
      refine Arith.i64 5 (by decide) (by decide) ?_
      refine Sure.mk' (.inl rfl) ?_
      refine IdxE.mk' 5 _ (by decide) rfl ?_
      refine ⟨⟨Nat.le_of_ble_eq_true rfl, ?_⟩⟩
      refine Sure.mk' (by decide) ?_
      refine Load.one g2 (tab_get (by decide)) ?_
      refine Load.one g2 tab_last ?_
      refine Sure.mk' (.inl rfl) ?_
      refine B2S.mk' (l := [10]) ?_
      refine App.mk' o2 hm2 (.inr rfl) rfl (by decide) (by decide) (by simp) (fun t2 σ3 o3 hm3 hbox _ => ?_)
      refine Sure.mk' rfl ?_
      refine Store.mk' (tabOf (mJ 0) 256 ++ [.slice (.tip t2) 1 (strEls (reps 1))]) (by rw [hbox]; exact g2) (by simp [tab_length, V.cells]) (by simp only [setL, V.cells]; exact tab_set_last) (fun σ4 e4 => ?_)
      have o4 : Over σ' σ4 := by rw [e4]; exact over_put o3 h2'
      have g4 : σ4.box b2 = some (tabOf (mJ 0) 256 ++ [.slice (.tip t2) 1 (strEls (reps 1))]) := by rw [e4]; exact put_box
      have hm4 : Mine σ' σ4 (.tip t2) := by rw [e4]; exact hm3
      clear e4
      refine Sure.mk' (by decide) ?_
      refine Sure.mk' rfl ?_
      refine Store.mk' (tabOf (mJ 1) 256 ++ [.slice (.tip t2) 1 (strEls (reps 1))]) g4 (by simp [tab_length, V.cells]) (by simp only [setL, V.cells]; exact tab_set (by decide) mJ_step10) (fun σ5 e5 => ?_)
      have o5 : Over σ' σ5 := by rw [e5]; exact over_put o4 h2'
      have g5 : σ5.box b2 = some (tabOf (mJ 1) 256 ++ [.slice (.tip t2) 1 (strEls (reps 1))]) := by rw [e5]; exact put_box
      have hm5 : Mine σ' σ5 (.tip t2) := by rw [e5]; exact hm4
      refine Arith.i64 (4 - 2 * ((1 : Nat) : Int)) (by decide) (by decide) ?_
      exact ⟨_, _, by omega, Forget.refl _, 1, t2, by omega, rfl, o5, hm5, g5, rfl⟩
    · refine Test.yes (by decide) ?_
      refine Sure.mk' (.inl rfl) ?_
      refine IdxE.mk' 2 _ (by decide) rfl ?_
      refine ⟨⟨Nat.le_of_ble_eq_true rfl, ?_⟩⟩
      refine Idx.mk' 0 92 rfl rfl ?_
      refine Arith.i64 3 (by decide) (by decide) ?_
      refine Sure.mk' (.inl rfl) ?_
      refine IdxE.mk' 3 _ (by decide) rfl ?_
      refine ⟨⟨Nat.le_of_ble_eq_true rfl, ?_⟩⟩
      refine Sure.mk' (by decide) ?_
      refine Load.one g2 (tab_get (by decide)) ?_
      refine Load.one g2 tab_last ?_
      refine Sure.mk' (.inl rfl) ?_
      refine B2S.mk' (l := [92]) ?_
      refine App.mk' o2 hm2 (.inr rfl) rfl (by decide) (by decide) (by simp) (fun t2 σ3 o3 hm3 hbox _ => ?_)
      refine Sure.mk' rfl ?_
      refine Store.mk' (tabOf (mJ 1) 256 ++ [.slice (.tip t2) 1 (strEls (reps 2))]) (by rw [hbox]; exact g2) (by simp [tab_length, V.cells]) (by simp only [setL, V.cells]; exact tab_set_last) (fun σ4 e4 => ?_)
      have o4 : Over σ' σ4 := by rw [e4]; exact over_put o3 h2'
      have g4 : σ4.box b2 = some (tabOf (mJ 1) 256 ++ [.slice (.tip t2) 1 (strEls (reps 2))]) := by rw [e4]; exact put_box
      have hm4 : Mine σ' σ4 (.tip t2) := by rw [e4]; exact hm3
      clear e4
      refine Sure.mk' (by decide) ?_
      refine Sure.mk' rfl ?_
      refine Store.mk' (tabOf (mJ 2) 256 ++ [.slice (.tip t2) 1 (strEls (reps 2))]) g4 (by simp [tab_length, V.cells]) (by simp only [setL, V.cells]; exact tab_set (by decide) mJ_step92) (fun σ5 e5 => ?_)
      have o5 : Over σ' σ5 := by rw [e5]; exact over_put o4 h2'
      have g5 : σ5.box b2 = some (tabOf (mJ 2) 256 ++ [.slice (.tip t2) 1 (strEls (reps 2))]) := by rw [e5]; exact put_box
      have hm5 : Mine σ' σ5 (.tip t2) := by rw [e5]; exact hm4
      refine Arith.i64 (4 - 2 * ((2 : Nat) : Int)) (by decide) (by decide) ?_
      exact ⟨_, _, by omega, Forget.refl _, 2, t2, by omega, rfl, o5, hm5, g5, rfl⟩
    · refine Test.yes (by decide) ?_
      refine Sure.mk' (.inl rfl) ?_
      refine IdxE.mk' 0 _ (by decide) rfl ?_
      refine ⟨⟨Nat.le_of_ble_eq_true rfl, ?_⟩⟩
      refine Idx.mk' 0 34 rfl rfl ?_
      refine Arith.i64 1 (by decide) (by decide) ?_
      refine Sure.mk' (.inl rfl) ?_
      refine IdxE.mk' 1 _ (by decide) rfl ?_
      refine ⟨⟨Nat.le_of_ble_eq_true rfl, ?_⟩⟩
      refine Sure.mk' (by decide) ?_
      refine Load.one g2 (tab_get (by decide)) ?_
      refine Load.one g2 tab_last ?_
      refine Sure.mk' (.inl rfl) ?_
      refine B2S.mk' (l := [34]) ?_
      refine App.mk' o2 hm2 (.inr rfl) rfl (by decide) (by decide) (by simp) (fun t2 σ3 o3 hm3 hbox _ => ?_)
      refine Sure.mk' rfl ?_
      refine Store.mk' (tabOf (mJ 2) 256 ++ [.slice (.tip t2) 1 (strEls (reps 3))]) (by rw [hbox]; exact g2) (by simp [tab_length, V.cells]) (by simp only [setL, V.cells]; exact tab_set_last) (fun σ4 e4 => ?_)
      have o4 : Over σ' σ4 := by rw [e4]; exact over_put o3 h2'
      have g4 : σ4.box b2 = some (tabOf (mJ 2) 256 ++ [.slice (.tip t2) 1 (strEls (reps 3))]) := by rw [e4]; exact put_box
      have hm4 : Mine σ' σ4 (.tip t2) := by rw [e4]; exact hm3
      clear e4
      refine Sure.mk' (by decide) ?_
      refine Sure.mk' rfl ?_
      refine Store.mk' (tabOf (mJ 3) 256 ++ [.slice (.tip t2) 1 (strEls (reps 3))]) g4 (by simp [tab_length, V.cells]) (by simp only [setL, V.cells]; exact tab_set (by decide) mJ_step34) (fun σ5 e5 => ?_)
      have o5 : Over σ' σ5 := by rw [e5]; exact over_put o4 h2'
      have g5 : σ5.box b2 = some (tabOf (mJ 3) 256 ++ [.slice (.tip t2) 1 (strEls (reps 3))]) := by rw [e5]; exact put_box
      have hm5 : Mine σ' σ5 (.tip t2) := by rw [e5]; exact hm4
      refine Arith.i64 (4 - 2 * ((3 : Nat) : Int)) (by decide) (by decide) ?_
      exact ⟨_, _, by omega, Forget.refl _, 3, t2, by omega, rfl, o5, hm5, g5, rfl⟩
    · refine Test.no (by decide) ?_
      exact Ret.mk' ⟨b2, t', rfl, o2, h2', g2⟩

/-! ### once -/
def DonePost (σ0 : St) (b : Nat) (x2 : V) (e : SEnd) (σ' : St) : Prop := e = .ret (.tup []) ∧ ∃ b2 t', Over σ0 σ' ∧ σ0.box b2 = none ∧ σ'.box b2 = some (tabOf (mJ 3) 256 ++ [.slice (.tip t') 1 (strEls (reps 3))]) ∧
  ∃ x0 x1 s, σ'.box b = some [x0, x1, x2, .iface 201 (.loc b2 0), s]
theorem buildOnce_call {σ0 σ : St} {b : Nat} {x0 x1 x2 r : V} {tag : Tag} (o : Over σ0 σ) (hf : σ0.box b = none) (hb : σ.box b = some [x0, x1, x2, r, .slice tag 1 (strEls pairs6)]) :
    SCall Tryz.prog LG 90 [.loc b 0] σ fun e σ' => e = .ret (.tup []) ∧ ∃ b2 t', Over σ0 σ' ∧ σ0.box b2 = none ∧ σ'.box b2 = some (tabOf (mJ 3) 256 ++ [.slice (.tip t') 1 (strEls (reps 3))]) ∧ σ'.box b = some [x0, x1, x2, .iface 201 (.loc b2 0), .slice .nil 0 []] := by
  refine code90.call hm (by simp) ?_
  refine CallK.mk' (build_call hb) ?_
  rintro e σ1 ⟨b2, t', rfl, o1, h2, g2⟩
  have hne : b ≠ b2 := by rintro rfl; rw [hb] at h2; cases h2
  refine Sure.mk' rfl ?_
  refine Store.mk' [x0, x1, x2, .iface 201 (.loc b2 0), .slice tag 1 (strEls pairs6)] (o1.box _ _ hb) (Nat.le_of_ble_eq_true rfl) rfl (fun σ2 e2 => ?_)
  refine Sure.mk' rfl ?_
  refine Store.mk' [x0, x1, x2, .iface 201 (.loc b2 0), .slice .nil 0 []] (by rw [e2]; exact put_box) (Nat.le_of_ble_eq_true rfl) rfl (fun σ3 e3 => ?_)
  rw [e2, put_put] at e3
  refine Ret.mk' ⟨rfl, b2, t', ?_, over_none o h2, ?_, ?_⟩
  · rw [e3]; exact over_put (over_trans o o1) hf
  · rw [e3]; simp [St.put, hne.symm, g2]
  · rw [e3]; exact put_box

theorem doSlow_call {σ0 σ : St} {b : Nat} {x2 r : V} {tag : Tag} (o : Over σ0 σ) (hf : σ0.box b = none) (hb : σ.box b = some [.int .u32 0, .int .i32 0, x2, r, .slice tag 1 (strEls pairs6)]) :
    SCall Tryz.prog LG 107 [.loc b 0, .func 90 [.loc b 0] []] σ (DonePost σ0 b x2) := by
  refine code107.call hm (by simp) ?_
  refine CallK.mk' (lock74 hb rfl) ?_
  rintro e σ1 ⟨rfl, rfl⟩
  refine CallK.mk' (bload put_box rfl) ?_
  rintro e σ1 ⟨rfl, rfl⟩
  refine CallK.mk' (buildOnce_call (over_put o hf) hf put_box) ?_
  rintro e σ2 ⟨rfl, b2, t', o2, h2, g2, gb⟩
  have hne : b2 ≠ b := by rintro rfl; rw [gb] at g2; have := congrArg (fun x => (x.getD []).length) g2; simp [tab_length] at this
  refine DefK.mk' (store76 none gb (by simp)) ?_
  rintro r1 σ3 ⟨rfl, rfl⟩
  refine DefK.mk' (unlock75 none put_box rfl) ?_
  rintro r1 σ3 ⟨rfl, rfl⟩
  refine Ret.mk' ⟨rfl, b2, t', ?_, h2, ?_, _, _, _, put_box⟩
  · rw [put_put]; exact over_put o2 hf
  · rw [put_put]; simp [St.put, hne, g2]

theorem do_call43 {σ0 σ : St} {b : Nat} {x2 r : V} {tag : Tag} (o : Over σ0 σ) (hf : σ0.box b = none) (hb : σ.box b = some [.int .u32 0, .int .i32 0, x2, r, .slice tag 1 (strEls pairs6)]) :
    SCall Tryz.prog LG 89 [.loc b 0, .func 90 [.loc b 0] []] σ (DonePost σ0 b x2) := by
  refine code89.call hm (by simp) ?_
  refine CallK.mk' (bload hb rfl) ?_
  rintro e σ1 ⟨rfl, rfl⟩
  refine CallK.mk' (doSlow_call o hf hb) ?_
  rintro e σ2 ⟨rfl, h⟩
  exact Ret.mk' ⟨rfl, h⟩

def NewPost (σ : St) (e : SEnd) (σ' : St) : Prop := ∃ b t, e = .ret (.loc b 0) ∧ Over σ σ' ∧ σ.box b = none ∧ σ'.box b = some [.int .u32 0, .int .i32 0, .int .u32 0, .nilIface, .slice (.tip t) 1 (strEls pairs6)]
theorem newReplacer_call (σ : St) : SCall Tryz.prog LG 65 [.slice .full 1 (strEls pairs6)] σ (NewPost σ) := by
  refine code65.call hm (by simp) ?_
  refine Sure.mk' (by decide) ?_
  refine Test.no (by decide) ?_
  refine App.mk' (σ1 := σ) (.refl _) trivial (.inl rfl) rfl (by decide) (by decide) (by simp [strEls, pairs6]) (fun t σ1 o1 hm1 _ _ => ?_)
  refine ⟨rfl, ?_⟩
  intro b hb
  exact Ret.mk' ⟨b, t, rfl, over_put o1 (over_none o1 hb), over_none o1 hb, put_box⟩
end Go.Shadow.Lex
