/- Proved: parts of the proof: The parser's forms, args shadow contracts; The parser's run: a reader's panic is its problem; Proved: parse; Shadow code of the replacer of strings (printed by a program); THE SHADOW LOGIC, part 20: the library's own operations on single cells (sync/atomic, internal/race); Proved: what strings; Proved: what the lexer's replacer of strings does, as a shadow contract; Proved: what the lexer's Text does, as a shadow contract; Proved: what PrintExpr returns; The sources of the laws' sanity, by the grammar; Proved: the laws' function sanity returns true; How large the results of the parser are; The. Conditions: as each theorem says. -/
import Derived.Test.YtaefelmojpkpaaaGreatDoorBa4
import Derived.Test.YtaefelmojpkpaaaGreatDoorProg
import Derived.Laws.LoneSync

/- The parser's forms, args shadow contracts. Conditions: args each theorem says. -/
namespace Go.Shadow.Lex
open Go Go.RowKit Go.Proofs

def scA0 : SC := match sc26 with
  | .seq _ (.seq _ (.seq _ (.seq _ (.seq _ (.seq _ (.seq _ r)))))) => r
  | _ => .skip
def scB0 : SC := match scA0 with
  | .seq _ r => r
  | _ => .skip
def foS (p : Nat) (d : Int) (b4 b6 : Nat) : List (Nat × Option V) := [(0, some (.loc p 0)), (1, some (.int .i64 d)), (4, some (.loc b4 0)), (6, some (.loc b6 0))]
/-- What holds in a form: the parser, the result's places. -/
structure FoI (σ0 σ : St) (p : Nat) (l : List Tok) (n : Int) (b4 b6 : Nat) : Prop where
  ps : Ps σ p l n
  fr : Fr p σ0 σ
  h4 : σ.box b4 = some noFo
  n4 : p ≠ b4
  n6 : p ≠ b6
  n46 : b4 ≠ b6
  f4 : σ0.box b4 = none
  f6 : σ0.box b6 = none
theorem FoI.fr' {σ0 σ σ' : St} {p : Nat} {l l' : List Tok} {n n' : Int} {b4 b6 : Nat} (h : FoI σ0 σ p l n b4 b6) (hf : Fr p σ σ') (hp : Ps σ' p l' n') : FoI σ0 σ' p l' n' b4 b6 :=
  ⟨hp, h.fr.trans hf, hf.box _ _ (Ne.symm h.n4) h.h4, h.n4, h.n6, h.n46, h.f4, h.f6⟩
theorem FoI.put6 {σ0 σ : St} {p : Nat} {l : List Tok} {n : Int} {b4 b6 : Nat} (h : FoI σ0 σ p l n b4 b6) (cs : List V) : FoI σ0 (σ.put b6 cs) p l n b4 b6 :=
  ⟨h.ps.put h.n6, h.fr.put (.inl h.f6), by rw [put_ne h.n46]; exact h.h4, h.n4, h.n6, h.n46, h.f4, h.f6⟩
theorem FoI.app {σ0 σ σ' : St} {p : Nat} {l : List Tok} {n : Int} {b4 b6 : Nat} (h : FoI σ0 σ p l n b4 b6) (hb : σ'.box = σ.box) (ho : Over (sans σ0) σ') : FoI σ0 σ' p l n b4 b6 :=
  ⟨h.ps.box hb, h.fr.app hb ho, by rw [hb]; exact h.h4, h.n4, h.n6, h.n46, h.f4, h.f6⟩

theorem weak_es {tag : Tag} {z s : Nat} {es : List (List V)} (hz : z = s ∨ es = []) : Weak (.slice tag z es) (.slice .foreign s es) := by
  rcases hz with rfl | rfl
  · exact weak_slice _ _ _
  · exact weak_nil _ _ _
theorem weak_fo {w : List UInt8} {args : List Ar} {bs : List Fo} {a : Int} {t1 t2 : Tag} {z1 z2 : Nat} {es1 es2 : List (List V)} (h1 : es1 = args.map arV) (h2 : es2 = bs.map foV) (hz1 : z1 = 9 ∨ es1 = []) (hz2 : z2 = 4 ∨ es2 = []) :
    Weak (.agg [.str w, .slice t1 z1 es1, .slice t2 z2 es2, .int .i64 a]) (.agg (foV (.mk w args bs a))) := by
  subst h1; subst h2
  refine weak_agg rfl (fun i y hy => ?_) (fun i x y hx hy => ?_)
  · match i, hy with
    | 0, hy | 1, hy | 2, hy | 3, hy => simp [foV] at hy; subst hy; rfl
    | _ + 4, hy => simp [foV] at hy
  · match i, hx, hy with
    | 0, hx, hy | 3, hx, hy => simp [foV] at hx hy; subst hx; subst hy; exact Weak.refl _
    | 1, hx, hy => simp [foV] at hx hy; subst hx; subst hy; exact weak_es hz1
    | 2, hx, hy => simp [foV] at hx hy; subst hx; subst hy; rw [foVs_map]; exact weak_es hz2
    | _ + 4, hx, hy => simp [foV] at hy

/-- Forms of fewer tokens are read args the grammar says. -/
def FormsTo (m : Nat) : Prop := ∀ (σ : St) (p : Nat) (l : List Tok) (n d : Int), Ps σ p l n → Ended l → 0 ≤ n → n ≤ 2000 → 0 ≤ d → d ≤ 31 → l.length ≤ m → SCall Tryz.prog LG 26 [.loc p 0, .int .i64 d] σ (ReadsF d n l p σ)

theorem len_small {α : Type} {l : List α} {m k : Nat} (h : l.length ≤ m) (hm : m ≤ 1000000) (hk : k ≤ 1000) : (l.length + (0 + 1)) * k ≤ 140737488355328 ∧ l.length + (0 + 1) ≤ 9223372036854775807 := by
  refine ⟨Nat.le_trans (Nat.mul_le_mul (show l.length + (0 + 1) ≤ 1000001 by omega) hk) (by decide), by omega⟩

theorem form_body {m : Nat} (ih : ∀ k, k < m → FormsTo k) (hm6 : m ≤ 1000000) {σ0 σ : St} {p : Nat} {l0 l : List Tok} {n n0 d : Int} {b4 b6 : Nat} (hI : FoI σ0 σ p l n b4 b6) (he : Ended l) (hl : l.length < l0.length) (hlm : l.length < m) (hn0 : 0 ≤ n) (hn : n ≤ 2000) (hd0 : 0 ≤ d) (hd1 : d ≤ 30)
    {w : List UInt8} {args : List Ar} {a : Int} {t1 : Tag} {z1 : Nat} (h6 : σ.box b6 = some [.str w, .slice t1 z1 (args.map arV), .slice .nil 0 [], .int .i64 a]) (hz1 : z1 = 9 ∨ args.map arV = [])
    (hPE : ∀ x, PF (.body w a args []) d n l x → PF .form d n0 l0 x) :
    swpE Tryz.prog LG scB0 (retE [(4, some (true, 4))] (ReadsF d n0 l0 p σ0)) (ofL (foS p d b4 b6)) σ := by
  refine ⟨fun k sl σ' => ∃ (bs : List Fo) (lc : List Tok) (nc : Int) (tag : Tag) (z : Nat), sl = ofL (foS p d b4 b6) ∧ FoI σ0 σ' p lc nc b4 b6 ∧ Ended lc ∧ lc.length ≤ l.length ∧ 0 ≤ nc ∧ nc ≤ 2000 ∧
      σ'.box b6 = some [.str w, .slice t1 z1 (args.map arV), .slice tag z (bs.map foV), .int .i64 a] ∧ Mine (sans σ0) σ' tag ∧ (tag = .nil ∨ z = 4) ∧ (z = 4 ∨ bs.map foV = []) ∧ bs.length + lc.length ≤ l.length ∧ (∀ x, PF (.body w a args bs) d nc lc x → PF .form d n0 l0 x) ∧ k = lc.length,
    _, ⟨[], l, n, .nil, 0, rfl, hI, he, Nat.le_refl _, hn0, hn, h6, trivial, .inl rfl, .inr rfl, by simp, hPE, rfl⟩, ?_⟩
  clear hI he h6 hPE hn0 hn
  rintro k sl σ' ⟨bs, lc, nc, tag, z, rfl, hI, he, hlc, hn0, hn, h6, hM, hz, hz5, hbl, hPE, rfl⟩
  refine CallK.mk' (is_call hI.ps he.ne _) ?_
  rintro e σ' ⟨rfl, rfl⟩
  cases hc : isS [125] lc
  rotate_left
  · obtain ⟨t3, r3, rfl⟩ := he.cons
    obtain ⟨het3, hlt3⟩ := he.tail_sign hc
    simp only [List.tail_cons, List.length_cons] at het3 hlt3 hlc
    refine CallK.mk' (nextTok_call hI.ps) ?_
    rintro e σ8 ⟨rfl, hp8, hf8⟩
    have hI8 := hI.fr' hf8 hp8
    refine Load.mk' (hf8.box _ _ (Ne.symm hI.n6) h6) (Nat.le_refl _) ?_
    refine Sure.mk' rfl ?_
    refine Store.mk' [.str w, .slice t1 z1 (args.map arV), .slice tag z (bs.map foV), .int .i64 a] hI8.h4 (Nat.le_refl _) rfl (fun σ9 e9 => ?_)
    refine Load.mk' (by rw [e9]; exact put_box) (Nat.le_refl _) ?_
    refine Ret.weak (weak_fo rfl rfl hz1 hz5) (.refl _) ⟨_, hPE _ (.body_end hc), by rw [e9]; exact hI8.fr.put (.inl hI8.f4), rfl, by rw [e9]; exact hI8.ps.put hI8.n4, het3, by simp only [List.tail_cons]; omega, hn0, hn⟩
  · refine Arith.i64 (d + 1) rfl (by omega) ?_
    refine Sure.mk' rfl ?_
    refine Load.mk' h6 (by simp) ?_
    have hbs : bs.length ≤ m := by omega
    refine CallK.mk' (ih lc.length (by omega) _ p lc nc (d + 1) hI.ps he hn0 hn (by omega) (by omega) (Nat.le_refl _)) ?_
    rintro e σ9 ⟨r9, hr9, hf9, hres⟩
    cases r9 with
    | err E rest =>
      obtain ⟨rfl, h2⟩ := hres
      exact ⟨_, _, Weak.refl _, Forget.refl _, _, hPE _ (.body_err hc hr9), hI.fr.trans hf9, rfl, h2⟩
    | ok x n' rest =>
      obtain ⟨rfl, hp9, he9, hlt9, hn9, hn9'⟩ := hres
      have hI9 := hI.fr' hf9 hp9
      have h69 := hf9.box _ _ (Ne.symm hI.n6) h6
      have hM9 := Mine.fr hM hf9
      obtain ⟨w2, as2, bs2, a2⟩ := x
      have hb1 : bs.length + 1 + rest.length ≤ l.length := by omega
      have hb2 : rest.length ≤ l.length := by omega
      refine Kept1.mk' (fun cs h => hf9.box _ _ (Ne.symm hI.n6) h) ?_
      refine App.mk' hI9.fr.sans hM9 hz rfl (by simp only [List.length_map, List.length_cons, List.length_nil]; exact (len_small hbs hm6 (by decide)).1) (by simp only [List.length_map, List.length_cons, List.length_nil]; exact (len_small hbs hm6 (Nat.zero_le _)).2) (List.cons_ne_nil _ _) (fun t' σ10 o10 m10 b10 _ => ?_)
      have hI10 := hI9.app b10 o10
      refine Sure.mk' rfl ?_
      refine Store.mk' [.str w, .slice t1 z1 (args.map arV), .slice (.tip t') 4 (bs.map foV ++ [foV (.mk w2 as2 bs2 a2)]), .int .i64 a] (by rw [b10]; exact h69) (by simp [V.cells]) rfl (fun σ11 e11 => ?_)
      refine ⟨_, _, hlt9, Forget.refl _, bs ++ [.mk w2 as2 bs2 a2], rest, n', .tip t', 4, rfl, by rw [e11]; exact hI10.put6 _, he9, hb2, hn9, hn9', by rw [e11, List.map_append]; exact put_box, by rw [e11]; exact Mine.put m10, .inr rfl, .inl rfl, by simp only [List.length_append, List.length_cons, List.length_nil]; exact hb1, fun x hx => hPE _ (.body_go hc hr9 hx), rfl⟩

theorem form_call {m : Nat} (ih : ∀ k, k < m → FormsTo k) (hm6 : m ≤ 1000000) {σ : St} {p : Nat} {l : List Tok} {n d : Int} (hp : Ps σ p l n) (he : Ended l) (hn0 : 0 ≤ n) (hn : n ≤ 2000) (hd0 : 0 ≤ d) (hd1 : d ≤ 31) (hlm : l.length ≤ m) :
    SCall Tryz.prog LG 26 [.loc p 0, .int .i64 d] σ (ReadsF d n l p σ) := by
  obtain ⟨t, r, rfl⟩ := he.cons
  refine code26.call hm (by simp) ?_
  intro b4 hb4
  have np4 := hp.ne hb4
  have hp1 := hp.put (cs := noFo) np4
  have hf1 : Fr p σ (σ.put b4 noFo) := (Fr.refl p σ).new hb4
  have h41 : (σ.put b4 noFo).box b4 = some noFo := put_box
  obtain ⟨tag0, hbx⟩ := id hp1
  refine Load.mk' hbx (by simp) ?_
  refine Sure.mk' (.inl rfl) ?_
  refine IdxE.mk' 0 (tokV t) rfl rfl ?_
  refine ⟨by simp [tokV], ?_⟩
  refine Test.split (fun k1 => ?_) (fun k1 => ?_)
  · refine CallK.mk' (fail_call hp1 he.ne 5) ?_
    rintro e σ' ⟨rfl, rfl⟩
    exact ⟨_, _, Weak.refl _, Forget.refl _, _, .form_bad k1, hf1, rfl, he⟩
  have k1 : (hd (t :: r)).kind = 1 := by
    apply Classical.byContradiction
    intro hx; exact k1 hx
  refine Load.mk' hbx (by simp) ?_
  refine Arith.i64 (n + 1) rfl (by omega) ?_
  refine Sure.mk' rfl ?_
  refine Store.mk' [.slice tag0 4 ((t :: r).map tokV), .int .i64 (n + 1)] hbx (by simp [V.cells]) (by simp [setL, V.cells]) (fun σ2 e2 => ?_)
  have hp2 : Ps σ2 p (t :: r) (n + 1) := ⟨tag0, by rw [e2]; exact put_box⟩
  have hbx2 : σ2.box p = some [.slice tag0 4 ((t :: r).map tokV), .int .i64 (n + 1)] := by rw [e2]; exact put_box
  have h42 : σ2.box b4 = some noFo := by rw [e2, put_ne (Ne.symm np4)]; exact h41
  have hf2 : Fr p σ σ2 := by rw [e2]; exact hf1.put (.inr rfl)
  clear e2 hbx hp1 hf1 h41
  have hlim : ∀ {G : Prop}, (d > 30 ∨ n ≥ 2000 → G) → (¬ (d > 30 ∨ n ≥ 2000) → G) → G := fun h1 h2 => if h : d > 30 ∨ n ≥ 2000 then h1 h else h2 h
  refine hlim (fun hl => ?_) (fun hl => ?_)
  · refine Test.split (fun h30 => ?_) (fun h30 => ?_)
    · refine CallK.mk' (fail_call hp2 he.ne 2) ?_
      rintro e σ' ⟨rfl, rfl⟩
      exact ⟨_, _, Weak.refl _, Forget.refl _, _, .form_limit k1 hl, hf2, rfl, he⟩
    · refine Load.mk' hbx2 (by simp) ?_
      refine Test.yes (by omega) ?_
      refine CallK.mk' (fail_call hp2 he.ne 2) ?_
      rintro e σ' ⟨rfl, rfl⟩
      exact ⟨_, _, Weak.refl _, Forget.refl _, _, .form_limit k1 hl, hf2, rfl, he⟩
  refine Test.no (by omega) ?_
  refine Load.mk' hbx2 (by simp) ?_
  refine Test.no (by omega) ?_
  obtain ⟨het, hlt⟩ := he.tail (by rw [k1]; decide)
  simp only [List.tail_cons, List.length_cons] at het hlt hlm
  refine CallK.mk' (nextTok_call hp2) ?_
  rintro e σ3 ⟨rfl, hp3, hf3⟩
  have h43 := hf3.box b4 _ (Ne.symm np4) h42
  intro b5 hb5
  have np5 := hp3.ne hb5
  have n45 := box_ne h43 hb5
  refine Sure.mk' rfl ?_
  refine Store.mk' (tokV t) put_box (by simp [V.cells, tokV]) (by simp [setL, V.cells, tokV]) (fun σ4 e4 => ?_)
  rw [put_put] at e4
  have h54 : σ4.box b5 = some (tokV t) := by rw [e4]; exact put_box
  have h44 : σ4.box b4 = some noFo := by rw [e4, put_ne n45]; exact h43
  have hp4 : Ps σ4 p r (n + 1) := by rw [e4]; exact hp3.put np5
  have hf4 : Fr p σ σ4 := by rw [e4]; exact (hf2.trans hf3).new hb5
  clear e4 hb5
  refine Load.mk' h54 (by simp [tokV]) ?_
  refine Load.mk' h54 (by simp [tokV]) ?_
  intro b6 hb6
  have np6 := hp4.ne hb6
  have n46 := box_ne h44 hb6
  refine Sure.mk' rfl ?_
  refine Store.mk' [.str t.s, .slice .nil 0 [], .slice .nil 0 [], .int .i64 t.at_] put_box (Nat.le_refl _) rfl (fun σ5 e5 => ?_)
  rw [put_put] at e5
  have h65 : σ5.box b6 = some [.str t.s, .slice .nil 0 [], .slice .nil 0 [], .int .i64 t.at_] := by rw [e5]; exact put_box
  have hI : FoI σ σ5 p r (n + 1) b4 b6 := ⟨by rw [e5]; exact hp4.put np6, by rw [e5]; exact hf4.new hb6, by rw [e5, put_ne n46]; exact h44, np4, np6, n46, hb4, hf4.fresh (Ne.symm np6) hb6⟩
  clear e5 hb6 hp4 hf4 h44 h54 hp3 hf3 h43 hp2 hf2 h42 hbx2
  refine ⟨fun k sl σ' => ∃ (args : List Ar) (lc : List Tok) (tag : Tag) (z : Nat), sl = ofL (foS p d b4 b6) ∧ FoI σ σ' p lc (n + 1) b4 b6 ∧ Ended lc ∧ lc.length ≤ r.length ∧
      σ'.box b6 = some [.str t.s, .slice tag z (args.map arV), .slice .nil 0 [], .int .i64 t.at_] ∧ Mine (sans σ) σ' tag ∧ (tag = .nil ∨ z = 9) ∧ (z = 9 ∨ args.map arV = []) ∧ args.length ≤ 40 ∧ (∀ x, PF (.args t.s t.at_ args) d (n + 1) lc x → PF .form d n (t :: r) x) ∧ k = lc.length,
    _, ⟨[], r, .nil, 0, rfl, hI, het, Nat.le_refl _, h65, trivial, .inl rfl, .inr rfl, by simp, fun x hx => .form_go k1 hl hx, rfl⟩, ?_⟩
  clear hI het hlt h65
  rintro k sl σ' ⟨args, lc, tag, z, rfl, hI, he, hlc, h6, hM, hz, hz9, hk40, hPE, rfl⟩
  refine CallK.mk' (is_call hI.ps he.ne _) ?_
  rintro e σ' ⟨rfl, rfl⟩
  cases hq1 : isS [59] lc
  rotate_left
  · obtain ⟨t3, r3, rfl⟩ := he.cons
    obtain ⟨het3, hlt3⟩ := he.tail_sign hq1
    simp only [List.tail_cons, List.length_cons] at het3 hlt3 hlc
    refine CallK.mk' (nextTok_call hI.ps) ?_
    rintro e σ8 ⟨rfl, hp8, hf8⟩
    have hI8 := hI.fr' hf8 hp8
    refine ⟨by simp [tokV], ?_⟩
    refine Test.yes (hd_sign hq1).2 ?_
    refine Load.mk' (hf8.box _ _ (Ne.symm hI.n6) h6) (Nat.le_refl _) ?_
    refine Sure.mk' rfl ?_
    refine Store.mk' [.str t.s, .slice tag z (args.map arV), .slice .nil 0 [], .int .i64 t.at_] hI8.h4 (Nat.le_refl _) rfl (fun σ9 e9 => ?_)
    refine Load.mk' (by rw [e9]; exact put_box) (Nat.le_refl _) ?_
    refine Ret.weak (weak_fo (bs := []) rfl rfl hz9 (.inr rfl)) (.refl _) ⟨_, hPE _ (.args_end hq1), by rw [e9]; exact hI8.fr.put (.inl hI8.f4), rfl, by rw [e9]; exact hI8.ps.put hI8.n4, het3, by simp only [List.tail_cons, List.length_cons]; omega, by omega, by omega⟩
  refine CallK.mk' (is_call hI.ps he.ne _) ?_
  rintro e σ' ⟨rfl, rfl⟩
  cases hq2 : isS [123] lc
  rotate_left
  · obtain ⟨t3, r3, rfl⟩ := he.cons
    obtain ⟨het3, hlt3⟩ := he.tail_sign hq2
    simp only [List.tail_cons, List.length_cons] at het3 hlt3 hlc
    refine CallK.mk' (nextTok_call hI.ps) ?_
    rintro e σ8 ⟨rfl, hp8, hf8⟩
    have hI8 := hI.fr' hf8 hp8
    refine ⟨by simp [tokV], ?_⟩
    refine Test.no (by rw [show t3.s = _ from (hd_sign hq2).2]; decide) ?_
    exact form_body ih hm6 hI8 het3 (by simp only [List.length_cons]; omega) (by omega) (by omega) (by omega) hd0 (by omega) (hf8.box _ _ (Ne.symm hI.n6) h6) hz9 (fun x hx => hPE _ (.args_body hq2 hx))
  refine CallK.mk' (begins_call hI.ps he.ne) ?_
  rintro e σ' ⟨rfl, rfl⟩
  have hstart : ∀ {G : Prop}, (begins lc = false → isS [45, 62] lc = false → G) → (argStart lc → G) → G := by
    intro G h1 h2
    cases hx : begins lc
    · cases hy : isS [45, 62] lc
      · exact h1 hx hy
      · exact h2 (.inr hy)
    · exact h2 (.inl hx)
  refine hstart (fun hx hy => ?_) (fun hst => ?_)
  · rw [hx]
    refine CallK.mk' (is_call hI.ps he.ne _) ?_
    rintro e σ' ⟨rfl, rfl⟩
    rw [hy]
    refine CallK.mk' (fail_call hI.ps he.ne 5) ?_
    rintro e σ' ⟨rfl, rfl⟩
    exact ⟨_, _, Weak.refl _, Forget.refl _, _, hPE _ (.args_bad hq1 hq2 hx hy), hI.fr, rfl, he⟩
  cases hx : begins lc
  · have hy : isS [45, 62] lc = true := by
      rcases hst with h | h
      · rw [hx] at h; cases h
      · exact h
    refine CallK.mk' (is_call hI.ps he.ne _) ?_
    rintro e σ' ⟨rfl, rfl⟩
    rw [hy]
    refine Load.mk' h6 (by simp) ?_
    refine Test.split (fun h40 => ?_) (fun h40 => ?_)
    · refine CallK.mk' (fail_call hI.ps he.ne 2) ?_
      rintro e σ' ⟨rfl, rfl⟩
      exact ⟨_, _, Weak.refl _, Forget.refl _, _, hPE _ (.args_limit hq1 hq2 hst (by simp at h40; omega)), hI.fr, rfl, he⟩
    · have hn40 : args.length ≠ 40 := by simp at h40; omega
      have hk39 : args.length ≤ 39 := by omega
      refine Sure.mk' rfl ?_
      refine Load.mk' h6 (by simp) ?_
      refine CallK.mk' (arg_call hI.ps he hst) ?_
      rintro e σ9 ⟨r9, hr9, hf9, hres⟩
      cases r9 with
      | err E rest =>
        obtain ⟨rfl, h2⟩ := hres
        exact ⟨_, _, Weak.refl _, Forget.refl _, _, hPE _ (.args_err hq1 hq2 hst hn40 hr9), hI.fr.trans hf9, rfl, h2⟩
      | ok x rest =>
        obtain ⟨rfl, hp9, he9, hlt9⟩ := hres
        have hI9 := hI.fr' hf9 hp9
        have h69 := hf9.box _ _ (Ne.symm hI.n6) h6
        have hM9 := Mine.fr hM hf9
        have hr2 : rest.length ≤ r.length := by omega
        obtain ⟨ak, an, as0, ⟨op, nn, s, kk, a⟩, aat⟩ := x
        refine Kept1.mk' (fun cs h => hf9.box _ _ (Ne.symm hI.n6) h) ?_
        refine App.mk' hI9.fr.sans hM9 hz rfl (by simp only [List.length_map, List.length_cons, List.length_nil]; exact (len_small hk39 (by decide) (by decide)).1) (by simp only [List.length_map, List.length_cons, List.length_nil]; exact (len_small hk39 (by decide) (Nat.zero_le _)).2) (List.cons_ne_nil _ _) (fun t' σ10 o10 m10 b10 _ => ?_)
        have hI10 := hI9.app b10 o10
        refine Sure.mk' rfl ?_
        refine Store.mk' [.str t.s, .slice (.tip t') 9 (args.map arV ++ [arV ⟨ak, an, as0, .mk op nn s kk a, aat⟩]), .slice .nil 0 [], .int .i64 t.at_] (by rw [b10]; exact h69) (by simp [V.cells]) rfl (fun σ11 e11 => ?_)
        refine ⟨_, _, hlt9, Forget.refl _, args ++ [⟨ak, an, as0, .mk op nn s kk a, aat⟩], rest, .tip t', 9, rfl, by rw [e11]; exact hI10.put6 _, he9, hr2, by rw [e11, List.map_append]; exact put_box, by rw [e11]; exact Mine.put m10, .inr rfl, .inl rfl, by simp only [List.length_append, List.length_cons, List.length_nil]; omega, fun x hx => hPE _ (.args_go hq1 hq2 hst hn40 hr9 hx), rfl⟩
  · refine Load.mk' h6 (by simp) ?_
    refine Test.split (fun h40 => ?_) (fun h40 => ?_)
    · refine CallK.mk' (fail_call hI.ps he.ne 2) ?_
      rintro e σ' ⟨rfl, rfl⟩
      exact ⟨_, _, Weak.refl _, Forget.refl _, _, hPE _ (.args_limit hq1 hq2 hst (by simp at h40; omega)), hI.fr, rfl, he⟩
    · have hn40 : args.length ≠ 40 := by simp at h40; omega
      have hk39 : args.length ≤ 39 := by omega
      refine Sure.mk' rfl ?_
      refine Load.mk' h6 (by simp) ?_
      refine CallK.mk' (arg_call hI.ps he hst) ?_
      rintro e σ9 ⟨r9, hr9, hf9, hres⟩
      cases r9 with
      | err E rest =>
        obtain ⟨rfl, h2⟩ := hres
        exact ⟨_, _, Weak.refl _, Forget.refl _, _, hPE _ (.args_err hq1 hq2 hst hn40 hr9), hI.fr.trans hf9, rfl, h2⟩
      | ok x rest =>
        obtain ⟨rfl, hp9, he9, hlt9⟩ := hres
        have hI9 := hI.fr' hf9 hp9
        have h69 := hf9.box _ _ (Ne.symm hI.n6) h6
        have hM9 := Mine.fr hM hf9
        have hr2 : rest.length ≤ r.length := by omega
        obtain ⟨ak, an, as0, ⟨op, nn, s, kk, a⟩, aat⟩ := x
        refine Kept1.mk' (fun cs h => hf9.box _ _ (Ne.symm hI.n6) h) ?_
        refine App.mk' hI9.fr.sans hM9 hz rfl (by simp only [List.length_map, List.length_cons, List.length_nil]; exact (len_small hk39 (by decide) (by decide)).1) (by simp only [List.length_map, List.length_cons, List.length_nil]; exact (len_small hk39 (by decide) (Nat.zero_le _)).2) (List.cons_ne_nil _ _) (fun t' σ10 o10 m10 b10 _ => ?_)
        have hI10 := hI9.app b10 o10
        refine Sure.mk' rfl ?_
        refine Store.mk' [.str t.s, .slice (.tip t') 9 (args.map arV ++ [arV ⟨ak, an, as0, .mk op nn s kk a, aat⟩]), .slice .nil 0 [], .int .i64 t.at_] (by rw [b10]; exact h69) (by simp [V.cells]) rfl (fun σ11 e11 => ?_)
        refine ⟨_, _, hlt9, Forget.refl _, args ++ [⟨ak, an, as0, .mk op nn s kk a, aat⟩], rest, .tip t', 9, rfl, by rw [e11]; exact hI10.put6 _, he9, hr2, by rw [e11, List.map_append]; exact put_box, by rw [e11]; exact Mine.put m10, .inr rfl, .inl rfl, by simp only [List.length_append, List.length_cons, List.length_nil]; omega, fun x hx => hPE _ (.args_go hq1 hq2 hst hn40 hr9 hx), rfl⟩
end Go.Shadow.Lex

/- The parser's run: a reader's panic is its problem. Conditions: as each theorem says. -/
namespace Go.Shadow.Lex
open Go Go.RowKit Go.Proofs

theorem rec_some {σ : St} {b4 : Nat} {u v : V} (hb : σ.box b4 = some [u, v]) (E : Int) (l : List Tok) :
    SDCall Tryz.prog LG 44 [.loc b4 0] (some (stopV E l)) σ fun r σ' => r = true ∧ ∃ b2 cs, σ.box b2 = none ∧ σ' = (σ.put b2 cs).put b4 [.int .i64 (hd l).at_, .int .i64 E] := by
  refine SDCall.of_rec hm code44 (by simp) ?_
  intro b2 hb2
  have n := box_ne hb hb2
  refine Sure.mk' rfl ?_
  refine Store.mk' [.int .i64 (hd l).at_, .int .i64 E] put_box (Nat.le_refl _) rfl (fun σ3 e3 => ?_)
  rw [put_put] at e3
  refine Load.mk' (by rw [e3]; exact put_box) (Nat.le_refl _) ?_
  refine Sure.mk' rfl ?_
  refine Store.mk' [.int .i64 (hd l).at_, .int .i64 E] (by rw [e3, put_ne n]; exact hb) (Nat.le_refl _) rfl (fun σ4 e4 => ?_)
  refine Ret.mk' ⟨⟨_, rfl⟩, rfl, b2, _, hb2, by rw [e4, e3]⟩
theorem rec_none {σ : St} {b4 : Nat} : SDCall Tryz.prog LG 44 [.loc b4 0] none σ fun r σ' => r = false ∧ σ' = σ := by
  refine SDCall.of_rec hm code44 (by simp) ?_
  exact Ret.mk' ⟨⟨_, rfl⟩, rfl, rfl⟩

/-- All but two variables are as they were. -/
structure Fr2 (p q : Nat) (σ σ' : St) : Prop where
  box : ∀ b cs, b ≠ p → b ≠ q → σ.box b = some cs → σ'.box b = some cs
  live : ∀ t, σ.live t = true → σ'.live t = true
  map : ∀ r m, σ.map r = some m → σ'.map r = some m
theorem Fr2.fr {p q : Nat} {σ0 σ σ' : St} (h : Fr p σ0 σ) (k : Fr2 p q σ σ') (hq : σ0.box q = none) : Fr p σ0 σ' :=
  ⟨fun b cs hb hc => k.box b cs hb (by rintro rfl; rw [hq] at hc; cases hc) (h.box b cs hb hc), fun t ht => k.live t (h.live t ht), fun r m hm => k.map r m (h.map r m hm)⟩
/-- What a reader that run is given does. -/
structure Reader (k : FuncId) (bc : Nat) (ts : List Tok) (σ : St) (Ok : List V → List Tok → Prop) (Bad : Int → List Tok → Prop) : Prop where
  call : ∀ (p : Nat) (σ' : St), Fr bc σ σ' → σ.box p = none → σ'.box bc = σ.box bc → bc ≠ p → Ps σ' p ts 0 → SCall Tryz.prog LG k ([] ++ [.loc p 0] ++ [.loc bc 0]) σ' fun e σ'' => Fr2 bc p σ' σ'' ∧
    ((∃ rest f cs, e = .ret (.tup []) ∧ Ps σ'' p rest f ∧ Ended rest ∧ σ''.box bc = some cs ∧ Ok cs rest) ∨ ∃ E rest, e = .pan (stopV E rest) ∧ Ended rest ∧ Bad E rest)

theorem run_ok {σ : St} {src : List UInt8} (hs : src.length ≤ 70000) {ts : List Tok} (hl : lex src = .inr ts) {k : FuncId} {bc : Nat} {cs0 : List V} (hbc : σ.box bc = some cs0) {Ok : List V → List Tok → Prop} {Bad : Int → List Tok → Prop} (hr : Reader k bc ts σ Ok Bad) :
    SCall Tryz.prog LG 24 [.str src, .func k [] [.loc bc 0]] σ fun e σ'' => Fr bc σ σ'' ∧
      ((∃ rest cs, (hd rest).kind = 5 ∧ Ok cs rest ∧ σ''.box bc = some cs ∧ e = .ret (.agg [.int .i64 0, .int .i64 0])) ∨
        (∃ E rest, Ended rest ∧ (Bad E rest ∨ (E = 5 ∧ (hd rest).kind ≠ 5 ∧ ∃ cs, Ok cs rest)) ∧ e = .ret (.agg [.int .i64 (hd rest).at_, .int .i64 E]))) := by
  refine code24.call hm (by simp) ?_
  intro b4 hb4
  have nc4 := box_ne hbc hb4
  have h41 : (σ.put b4 [.int .i64 0, .int .i64 0]).box b4 = some [.int .i64 0, .int .i64 0] := put_box
  have hf1 : Fr bc σ (σ.put b4 [.int .i64 0, .int .i64 0]) := (Fr.refl bc σ).new hb4
  have hc1 : (σ.put b4 [.int .i64 0, .int .i64 0]).box bc = σ.box bc := put_ne nc4
  generalize hσ1 : σ.put b4 [.int .i64 0, .int .i64 0] = σ1 at h41 hf1 hc1
  refine CallK.pure (tokens_ret src hs) ?_
  rw [hl]
  refine Sure.mk' rfl ?_
  refine Store.mk' [.int .i64 0, .int .i64 0] h41 (Nat.le_refl _) rfl (fun σ2 e2 => ?_)
  have h42 : σ2.box b4 = some [.int .i64 0, .int .i64 0] := by rw [e2]; exact put_box
  have hf2 : Fr bc σ σ2 := by rw [e2]; exact hf1.put (.inl hb4)
  have hc2 : σ2.box bc = σ.box bc := by rw [e2, put_ne nc4]; exact hc1
  clear e2 hσ1 h41 hf1 hc1
  refine Load.mk' h42 (by simp) ?_
  refine Test.no (by simp) ?_
  refine ⟨rfl, ?_⟩
  intro p hp0
  have n4p := box_ne h42 hp0
  have hf3 : Fr bc σ (σ2.put p [.slice .foreign 4 (ts.map tokV), .int .i64 0]) := hf2.new hp0
  have hncp : bc ≠ p := by rintro rfl; rw [hc2, hbc] at hp0; cases hp0
  have hpσ : σ.box p = none := hf2.fresh (Ne.symm hncp) hp0
  have h43 : (σ2.put p [.slice .foreign 4 (ts.map tokV), .int .i64 0]).box b4 = some [.int .i64 0, .int .i64 0] := by rw [put_ne n4p]; exact h42
  have hcc : (σ2.put p [.slice .foreign 4 (ts.map tokV), .int .i64 0]).box bc = σ.box bc := by rw [put_ne hncp]; exact hc2
  refine CallK.mk' (hr.call p _ hf3 hpσ hcc hncp ⟨.foreign, put_box⟩) ?_
  rintro e σ4 ⟨hf4, (⟨rest, f, cs, rfl, hp4, he4, hbc4, hok⟩ | ⟨E, rest, rfl, he4, hbad⟩)⟩
  · have h44 := hf4.box b4 _ (Ne.symm nc4) n4p h43
    have hfr := Fr2.fr hf3 hf4 hpσ
    obtain ⟨tag, hpx⟩ := id hp4
    obtain ⟨t, r, rfl⟩ := he4.cons
    refine Load.mk' hpx (by simp) ?_
    refine Sure.mk' (.inl rfl) ?_
    refine IdxE.mk' 0 (tokV t) rfl rfl ?_
    refine ⟨by simp [tokV], ?_⟩
    refine Test.split (fun hk => ?_) (fun hk => ?_)
    · refine CallK.mk' (fail_call hp4 he4.ne 5) ?_
      rintro e σ' ⟨rfl, rfl⟩
      refine (rec_some h44 5 (t :: r)).mono ?_
      rintro r' σ5 ⟨rfl, b2, ds, hb2, rfl⟩
      have hn2 : b4 ≠ b2 := box_ne h44 hb2
      refine SLeaveE.leave (ds := []) (m := none) ?_
      refine Load.mk' put_box (Nat.le_refl _) ?_
      refine Ret.mk' ⟨?_, .inr ⟨5, t :: r, he4, .inr ⟨rfl, hk, cs, hok⟩, rfl⟩⟩
      exact (hfr.new hb2).put (.inl hb4)
    · refine Sure.mk' rfl ?_
      refine Store.mk' [.int .i64 0, .int .i64 0] h44 (Nat.le_refl _) rfl (fun σ5 e5 => ?_)
      refine DefK.mk' rec_none ?_
      rintro r' σ6 ⟨rfl, rfl⟩
      refine Load.mk' (by rw [e5]; exact put_box) (Nat.le_refl _) ?_
      refine Ret.mk' ⟨by rw [e5]; exact hfr.put (.inl hb4), .inl ⟨t :: r, cs, ?_, hok, by rw [e5, put_ne nc4]; exact hbc4, rfl⟩⟩
      apply Classical.byContradiction
      intro hx; exact hk hx
  · have h44 := hf4.box b4 _ (Ne.symm nc4) n4p h43
    have hfr := Fr2.fr hf3 hf4 hpσ
    refine (rec_some h44 E rest).mono ?_
    rintro r' σ5 ⟨rfl, b2, ds, hb2, rfl⟩
    refine SLeaveE.leave (ds := []) (m := none) ?_
    refine Load.mk' put_box (Nat.le_refl _) ?_
    refine Ret.mk' ⟨?_, .inr ⟨E, rest, he4, .inl hbad, rfl⟩⟩
    exact (hfr.new hb2).put (.inl hb4)

theorem run_bad {σ : St} {src : List UInt8} (hs : src.length ≤ 70000) {at_ E : Nat} (hl : lex src = .inl (at_, E)) (hE : E ≠ 0) (v : V) :
    SCall Tryz.prog LG 24 [.str src, v] σ fun e σ'' => Over σ σ'' ∧ e = .ret (.agg [.int .i64 at_, .int .i64 E]) := by
  refine code24.call hm (by simp) ?_
  intro b4 hb4
  refine CallK.pure (tokens_ret src hs) ?_
  rw [hl]
  refine Sure.mk' rfl ?_
  refine Store.mk' [.int .i64 at_, .int .i64 E] put_box (Nat.le_refl _) rfl (fun σ2 e2 => ?_)
  rw [put_put] at e2
  have h42 : σ2.box b4 = some [.int .i64 at_, .int .i64 E] := by rw [e2]; exact put_box
  refine Load.mk' h42 (by simp) ?_
  refine Test.yes (by simp; omega) ?_
  refine Load.mk' h42 (Nat.le_refl _) ?_
  refine Sure.mk' rfl ?_
  refine Store.mk' [.int .i64 at_, .int .i64 E] h42 (Nat.le_refl _) rfl (fun σ3 e3 => ?_)
  refine Load.mk' (by rw [e3]; exact put_box) (Nat.le_refl _) ?_
  refine Ret.mk' ⟨?_, rfl⟩
  rw [e3, e2, put_put]
  exact over_put (.refl _) hb4

/-! ### the readers -/
theorem expr_reader {bc : Nat} {ts : List Tok} (he : Ended ts) {σ : St} (hbc : σ.box bc = some noEx) :
    Reader 27 bc ts σ (fun cs rest => ∃ x, cs = exV x ∧ PE .expr 1 ts (.ok x rest)) (fun E rest => PE .expr 1 ts (.err E rest)) := by
  refine ⟨fun p σ' hf hp0 hcc hne hp => ?_⟩
  refine code27.call hm (by simp) ?_
  refine CallK.mk' (expr_call hp he (by omega) (by omega)) ?_
  rintro e σ2 ⟨r, hr, hfr, hres⟩
  cases r with
  | err E rest =>
    obtain ⟨rfl, h2⟩ := hres
    exact ⟨_, _, Weak.refl _, Forget.refl _, ⟨fun b cs _ hb hc => hfr.box b cs hb hc, hfr.live, hfr.map⟩, .inr ⟨E, rest, rfl, h2, hr⟩⟩
  | ok x rest =>
    obtain ⟨rfl, hp2, he2, hlt⟩ := hres
    obtain ⟨op, n, s, kids, a⟩ := x
    have hb2 := hfr.box bc _ hne (hcc.trans hbc)
    refine Sure.mk' rfl ?_
    refine Store.mk' (exV (.mk op n s kids a)) hb2 (Nat.le_refl _) rfl (fun σ3 e3 => ?_)
    refine Ret.mk' ⟨⟨fun b cs hb hb' hc => by rw [e3, put_ne hb]; exact hfr.box b cs hb' hc, fun t ht => by rw [e3]; exact hfr.live t ht, fun r m hm => by rw [e3]; exact hfr.map r m hm⟩, .inl ⟨rest, 0, _, rfl, ?_, he2, by rw [e3]; exact put_box, _, rfl, hr⟩⟩
    rw [e3]; exact hp2.put (Ne.symm hne)

theorem formsTo : ∀ m, m ≤ 1000000 → FormsTo m := by
  intro m
  induction m using Nat.strongRecOn with
  | _ m ih => exact fun hm6 σ p l n d hp he hn0 hn hd0 hd1 hlm => form_call (fun k hk => ih k hk (by omega)) hm6 hp he hn0 hn hd0 hd1 hlm

theorem Mine.app1 {σ1 σ : St} {tag : Tag} (o : Over σ1 σ) (hm : Mine σ1 σ tag) : (tag = .nil ∨ tag = .full ∨ ∃ k, tag = .tip k ∧ σ.live k = true) ∧ ∀ t', σ.live t' = false →
    ((match tag with | .tip k => σ.off k | _ => σ).on t').box = σ.box ∧ Over σ1 ((match tag with | .tip k => σ.off k | _ => σ).on t') ∧ Mine σ1 ((match tag with | .tip k => σ.off k | _ => σ).on t') (.tip t') := by
  have hn : ∀ t', σ.live t' = false → σ1.live t' = false := fun t' ht => by
    cases h : σ1.live t' with
    | false => rfl
    | true => rw [o.live t' h] at ht; cases ht
  cases tag with
  | foreign => exact hm.elim
  | nil => exact ⟨.inl rfl, fun t' ht => ⟨rfl, ⟨o.box, fun t h => by simp [St.on, o.live t h], o.map⟩, by simp [St.on], hn t' ht⟩⟩
  | full => exact ⟨.inr (.inl rfl), fun t' ht => ⟨rfl, ⟨o.box, fun t h => by simp [St.on, o.live t h], o.map⟩, by simp [St.on], hn t' ht⟩⟩
  | tip u =>
    refine ⟨.inr (.inr ⟨u, rfl, hm.1⟩), fun t' ht => ⟨rfl, ⟨o.box, fun t h => ?_, o.map⟩, by simp [St.on], hn t' ht⟩⟩
    have hne : t ≠ u := fun e => by subst e; rw [hm.2] at h; cases h
    simp [St.on, St.off, o.live t h, hne]

theorem forms_reader {bc : Nat} {ts : List Tok} (he : Ended ts) (hlen : ts.length ≤ 1000000) {σ : St} (hbc : σ.box bc = some [.slice .nil 0 []]) :
    Reader 25 bc ts σ (fun cs rest => (∃ out tag z, cs = [.slice tag z (out.map foV)] ∧ (z = 4 ∨ out.map foV = []) ∧ PL 0 [] ts (.ok out)) ∧ (hd rest).kind = 5) (fun E rest => PL 0 [] ts (.err E rest)) := by
  refine ⟨fun p σ' hf hp0 hcc hne hp => ?_⟩
  refine code25.call hm (by simp) ?_
  refine ⟨fun k sl σ2 => ∃ (out : List Fo) (lc : List Tok) (nc : Int) (tag : Tag) (z : Nat), sl = ofL [(0, some (.loc p 0)), (1, some (.loc bc 0))] ∧ Ps σ2 p lc nc ∧ Fr2 bc p σ' σ2 ∧ Ended lc ∧ lc.length ≤ ts.length ∧ 0 ≤ nc ∧ nc ≤ 2000 ∧
      σ2.box bc = some [.slice tag z (out.map foV)] ∧ Mine (sans σ') σ2 tag ∧ (tag = .nil ∨ z = 4) ∧ (z = 4 ∨ out.map foV = []) ∧ out.length + lc.length ≤ ts.length ∧ (∀ x, PL nc out lc x → PL 0 [] ts x) ∧ k = lc.length,
    _, ⟨[], ts, 0, .nil, 0, rfl, hp, ⟨fun _ _ _ _ h => h, fun _ h => h, fun _ _ h => h⟩, he, Nat.le_refl _, by omega, by omega, hcc.trans hbc, trivial, .inl rfl, .inr rfl, by simp, fun x hx => hx, rfl⟩, ?_⟩
  clear hp he
  rintro k sl σ2 ⟨out, lc, nc, tag, z, rfl, hp, hf2, he, hlc, hn0, hn, hb, hM, hz, hz4, hol, hPL, rfl⟩
  obtain ⟨tag0, hpx⟩ := id hp
  obtain ⟨t, r, rfl⟩ := he.cons
  refine Load.mk' hpx (by simp) ?_
  refine Sure.mk' (.inl rfl) ?_
  refine IdxE.mk' 0 (tokV t) rfl rfl ?_
  refine ⟨by simp [tokV], ?_⟩
  refine Test.split (fun hk => ?_) (fun hk => ?_)
  · refine Sure.mk' rfl ?_
    refine Load.mk' hb (by simp) ?_
    refine CallK.mk' (formsTo _ (by omega : (t :: r).length ≤ 1000000) _ p (t :: r) nc 1 hp he hn0 hn (by omega) (by omega) (Nat.le_refl _)) ?_
    rintro e σ3 ⟨r3, hr3, hf3, hres⟩
    cases r3 with
    | err E rest =>
      obtain ⟨rfl, h2⟩ := hres
      exact ⟨_, _, Weak.refl _, Forget.refl _, ⟨fun b cs hb hb' hc => hf3.box b cs hb' (hf2.box b cs hb hb' hc), fun t ht => hf3.live t (hf2.live t ht), fun r m hm => hf3.map r m (hf2.map r m hm)⟩, .inr ⟨E, rest, rfl, h2, hPL _ (.err hk hr3)⟩⟩
    | ok x n' rest =>
      obtain ⟨rfl, hp3, he3, hlt3, hn3, hn3'⟩ := hres
      have hb3 := hf3.box bc _ hne hb
      have hM3 := Mine.fr hM hf3
      obtain ⟨w, as_, bs, a⟩ := x
      have hol3 : out.length + 1 + rest.length ≤ ts.length := by omega
      have hlc3 : rest.length ≤ ts.length := by omega
      have hsm := len_small (show out.length ≤ 1000000 by omega) (Nat.le_refl _) (show 72 ≤ 1000 by decide)
      refine Kept1.mk' (fun cs h => hf3.box _ _ hne h) ?_
      have hfr3 : Fr2 bc p σ' σ3 := ⟨fun b cs hb hb' hc => hf3.box b cs hb' (hf2.box b cs hb hb' hc), fun t ht => hf3.live t (hf2.live t ht), fun r m hm => hf3.map r m (hf2.map r m hm)⟩
      obtain ⟨htg, hap⟩ := Mine.app1 (σ1 := sans σ') (σ := σ3) ⟨fun _ _ h => (by cases h), hfr3.live, hfr3.map⟩ hM3
      refine ⟨hz, rfl, by simp, rfl, rfl, by simp only [List.length_map]; exact hsm.1, by simp only [List.length_map]; exact hsm.2, htg, _, hb3, by simp, fun t' ht' => ?_⟩
      obtain ⟨q1, q2, q3⟩ := hap t' ht'
      refine ⟨_, _, hlt3, Forget.refl _, out ++ [.mk w as_ bs a], rest, n', .tip t', 4, rfl, (hp3.box q1).put (Ne.symm hne), ⟨fun b cs hb hb' hc => ?_, q2.live, q2.map⟩, he3, hlc3, hn3, hn3', ?_, Mine.put q3, .inr rfl, .inl rfl, by simp only [List.length_append, List.length_cons, List.length_nil]; exact hol3, fun x hx => hPL _ (.go hk hr3 hx), rfl⟩
      · rw [put_ne hb]; exact (congrFun q1 b).trans (hfr3.box b cs hb hb' hc)
      · rw [put_box, List.map_append]; rfl
  · refine Ret.mk' ⟨hf2, .inl ⟨t :: r, nc, _, rfl, hp, he, hb, ⟨out, tag, z, rfl, hz4, hPL _ (.done ?_)⟩, ?_⟩⟩
    · apply Classical.byContradiction
      intro hx; exact hk hx
    · apply Classical.byContradiction
      intro hx; exact hk hx
end Go.Shadow.Lex

/- Proved: parse.Expr and parse.Forms return what the grammar says of the source. Conditions: sources of at most 70000 bytes. -/
namespace Go.Shadow.Lex
open Go Go.RowKit Go.Proofs

theorem weak_noEx : Weak (.agg noEx) (.agg (exV .none)) := by
  refine weak_agg rfl (fun i y hy => ?_) (fun i x y hx hy => ?_)
  · match i, hy with
    | 0, hy | 1, hy | 2, hy | 3, hy | 4, hy => simp [exV, Ex.none] at hy; subst hy; rfl
    | _ + 5, hy => simp [exV, Ex.none] at hy
  · match i, hx, hy with
    | 0, hx, hy | 1, hx, hy | 2, hx, hy | 4, hx, hy => simp [exV, Ex.none] at hx hy; subst hx; subst hy; exact Weak.refl _
    | 3, hx, hy => simp [exV, exVs, Ex.none] at hx hy; subst hx; subst hy; exact weak_nil _ _ _
    | _ + 5, hx, hy => simp [exV, Ex.none] at hy
/-- What parse.Expr returns. -/
def exprR (x : Ex) (a E : Int) : V := .tup [.agg (exV x), .agg [.int .i64 a, .int .i64 E]]
def formsR (l : List Fo) (a E : Int) : V := .tup [.slice .foreign 4 (l.map foV), .agg [.int .i64 a, .int .i64 E]]

def scE9 : SC := match sc9 with
  | .seq _ (.seq _ (.seq _ r)) => r
  | _ => .skip
theorem expr9_end {σ0 σ : St} {src : List UInt8} {b2 b3 b4 b5 : Nat} {a E : Int} {cs : List V} {x : Ex} (ho : Over σ0 σ) (f2 : σ0.box b2 = none) (f3 : σ0.box b3 = none) (h2 : σ.box b2 = some noEx) (h3 : σ.box b3 = some [.int .i64 0, .int .i64 0]) (h4 : E = 0 → σ.box b4 = some cs) (h5 : σ.box b5 = some [.int .i64 a, .int .i64 E]) (n23 : b2 ≠ b3) (n25 : b2 ≠ b5)
    (hE : E ≠ 0 → x = .none) (h0 : E = 0 → a = 0 ∧ cs = exV x) (hx : ExprIs src x a E) :
    swpE Tryz.prog LG scE9 (retE [(2, some (true, 5)), (3, some (true, 2))] (fun e σ' => σ' = σ0 ∧ ∃ x a E, ExprIs src x a E ∧ e = .ret (exprR x a E))) (ofL [(2, some (.loc b2 0)), (3, some (.loc b3 0)), (4, some (.loc b4 0)), (5, some (.loc b5 0))]) σ := by
  refine Load.mk' h5 (by simp) ?_
  refine Test.split (fun hk => ?_) (fun hk => ?_)
  · refine Load.mk' h5 (Nat.le_refl _) ?_
    refine Sure.mk' ⟨⟨Ne.symm n25, trivial⟩, rfl⟩ ?_
    refine Store.mk' noEx h2 (Nat.le_refl _) rfl (fun σ1 e1 => ?_)
    refine Sure.mk' ⟨trivial, rfl⟩ ?_
    refine Store.mk' [.int .i64 a, .int .i64 E] (by rw [e1, put_ne (Ne.symm n23)]; exact h3) (Nat.le_refl _) rfl (fun σ2 e2 => ?_)
    refine Load.mk' (by rw [e2, put_ne n23, e1]; exact put_box) (Nat.le_refl _) ?_
    refine Load.mk' (by rw [e2]; exact put_box) (Nat.le_refl _) ?_
    refine Ret.weak (r := exprR x a E) ?_ (σ' := σ0) ?_ ⟨rfl, x, a, E, hx, rfl⟩
    · rw [hE hk]; exact Weak.tup2 weak_noEx (.refl _)
    · rw [e2, e1]; exact over_put (over_put ho f2) f3
  · have hk : E = 0 := by
      apply Classical.byContradiction
      intro h; exact hk h
    obtain ⟨rfl, hcs⟩ := h0 hk
    obtain ⟨op, n, s, kids, aa⟩ := x
    have h4' := h4 hk
    rw [hcs] at h4'
    subst hk
    refine Load.mk' h4' (Nat.le_refl _) ?_
    refine Load.mk' h5 (Nat.le_refl _) ?_
    refine Sure.mk' ⟨⟨Ne.symm n25, trivial⟩, rfl⟩ ?_
    refine Store.mk' (exV (.mk op n s kids aa)) h2 (Nat.le_refl _) rfl (fun σ1 e1 => ?_)
    refine Sure.mk' ⟨trivial, rfl⟩ ?_
    refine Store.mk' [.int .i64 0, .int .i64 0] (by rw [e1, put_ne (Ne.symm n23)]; exact h3) (Nat.le_refl _) rfl (fun σ2 e2 => ?_)
    refine Load.mk' (by rw [e2, put_ne n23, e1]; exact put_box) (Nat.le_refl _) ?_
    refine Load.mk' (by rw [e2]; exact put_box) (Nat.le_refl _) ?_
    refine Ret.weak (r := exprR (.mk op n s kids aa) 0 0) (.refl _) (σ' := σ0) ?_ ⟨rfl, _, _, _, hx, rfl⟩
    rw [e2, e1]; exact over_put (over_put ho f2) f3

theorem errno_ne {E : Int} (h : E = 5 ∨ E = 2) : E ≠ 0 := by omega
theorem over_fr {σ0 σ σ' : St} {p : Nat} (h : Over σ0 σ) (hf : Fr p σ σ') (hp : σ0.box p = none) : Over σ0 σ' :=
  ⟨fun b cs hb => hf.box b cs (by rintro rfl; rw [hp] at hb; cases hb) (h.box b cs hb), fun t ht => hf.live t (h.live t ht), fun r m hm => hf.map r m (h.map r m hm)⟩

theorem exprP_call (src : List UInt8) (hs : src.length ≤ 70000) (σ : St) :
    SCall Tryz.prog LG 9 [.str src] σ fun e σ' => σ' = σ ∧ ∃ x a E, ExprIs src x a E ∧ e = .ret (exprR x a E) := by
  refine code9.call hm (by simp) ?_
  intro b2 f2
  intro b3 hb3
  have n23 := box_ne put_box hb3
  have f3 : σ.box b3 = none := put_none hb3
  have o2 : Over σ ((σ.put b2 noEx).put b3 [.int .i64 0, .int .i64 0]) := over_put (over_put (.refl _) f2) f3
  have h22 : ((σ.put b2 noEx).put b3 [.int .i64 0, .int .i64 0]).box b2 = some noEx := by rw [put_ne n23]; exact put_box
  have h32 : ((σ.put b2 noEx).put b3 [.int .i64 0, .int .i64 0]).box b3 = some [.int .i64 0, .int .i64 0] := put_box
  intro b4 hb4
  have n24 := box_ne h22 hb4
  have n34 := box_ne h32 hb4
  have f4 : σ.box b4 = none := put_none (put_none hb4)
  have o4 := over_put (cs := noEx) o2 f4
  have h24 : (((σ.put b2 noEx).put b3 [.int .i64 0, .int .i64 0]).put b4 noEx).box b2 = some noEx := by rw [put_ne n24]; exact h22
  have h34 : (((σ.put b2 noEx).put b3 [.int .i64 0, .int .i64 0]).put b4 noEx).box b3 = some [.int .i64 0, .int .i64 0] := by rw [put_ne n34]; exact h32
  have h44 : (((σ.put b2 noEx).put b3 [.int .i64 0, .int .i64 0]).put b4 noEx).box b4 = some noEx := put_box
  generalize ((σ.put b2 noEx).put b3 [.int .i64 0, .int .i64 0]).put b4 noEx = σ4 at o4 h24 h34 h44
  cases hl : lex src with
  | inl p =>
    obtain ⟨k, E⟩ := p
    have hE := (lex_err hl).1
    refine CallK.mk' (run_bad hs hl hE _) ?_
    rintro e σ5 ⟨o5, rfl⟩
    intro b5 hb5
    have h25 := o5.box _ _ h24
    have h35 := o5.box _ _ h34
    have n25 := box_ne h25 hb5
    have n35 := box_ne h35 hb5
    have o5' := over_tr o4 o5
    have f5 : σ.box b5 = none := by
      cases h : σ.box b5 with
      | none => rfl
      | some cs => rw [o5'.box _ _ h] at hb5; cases hb5
    refine Sure.mk' rfl ?_
    refine Store.mk' [.int .i64 k, .int .i64 E] put_box (Nat.le_refl _) rfl (fun σ6 e6 => ?_)
    rw [put_put] at e6
    exact expr9_end (cs := []) (x := .none) (by rw [e6]; exact over_put o5' f5) f2 f3 (by rw [e6, put_ne n25]; exact h25) (by rw [e6, put_ne n35]; exact h35) (fun h => absurd h (by omega)) (by rw [e6]; exact put_box) n23 n25 (fun _ => rfl) (fun h => absurd h (by omega)) (.lex hl)
  | inr ts =>
    obtain ⟨het, hlen⟩ := lex_ended hl
    refine CallK.mk' (run_ok hs hl h44 (expr_reader het h44)) ?_
    have fin : ∀ {a E : Int} {cs : List V} {x : Ex} {σ5 : St}, Fr b4 σ4 σ5 → (E = 0 → σ5.box b4 = some cs) → (E ≠ 0 → x = .none) → (E = 0 → a = 0 ∧ cs = exV x) → ExprIs src x a E → ∀ b5, σ5.box b5 = none → ∀ σ6, σ6 = σ5.put b5 [.int .i64 a, .int .i64 E] →
        swpE Tryz.prog LG scE9 (retE [(2, some (true, 5)), (3, some (true, 2))] (fun e σ' => σ' = σ ∧ ∃ x a E, ExprIs src x a E ∧ e = .ret (exprR x a E))) (ofL [(2, some (.loc b2 0)), (3, some (.loc b3 0)), (4, some (.loc b4 0)), (5, some (.loc b5 0))]) σ6 := by
      intro a E cs x σ5 hf5 h45 hE h0 hx b5 hb5 σ6 e6
      have h25 := hf5.box _ _ n24 h24
      have h35 := hf5.box _ _ n34 h34
      have n25 := box_ne h25 hb5
      have n35 := box_ne h35 hb5
      have o5' := over_fr o4 hf5 f4
      have f5 : σ.box b5 = none := by
        cases h : σ.box b5 with
        | none => rfl
        | some cs => rw [o5'.box _ _ h] at hb5; cases hb5
      exact expr9_end (cs := cs) (x := x) (by rw [e6]; exact over_put o5' f5) f2 f3 (by rw [e6, put_ne n25]; exact h25) (by rw [e6, put_ne n35]; exact h35) (fun h => by rw [e6, put_ne (box_ne (h45 h) hb5)]; exact h45 h) (by rw [e6]; exact put_box) n23 n25 hE h0 hx
    rintro e σ5 ⟨hf5, (⟨rest, cs, hk5, ⟨x, rfl, hx⟩, h45, rfl⟩ | ⟨E, rest, her, hbad, rfl⟩)⟩
    · intro b5 hb5
      refine Sure.mk' rfl ?_
      refine Store.mk' [.int .i64 0, .int .i64 0] put_box (Nat.le_refl _) rfl (fun σ6 e6 => ?_)
      rw [put_put] at e6
      exact fin hf5 (fun _ => h45) (fun h => absurd rfl h) (fun _ => ⟨rfl, rfl⟩) (.ok hl hx hk5) b5 hb5 σ6 e6
    · intro b5 hb5
      refine Sure.mk' rfl ?_
      refine Store.mk' [.int .i64 (hd rest).at_, .int .i64 E] put_box (Nat.le_refl _) rfl (fun σ6 e6 => ?_)
      rw [put_put] at e6
      rcases hbad with hbad | ⟨rfl, hk5, cs, x, rfl, hx⟩
      · have hE := errno_ne (hbad.errno rfl)
        exact fin (cs := []) (x := .none) hf5 (fun h => absurd h hE) (fun _ => rfl) (fun h => absurd h hE) (.bad hl hbad) b5 hb5 σ6 e6
      · exact fin (cs := []) (x := .none) hf5 (fun h => absurd h (by decide)) (fun _ => rfl) (fun h => absurd h (by decide)) (.more hl hx hk5) b5 hb5 σ6 e6

def scE8 : SC := match sc8 with
  | .seq _ (.seq _ (.seq _ r)) => r
  | _ => .skip
theorem forms8_end {σ0 σ : St} {src : List UInt8} {b3 b4 b5 : Nat} {a E : Int} {x : List Fo} {tag : Tag} {z : Nat} (ho : Over σ0 σ) (f3 : σ0.box b3 = none) (h3 : σ.box b3 = some [.int .i64 0, .int .i64 0]) (h4 : E = 0 → σ.box b4 = some [.slice tag z (x.map foV)] ∧ (z = 4 ∨ x.map foV = [])) (h5 : σ.box b5 = some [.int .i64 a, .int .i64 E])
    (hE : E ≠ 0 → x = []) (hx : FormsIs src x a E) :
    swpE Tryz.prog LG scE8 (retE [(2, none), (3, some (true, 2))] (fun e σ' => σ' = σ0 ∧ ∃ x a E, FormsIs src x a E ∧ e = .ret (formsR x a E))) (ofL [(3, some (.loc b3 0)), (4, some (.loc b4 0)), (5, some (.loc b5 0))]) σ := by
  refine Load.mk' h5 (by simp) ?_
  refine Test.split (fun hk => ?_) (fun hk => ?_)
  · refine Load.mk' h5 (Nat.le_refl _) ?_
    refine Sure.mk' rfl ?_
    refine Store.mk' [.int .i64 a, .int .i64 E] h3 (Nat.le_refl _) rfl (fun σ2 e2 => ?_)
    refine Load.mk' (by rw [e2]; exact put_box) (Nat.le_refl _) ?_
    refine Ret.weak (r := formsR x a E) ?_ (σ' := σ0) ?_ ⟨rfl, x, a, E, hx, rfl⟩
    · rw [hE hk]; exact Weak.tup2 (weak_nil _ _ _) (.refl _)
    · rw [e2]; exact over_put ho f3
  · have hk : E = 0 := by
      apply Classical.byContradiction
      intro h; exact hk h
    obtain ⟨h4, hz⟩ := h4 hk
    refine Load.mk' h4 (Nat.le_refl _) ?_
    refine Load.mk' h5 (Nat.le_refl _) ?_
    refine Sure.mk' rfl ?_
    refine Store.mk' [.int .i64 a, .int .i64 E] h3 (Nat.le_refl _) rfl (fun σ2 e2 => ?_)
    refine Load.mk' (by rw [e2]; exact put_box) (Nat.le_refl _) ?_
    refine Ret.weak (r := formsR x a E) (Weak.tup2 (weak_es hz) (.refl _)) (σ' := σ0) ?_ ⟨rfl, _, _, _, hx, rfl⟩
    rw [e2]; exact over_put ho f3

theorem formsP_call (src : List UInt8) (hs : src.length ≤ 70000) (σ : St) :
    SCall Tryz.prog LG 8 [.str src] σ fun e σ' => σ' = σ ∧ ∃ x a E, FormsIs src x a E ∧ e = .ret (formsR x a E) := by
  refine code8.call hm (by simp) ?_
  intro b3 f3
  have o2 : Over σ (σ.put b3 [.int .i64 0, .int .i64 0]) := over_put (.refl _) f3
  have h32 : (σ.put b3 [.int .i64 0, .int .i64 0]).box b3 = some [.int .i64 0, .int .i64 0] := put_box
  intro b4 hb4
  have n34 := box_ne h32 hb4
  have f4 : σ.box b4 = none := put_none hb4
  have o4 := over_put (cs := [.slice .nil 0 []]) o2 f4
  have h34 : ((σ.put b3 [.int .i64 0, .int .i64 0]).put b4 [.slice .nil 0 []]).box b3 = some [.int .i64 0, .int .i64 0] := by rw [put_ne n34]; exact h32
  have h44 : ((σ.put b3 [.int .i64 0, .int .i64 0]).put b4 [.slice .nil 0 []]).box b4 = some [.slice .nil 0 []] := put_box
  generalize (σ.put b3 [.int .i64 0, .int .i64 0]).put b4 [.slice .nil 0 []] = σ4 at o4 h34 h44
  cases hl : lex src with
  | inl p =>
    obtain ⟨k, E⟩ := p
    have hE := (lex_err hl).1
    refine CallK.mk' (run_bad hs hl hE _) ?_
    rintro e σ5 ⟨o5, rfl⟩
    intro b5 hb5
    have h35 := o5.box _ _ h34
    have n35 := box_ne h35 hb5
    have o5' := over_tr o4 o5
    have f5 : σ.box b5 = none := by
      cases h : σ.box b5 with
      | none => rfl
      | some cs => rw [o5'.box _ _ h] at hb5; cases hb5
    refine Sure.mk' rfl ?_
    refine Store.mk' [.int .i64 k, .int .i64 E] put_box (Nat.le_refl _) rfl (fun σ6 e6 => ?_)
    rw [put_put] at e6
    exact forms8_end (x := []) (tag := .nil) (z := 0) (by rw [e6]; exact over_put o5' f5) f3 (by rw [e6, put_ne n35]; exact h35) (fun h => absurd h (by omega)) (by rw [e6]; exact put_box) (fun _ => rfl) (.lex hl)
  | inr ts =>
    obtain ⟨het, hlen⟩ := lex_ended hl
    refine CallK.mk' (run_ok hs hl h44 (forms_reader het (by omega) h44)) ?_
    have fin : ∀ {a E : Int} {x : List Fo} {tag : Tag} {z : Nat} {σ5 : St}, Fr b4 σ4 σ5 → (E = 0 → σ5.box b4 = some [.slice tag z (x.map foV)] ∧ (z = 4 ∨ x.map foV = [])) → (E ≠ 0 → x = []) → FormsIs src x a E → ∀ b5, σ5.box b5 = none → ∀ σ6, σ6 = σ5.put b5 [.int .i64 a, .int .i64 E] →
        swpE Tryz.prog LG scE8 (retE [(2, none), (3, some (true, 2))] (fun e σ' => σ' = σ ∧ ∃ x a E, FormsIs src x a E ∧ e = .ret (formsR x a E))) (ofL [(3, some (.loc b3 0)), (4, some (.loc b4 0)), (5, some (.loc b5 0))]) σ6 := by
      intro a E x tag z σ5 hf5 h45 hE hx b5 hb5 σ6 e6
      have h35 := hf5.box _ _ n34 h34
      have n35 := box_ne h35 hb5
      have o5' := over_fr o4 hf5 f4
      have f5 : σ.box b5 = none := by
        cases h : σ.box b5 with
        | none => rfl
        | some cs => rw [o5'.box _ _ h] at hb5; cases hb5
      exact forms8_end (x := x) (tag := tag) (z := z) (by rw [e6]; exact over_put o5' f5) f3 (by rw [e6, put_ne n35]; exact h35) (fun h => ⟨by rw [e6, put_ne (box_ne (h45 h).1 hb5)]; exact (h45 h).1, (h45 h).2⟩) (by rw [e6]; exact put_box) hE hx
    rintro e σ5 ⟨hf5, (⟨rest, cs, hk5, ⟨⟨out, tag, z, rfl, hz, hx⟩, _⟩, h45, rfl⟩ | ⟨E, rest, her, hbad, rfl⟩)⟩
    · intro b5 hb5
      refine Sure.mk' rfl ?_
      refine Store.mk' [.int .i64 0, .int .i64 0] put_box (Nat.le_refl _) rfl (fun σ6 e6 => ?_)
      rw [put_put] at e6
      exact fin hf5 (fun _ => ⟨h45, hz⟩) (fun h => absurd rfl h) (.ok hl hx) b5 hb5 σ6 e6
    · intro b5 hb5
      refine Sure.mk' rfl ?_
      refine Store.mk' [.int .i64 (hd rest).at_, .int .i64 E] put_box (Nat.le_refl _) rfl (fun σ6 e6 => ?_)
      rw [put_put] at e6
      rcases hbad with hbad | ⟨rfl, hk5, cs, _, hx⟩
      · have hE := errno_ne (hbad.errno rfl)
        exact fin (x := []) (tag := .nil) (z := 0) hf5 (fun h => absurd h hE) (fun _ => rfl) (.bad hl hbad) b5 hb5 σ6 e6
      · exact absurd hx hk5
end Go.Shadow.Lex

/- Shadow code of the replacer of strings (printed by a program). -/
namespace Go.Shadow.Lex
open Go Go.RowKit Go.Proofs
/-- strings.NewReplacer -/
def sc65 : SC := (.seq (.region [.q 2 (.mv (.c .nilptr))] (some [0])) (.seq (.seq (.region [.q 3 (.mv (.t 0)), .q 4 (.len false (.t 3)), .q 5 (.bin .rem (.t 4) (.c (.int .i64 2))), .q 6 (.bin .eql (.t 5) (.c (.int .i64 1)))] (some [0, 6])) (.cond (.t 6) (some [0]) (.region [.q 7 (.mkif 9 (.c (.str [115, 116, 114, 105, 110, 103, 115, 46, 78, 101, 119, 82, 101, 112, 108, 97, 99, 101, 114, 58, 32, 111, 100, 100, 32, 97, 114, 103, 117, 109, 101, 110, 116, 32, 99, 111, 117, 110, 116]))), .w (.panic (.t 7))] (some [0])) .skip)) (.seq (.region [.q 8 (.mv (.t 0)), .q 9 (.append 1 16 (.c (.slice .nil 0 [])) (.t 8)), .q 10 (.build [(.int .u32 0), (.int .i32 0), (.int .u32 0), .nilIface, (.slice .nil 0 [])] [(4, (1, (.t 9)))]), .q 11 (.box (.t 10)), .q 2 (.mv (.t 11))] (some [2])) .ret)))
theorem code65 : IsCode Tryz.prog 65 sc65 [(2, none)] 12 := .mk' Tryz.func65 (by kernel_rfl) (by kernel_rfl) (by kernel_rfl) (by kernel_rfl)
/-- (*strings.Replacer).Replace -/
def sc66 : SC := (.seq (.region [.q 4 (.mv (.c (.str [])))] (some [0, 1])) (.seq (.region [.q 5 (.mv (.t 0)), .q 6 (.nilchk (.t 5)), .q 7 (.faddr 0 (.t 6)), .q 8 (.mv (.t 0)), .q 9 (.mkfn 90 [(.t 8)] []), .q 10 (.call 89 [(.t 7), (.t 9)])] (some [0, 1])) (.seq (.region [.q 11 (.mv (.t 0)), .q 12 (.nilchk (.t 11)), .q 13 (.faddr 3 (.t 12)), .q 14 (.load false 1 (.t 13)), .q 15 (.mv (.t 1)), .q 16 (.calli [(201, 209), (197, 207), (193, 203), (191, 200), (117, 66)] (.t 14) [(.t 15)]), .q 4 (.mv (.t 16))] (some [4])) .ret)))
theorem code66 : IsCode Tryz.prog 66 sc66 [(4, none)] 17 := .mk' Tryz.func66 (by kernel_rfl) (by kernel_rfl) (by kernel_rfl) (by kernel_rfl)
/-- (*sync.Once).Do -/
def sc89 : SC := (.seq (.region [.q 4 (.mv (.t 0)), .q 5 (.nilchk (.t 4)), .q 6 (.faddr 0 (.t 5)), .q 7 (.call 106 [(.t 6)]), .q 8 (.un .not (.t 7))] (some [0, 1, 8])) (.cond (.t 8) (some [0, 1]) (.region [.q 9 (.mv (.t 0)), .q 10 (.mv (.t 1)), .q 11 (.call 107 [(.t 9), (.t 10)])] (some [])) .skip))
theorem code89 : IsCode Tryz.prog 89 sc89 [] 12 := .mk' Tryz.func89 (by kernel_rfl) (by kernel_rfl) (by kernel_rfl) (by kernel_rfl)
/-- (*strings.Replacer).buildOnce -/
def sc90 : SC := (.seq (.region [.q 2 (.mv (.t 0)), .q 3 (.mv (.t 0)), .q 4 (.call 108 [(.t 3)]), .q 5 (.nilchk (.t 2)), .q 6 (.faddr 3 (.t 5)), .w (.store 1 (.t 6) (.t 4))] (some [0])) (.region [.q 7 (.mv (.t 0)), .q 8 (.nilchk (.t 7)), .q 9 (.faddr 4 (.t 8)), .w (.store 1 (.t 9) (.c (.slice .nil 0 [])))] (some [])))
theorem code90 : IsCode Tryz.prog 90 sc90 [] 10 := .mk' Tryz.func90 (by kernel_rfl) (by kernel_rfl) (by kernel_rfl) (by kernel_rfl)
/-- (*sync/atomic.Bool).Load -/
def sc106 : SC := (.seq (.region [.q 2 (.mv (.c (.bool false)))] (some [0])) (.seq (.region [.q 3 (.mv (.t 0)), .q 4 (.nilchk (.t 3)), .q 5 (.faddr 0 (.t 4)), .q 6 (.call 122 [(.t 5)]), .q 7 (.bin .neq (.t 6) (.c (.int .u32 0))), .q 2 (.mv (.t 7))] (some [2])) .ret))
theorem code106 : IsCode Tryz.prog 106 sc106 [(2, none)] 8 := .mk' Tryz.func106 (by kernel_rfl) (by kernel_rfl) (by kernel_rfl) (by kernel_rfl)
/-- (*sync.Once).doSlow -/
def sc107 : SD := (.seq (.region [.q 4 (.mv (.t 0)), .q 5 (.nilchk (.t 4)), .q 6 (.faddr 1 (.t 5)), .q 7 (.call 123 [(.t 6)])] (some [0, 1])) (.defer [.q 8 (.mv (.t 0)), .q 9 (.nilchk (.t 8)), .q 10 (.faddr 1 (.t 9))] (.f 124) [(.t 10)] (some [0, 1]) (.seq (.region [.q 11 (.mv (.t 0)), .q 12 (.nilchk (.t 11)), .q 13 (.faddr 0 (.t 12)), .q 14 (.call 106 [(.t 13)]), .q 15 (.un .not (.t 14))] (some [0, 1, 15])) (.cond (.t 15) (some [0, 1]) (.defer [.q 16 (.mv (.t 0)), .q 17 (.nilchk (.t 16)), .q 18 (.faddr 0 (.t 17))] (.f 125) [(.t 18), (.c (.bool true))] (some [1]) (.code (.region [.q 19 (.mv (.t 1)), .q 20 (.callv (.t 19) [])] (some [])))) (.code .skip)))))
theorem code107 : IsCodeD Tryz.prog 107 sc107 [] 21 := .mk' Tryz.func107 (by kernel_rfl) (by kernel_rfl) (by kernel_rfl) (by kernel_rfl)
/-- (*strings.Replacer).build -/
def sc108 : SC := (.seq (.region [.q 2 (.mv (.c .nilIface))] (some [0])) (.seq (.region [.q 15 (.mv (.t 0)), .q 16 (.nilchk (.t 15)), .q 17 (.faddr 4 (.t 16)), .q 18 (.load false 1 (.t 17)), .q 3 (.mv (.t 18))] (some [3])) (.seq (.seq (.region [.q 19 (.mv (.t 3)), .q 20 (.len false (.t 19)), .q 21 (.bin .eql (.t 20) (.c (.int .i64 2))), .q 22 (.mv (.t 21)), ⟨(some 23), (.mv (.t 3)), (some (22, true))⟩, ⟨(some 24), (.iaddr 1 (.t 23) (.c (.int .i64 0))), (some (22, true))⟩, ⟨(some 25), (.load false 1 (.t 24)), (some (22, true))⟩, ⟨(some 26), (.len true (.t 25)), (some (22, true))⟩, ⟨(some 27), (.bin .gtr (.t 26) (.c (.int .i64 1))), (some (22, true))⟩, .q 28 (.pick (.t 22) (.t 27) (.c (.bool false)))] (some [3, 28])) (.cond (.t 28) (some [3]) (.seq (.region [.q 29 (.mv (.t 3)), .q 30 (.iaddr 1 (.t 29) (.c (.int .i64 0))), .q 31 (.load false 1 (.t 30)), .q 32 (.mv (.t 3)), .q 33 (.iaddr 1 (.t 32) (.c (.int .i64 1))), .q 34 (.load false 1 (.t 33)), .q 35 (.call 126 [(.t 31), (.t 34)]), .q 36 (.mkif 191 (.t 35)), .q 2 (.mv (.t 36))] (some [2])) .ret) .skip)) (.seq (.region [.q 4 (.mv (.c (.bool true)))] (some [3, 4])) (.seq (.seq (.region [.q 5 (.mv (.c (.int .i64 0)))] (some [3, 4, 5])) (.block 0 (.loop (.seq (.seq (.region [.q 37 (.mv (.t 5)), .q 38 (.mv (.t 3)), .q 39 (.len false (.t 38)), .q 40 (.bin .lss (.t 37) (.t 39))] (some [3, 4, 5, 40])) (.cond (.t 40) (some [3, 4, 5]) .skip (.exit 0))) (.seq (.block 1 (.seq (.seq (.region [.q 43 (.mv (.t 3)), .q 44 (.mv (.t 5)), .q 45 (.iaddr 1 (.t 43) (.t 44)), .q 46 (.load false 1 (.t 45)), .q 47 (.len true (.t 46)), .q 48 (.bin .neq (.t 47) (.c (.int .i64 1)))] (some [3, 4, 5, 48])) (.cond (.t 48) (some [3, 4, 5]) (.seq (.region [.q 49 (.mv (.t 3)), .q 50 (.call 127 [(.t 49)]), .q 51 (.mkif 193 (.t 50)), .q 2 (.mv (.t 51))] (some [2])) .ret) .skip)) (.seq (.region [.q 52 (.mv (.t 3)), .q 53 (.mv (.t 5)), .q 54 (.bin .add (.t 53) (.c (.int .i64 1))), .q 55 (.iaddr 1 (.t 52) (.t 54)), .q 56 (.load false 1 (.t 55)), .q 57 (.len true (.t 56)), .q 58 (.bin .neq (.t 57) (.c (.int .i64 1)))] (some [3, 4, 5, 58])) (.cond (.t 58) (some [3, 4, 5]) (.region [.q 4 (.mv (.c (.bool false)))] (some [3, 4, 5])) .skip)))) (.region [.q 41 (.mv (.t 5)), .q 42 (.bin .add (.t 41) (.c (.int .i64 2))), .q 5 (.mv (.t 42))] (some [3, 4, 5]))))))) (.seq (.seq (.region [.q 59 (.mv (.t 4))] (some [3, 59])) (.cond (.t 59) (some [3]) (.seq (.region [.q 60 (.build [(.int .u8 0), (.int .u8 0), (.int .u8 0), (.int .u8 0), (.int .u8 0), (.int .u8 0), (.int .u8 0), (.int .u8 0), (.int .u8 0), (.int .u8 0), (.int .u8 0), (.int .u8 0), (.int .u8 0), (.int .u8 0), (.int .u8 0), (.int .u8 0), (.int .u8 0), (.int .u8 0), (.int .u8 0), (.int .u8 0), (.int .u8 0), (.int .u8 0), (.int .u8 0), (.int .u8 0), (.int .u8 0), (.int .u8 0), (.int .u8 0), (.int .u8 0), (.int .u8 0), (.int .u8 0), (.int .u8 0), (.int .u8 0), (.int .u8 0), (.int .u8 0), (.int .u8 0), (.int .u8 0), (.int .u8 0), (.int .u8 0), (.int .u8 0), (.int .u8 0), (.int .u8 0), (.int .u8 0), (.int .u8 0), (.int .u8 0), (.int .u8 0), (.int .u8 0), (.int .u8 0), (.int .u8 0), (.int .u8 0), (.int .u8 0), (.int .u8 0), (.int .u8 0), (.int .u8 0), (.int .u8 0), (.int .u8 0), (.int .u8 0), (.int .u8 0), (.int .u8 0), (.int .u8 0), (.int .u8 0), (.int .u8 0), (.int .u8 0), (.int .u8 0), (.int .u8 0), (.int .u8 0), (.int .u8 0), (.int .u8 0), (.int .u8 0), (.int .u8 0), (.int .u8 0), (.int .u8 0), (.int .u8 0), (.int .u8 0), (.int .u8 0), (.int .u8 0), (.int .u8 0), (.int .u8 0), (.int .u8 0), (.int .u8 0), (.int .u8 0), (.int .u8 0), (.int .u8 0), (.int .u8 0), (.int .u8 0), (.int .u8 0), (.int .u8 0), (.int .u8 0), (.int .u8 0), (.int .u8 0), (.int .u8 0), (.int .u8 0), (.int .u8 0), (.int .u8 0), (.int .u8 0), (.int .u8 0), (.int .u8 0), (.int .u8 0), (.int .u8 0), (.int .u8 0), (.int .u8 0), (.int .u8 0), (.int .u8 0), (.int .u8 0), (.int .u8 0), (.int .u8 0), (.int .u8 0), (.int .u8 0), (.int .u8 0), (.int .u8 0), (.int .u8 0), (.int .u8 0), (.int .u8 0), (.int .u8 0), (.int .u8 0), (.int .u8 0), (.int .u8 0), (.int .u8 0), (.int .u8 0), (.int .u8 0), (.int .u8 0), (.int .u8 0), (.int .u8 0), (.int .u8 0), (.int .u8 0), (.int .u8 0), (.int .u8 0), (.int .u8 0), (.int .u8 0), (.int .u8 0), (.int .u8 0), (.int .u8 0), (.int .u8 0), (.int .u8 0), (.int .u8 0), (.int .u8 0), (.int .u8 0), (.int .u8 0), (.int .u8 0), (.int .u8 0), (.int .u8 0), (.int .u8 0), (.int .u8 0), (.int .u8 0), (.int .u8 0), (.int .u8 0), (.int .u8 0), (.int .u8 0), (.int .u8 0), (.int .u8 0), (.int .u8 0), (.int .u8 0), (.int .u8 0), (.int .u8 0), (.int .u8 0), (.int .u8 0), (.int .u8 0), (.int .u8 0), (.int .u8 0), (.int .u8 0), (.int .u8 0), (.int .u8 0), (.int .u8 0), (.int .u8 0), (.int .u8 0), (.int .u8 0), (.int .u8 0), (.int .u8 0), (.int .u8 0), (.int .u8 0), (.int .u8 0), (.int .u8 0), (.int .u8 0), (.int .u8 0), (.int .u8 0), (.int .u8 0), (.int .u8 0), (.int .u8 0), (.int .u8 0), (.int .u8 0), (.int .u8 0), (.int .u8 0), (.int .u8 0), (.int .u8 0), (.int .u8 0), (.int .u8 0), (.int .u8 0), (.int .u8 0), (.int .u8 0), (.int .u8 0), (.int .u8 0), (.int .u8 0), (.int .u8 0), (.int .u8 0), (.int .u8 0), (.int .u8 0), (.int .u8 0), (.int .u8 0), (.int .u8 0), (.int .u8 0), (.int .u8 0), (.int .u8 0), (.int .u8 0), (.int .u8 0), (.int .u8 0), (.int .u8 0), (.int .u8 0), (.int .u8 0), (.int .u8 0), (.int .u8 0), (.int .u8 0), (.int .u8 0), (.int .u8 0), (.int .u8 0), (.int .u8 0), (.int .u8 0), (.int .u8 0), (.int .u8 0), (.int .u8 0), (.int .u8 0), (.int .u8 0), (.int .u8 0), (.int .u8 0), (.int .u8 0), (.int .u8 0), (.int .u8 0), (.int .u8 0), (.int .u8 0), (.int .u8 0), (.int .u8 0), (.int .u8 0), (.int .u8 0), (.int .u8 0), (.int .u8 0), (.int .u8 0), (.int .u8 0), (.int .u8 0), (.int .u8 0), (.int .u8 0), (.int .u8 0), (.int .u8 0), (.int .u8 0), (.int .u8 0), (.int .u8 0), (.int .u8 0), (.int .u8 0), (.int .u8 0), (.int .u8 0), (.int .u8 0), (.int .u8 0), (.int .u8 0), (.int .u8 0), (.int .u8 0), (.int .u8 0), (.int .u8 0), (.int .u8 0), (.int .u8 0)] []), .q 6 (.alloc [(.int .u8 0), (.int .u8 0), (.int .u8 0), (.int .u8 0), (.int .u8 0), (.int .u8 0), (.int .u8 0), (.int .u8 0), (.int .u8 0), (.int .u8 0), (.int .u8 0), (.int .u8 0), (.int .u8 0), (.int .u8 0), (.int .u8 0), (.int .u8 0), (.int .u8 0), (.int .u8 0), (.int .u8 0), (.int .u8 0), (.int .u8 0), (.int .u8 0), (.int .u8 0), (.int .u8 0), (.int .u8 0), (.int .u8 0), (.int .u8 0), (.int .u8 0), (.int .u8 0), (.int .u8 0), (.int .u8 0), (.int .u8 0), (.int .u8 0), (.int .u8 0), (.int .u8 0), (.int .u8 0), (.int .u8 0), (.int .u8 0), (.int .u8 0), (.int .u8 0), (.int .u8 0), (.int .u8 0), (.int .u8 0), (.int .u8 0), (.int .u8 0), (.int .u8 0), (.int .u8 0), (.int .u8 0), (.int .u8 0), (.int .u8 0), (.int .u8 0), (.int .u8 0), (.int .u8 0), (.int .u8 0), (.int .u8 0), (.int .u8 0), (.int .u8 0), (.int .u8 0), (.int .u8 0), (.int .u8 0), (.int .u8 0), (.int .u8 0), (.int .u8 0), (.int .u8 0), (.int .u8 0), (.int .u8 0), (.int .u8 0), (.int .u8 0), (.int .u8 0), (.int .u8 0), (.int .u8 0), (.int .u8 0), (.int .u8 0), (.int .u8 0), (.int .u8 0), (.int .u8 0), (.int .u8 0), (.int .u8 0), (.int .u8 0), (.int .u8 0), (.int .u8 0), (.int .u8 0), (.int .u8 0), (.int .u8 0), (.int .u8 0), (.int .u8 0), (.int .u8 0), (.int .u8 0), (.int .u8 0), (.int .u8 0), (.int .u8 0), (.int .u8 0), (.int .u8 0), (.int .u8 0), (.int .u8 0), (.int .u8 0), (.int .u8 0), (.int .u8 0), (.int .u8 0), (.int .u8 0), (.int .u8 0), (.int .u8 0), (.int .u8 0), (.int .u8 0), (.int .u8 0), (.int .u8 0), (.int .u8 0), (.int .u8 0), (.int .u8 0), (.int .u8 0), (.int .u8 0), (.int .u8 0), (.int .u8 0), (.int .u8 0), (.int .u8 0), (.int .u8 0), (.int .u8 0), (.int .u8 0), (.int .u8 0), (.int .u8 0), (.int .u8 0), (.int .u8 0), (.int .u8 0), (.int .u8 0), (.int .u8 0), (.int .u8 0), (.int .u8 0), (.int .u8 0), (.int .u8 0), (.int .u8 0), (.int .u8 0), (.int .u8 0), (.int .u8 0), (.int .u8 0), (.int .u8 0), (.int .u8 0), (.int .u8 0), (.int .u8 0), (.int .u8 0), (.int .u8 0), (.int .u8 0), (.int .u8 0), (.int .u8 0), (.int .u8 0), (.int .u8 0), (.int .u8 0), (.int .u8 0), (.int .u8 0), (.int .u8 0), (.int .u8 0), (.int .u8 0), (.int .u8 0), (.int .u8 0), (.int .u8 0), (.int .u8 0), (.int .u8 0), (.int .u8 0), (.int .u8 0), (.int .u8 0), (.int .u8 0), (.int .u8 0), (.int .u8 0), (.int .u8 0), (.int .u8 0), (.int .u8 0), (.int .u8 0), (.int .u8 0), (.int .u8 0), (.int .u8 0), (.int .u8 0), (.int .u8 0), (.int .u8 0), (.int .u8 0), (.int .u8 0), (.int .u8 0), (.int .u8 0), (.int .u8 0), (.int .u8 0), (.int .u8 0), (.int .u8 0), (.int .u8 0), (.int .u8 0), (.int .u8 0), (.int .u8 0), (.int .u8 0), (.int .u8 0), (.int .u8 0), (.int .u8 0), (.int .u8 0), (.int .u8 0), (.int .u8 0), (.int .u8 0), (.int .u8 0), (.int .u8 0), (.int .u8 0), (.int .u8 0), (.int .u8 0), (.int .u8 0), (.int .u8 0), (.int .u8 0), (.int .u8 0), (.int .u8 0), (.int .u8 0), (.int .u8 0), (.int .u8 0), (.int .u8 0), (.int .u8 0), (.int .u8 0), (.int .u8 0), (.int .u8 0), (.int .u8 0), (.int .u8 0), (.int .u8 0), (.int .u8 0), (.int .u8 0), (.int .u8 0), (.int .u8 0), (.int .u8 0), (.int .u8 0), (.int .u8 0), (.int .u8 0), (.int .u8 0), (.int .u8 0), (.int .u8 0), (.int .u8 0), (.int .u8 0), (.int .u8 0), (.int .u8 0), (.int .u8 0), (.int .u8 0), (.int .u8 0), (.int .u8 0), (.int .u8 0), (.int .u8 0), (.int .u8 0), (.int .u8 0), (.int .u8 0), (.int .u8 0), (.int .u8 0), (.int .u8 0), (.int .u8 0), (.int .u8 0), (.int .u8 0), (.int .u8 0), (.int .u8 0), (.int .u8 0), (.int .u8 0), (.int .u8 0), (.int .u8 0), (.int .u8 0), (.int .u8 0), (.int .u8 0), (.int .u8 0), (.int .u8 0), (.int .u8 0), (.int .u8 0)]), .w (.store 256 (.t 6) (.t 60))] (some [3, 6])) (.seq (.seq (.region [.q 61 (.mv (.c (.int .i64 0)))] (some [3, 6, 61])) (.block 2 (.loop (.seq (.region [.q 62 (.bin .lss (.t 61) (.c (.int .i64 256)))] (some [3, 6, 61, 62])) (.seq (.cond (.t 62) (some [3, 6, 61]) .skip (.exit 2)) (.seq (.block 3 (.seq (.region [.q 63 (.mv (.t 61)), .q 7 (.mv (.t 63))] (some [3, 6, 7, 61])) (.region [.q 64 (.mv (.t 7)), .q 65 (.mv (.t 7)), .q 66 (.i2i .u8 (.t 65)), .q 67 (.iaddrA 1 256 (.t 6) (.t 64)), .w (.store 1 (.t 67) (.t 66))] (some [3, 6, 61])))) (.region [.q 68 (.bin .add (.t 61) (.c (.int .i64 1))), .q 61 (.mv (.t 68))] (some [3, 6, 61])))))))) (.seq (.seq (.region [.q 69 (.mv (.t 3)), .q 70 (.len false (.t 69)), .q 71 (.bin .sub (.t 70) (.c (.int .i64 2))), .q 8 (.mv (.t 71))] (some [3, 6, 8])) (.block 4 (.loop (.seq (.seq (.region [.q 72 (.mv (.t 8)), .q 73 (.bin .geq (.t 72) (.c (.int .i64 0)))] (some [3, 6, 8, 73])) (.cond (.t 73) (some [3, 6, 8]) .skip (.exit 4))) (.seq (.block 5 (.seq (.region [.q 76 (.mv (.t 3)), .q 77 (.mv (.t 8)), .q 78 (.iaddr 1 (.t 76) (.t 77)), .q 79 (.load false 1 (.t 78)), .q 80 (.idxs (.t 79) (.c (.int .i64 0))), .q 9 (.mv (.t 80))] (some [3, 6, 8, 9])) (.seq (.region [.q 81 (.mv (.t 3)), .q 82 (.mv (.t 8)), .q 83 (.bin .add (.t 82) (.c (.int .i64 1))), .q 84 (.iaddr 1 (.t 81) (.t 83)), .q 85 (.load false 1 (.t 84)), .q 86 (.idxs (.t 85) (.c (.int .i64 0))), .q 10 (.mv (.t 86))] (some [3, 6, 8, 9, 10])) (.region [.q 87 (.mv (.t 9)), .q 88 (.mv (.t 10)), .q 89 (.iaddrA 1 256 (.t 6) (.t 87)), .w (.store 1 (.t 89) (.t 88))] (some [3, 6, 8]))))) (.region [.q 74 (.mv (.t 8)), .q 75 (.bin .sub (.t 74) (.c (.int .i64 2))), .q 8 (.mv (.t 75))] (some [3, 6, 8]))))))) (.seq (.region [.q 90 (.mkif 197 (.t 6)), .q 2 (.mv (.t 90))] (some [2])) .ret)))) .skip)) (.seq (.region [.q 91 (.mv (.t 3)), .q 92 (.len false (.t 91)), .q 93 (.bin .quo (.t 92) (.c (.int .i64 2))), .q 94 (.mkmsl 1 16 [(.str [])] (.c (.int .i64 0)) (.t 93)), .q 95 (.build [(.slice .nil 0 []), (.slice .nil 0 []), (.slice .nil 0 []), (.slice .nil 0 []), (.slice .nil 0 []), (.slice .nil 0 []), (.slice .nil 0 []), (.slice .nil 0 []), (.slice .nil 0 []), (.slice .nil 0 []), (.slice .nil 0 []), (.slice .nil 0 []), (.slice .nil 0 []), (.slice .nil 0 []), (.slice .nil 0 []), (.slice .nil 0 []), (.slice .nil 0 []), (.slice .nil 0 []), (.slice .nil 0 []), (.slice .nil 0 []), (.slice .nil 0 []), (.slice .nil 0 []), (.slice .nil 0 []), (.slice .nil 0 []), (.slice .nil 0 []), (.slice .nil 0 []), (.slice .nil 0 []), (.slice .nil 0 []), (.slice .nil 0 []), (.slice .nil 0 []), (.slice .nil 0 []), (.slice .nil 0 []), (.slice .nil 0 []), (.slice .nil 0 []), (.slice .nil 0 []), (.slice .nil 0 []), (.slice .nil 0 []), (.slice .nil 0 []), (.slice .nil 0 []), (.slice .nil 0 []), (.slice .nil 0 []), (.slice .nil 0 []), (.slice .nil 0 []), (.slice .nil 0 []), (.slice .nil 0 []), (.slice .nil 0 []), (.slice .nil 0 []), (.slice .nil 0 []), (.slice .nil 0 []), (.slice .nil 0 []), (.slice .nil 0 []), (.slice .nil 0 []), (.slice .nil 0 []), (.slice .nil 0 []), (.slice .nil 0 []), (.slice .nil 0 []), (.slice .nil 0 []), (.slice .nil 0 []), (.slice .nil 0 []), (.slice .nil 0 []), (.slice .nil 0 []), (.slice .nil 0 []), (.slice .nil 0 []), (.slice .nil 0 []), (.slice .nil 0 []), (.slice .nil 0 []), (.slice .nil 0 []), (.slice .nil 0 []), (.slice .nil 0 []), (.slice .nil 0 []), (.slice .nil 0 []), (.slice .nil 0 []), (.slice .nil 0 []), (.slice .nil 0 []), (.slice .nil 0 []), (.slice .nil 0 []), (.slice .nil 0 []), (.slice .nil 0 []), (.slice .nil 0 []), (.slice .nil 0 []), (.slice .nil 0 []), (.slice .nil 0 []), (.slice .nil 0 []), (.slice .nil 0 []), (.slice .nil 0 []), (.slice .nil 0 []), (.slice .nil 0 []), (.slice .nil 0 []), (.slice .nil 0 []), (.slice .nil 0 []), (.slice .nil 0 []), (.slice .nil 0 []), (.slice .nil 0 []), (.slice .nil 0 []), (.slice .nil 0 []), (.slice .nil 0 []), (.slice .nil 0 []), (.slice .nil 0 []), (.slice .nil 0 []), (.slice .nil 0 []), (.slice .nil 0 []), (.slice .nil 0 []), (.slice .nil 0 []), (.slice .nil 0 []), (.slice .nil 0 []), (.slice .nil 0 []), (.slice .nil 0 []), (.slice .nil 0 []), (.slice .nil 0 []), (.slice .nil 0 []), (.slice .nil 0 []), (.slice .nil 0 []), (.slice .nil 0 []), (.slice .nil 0 []), (.slice .nil 0 []), (.slice .nil 0 []), (.slice .nil 0 []), (.slice .nil 0 []), (.slice .nil 0 []), (.slice .nil 0 []), (.slice .nil 0 []), (.slice .nil 0 []), (.slice .nil 0 []), (.slice .nil 0 []), (.slice .nil 0 []), (.slice .nil 0 []), (.slice .nil 0 []), (.slice .nil 0 []), (.slice .nil 0 []), (.slice .nil 0 []), (.slice .nil 0 []), (.slice .nil 0 []), (.slice .nil 0 []), (.slice .nil 0 []), (.slice .nil 0 []), (.slice .nil 0 []), (.slice .nil 0 []), (.slice .nil 0 []), (.slice .nil 0 []), (.slice .nil 0 []), (.slice .nil 0 []), (.slice .nil 0 []), (.slice .nil 0 []), (.slice .nil 0 []), (.slice .nil 0 []), (.slice .nil 0 []), (.slice .nil 0 []), (.slice .nil 0 []), (.slice .nil 0 []), (.slice .nil 0 []), (.slice .nil 0 []), (.slice .nil 0 []), (.slice .nil 0 []), (.slice .nil 0 []), (.slice .nil 0 []), (.slice .nil 0 []), (.slice .nil 0 []), (.slice .nil 0 []), (.slice .nil 0 []), (.slice .nil 0 []), (.slice .nil 0 []), (.slice .nil 0 []), (.slice .nil 0 []), (.slice .nil 0 []), (.slice .nil 0 []), (.slice .nil 0 []), (.slice .nil 0 []), (.slice .nil 0 []), (.slice .nil 0 []), (.slice .nil 0 []), (.slice .nil 0 []), (.slice .nil 0 []), (.slice .nil 0 []), (.slice .nil 0 []), (.slice .nil 0 []), (.slice .nil 0 []), (.slice .nil 0 []), (.slice .nil 0 []), (.slice .nil 0 []), (.slice .nil 0 []), (.slice .nil 0 []), (.slice .nil 0 []), (.slice .nil 0 []), (.slice .nil 0 []), (.slice .nil 0 []), (.slice .nil 0 []), (.slice .nil 0 []), (.slice .nil 0 []), (.slice .nil 0 []), (.slice .nil 0 []), (.slice .nil 0 []), (.slice .nil 0 []), (.slice .nil 0 []), (.slice .nil 0 []), (.slice .nil 0 []), (.slice .nil 0 []), (.slice .nil 0 []), (.slice .nil 0 []), (.slice .nil 0 []), (.slice .nil 0 []), (.slice .nil 0 []), (.slice .nil 0 []), (.slice .nil 0 []), (.slice .nil 0 []), (.slice .nil 0 []), (.slice .nil 0 []), (.slice .nil 0 []), (.slice .nil 0 []), (.slice .nil 0 []), (.slice .nil 0 []), (.slice .nil 0 []), (.slice .nil 0 []), (.slice .nil 0 []), (.slice .nil 0 []), (.slice .nil 0 []), (.slice .nil 0 []), (.slice .nil 0 []), (.slice .nil 0 []), (.slice .nil 0 []), (.slice .nil 0 []), (.slice .nil 0 []), (.slice .nil 0 []), (.slice .nil 0 []), (.slice .nil 0 []), (.slice .nil 0 []), (.slice .nil 0 []), (.slice .nil 0 []), (.slice .nil 0 []), (.slice .nil 0 []), (.slice .nil 0 []), (.slice .nil 0 []), (.slice .nil 0 []), (.slice .nil 0 []), (.slice .nil 0 []), (.slice .nil 0 []), (.slice .nil 0 []), (.slice .nil 0 []), (.slice .nil 0 []), (.slice .nil 0 []), (.slice .nil 0 []), (.slice .nil 0 []), (.slice .nil 0 []), (.slice .nil 0 []), (.slice .nil 0 []), (.slice .nil 0 []), (.slice .nil 0 []), (.slice .nil 0 []), (.slice .nil 0 []), (.slice .nil 0 []), (.slice .nil 0 []), (.slice .nil 0 []), (.slice .nil 0 []), (.slice .nil 0 []), (.slice .nil 0 []), (.slice .nil 0 []), (.slice .nil 0 []), (.slice .nil 0 [])] [(256, (1, (.t 94)))]), .q 11 (.alloc [(.slice .nil 0 []), (.slice .nil 0 []), (.slice .nil 0 []), (.slice .nil 0 []), (.slice .nil 0 []), (.slice .nil 0 []), (.slice .nil 0 []), (.slice .nil 0 []), (.slice .nil 0 []), (.slice .nil 0 []), (.slice .nil 0 []), (.slice .nil 0 []), (.slice .nil 0 []), (.slice .nil 0 []), (.slice .nil 0 []), (.slice .nil 0 []), (.slice .nil 0 []), (.slice .nil 0 []), (.slice .nil 0 []), (.slice .nil 0 []), (.slice .nil 0 []), (.slice .nil 0 []), (.slice .nil 0 []), (.slice .nil 0 []), (.slice .nil 0 []), (.slice .nil 0 []), (.slice .nil 0 []), (.slice .nil 0 []), (.slice .nil 0 []), (.slice .nil 0 []), (.slice .nil 0 []), (.slice .nil 0 []), (.slice .nil 0 []), (.slice .nil 0 []), (.slice .nil 0 []), (.slice .nil 0 []), (.slice .nil 0 []), (.slice .nil 0 []), (.slice .nil 0 []), (.slice .nil 0 []), (.slice .nil 0 []), (.slice .nil 0 []), (.slice .nil 0 []), (.slice .nil 0 []), (.slice .nil 0 []), (.slice .nil 0 []), (.slice .nil 0 []), (.slice .nil 0 []), (.slice .nil 0 []), (.slice .nil 0 []), (.slice .nil 0 []), (.slice .nil 0 []), (.slice .nil 0 []), (.slice .nil 0 []), (.slice .nil 0 []), (.slice .nil 0 []), (.slice .nil 0 []), (.slice .nil 0 []), (.slice .nil 0 []), (.slice .nil 0 []), (.slice .nil 0 []), (.slice .nil 0 []), (.slice .nil 0 []), (.slice .nil 0 []), (.slice .nil 0 []), (.slice .nil 0 []), (.slice .nil 0 []), (.slice .nil 0 []), (.slice .nil 0 []), (.slice .nil 0 []), (.slice .nil 0 []), (.slice .nil 0 []), (.slice .nil 0 []), (.slice .nil 0 []), (.slice .nil 0 []), (.slice .nil 0 []), (.slice .nil 0 []), (.slice .nil 0 []), (.slice .nil 0 []), (.slice .nil 0 []), (.slice .nil 0 []), (.slice .nil 0 []), (.slice .nil 0 []), (.slice .nil 0 []), (.slice .nil 0 []), (.slice .nil 0 []), (.slice .nil 0 []), (.slice .nil 0 []), (.slice .nil 0 []), (.slice .nil 0 []), (.slice .nil 0 []), (.slice .nil 0 []), (.slice .nil 0 []), (.slice .nil 0 []), (.slice .nil 0 []), (.slice .nil 0 []), (.slice .nil 0 []), (.slice .nil 0 []), (.slice .nil 0 []), (.slice .nil 0 []), (.slice .nil 0 []), (.slice .nil 0 []), (.slice .nil 0 []), (.slice .nil 0 []), (.slice .nil 0 []), (.slice .nil 0 []), (.slice .nil 0 []), (.slice .nil 0 []), (.slice .nil 0 []), (.slice .nil 0 []), (.slice .nil 0 []), (.slice .nil 0 []), (.slice .nil 0 []), (.slice .nil 0 []), (.slice .nil 0 []), (.slice .nil 0 []), (.slice .nil 0 []), (.slice .nil 0 []), (.slice .nil 0 []), (.slice .nil 0 []), (.slice .nil 0 []), (.slice .nil 0 []), (.slice .nil 0 []), (.slice .nil 0 []), (.slice .nil 0 []), (.slice .nil 0 []), (.slice .nil 0 []), (.slice .nil 0 []), (.slice .nil 0 []), (.slice .nil 0 []), (.slice .nil 0 []), (.slice .nil 0 []), (.slice .nil 0 []), (.slice .nil 0 []), (.slice .nil 0 []), (.slice .nil 0 []), (.slice .nil 0 []), (.slice .nil 0 []), (.slice .nil 0 []), (.slice .nil 0 []), (.slice .nil 0 []), (.slice .nil 0 []), (.slice .nil 0 []), (.slice .nil 0 []), (.slice .nil 0 []), (.slice .nil 0 []), (.slice .nil 0 []), (.slice .nil 0 []), (.slice .nil 0 []), (.slice .nil 0 []), (.slice .nil 0 []), (.slice .nil 0 []), (.slice .nil 0 []), (.slice .nil 0 []), (.slice .nil 0 []), (.slice .nil 0 []), (.slice .nil 0 []), (.slice .nil 0 []), (.slice .nil 0 []), (.slice .nil 0 []), (.slice .nil 0 []), (.slice .nil 0 []), (.slice .nil 0 []), (.slice .nil 0 []), (.slice .nil 0 []), (.slice .nil 0 []), (.slice .nil 0 []), (.slice .nil 0 []), (.slice .nil 0 []), (.slice .nil 0 []), (.slice .nil 0 []), (.slice .nil 0 []), (.slice .nil 0 []), (.slice .nil 0 []), (.slice .nil 0 []), (.slice .nil 0 []), (.slice .nil 0 []), (.slice .nil 0 []), (.slice .nil 0 []), (.slice .nil 0 []), (.slice .nil 0 []), (.slice .nil 0 []), (.slice .nil 0 []), (.slice .nil 0 []), (.slice .nil 0 []), (.slice .nil 0 []), (.slice .nil 0 []), (.slice .nil 0 []), (.slice .nil 0 []), (.slice .nil 0 []), (.slice .nil 0 []), (.slice .nil 0 []), (.slice .nil 0 []), (.slice .nil 0 []), (.slice .nil 0 []), (.slice .nil 0 []), (.slice .nil 0 []), (.slice .nil 0 []), (.slice .nil 0 []), (.slice .nil 0 []), (.slice .nil 0 []), (.slice .nil 0 []), (.slice .nil 0 []), (.slice .nil 0 []), (.slice .nil 0 []), (.slice .nil 0 []), (.slice .nil 0 []), (.slice .nil 0 []), (.slice .nil 0 []), (.slice .nil 0 []), (.slice .nil 0 []), (.slice .nil 0 []), (.slice .nil 0 []), (.slice .nil 0 []), (.slice .nil 0 []), (.slice .nil 0 []), (.slice .nil 0 []), (.slice .nil 0 []), (.slice .nil 0 []), (.slice .nil 0 []), (.slice .nil 0 []), (.slice .nil 0 []), (.slice .nil 0 []), (.slice .nil 0 []), (.slice .nil 0 []), (.slice .nil 0 []), (.slice .nil 0 []), (.slice .nil 0 []), (.slice .nil 0 []), (.slice .nil 0 []), (.slice .nil 0 []), (.slice .nil 0 []), (.slice .nil 0 []), (.slice .nil 0 []), (.slice .nil 0 []), (.slice .nil 0 []), (.slice .nil 0 []), (.slice .nil 0 []), (.slice .nil 0 []), (.slice .nil 0 []), (.slice .nil 0 []), (.slice .nil 0 []), (.slice .nil 0 []), (.slice .nil 0 []), (.slice .nil 0 []), (.slice .nil 0 []), (.slice .nil 0 []), (.slice .nil 0 []), (.slice .nil 0 []), (.slice .nil 0 []), (.slice .nil 0 []), (.slice .nil 0 []), (.slice .nil 0 []), (.slice .nil 0 []), (.slice .nil 0 []), (.slice .nil 0 []), (.slice .nil 0 [])]), .w (.store 257 (.t 11) (.t 95))] (some [3, 11])) (.seq (.seq (.region [.q 96 (.mv (.t 3)), .q 97 (.len false (.t 96)), .q 98 (.bin .sub (.t 97) (.c (.int .i64 2))), .q 12 (.mv (.t 98))] (some [3, 11, 12])) (.block 6 (.loop (.seq (.seq (.region [.q 99 (.mv (.t 12)), .q 100 (.bin .geq (.t 99) (.c (.int .i64 0)))] (some [3, 11, 12, 100])) (.cond (.t 100) (some [3, 11, 12]) .skip (.exit 6))) (.seq (.block 7 (.seq (.region [.q 103 (.mv (.t 3)), .q 104 (.mv (.t 12)), .q 105 (.iaddr 1 (.t 103) (.t 104)), .q 106 (.load false 1 (.t 105)), .q 107 (.idxs (.t 106) (.c (.int .i64 0))), .q 13 (.mv (.t 107))] (some [3, 11, 12, 13])) (.seq (.region [.q 108 (.mv (.t 3)), .q 109 (.mv (.t 12)), .q 110 (.bin .add (.t 109) (.c (.int .i64 1))), .q 111 (.iaddr 1 (.t 108) (.t 110)), .q 112 (.load false 1 (.t 111)), .q 14 (.mv (.t 112))] (some [3, 11, 12, 13, 14])) (.seq (.seq (.region [.q 113 (.mv (.t 13)), .q 114 (.faddr 0 (.t 11)), .q 115 (.iaddrA 1 256 (.t 114) (.t 113)), .q 116 (.load false 1 (.t 115)), .q 117 (.eqn false (.t 116) (.c (.slice .nil 0 [])))] (some [3, 11, 12, 13, 14, 117])) (.cond (.t 117) (some [3, 11, 12, 13, 14]) (.region [.q 118 (.faddr 256 (.t 11)), .q 119 (.load false 1 (.t 118)), .q 120 (.mv (.t 13)), .q 121 (.mkslice 1 [(.t 120)]), .q 122 (.b2s (.t 121)), .q 123 (.mkslice 1 [(.t 122)]), .q 124 (.append 1 16 (.t 119) (.t 123)), .q 125 (.faddr 256 (.t 11)), .w (.store 1 (.t 125) (.t 124))] (some [3, 11, 12, 13, 14])) .skip)) (.region [.q 126 (.mv (.t 13)), .q 127 (.mv (.t 14)), .q 128 (.s2b (.t 127)), .q 129 (.faddr 0 (.t 11)), .q 130 (.iaddrA 1 256 (.t 129) (.t 126)), .w (.store 1 (.t 130) (.t 128))] (some [3, 11, 12])))))) (.region [.q 101 (.mv (.t 12)), .q 102 (.bin .sub (.t 101) (.c (.int .i64 2))), .q 12 (.mv (.t 102))] (some [3, 11, 12]))))))) (.seq (.region [.q 131 (.mkif 201 (.t 11)), .q 2 (.mv (.t 131))] (some [2])) .ret)))))))))
theorem code108 : IsCode Tryz.prog 108 sc108 [(2, none)] 132 := .mk' Tryz.func108 (by kernel_rfl) (by kernel_rfl) (by kernel_rfl) (by kernel_rfl)
/-- (*sync.Mutex).Lock -/
def sc123 : SC := (.region [.q 2 (.mv (.t 0)), .q 3 (.nilchk (.t 2)), .q 4 (.faddr 0 (.t 3)), .q 5 (.call 142 [(.t 4)])] (some []))
theorem code123 : IsCode Tryz.prog 123 sc123 [] 6 := .mk' Tryz.func123 (by kernel_rfl) (by kernel_rfl) (by kernel_rfl) (by kernel_rfl)
/-- (*sync.Mutex).Unlock -/
def sc124 : SC := (.region [.q 2 (.mv (.t 0)), .q 3 (.nilchk (.t 2)), .q 4 (.faddr 0 (.t 3)), .q 5 (.call 143 [(.t 4)])] (some []))
theorem code124 : IsCode Tryz.prog 124 sc124 [] 6 := .mk' Tryz.func124 (by kernel_rfl) (by kernel_rfl) (by kernel_rfl) (by kernel_rfl)
/-- (*sync/atomic.Bool).Store -/
def sc125 : SC := (.region [.q 4 (.mv (.t 0)), .q 5 (.nilchk (.t 4)), .q 6 (.faddr 0 (.t 5)), .q 7 (.mv (.t 1)), .q 8 (.call 145 [(.t 7)]), .q 9 (.call 144 [(.t 6), (.t 8)])] (some []))
theorem code125 : IsCode Tryz.prog 125 sc125 [] 10 := .mk' Tryz.func125 (by kernel_rfl) (by kernel_rfl) (by kernel_rfl) (by kernel_rfl)
/-- (*internal/sync.Mutex).Lock -/
def sc142 : SC := (.seq (.region [.q 2 (.call 157 [])] (some [0])) (.seq (.seq (.region [.q 3 (.mv (.t 0)), .q 4 (.nilchk (.t 3)), .q 5 (.faddr 0 (.t 4)), .q 6 (.call 158 [(.t 5), (.c (.int .i32 0)), (.c (.int .i32 1))])] (some [0, 6])) (.cond (.t 6) (some [0]) (.seq (.cond (.c (.bool true)) (some [0]) (.seq (.region [.q 7 (.call 159 [])] (some [0])) (.region [.q 8 (.mv (.t 0)), .q 9 (.conv2u (.t 8)), .q 10 (.call 160 [(.t 9)])] (some []))) .skip) .ret) .skip)) (.region [.q 11 (.mv (.t 0)), .q 12 (.call 161 [(.t 11)])] (some []))))
theorem code142 : IsCode Tryz.prog 142 sc142 [] 13 := .mk' Tryz.func142 (by kernel_rfl) (by kernel_rfl) (by kernel_rfl) (by kernel_rfl)
/-- (*internal/sync.Mutex).Unlock -/
def sc143 : SC := (.seq (.cond (.c (.bool true)) (some [0]) (.seq (.region [.q 3 (.mv (.t 0)), .q 4 (.nilchk (.t 3)), .q 5 (.faddr 0 (.t 4)), .q 6 (.load false 1 (.t 5))] (some [0])) (.seq (.region [.q 7 (.mv (.t 0)), .q 8 (.conv2u (.t 7)), .q 9 (.call 162 [(.t 8)])] (some [0])) (.region [.q 10 (.call 157 [])] (some [0])))) .skip) (.seq (.region [.q 11 (.mv (.t 0)), .q 12 (.nilchk (.t 11)), .q 13 (.faddr 0 (.t 12)), .q 14 (.call 163 [(.t 13), (.c (.int .i32 (-1)))]), .q 2 (.mv (.t 14))] (some [0, 2])) (.seq (.seq (.region [.q 15 (.mv (.t 2)), .q 16 (.bin .neq (.t 15) (.c (.int .i32 0)))] (some [0, 2, 16])) (.cond (.t 16) (some [0, 2]) (.region [.q 17 (.mv (.t 0)), .q 18 (.mv (.t 2)), .q 19 (.call 164 [(.t 17), (.t 18)])] (some [])) .skip)) (.region [.q 20 (.call 159 [])] (some [])))))
theorem code143 : IsCode Tryz.prog 143 sc143 [] 21 := .mk' Tryz.func143 (by kernel_rfl) (by kernel_rfl) (by kernel_rfl) (by kernel_rfl)
/-- sync/atomic.b32 -/
def sc145 : SC := (.seq (.region [.q 2 (.mv (.c (.int .u32 0)))] (some [0])) (.seq (.seq (.region [.q 3 (.mv (.t 0))] (some [3])) (.cond (.t 3) (some []) (.seq (.region [.q 2 (.mv (.c (.int .u32 1)))] (some [2])) .ret) .skip)) (.seq (.region [.q 2 (.mv (.c (.int .u32 0)))] (some [2])) .ret)))
theorem code145 : IsCode Tryz.prog 145 sc145 [(2, none)] 4 := .mk' Tryz.func145 (by kernel_rfl) (by kernel_rfl) (by kernel_rfl) (by kernel_rfl)
/-- (*strings.byteStringReplacer).Replace -/
def sc209 : SC := (.seq (.region [.q 4 (.mv (.c (.str [])))] (some [0, 1])) (.seq (.region [.q 16 (.mv (.t 1)), .q 17 (.len true (.t 16)), .q 5 (.mv (.t 17))] (some [0, 1, 5])) (.seq (.region [.q 6 (.mv (.c (.bool false)))] (some [0, 1, 5, 6])) (.seq (.seq (.region [.q 18 (.mv (.t 0)), .q 19 (.nilchk (.t 18)), .q 20 (.faddr 256 (.t 19)), .q 21 (.load false 1 (.t 20)), .q 22 (.len false (.t 21)), .q 23 (.bin .mul (.t 22) (.c (.int .i64 8))), .q 24 (.mv (.t 1)), .q 25 (.len true (.t 24)), .q 26 (.bin .leq (.t 23) (.t 25))] (some [0, 1, 5, 6, 26])) (.cond (.t 26) (some [0, 1, 5, 6]) (.seq (.region [.q 27 (.mv (.t 0)), .q 28 (.nilchk (.t 27)), .q 29 (.faddr 256 (.t 28)), .q 30 (.load false 1 (.t 29)), .q 31 (.len false (.t 30)), .q 32 (.mv (.c (.int .i64 0)))] (some [0, 1, 5, 6, 30, 31, 32])) (.block 0 (.loop (.seq (.region [.q 33 (.bin .lss (.t 32) (.t 31))] (some [0, 1, 5, 6, 30, 31, 32, 33])) (.seq (.cond (.t 33) (some [0, 1, 5, 6, 30, 31, 32]) .skip (.exit 0)) (.seq (.block 1 (.seq (.region [.q 34 (.iaddr 1 (.t 30) (.t 32)), .q 35 (.load false 1 (.t 34)), .q 8 (.mv (.t 35))] (some [0, 1, 5, 6, 8, 30, 31, 32])) (.seq (.region [.q 36 (.mv (.t 1)), .q 37 (.mv (.t 8)), .q 38 (.call 211 [(.t 36), (.t 37)]), .q 9 (.mv (.t 38))] (some [0, 1, 5, 6, 8, 9, 30, 31, 32])) (.seq (.region [.q 39 (.mv (.t 9)), .q 40 (.bin .neq (.t 39) (.c (.int .i64 0)))] (some [0, 1, 5, 6, 8, 9, 30, 31, 32, 40])) (.cond (.t 40) (some [0, 1, 5, 6, 8, 9, 30, 31, 32]) (.seq (.region [.q 41 (.mv (.t 5)), .q 42 (.mv (.t 9)), .q 43 (.mv (.t 0)), .q 44 (.mv (.t 8)), .q 45 (.idxs (.t 44) (.c (.int .i64 0))), .q 46 (.nilchk (.t 43)), .q 47 (.faddr 0 (.t 46)), .q 48 (.iaddrA 1 256 (.t 47) (.t 45)), .q 49 (.load false 1 (.t 48)), .q 50 (.len false (.t 49)), .q 51 (.bin .sub (.t 50) (.c (.int .i64 1))), .q 52 (.bin .mul (.t 42) (.t 51)), .q 53 (.bin .add (.t 41) (.t 52)), .q 5 (.mv (.t 53))] (some [0, 1, 5, 30, 31, 32])) (.region [.q 6 (.mv (.c (.bool true)))] (some [0, 1, 5, 6, 30, 31, 32]))) .skip))))) (.region [.q 54 (.bin .add (.t 32) (.c (.int .i64 1))), .q 32 (.mv (.t 54))] (some [0, 1, 5, 6, 30, 31, 32])))))))) (.seq (.region [.q 10 (.mv (.c (.int .i64 0)))] (some [0, 1, 5, 6, 10])) (.block 2 (.loop (.seq (.seq (.region [.q 55 (.mv (.t 10)), .q 56 (.mv (.t 1)), .q 57 (.len true (.t 56)), .q 58 (.bin .lss (.t 55) (.t 57))] (some [0, 1, 5, 6, 10, 58])) (.cond (.t 58) (some [0, 1, 5, 6, 10]) .skip (.exit 2))) (.seq (.block 3 (.seq (.region [.q 61 (.mv (.t 1)), .q 62 (.mv (.t 10)), .q 63 (.idxs (.t 61) (.t 62)), .q 11 (.mv (.t 63))] (some [0, 1, 5, 6, 10, 11])) (.seq (.region [.q 64 (.mv (.t 0)), .q 65 (.mv (.t 11)), .q 66 (.nilchk (.t 64)), .q 67 (.faddr 0 (.t 66)), .q 68 (.iaddrA 1 256 (.t 67) (.t 65)), .q 69 (.load false 1 (.t 68)), .q 70 (.eqn true (.t 69) (.c (.slice .nil 0 [])))] (some [0, 1, 5, 6, 10, 11, 70])) (.cond (.t 70) (some [0, 1, 5, 6, 10, 11]) (.seq (.region [.q 71 (.mv (.t 5)), .q 72 (.mv (.t 0)), .q 73 (.mv (.t 11)), .q 74 (.nilchk (.t 72)), .q 75 (.faddr 0 (.t 74)), .q 76 (.iaddrA 1 256 (.t 75) (.t 73)), .q 77 (.load false 1 (.t 76)), .q 78 (.len false (.t 77)), .q 79 (.bin .sub (.t 78) (.c (.int .i64 1))), .q 80 (.bin .add (.t 71) (.t 79)), .q 5 (.mv (.t 80))] (some [0, 1, 5, 10])) (.region [.q 6 (.mv (.c (.bool true)))] (some [0, 1, 5, 6, 10]))) .skip)))) (.region [.q 59 (.mv (.t 10)), .q 60 (.bin .add (.t 59) (.c (.int .i64 1))), .q 10 (.mv (.t 60))] (some [0, 1, 5, 6, 10]))))))))) (.seq (.seq (.region [.q 81 (.mv (.t 6)), .q 82 (.un .not (.t 81))] (some [0, 1, 5, 82])) (.cond (.t 82) (some [0, 1, 5]) (.seq (.region [.q 83 (.mv (.t 1)), .q 4 (.mv (.t 83))] (some [4])) .ret) .skip)) (.seq (.region [.q 84 (.mv (.t 5)), .q 85 (.mkmsl 1 1 [(.int .u8 0)] (.t 84) (.t 84)), .q 12 (.mv (.t 85))] (some [0, 1, 12])) (.seq (.region [.q 13 (.mv (.c (.int .i64 0)))] (some [0, 1, 12, 13])) (.seq (.seq (.region [.q 14 (.mv (.c (.int .i64 0)))] (some [0, 1, 12, 13, 14])) (.block 4 (.loop (.seq (.seq (.region [.q 86 (.mv (.t 14)), .q 87 (.mv (.t 1)), .q 88 (.len true (.t 87)), .q 89 (.bin .lss (.t 86) (.t 88))] (some [0, 1, 12, 13, 14, 89])) (.cond (.t 89) (some [0, 1, 12, 13, 14]) .skip (.exit 4))) (.seq (.block 5 (.seq (.region [.q 92 (.mv (.t 1)), .q 93 (.mv (.t 14)), .q 94 (.idxs (.t 92) (.t 93)), .q 15 (.mv (.t 94))] (some [0, 1, 12, 13, 14, 15])) (.seq (.region [.q 95 (.mv (.t 0)), .q 96 (.mv (.t 15)), .q 97 (.nilchk (.t 95)), .q 98 (.faddr 0 (.t 97)), .q 99 (.iaddrA 1 256 (.t 98) (.t 96)), .q 100 (.load false 1 (.t 99)), .q 101 (.eqn true (.t 100) (.c (.slice .nil 0 [])))] (some [0, 1, 12, 13, 14, 15, 101])) (.cond (.t 101) (some [0, 1, 12, 13, 14, 15]) (.region [.q 102 (.mv (.t 13)), .q 103 (.mv (.t 12)), .q 104 (.mv (.t 13)), .q 105 (.slice 1 (.t 103) (some (.t 104)) none), .q 106 (.mv (.t 0)), .q 107 (.mv (.t 15)), .q 108 (.nilchk (.t 106)), .q 109 (.faddr 0 (.t 108)), .q 110 (.iaddrA 1 256 (.t 109) (.t 107)), .q 111 (.load false 1 (.t 110)), .q 112 (.copy (.t 105) (.t 111)), .q 113 (.bin .add (.t 102) (.t 112)), .q 13 (.mv (.t 113))] (some [0, 1, 12, 13, 14])) (.seq (.region [.q 114 (.mv (.t 12)), .q 115 (.mv (.t 13)), .q 116 (.mv (.t 15)), .q 117 (.iaddr 1 (.t 114) (.t 115)), .w (.store 1 (.t 117) (.t 116))] (some [0, 1, 12, 13, 14])) (.region [.q 118 (.mv (.t 13)), .q 119 (.bin .add (.t 118) (.c (.int .i64 1))), .q 13 (.mv (.t 119))] (some [0, 1, 12, 13, 14]))))))) (.region [.q 90 (.mv (.t 14)), .q 91 (.bin .add (.t 90) (.c (.int .i64 1))), .q 14 (.mv (.t 91))] (some [0, 1, 12, 13, 14]))))))) (.seq (.region [.q 120 (.mv (.t 12)), .q 121 (.b2s (.t 120)), .q 4 (.mv (.t 121))] (some [4])) .ret)))))))))
theorem code209 : IsCode Tryz.prog 209 sc209 [(4, none)] 122 := .mk' Tryz.func209 (by kernel_rfl) (by kernel_rfl) (by kernel_rfl) (by kernel_rfl)
/-- strings.Count -/
def sc211 : SC := (.seq (.region [.q 4 (.mv (.c (.int .i64 0)))] (some [0, 1])) (.seq (.seq (.region [.q 7 (.mv (.t 1)), .q 8 (.len true (.t 7)), .q 9 (.bin .eql (.t 8) (.c (.int .i64 0)))] (some [0, 1, 9])) (.cond (.t 9) (some [0, 1]) (.seq (.region [.q 10 (.mv (.t 0)), .q 11 (.call 212 [(.t 10)]), .q 12 (.bin .add (.t 11) (.c (.int .i64 1))), .q 4 (.mv (.t 12))] (some [4])) .ret) .skip)) (.seq (.seq (.region [.q 13 (.mv (.t 1)), .q 14 (.len true (.t 13)), .q 15 (.bin .eql (.t 14) (.c (.int .i64 1)))] (some [0, 1, 15])) (.cond (.t 15) (some [0, 1]) (.seq (.region [.q 16 (.mv (.t 0)), .q 17 (.mv (.t 1)), .q 18 (.idxs (.t 17) (.c (.int .i64 0))), .q 19 (.call 213 [(.t 16), (.t 18)]), .q 4 (.mv (.t 19))] (some [4])) .ret) .skip)) (.seq (.region [.q 5 (.mv (.c (.int .i64 0)))] (some [0, 1, 5])) (.block 0 (.loop (.block 1 (.seq (.region [.q 20 (.mv (.t 0)), .q 21 (.mv (.t 1)), .q 22 (.call 136 [(.t 20), (.t 21)]), .q 6 (.mv (.t 22))] (some [0, 1, 5, 6])) (.seq (.seq (.region [.q 23 (.mv (.t 6)), .q 24 (.bin .eql (.t 23) (.c (.int .i64 (-1))))] (some [0, 1, 5, 6, 24])) (.cond (.t 24) (some [0, 1, 5, 6]) (.seq (.region [.q 25 (.mv (.t 5)), .q 4 (.mv (.t 25))] (some [4])) .ret) .skip)) (.seq (.region [.q 26 (.mv (.t 5)), .q 27 (.bin .add (.t 26) (.c (.int .i64 1))), .q 5 (.mv (.t 27))] (some [0, 1, 5, 6])) (.region [.q 28 (.mv (.t 0)), .q 29 (.mv (.t 6)), .q 30 (.mv (.t 1)), .q 31 (.len true (.t 30)), .q 32 (.bin .add (.t 29) (.t 31)), .q 33 (.cuts (.t 28) (some (.t 32)) none), .q 0 (.mv (.t 33))] (some [0, 1, 5]))))))))))))
theorem code211 : IsCode Tryz.prog 211 sc211 [(4, none)] 34 := .mk' Tryz.func211 (by kernel_rfl) (by kernel_rfl) (by kernel_rfl) (by kernel_rfl)
end Go.Shadow.Lex

/- THE SHADOW LOGIC, part 20: the library's own operations on single cells (sync/atomic, internal/race). -/
namespace Go.Shadow
open Go Go.RowKit
section
variable {P : Program} {G : Globs} {w0 w : World} {γ : Gh} {σ : St} {f : FuncId} {fn : Func}

theorem Inv.box_cell (hI : Inv G w0 γ σ w) {b o : Nat} {cs : List V} {v : V} (hb : σ.box b = some cs) (ho : cs[o]? = some v) : ∃ x, w.cell? ⟨b, o, none⟩ = some x ∧ w.frozen? ⟨b, o, none⟩ = false ∧ R w0.heap.size γ w v x := by
  obtain ⟨_, _, h1, vs, ty, hh, hRL⟩ := hI.box b cs hb
  have hlt : o < cs.length := (List.getElem?_eq_some_iff.1 ho).1
  have hvl : o < vs.size := by have := hRL.1; simp at this; omega
  have hR := hRL.2 o v vs[o] ho (by simp [hvl])
  obtain ⟨_, hf, _⟩ := hI.box_set hb hlt hR (h1 o v ho)
  exact ⟨vs[o], by simp [World.cell?, hh, hvl], hf, hR⟩

theorem ext_load (hf : P.funcs[f]? = some fn) (hname : (fn.name == "runtime.NumGoroutine") = false) (hb : fn.body.isNone = true) (hn : Extern.findNext fn = none) (k : IntKind)
    (he : Extern.find fn = some (Extern.Atomic.loadT (.int k))) {b o : Nat} {cs : List V} {n : Int} (hbx : σ.box b = some cs) (ho : cs[o]? = some (.int k n)) :
    SCall P G f [.loc b o] σ fun e σ' => σ' = σ ∧ e = .ret (.int k n) := by
  intro w0 γ w xs hI hRL
  obtain ⟨x, rfl, hx⟩ := hRL.inv1
  cases hx
  obtain ⟨y, hc, _, hy⟩ := hI.box_cell hbx ho
  cases hy
  exact .inr ⟨_, w, run_call_load hf hname hb hn k he hc, γ, σ, .refl _ _ _, hI, .int k n, _, .int _ _, .inl ⟨rfl, rfl, rfl⟩⟩
theorem ext_store (hf : P.funcs[f]? = some fn) (hname : (fn.name == "runtime.NumGoroutine") = false) (hb : fn.body.isNone = true) (hn : Extern.findNext fn = none)
    (he : Extern.find fn = some Extern.Atomic.storeT) {b o : Nat} {cs : List V} {k : IntKind} {y : Int} (hbx : σ.box b = some cs) (ho : o < cs.length) :
    SCall P G f [.loc b o, .int k y] σ fun e σ' => σ' = σ.put b (cs.set o (.int k y)) ∧ e = .ret (.tup []) := by
  intro w0 γ w xs hI hRL
  obtain ⟨x, z, rfl, hx, hz⟩ := hRL.inv2
  cases hx; cases hz
  obtain ⟨⟨u, hc⟩, hfr, hI', hE⟩ := hI.box_set hbx ho (R.int k y) rfl
  exact .inr ⟨_, _, run_call_store hf hname hb hn he hc hfr, γ, _, hE, hI', .tup [], _, .undef, .inl ⟨rfl, rfl, rfl⟩⟩
theorem ext_cas (hf : P.funcs[f]? = some fn) (hname : (fn.name == "runtime.NumGoroutine") = false) (hb : fn.body.isNone = true) (hn : Extern.findNext fn = none) (k : IntKind)
    (he : Extern.find fn = some (Extern.Atomic.casT (.int k))) {b o : Nat} {cs : List V} {n y : Int} (hbx : σ.box b = some cs) (ho : cs[o]? = some (.int k n)) :
    SCall P G f [.loc b o, .int k n, .int k y] σ fun e σ' => σ' = σ.put b (cs.set o (.int k y)) ∧ e = .ret (.bool true) := by
  intro w0 γ w xs hI hRL
  obtain ⟨x, z, u, rfl, hx, hz, hu⟩ := hRL.inv3
  cases hx; cases hz; cases hu
  obtain ⟨q, hc, hfr, hq⟩ := hI.box_cell hbx ho
  cases hq
  obtain ⟨_, _, hI', hE⟩ := hI.box_set hbx (List.getElem?_eq_some_iff.1 ho).1 (R.int k y) rfl
  exact .inr ⟨_, _, run_call_cas_hit hf hname hb hn k he hc hfr, γ, _, hE, hI', .bool true, _, .bool _, .inl ⟨rfl, rfl, rfl⟩⟩
theorem ext_add (hf : P.funcs[f]? = some fn) (hname : (fn.name == "runtime.NumGoroutine") = false) (hb : fn.body.isNone = true) (hn : Extern.findNext fn = none) (k : IntKind)
    (he : Extern.find fn = some (Extern.Atomic.update (Op.intArith .add) k true)) {b o : Nat} {cs : List V} {n y s : Int} (hbx : σ.box b = some cs) (ho : cs[o]? = some (.int k n)) (hs : k.wrap (n + y) = s) :
    SCall P G f [.loc b o, .int k y] σ fun e σ' => σ' = σ.put b (cs.set o (.int k s)) ∧ e = .ret (.int k s) := by
  intro w0 γ w xs hI hRL
  obtain ⟨x, z, rfl, hx, hz⟩ := hRL.inv2
  cases hx; cases hz
  obtain ⟨q, hc, hfr, hq⟩ := hI.box_cell hbx ho
  cases hq
  obtain ⟨_, _, hI', hE⟩ := hI.box_set hbx (List.getElem?_eq_some_iff.1 ho).1 (R.int k s) rfl
  exact .inr ⟨_, _, run_call_add hf hname hb hn k he hc hfr (by subst hs; simp [Op.intArith]), γ, _, hE, hI', .int k s, _, .int _ _, .inl ⟨rfl, rfl, rfl⟩⟩
theorem ext_mark0 (hf : P.funcs[f]? = some fn) (hname : (fn.name == "runtime.NumGoroutine") = false) (hb : fn.body.isNone = true) (hn : Extern.findNext fn = none) (m : Mark)
    (he : Extern.find fn = some (fun _ => do mark m; pure Extern.Race.none_)) : SRet P G f [] (.tup []) := by
  intro σ w0 γ w xs hI hRL
  have hx : xs = #[] := by have := hRL.1; apply Array.eq_empty_of_size_eq_zero; simpa using this.symm
  subst hx
  exact .inr ⟨_, w, run_call_mark0 hf hname hb hn m he w, γ, σ, .refl _ _ _, hI, .tup [], _, .undef, .inl ⟨rfl, rfl, rfl⟩⟩
theorem ext_marked (hf : P.funcs[f]? = some fn) (hname : (fn.name == "runtime.NumGoroutine") = false) (hb : fn.body.isNone = true) (hn : Extern.findNext fn = none) (m : Addr → Mark)
    (he : Extern.find fn = some (Extern.Race.marked m)) (b o : Nat) : SRet P G f [.loc b o] (.tup []) := by
  intro σ w0 γ w xs hI hRL
  obtain ⟨x, rfl, hx⟩ := hRL.inv1
  cases hx
  exact .inr ⟨_, w, run_call_marked hf hname hb hn m he _ w, γ, σ, .refl _ _ _, hI, .tup [], _, .undef, .inl ⟨rfl, rfl, rfl⟩⟩
end
end Go.Shadow

/- Proved: what strings.NewReplacer of the lexer's three pairs does, up to its table, as shadow contracts. Conditions: none. -/
namespace Go.Shadow.Lex
open Go Go.RowKit Go.Proofs

theorem Load.one {σ : St} {b off : Nat} {K : List V → Prop} {cs : List V} {v : V} (hb : σ.box b = some cs) (hv : cs[off]? = some v) (k : K [v]) : Load σ b off 1 K := by
  obtain ⟨hlt, he⟩ := List.getElem?_eq_some_iff.1 hv
  refine Load.mk' hb (by omega) ?_
  rw [List.drop_eq_getElem_cons hlt, he]
  exact k

/-! ### the lock -/
theorem bload {σ : St} {b o : Nat} {cs : List V} {n : Int} (hb : σ.box b = some cs) (ho : cs[o]? = some (.int .u32 n)) : SCall Tryz.prog LG 106 [.loc b o] σ fun e σ' => σ' = σ ∧ e = .ret (.bool (decide (n ≠ 0))) := by
  refine code106.call hm (by simp) ?_
  refine CallK.mk' (ext_load Tryz.func122 (by kernel_rfl) (by kernel_rfl) (by kernel_rfl) .u32 (by kernel_rfl) hb ho) ?_
  rintro e σ' ⟨rfl, rfl⟩
  refine Test.split (fun h => ?_) (fun h => ?_)
  · exact Ret.mk' ⟨rfl, by simp [h]⟩
  · exact Ret.mk' ⟨rfl, by simp at h; simp [h]⟩
theorem lock93 {σ : St} {b o : Nat} {cs : List V} (hb : σ.box b = some cs) (ho : cs[o]? = some (.int .i32 0)) : SCall Tryz.prog LG 142 [.loc b o] σ fun e σ' => σ' = σ.put b (cs.set o (.int .i32 1)) ∧ e = .ret (.tup []) := by
  have hlt := (List.getElem?_eq_some_iff.1 ho).1
  refine code142.call hm (by simp) ?_
  refine CallK.pure (ext_mark0 Tryz.func157 (by kernel_rfl) (by kernel_rfl) (by kernel_rfl) .disable (by kernel_rfl)) ?_
  refine CallK.mk' (ext_cas Tryz.func158 (by kernel_rfl) (by kernel_rfl) (by kernel_rfl) .i32 (by kernel_rfl) hb ho) ?_
  rintro e σ' ⟨rfl, rfl⟩
  refine CallK.pure (ext_mark0 Tryz.func159 (by kernel_rfl) (by kernel_rfl) (by kernel_rfl) .enable (by kernel_rfl)) ?_
  refine Load.mk' put_box (by simp; omega) ?_
  refine CallK.pure (ext_marked Tryz.func160 (by kernel_rfl) (by kernel_rfl) (by kernel_rfl) .acquire (by kernel_rfl) b o) ?_
  exact Ret.mk' ⟨rfl, rfl⟩
theorem lock74 {σ : St} {b o : Nat} {cs : List V} (hb : σ.box b = some cs) (ho : cs[o]? = some (.int .i32 0)) : SCall Tryz.prog LG 123 [.loc b o] σ fun e σ' => σ' = σ.put b (cs.set o (.int .i32 1)) ∧ e = .ret (.tup []) := by
  refine code123.call hm (by simp) ?_
  refine CallK.mk' (lock93 hb ho) ?_
  rintro e σ' ⟨rfl, rfl⟩
  exact Ret.mk' ⟨rfl, rfl⟩
theorem unlock94 {σ : St} {b o : Nat} {cs : List V} (hb : σ.box b = some cs) (ho : cs[o]? = some (.int .i32 1)) : SCall Tryz.prog LG 143 [.loc b o] σ fun e σ' => σ' = σ.put b (cs.set o (.int .i32 0)) ∧ e = .ret (.tup []) := by
  have hlt := (List.getElem?_eq_some_iff.1 ho).1
  refine code143.call hm (by simp) ?_
  refine Load.one hb ho ?_
  refine Load.mk' hb (by omega) ?_
  refine CallK.pure (ext_marked Tryz.func162 (by kernel_rfl) (by kernel_rfl) (by kernel_rfl) .releaseMerge (by kernel_rfl) b o) ?_
  refine CallK.pure (ext_mark0 Tryz.func157 (by kernel_rfl) (by kernel_rfl) (by kernel_rfl) .disable (by kernel_rfl)) ?_
  refine CallK.mk' (ext_add (s := 0) Tryz.func163 (by kernel_rfl) (by kernel_rfl) (by kernel_rfl) .i32 (by kernel_rfl) hb ho (by decide)) ?_
  rintro e σ' ⟨rfl, rfl⟩
  refine Test.no (by decide) ?_
  refine CallK.pure (ext_mark0 Tryz.func159 (by kernel_rfl) (by kernel_rfl) (by kernel_rfl) .enable (by kernel_rfl)) ?_
  exact Ret.mk' ⟨rfl, rfl⟩
theorem unlock75 {σ : St} {b o : Nat} {cs : List V} (mode : Option V) (hb : σ.box b = some cs) (ho : cs[o]? = some (.int .i32 1)) : SDCall Tryz.prog LG 124 [.loc b o] mode σ fun r σ' => r = false ∧ σ' = σ.put b (cs.set o (.int .i32 0)) := by
  refine SDCall.of_code hm code124 (by simp) ?_
  refine CallK.mk' (unlock94 hb ho) ?_
  rintro e σ' ⟨rfl, rfl⟩
  exact Ret.mk' ⟨⟨_, rfl⟩, rfl, rfl⟩
theorem b32_ret : SRet Tryz.prog LG 145 [.bool true] (.int .u32 1) := by
  intro σ
  refine code145.call hm (by simp) ?_
  exact Ret.mk' ⟨rfl, rfl⟩
theorem store76 {σ : St} {b o : Nat} {cs : List V} (mode : Option V) (hb : σ.box b = some cs) (ho : o < cs.length) : SDCall Tryz.prog LG 125 [.loc b o, .bool true] mode σ fun r σ' => r = false ∧ σ' = σ.put b (cs.set o (.int .u32 1)) := by
  refine SDCall.of_code hm code125 (by simp) ?_
  refine CallK.pure b32_ret ?_
  refine CallK.mk' (ext_store (k := .u32) (y := 1) Tryz.func144 (by kernel_rfl) (by kernel_rfl) (by kernel_rfl) (by kernel_rfl) hb ho) ?_
  rintro e σ' ⟨rfl, rfl⟩
  exact Ret.mk' ⟨⟨_, rfl⟩, rfl, rfl⟩

/-! ### the table -/
def cellOf (m : Nat → Option (List UInt8)) (i : Nat) : V := match m i with
  | some n => .slice .foreign 1 (byteEls n)
  | none => .slice .nil 0 []
def tabOf (m : Nat → Option (List UInt8)) (k : Nat) : List V := (List.range k).map (cellOf m)
theorem tab_length (m : Nat → Option (List UInt8)) (k : Nat) : (tabOf m k).length = k := by simp [tabOf]
theorem tab_get {m : Nat → Option (List UInt8)} {k i : Nat} {r : V} (h : i < k) : (tabOf m k ++ [r])[i]? = some (cellOf m i) := by
  rw [List.getElem?_append_left (by rw [tab_length]; exact h)]
  simp [tabOf, h]
theorem tab_last {m : Nat → Option (List UInt8)} {k : Nat} {r : V} : (tabOf m k ++ [r])[k]? = some r := by
  rw [List.getElem?_append_right (by rw [tab_length]; exact Nat.le_refl _)]
  simp [tab_length]
theorem tab_set {m m' : Nat → Option (List UInt8)} {k i : Nat} {r : V} {n : List UInt8} (h : i < k) (hm : ∀ j, m' j = if j = i then some n else m j) : (tabOf m k ++ [r]).set i (.slice .foreign 1 (byteEls n)) = tabOf m' k ++ [r] := by
  rw [List.set_append_left _ _ (by rw [tab_length]; exact h)]
  congr 1
  apply List.ext_getElem?
  intro j
  rw [List.getElem?_set]
  by_cases hj : i = j
  · subst hj
    simp [tab_length, h]
    simp [tabOf, h, cellOf, hm]
  · simp only [if_neg hj]
    simp only [tabOf, List.getElem?_map]
    by_cases hk : j < k
    · simp [hk, cellOf, hm, Ne.symm hj]
    · simp [hk]
theorem tab_set_last {m : Nat → Option (List UInt8)} {k : Nat} {r r' : V} : (tabOf m k ++ [r]).set k r' = tabOf m k ++ [r'] := by
  rw [List.set_append_right _ _ (by rw [tab_length]; exact Nat.le_refl _)]
  simp [tab_length]
/-- The table behind j pairs, from the last one. -/
def mJ (j : Nat) (i : Nat) : Option (List UInt8) := if i = 10 ∧ 1 ≤ j then some [92, 110] else if i = 92 ∧ 2 ≤ j then some [92, 92] else if i = 34 ∧ 3 ≤ j then some [92, 34] else none
def pairs6 : List (List UInt8) := [[34], [92, 34], [92], [92, 92], [10], [92, 110]]
def reps (j : Nat) : List (List UInt8) := [[10], [92], [34]].take j

theorem mJ_step10 (j : Nat) : mJ 1 j = if j = 10 then some [92, 110] else mJ 0 j := by simp [mJ]
theorem mJ_step92 (j : Nat) : mJ 2 j = if j = 92 then some [92, 92] else mJ 1 j := by
  simp only [mJ]; by_cases h : j = 10 <;> by_cases h2 : j = 92 <;> simp_all
theorem mJ_step34 (j : Nat) : mJ 3 j = if j = 34 then some [92, 34] else mJ 2 j := by
  simp only [mJ]; by_cases h : j = 10 <;> by_cases h2 : j = 92 <;> by_cases h3 : j = 34 <;> simp_all

def BuildPost (σ : St) (e : SEnd) (σ' : St) : Prop := ∃ b2 t', e = .ret (.iface 201 (.loc b2 0)) ∧ Over σ σ' ∧ σ.box b2 = none ∧ σ'.box b2 = some (tabOf (mJ 3) 256 ++ [.slice (.tip t') 1 (strEls (reps 3))])

set_option maxRecDepth 100000 in
set_option maxHeartbeats 4000000 in
theorem build_call {σ : St} {b : Nat} {x0 x1 x2 r : V} {tag : Tag} (hb : σ.box b = some [x0, x1, x2, r, .slice tag 1 (strEls pairs6)]) : SCall Tryz.prog LG 108 [.loc b 0] σ (BuildPost σ) := by
  refine code108.call hm (by simp) ?_
  refine Load.mk' hb (Nat.le_of_ble_eq_true rfl) ?_
  refine Test.no (by decide) ?_
  -- all of one byte
  refine ⟨fun m sl σ' => σ' = σ ∧ ∃ j : Nat, j ≤ 3 ∧ sl = ofL [(3, some (.slice tag 1 (strEls pairs6))), (4, some (.bool (decide (j = 0)))), (5, some (.int .i64 (2 * j : Nat)))] ∧ m = 3 - j, 3, ⟨rfl, 0, by omega, rfl, rfl⟩, ?_⟩
  rintro m sl σ' ⟨rfl, j, hj, rfl, rfl⟩
  have hstep : ∀ j' : Nat, j' < 3 → ∀ (x : List UInt8) (y : List UInt8), pairs6[2 * j']? = some x → pairs6[2 * j' + 1]? = some y → x.length = 1 → y.length = 2 → True := fun _ _ _ _ _ _ _ _ => trivial
  obtain rfl | rfl | rfl | rfl : j = 0 ∨ j = 1 ∨ j = 2 ∨ j = 3 := by omega
  · refine Test.yes (by decide) ?_
    refine Sure.mk' (.inl rfl) ?_
    refine IdxE.mk' 0 _ rfl rfl ?_
    refine ⟨⟨Nat.le_of_ble_eq_true rfl, ?_⟩⟩
    refine Test.no (by decide) ?_
    refine Arith.i64 1 (by decide) (by decide) ?_
    refine Sure.mk' (.inl rfl) ?_
    refine IdxE.mk' 1 _ rfl rfl ?_
    refine ⟨⟨Nat.le_of_ble_eq_true rfl, ?_⟩⟩
    refine Test.yes (by decide) ?_
    refine Arith.i64 2 (by decide) (by decide) ?_
    exact ⟨_, _, by omega, Forget.refl _, rfl, 1, by omega, rfl, rfl⟩
  · refine Test.yes (by decide) ?_
    refine Sure.mk' (.inl rfl) ?_
    refine IdxE.mk' 2 _ rfl rfl ?_
    refine ⟨⟨Nat.le_of_ble_eq_true rfl, ?_⟩⟩
    refine Test.no (by decide) ?_
    refine Arith.i64 3 (by decide) (by decide) ?_
    refine Sure.mk' (.inl rfl) ?_
    refine IdxE.mk' 3 _ rfl rfl ?_
    refine ⟨⟨Nat.le_of_ble_eq_true rfl, ?_⟩⟩
    refine Test.yes (by decide) ?_
    refine Arith.i64 4 (by decide) (by decide) ?_
    exact ⟨_, _, by omega, Forget.refl _, rfl, 2, by omega, rfl, rfl⟩
  · refine Test.yes (by decide) ?_
    refine Sure.mk' (.inl rfl) ?_
    refine IdxE.mk' 4 _ rfl rfl ?_
    refine ⟨⟨Nat.le_of_ble_eq_true rfl, ?_⟩⟩
    refine Test.no (by decide) ?_
    refine Arith.i64 5 (by decide) (by decide) ?_
    refine Sure.mk' (.inl rfl) ?_
    refine IdxE.mk' 5 _ rfl rfl ?_
    refine ⟨⟨Nat.le_of_ble_eq_true rfl, ?_⟩⟩
    refine Test.yes (by decide) ?_
    refine Arith.i64 6 (by decide) (by decide) ?_
    exact ⟨_, _, by omega, Forget.refl _, rfl, 3, by omega, rfl, rfl⟩
  · refine Test.no (by decide) ?_
    -- the table
    refine Sure.mk' (by decide) ?_
    refine Arith.i64 3 (by decide) (by decide) ?_
    refine MkSl.empty (by decide) (by decide) (by decide) (by decide) ?_
    intro t0 ht0
    intro b2 h2
    refine Sure.mk' rfl ?_
    refine Store.mk' (tabOf (mJ 0) 256 ++ [.slice (.tip t0) 1 (strEls (reps 0))]) put_box (Nat.le_of_ble_eq_true rfl) (by kernel_rfl) (fun σ1 e1 => ?_)
    rw [put_put] at e1
    have o1 : Over σ' σ1 := by
      rw [e1]
      exact over_put ⟨fun _ _ h => h, fun t h => by simp [St.on, h], fun _ _ h => h⟩ h2
    have hm1 : Mine σ' σ1 (.tip t0) := by rw [e1]; exact ⟨by simp [St.on, St.put], ht0⟩
    have g1 : σ1.box b2 = some (tabOf (mJ 0) 256 ++ [.slice (.tip t0) 1 (strEls (reps 0))]) := by rw [e1]; exact put_box
    have h2' : σ'.box b2 = none := h2
    clear e1
    refine Arith.i64 4 (by decide) (by decide) ?_
    refine ⟨fun m sl σ2 => ∃ (j t' : Nat), j ≤ 3 ∧ sl = ofL [(3, some (.slice tag 1 (strEls pairs6))), (11, some (.loc b2 0)), (12, some (.int .i64 (4 - 2 * (j : Int))))] ∧ Over σ' σ2 ∧ Mine σ' σ2 (.tip t') ∧ σ2.box b2 = some (tabOf (mJ j) 256 ++ [.slice (.tip t') 1 (strEls (reps j))]) ∧ m = 3 - j, 3,
      ⟨0, t0, by omega, rfl, o1, hm1, g1, rfl⟩, ?_⟩
    rintro m sl σ2 ⟨j, t', hj, rfl, o2, hm2, g2, rfl⟩
    obtain rfl | rfl | rfl | rfl : j = 0 ∨ j = 1 ∨ j = 2 ∨ j = 3 := by omega
    · refine Test.yes (by decide) ?_
      refine Sure.mk' (.inl rfl) ?_
      refine IdxE.mk' 4 _ (by decide) rfl ?_
      refine ⟨⟨Nat.le_of_ble_eq_true rfl, ?_⟩⟩
      refine Idx.mk' 0 10 rfl rfl ?_
      refine Arith.i64 5 (by decide) (by decide) ?_
      refine Sure.mk' (.inl rfl) ?_
      refine IdxE.mk' 5 _ (by decide) rfl ?_
      refine ⟨⟨Nat.le_of_ble_eq_true rfl, ?_⟩⟩
      refine Sure.mk' (by decide) ?_
      refine Load.one g2 (tab_get (by decide)) ?_
      refine Load.one g2 tab_last ?_
      refine Sure.mk' (.inl rfl) ?_
      refine B2S.mk' (l := [10]) ?_
      refine App.mk' o2 hm2 (.inr rfl) rfl (by decide) (by decide) (by simp) (fun t2 σ3 o3 hm3 hbox _ => ?_)
      refine Sure.mk' rfl ?_
      refine Store.mk' (tabOf (mJ 0) 256 ++ [.slice (.tip t2) 1 (strEls (reps 1))]) (by rw [hbox]; exact g2) (by simp [tab_length, V.cells]) (by simp only [setL, V.cells]; exact tab_set_last) (fun σ4 e4 => ?_)
      have o4 : Over σ' σ4 := by rw [e4]; exact over_put o3 h2'
      have g4 : σ4.box b2 = some (tabOf (mJ 0) 256 ++ [.slice (.tip t2) 1 (strEls (reps 1))]) := by rw [e4]; exact put_box
      have hm4 : Mine σ' σ4 (.tip t2) := by rw [e4]; exact hm3
      clear e4
      refine Sure.mk' (by decide) ?_
      refine Sure.mk' rfl ?_
      refine Store.mk' (tabOf (mJ 1) 256 ++ [.slice (.tip t2) 1 (strEls (reps 1))]) g4 (by simp [tab_length, V.cells]) (by simp only [setL, V.cells]; exact tab_set (by decide) mJ_step10) (fun σ5 e5 => ?_)
      have o5 : Over σ' σ5 := by rw [e5]; exact over_put o4 h2'
      have g5 : σ5.box b2 = some (tabOf (mJ 1) 256 ++ [.slice (.tip t2) 1 (strEls (reps 1))]) := by rw [e5]; exact put_box
      have hm5 : Mine σ' σ5 (.tip t2) := by rw [e5]; exact hm4
      refine Arith.i64 (4 - 2 * ((1 : Nat) : Int)) (by decide) (by decide) ?_
      exact ⟨_, _, by omega, Forget.refl _, 1, t2, by omega, rfl, o5, hm5, g5, rfl⟩
    · refine Test.yes (by decide) ?_
      refine Sure.mk' (.inl rfl) ?_
      refine IdxE.mk' 2 _ (by decide) rfl ?_
      refine ⟨⟨Nat.le_of_ble_eq_true rfl, ?_⟩⟩
      refine Idx.mk' 0 92 rfl rfl ?_
      refine Arith.i64 3 (by decide) (by decide) ?_
      refine Sure.mk' (.inl rfl) ?_
      refine IdxE.mk' 3 _ (by decide) rfl ?_
      refine ⟨⟨Nat.le_of_ble_eq_true rfl, ?_⟩⟩
      refine Sure.mk' (by decide) ?_
      refine Load.one g2 (tab_get (by decide)) ?_
      refine Load.one g2 tab_last ?_
      refine Sure.mk' (.inl rfl) ?_
      refine B2S.mk' (l := [92]) ?_
      refine App.mk' o2 hm2 (.inr rfl) rfl (by decide) (by decide) (by simp) (fun t2 σ3 o3 hm3 hbox _ => ?_)
      refine Sure.mk' rfl ?_
      refine Store.mk' (tabOf (mJ 1) 256 ++ [.slice (.tip t2) 1 (strEls (reps 2))]) (by rw [hbox]; exact g2) (by simp [tab_length, V.cells]) (by simp only [setL, V.cells]; exact tab_set_last) (fun σ4 e4 => ?_)
      have o4 : Over σ' σ4 := by rw [e4]; exact over_put o3 h2'
      have g4 : σ4.box b2 = some (tabOf (mJ 1) 256 ++ [.slice (.tip t2) 1 (strEls (reps 2))]) := by rw [e4]; exact put_box
      have hm4 : Mine σ' σ4 (.tip t2) := by rw [e4]; exact hm3
      clear e4
      refine Sure.mk' (by decide) ?_
      refine Sure.mk' rfl ?_
      refine Store.mk' (tabOf (mJ 2) 256 ++ [.slice (.tip t2) 1 (strEls (reps 2))]) g4 (by simp [tab_length, V.cells]) (by simp only [setL, V.cells]; exact tab_set (by decide) mJ_step92) (fun σ5 e5 => ?_)
      have o5 : Over σ' σ5 := by rw [e5]; exact over_put o4 h2'
      have g5 : σ5.box b2 = some (tabOf (mJ 2) 256 ++ [.slice (.tip t2) 1 (strEls (reps 2))]) := by rw [e5]; exact put_box
      have hm5 : Mine σ' σ5 (.tip t2) := by rw [e5]; exact hm4
      refine Arith.i64 (4 - 2 * ((2 : Nat) : Int)) (by decide) (by decide) ?_
      exact ⟨_, _, by omega, Forget.refl _, 2, t2, by omega, rfl, o5, hm5, g5, rfl⟩
    · refine Test.yes (by decide) ?_
      refine Sure.mk' (.inl rfl) ?_
      refine IdxE.mk' 0 _ (by decide) rfl ?_
      refine ⟨⟨Nat.le_of_ble_eq_true rfl, ?_⟩⟩
      refine Idx.mk' 0 34 rfl rfl ?_
      refine Arith.i64 1 (by decide) (by decide) ?_
      refine Sure.mk' (.inl rfl) ?_
      refine IdxE.mk' 1 _ (by decide) rfl ?_
      refine ⟨⟨Nat.le_of_ble_eq_true rfl, ?_⟩⟩
      refine Sure.mk' (by decide) ?_
      refine Load.one g2 (tab_get (by decide)) ?_
      refine Load.one g2 tab_last ?_
      refine Sure.mk' (.inl rfl) ?_
      refine B2S.mk' (l := [34]) ?_
      refine App.mk' o2 hm2 (.inr rfl) rfl (by decide) (by decide) (by simp) (fun t2 σ3 o3 hm3 hbox _ => ?_)
      refine Sure.mk' rfl ?_
      refine Store.mk' (tabOf (mJ 2) 256 ++ [.slice (.tip t2) 1 (strEls (reps 3))]) (by rw [hbox]; exact g2) (by simp [tab_length, V.cells]) (by simp only [setL, V.cells]; exact tab_set_last) (fun σ4 e4 => ?_)
      have o4 : Over σ' σ4 := by rw [e4]; exact over_put o3 h2'
      have g4 : σ4.box b2 = some (tabOf (mJ 2) 256 ++ [.slice (.tip t2) 1 (strEls (reps 3))]) := by rw [e4]; exact put_box
      have hm4 : Mine σ' σ4 (.tip t2) := by rw [e4]; exact hm3
      clear e4
      refine Sure.mk' (by decide) ?_
      refine Sure.mk' rfl ?_
      refine Store.mk' (tabOf (mJ 3) 256 ++ [.slice (.tip t2) 1 (strEls (reps 3))]) g4 (by simp [tab_length, V.cells]) (by simp only [setL, V.cells]; exact tab_set (by decide) mJ_step34) (fun σ5 e5 => ?_)
      have o5 : Over σ' σ5 := by rw [e5]; exact over_put o4 h2'
      have g5 : σ5.box b2 = some (tabOf (mJ 3) 256 ++ [.slice (.tip t2) 1 (strEls (reps 3))]) := by rw [e5]; exact put_box
      have hm5 : Mine σ' σ5 (.tip t2) := by rw [e5]; exact hm4
      refine Arith.i64 (4 - 2 * ((3 : Nat) : Int)) (by decide) (by decide) ?_
      exact ⟨_, _, by omega, Forget.refl _, 3, t2, by omega, rfl, o5, hm5, g5, rfl⟩
    · refine Test.no (by decide) ?_
      exact Ret.mk' ⟨b2, t', rfl, o2, h2', g2⟩

/-! ### once -/
def DonePost (σ0 : St) (b : Nat) (x2 : V) (e : SEnd) (σ' : St) : Prop := e = .ret (.tup []) ∧ ∃ b2 t', Over σ0 σ' ∧ σ0.box b2 = none ∧ σ'.box b2 = some (tabOf (mJ 3) 256 ++ [.slice (.tip t') 1 (strEls (reps 3))]) ∧
  ∃ x0 x1 s, σ'.box b = some [x0, x1, x2, .iface 201 (.loc b2 0), s]
theorem buildOnce_call {σ0 σ : St} {b : Nat} {x0 x1 x2 r : V} {tag : Tag} (o : Over σ0 σ) (hf : σ0.box b = none) (hb : σ.box b = some [x0, x1, x2, r, .slice tag 1 (strEls pairs6)]) :
    SCall Tryz.prog LG 90 [.loc b 0] σ fun e σ' => e = .ret (.tup []) ∧ ∃ b2 t', Over σ0 σ' ∧ σ0.box b2 = none ∧ σ'.box b2 = some (tabOf (mJ 3) 256 ++ [.slice (.tip t') 1 (strEls (reps 3))]) ∧ σ'.box b = some [x0, x1, x2, .iface 201 (.loc b2 0), .slice .nil 0 []] := by
  refine code90.call hm (by simp) ?_
  refine CallK.mk' (build_call hb) ?_
  rintro e σ1 ⟨b2, t', rfl, o1, h2, g2⟩
  have hne : b ≠ b2 := by rintro rfl; rw [hb] at h2; cases h2
  refine Sure.mk' rfl ?_
  refine Store.mk' [x0, x1, x2, .iface 201 (.loc b2 0), .slice tag 1 (strEls pairs6)] (o1.box _ _ hb) (Nat.le_of_ble_eq_true rfl) rfl (fun σ2 e2 => ?_)
  refine Sure.mk' rfl ?_
  refine Store.mk' [x0, x1, x2, .iface 201 (.loc b2 0), .slice .nil 0 []] (by rw [e2]; exact put_box) (Nat.le_of_ble_eq_true rfl) rfl (fun σ3 e3 => ?_)
  rw [e2, put_put] at e3
  refine Ret.mk' ⟨rfl, b2, t', ?_, over_none o h2, ?_, ?_⟩
  · rw [e3]; exact over_put (over_trans o o1) hf
  · rw [e3]; simp [St.put, hne.symm, g2]
  · rw [e3]; exact put_box

theorem doSlow_call {σ0 σ : St} {b : Nat} {x2 r : V} {tag : Tag} (o : Over σ0 σ) (hf : σ0.box b = none) (hb : σ.box b = some [.int .u32 0, .int .i32 0, x2, r, .slice tag 1 (strEls pairs6)]) :
    SCall Tryz.prog LG 107 [.loc b 0, .func 90 [.loc b 0] []] σ (DonePost σ0 b x2) := by
  refine code107.call hm (by simp) ?_
  refine CallK.mk' (lock74 hb rfl) ?_
  rintro e σ1 ⟨rfl, rfl⟩
  refine CallK.mk' (bload put_box rfl) ?_
  rintro e σ1 ⟨rfl, rfl⟩
  refine CallK.mk' (buildOnce_call (over_put o hf) hf put_box) ?_
  rintro e σ2 ⟨rfl, b2, t', o2, h2, g2, gb⟩
  have hne : b2 ≠ b := by rintro rfl; rw [gb] at g2; have := congrArg (fun x => (x.getD []).length) g2; simp [tab_length] at this
  refine DefK.mk' (store76 none gb (by simp)) ?_
  rintro r1 σ3 ⟨rfl, rfl⟩
  refine DefK.mk' (unlock75 none put_box rfl) ?_
  rintro r1 σ3 ⟨rfl, rfl⟩
  refine Ret.mk' ⟨rfl, b2, t', ?_, h2, ?_, _, _, _, put_box⟩
  · rw [put_put]; exact over_put o2 hf
  · rw [put_put]; simp [St.put, hne, g2]

theorem do_call43 {σ0 σ : St} {b : Nat} {x2 r : V} {tag : Tag} (o : Over σ0 σ) (hf : σ0.box b = none) (hb : σ.box b = some [.int .u32 0, .int .i32 0, x2, r, .slice tag 1 (strEls pairs6)]) :
    SCall Tryz.prog LG 89 [.loc b 0, .func 90 [.loc b 0] []] σ (DonePost σ0 b x2) := by
  refine code89.call hm (by simp) ?_
  refine CallK.mk' (bload hb rfl) ?_
  rintro e σ1 ⟨rfl, rfl⟩
  refine CallK.mk' (doSlow_call o hf hb) ?_
  rintro e σ2 ⟨rfl, h⟩
  exact Ret.mk' ⟨rfl, h⟩

def NewPost (σ : St) (e : SEnd) (σ' : St) : Prop := ∃ b t, e = .ret (.loc b 0) ∧ Over σ σ' ∧ σ.box b = none ∧ σ'.box b = some [.int .u32 0, .int .i32 0, .int .u32 0, .nilIface, .slice (.tip t) 1 (strEls pairs6)]
theorem newReplacer_call (σ : St) : SCall Tryz.prog LG 65 [.slice .full 1 (strEls pairs6)] σ (NewPost σ) := by
  refine code65.call hm (by simp) ?_
  refine Sure.mk' (by decide) ?_
  refine Test.no (by decide) ?_
  refine App.mk' (σ1 := σ) (.refl _) trivial (.inl rfl) rfl (by decide) (by decide) (by simp [strEls, pairs6]) (fun t σ1 o1 hm1 _ _ => ?_)
  refine ⟨rfl, ?_⟩
  intro b hb
  exact Ret.mk' ⟨b, t, rfl, over_put o1 (over_none o1 hb), over_none o1 hb, put_box⟩
end Go.Shadow.Lex

/- Proved: what the lexer's replacer of strings does, as a shadow contract. Conditions: texts of at most 1000000 bytes. -/
namespace Go.Shadow.Lex
open Go Go.RowKit Go.Proofs

theorem getS {l : List UInt8} {j : Nat} (h : j < l.length) : ∃ c, l[j]? = some c := ⟨l[j], by simp [h]⟩
/-- A byte as it is quoted. -/
def qOf (c : UInt8) : List UInt8 := match mJ 3 c.toNat with
  | some n => n
  | none => [c]
def quoteB (s : List UInt8) : List UInt8 := s.flatMap qOf
def isSp (c : UInt8) : Bool := (mJ 3 c.toNat).isSome
theorem mJ3_some {i : Nat} {n : List UInt8} (h : mJ 3 i = some n) : ∃ y, n = [92, y] := by
  simp only [mJ] at h
  split at h
  · injection h with h; exact ⟨_, h.symm⟩
  · split at h
    · injection h with h; exact ⟨_, h.symm⟩
    · split at h
      · injection h with h; exact ⟨_, h.symm⟩
      · cases h
theorem qOf_length (c : UInt8) : (qOf c).length = 1 + (if isSp c then 1 else 0) := by
  unfold qOf isSp
  cases h : mJ 3 c.toNat with
  | none => rfl
  | some n => obtain ⟨y, rfl⟩ := mJ3_some h; rfl
theorem quoteB_length (s : List UInt8) : (quoteB s).length = s.length + s.countP isSp := by
  induction s with
  | nil => rfl
  | cons c s ih =>
    have : quoteB (c :: s) = qOf c ++ quoteB s := rfl
    rw [this, List.length_append, ih, qOf_length, List.countP_cons, List.length_cons]
    omega
theorem quoteB_snoc (s : List UInt8) (c : UInt8) : quoteB (s ++ [c]) = quoteB s ++ qOf c := by simp [quoteB]
theorem isSp_iff (c : UInt8) : isSp c = true ↔ (c = 10 ∨ c = 92 ∨ c = 34) := by
  unfold isSp
  have e1 : c.toNat = 10 ↔ c = 10 := ⟨fun h => UInt8.toNat_inj.1 (by simpa using h), fun h => by rw [h]; rfl⟩
  have e2 : c.toNat = 92 ↔ c = 92 := ⟨fun h => UInt8.toNat_inj.1 (by simpa using h), fun h => by rw [h]; rfl⟩
  have e3 : c.toNat = 34 ↔ c = 34 := ⟨fun h => UInt8.toNat_inj.1 (by simpa using h), fun h => by rw [h]; rfl⟩
  simp only [mJ]
  by_cases h1 : c.toNat = 10
  · simp [h1, e1.1 h1]
  · by_cases h2 : c.toNat = 92
    · simp [h2, e2.1 h2]
    · by_cases h3 : c.toNat = 34
      · simp [h3, e3.1 h3]
      · simp [h1, h2, h3, ← e1, ← e2, ← e3]
theorem quoteB_none {s : List UInt8} (h : s.countP isSp = 0) : quoteB s = s := by
  induction s with
  | nil => rfl
  | cons c s ih =>
    rw [List.countP_cons] at h
    have hc : isSp c = false := by cases hc : isSp c with | false => rfl | true => rw [hc] at h; simp at h
    have : quoteB (c :: s) = qOf c ++ quoteB s := rfl
    rw [this, ih (by omega)]
    unfold isSp at hc
    unfold qOf
    cases hm : mJ 3 c.toNat with
    | none => rfl
    | some n => rw [hm] at hc; cases hc
theorem sp_sum (s : List UInt8) : s.countP isSp = s.count 10 + s.count 92 + s.count 34 := by
  induction s with
  | nil => rfl
  | cons c s ih =>
    rw [List.countP_cons, List.count_cons, List.count_cons, List.count_cons, ih]
    by_cases h1 : c = 10
    · subst h1; simp [(isSp_iff 10).2 (.inl rfl)]; omega
    · by_cases h2 : c = 92
      · subst h2; simp [(isSp_iff 92).2 (.inr (.inl rfl))]; omega
      · by_cases h3 : c = 34
        · subst h3; simp [(isSp_iff 34).2 (.inr (.inr rfl))]; omega
        · have : isSp c = false := by
            cases hc : isSp c with
            | false => rfl
            | true => have := (isSp_iff c).1 hc; simp [h1, h2, h3] at this
          simp [this, h1, h2, h3]

theorem countS_ret (s : List UInt8) (c : UInt8) : SRet Tryz.prog LG 213 [.str s, .int .u8 c.toNat] (.int .i64 (s.count c)) := by
  intro σ w0 γ w xs hI hRL
  obtain ⟨x, y, rfl, hx, hy⟩ := hRL.inv2
  obtain rfl := hx.inv_str
  obtain rfl := hy.inv_int
  refine .inr ⟨_, w, ?_, γ, σ, .refl _ _ _, hI, .int .i64 (s.count c), _, .int _ _, .inl ⟨rfl, rfl, rfl⟩⟩
  rw [run_callFunc_extern Tryz.func213 (by kernel_rfl) (by kernel_rfl) (by kernel_rfl) (e := Extern.BytealgCount.count) (by kernel_rfl), Lib.run_countString]
  simp [Result.andThen, Lib.countByte]
theorem count_ret (s : List UInt8) (c : UInt8) : SRet Tryz.prog LG 211 [.str s, .str [c]] (.int .i64 (s.count c)) := by
  intro σ
  refine code211.call hm (by simp) ?_
  refine Test.no (by simp) ?_
  refine Test.yes (by simp) ?_
  refine Idx.mk' 0 c rfl rfl ?_
  refine CallK.pure (countS_ret s c) ?_
  exact Ret.mk' ⟨rfl, rfl⟩

def TAB (t : Nat) : List V := tabOf (mJ 3) 256 ++ [.slice (.tip t) 1 (strEls (reps 3))]
theorem TAB_none {t : Nat} {c : UInt8} (h : mJ 3 c.toNat = none) : (TAB t)[0 + ((c.toNat : Nat) : Int).toNat * 1]? = some (.slice .nil 0 []) := by
  have hc := c.toNat_lt
  rw [show 0 + ((c.toNat : Nat) : Int).toNat * 1 = c.toNat by simp]
  rw [TAB, tab_get (by omega)]
  simp [cellOf, h]
theorem TAB_some {t : Nat} {c y : UInt8} (h : mJ 3 c.toNat = some [92, y]) : (TAB t)[0 + ((c.toNat : Nat) : Int).toNat * 1]? = some (.slice .foreign 1 (byteEls [92, y])) := by
  have hc := c.toNat_lt
  rw [show 0 + ((c.toNat : Nat) : Int).toNat * 1 = c.toNat by simp]
  rw [TAB, tab_get (by omega)]
  simp [cellOf, h]
theorem TAB_last {t : Nat} : (TAB t)[256]? = some (.slice (.tip t) 1 (strEls (reps 3))) := tab_last
def bytesV (l : List UInt8) : List V := l.map fun b => V.int .u8 b.toNat
theorem bytesV_els (l : List UInt8) : (bytesV l).map ([·]) = byteEls l := by simp [bytesV, byteEls]
theorem bytesV_append (a b : List UInt8) : bytesV (a ++ b) = bytesV a ++ bytesV b := by simp [bytesV]
theorem zeros_flat (n : Nat) : (List.replicate n [V.int .u8 0]).flatten = List.replicate n (V.int .u8 0) := by
  induction n with
  | zero => rfl
  | succ n ih => rw [List.replicate_succ, List.flatten_cons, ih]; rfl
theorem buf_set (q x : List UInt8) (n : Nat) (h : x.length ≤ n) : setL (bytesV q ++ List.replicate n (V.int .u8 0)) q.length (bytesV x) = bytesV (q ++ x) ++ List.replicate (n - x.length) (V.int .u8 0) := by
  have := setL_mid (bytesV q) (List.replicate x.length (V.int .u8 0)) (List.replicate (n - x.length) (V.int .u8 0)) (bytesV x) (by simp [bytesV])
  rw [show (bytesV q).length = q.length by simp [bytesV]] at this
  rw [bytesV_append, ← this, List.append_assoc, List.replicate_append_replicate]
  congr 3
  omega

def cnt (s : List UInt8) : Nat → Nat
  | 0 => 0
  | 1 => s.count 10
  | 2 => s.count 10 + s.count 92
  | _ => s.count 10 + s.count 92 + s.count 34

set_option maxHeartbeats 16000000 in
theorem replace153 {σ : St} {b2 t : Nat} (s : List UInt8) (hs : s.length ≤ 1000000) (hb : σ.box b2 = some (TAB t)) : SCall Tryz.prog LG 209 [.loc b2 0, .str s] σ fun e σ' => e = .ret (.str (quoteB s)) ∧ Over σ σ' := by
  have hql := quoteB_length s
  have hcl : s.countP isSp ≤ s.length := List.countP_le_length
  refine code209.call hm (by simp) ?_
  refine Load.one hb TAB_last ?_
  refine Arith.i64 24 (by decide) (by decide) ?_
  refine Test.split (fun h1 => ?_) (fun h1 => ?_)
  · refine Load.one hb TAB_last ?_
    refine ⟨fun m sl σ' => σ' = σ ∧ ∃ j : Nat, j ≤ 3 ∧ sl = ofL [(0, some (.loc b2 0)), (1, some (.str s)), (5, some (.int .i64 (s.length + cnt s j : Nat))), (6, some (.bool (decide (0 < cnt s j)))), (30, some (.slice (.tip t) 1 (strEls (reps 3)))), (31, some (.int .i64 3)), (32, some (.int .i64 j))] ∧ m = 3 - j, 3, ⟨rfl, 0, by omega, rfl, rfl⟩, ?_⟩
    rintro m sl σ' ⟨rfl, j, hj, rfl, rfl⟩
    have hc1 : s.count 10 ≤ s.length := List.count_le_length
    have hc2 : s.count 92 ≤ s.length := List.count_le_length
    have hc3 : s.count 34 ≤ s.length := List.count_le_length
    obtain rfl | rfl | rfl | rfl : j = 0 ∨ j = 1 ∨ j = 2 ∨ j = 3 := by omega
    · refine Test.yes (by decide) ?_
      refine Sure.mk' (.inl rfl) ?_
      refine IdxE.mk' 0 [.str [10]] rfl rfl ?_
      refine ⟨⟨Nat.le_of_ble_eq_true rfl, ?_⟩⟩
      refine CallK.pure (count_ret s 10) ?_
      have hcj : cnt s 1 = cnt s 0 + s.count 10 := by simp [cnt]
      refine Test.split (fun h2 => ?_) (fun h2 => ?_)
      · refine Idx.mk' 0 10 rfl rfl ?_
        refine Sure.mk' (by decide) ?_
        refine Load.one hb (TAB_some (c := 10) rfl) ?_
        refine Arith.i64 1 rfl (by decide) ?_
        refine Arith.i64 ((s.count 10 : Nat) : Int) (by simp) (by omega) ?_
        refine Arith.i64 ((s.length + cnt s 1 : Nat) : Int) (by simp [cnt] <;> omega) (by simp only [cnt]; omega) ?_
        refine Arith.i64 ((1 : Nat) : Int) (by decide) (by decide) ?_
        exact ⟨_, _, by omega, Forget.refl _, rfl, 1, by omega, by rw [decide_eq_true (show 0 < cnt s 1 by omega)]; rfl, rfl⟩
      · refine Arith.i64 ((1 : Nat) : Int) (by decide) (by decide) ?_
        exact ⟨_, _, by omega, Forget.refl _, rfl, 1, by omega, by rw [hcj, show s.count 10 = 0 by omega]; rfl, rfl⟩
    · refine Test.yes (by decide) ?_
      refine Sure.mk' (.inl rfl) ?_
      refine IdxE.mk' 1 [.str [92]] rfl rfl ?_
      refine ⟨⟨Nat.le_of_ble_eq_true rfl, ?_⟩⟩
      refine CallK.pure (count_ret s 92) ?_
      have hcj : cnt s 2 = cnt s 1 + s.count 92 := by simp [cnt]
      refine Test.split (fun h2 => ?_) (fun h2 => ?_)
      · refine Idx.mk' 0 92 rfl rfl ?_
        refine Sure.mk' (by decide) ?_
        refine Load.one hb (TAB_some (c := 92) rfl) ?_
        refine Arith.i64 1 rfl (by decide) ?_
        refine Arith.i64 ((s.count 92 : Nat) : Int) (by simp) (by omega) ?_
        refine Arith.i64 ((s.length + cnt s 2 : Nat) : Int) (by simp [cnt] <;> omega) (by simp only [cnt]; omega) ?_
        refine Arith.i64 ((2 : Nat) : Int) (by decide) (by decide) ?_
        exact ⟨_, _, by omega, Forget.refl _, rfl, 2, by omega, by rw [decide_eq_true (show 0 < cnt s 2 by omega)]; rfl, rfl⟩
      · refine Arith.i64 ((2 : Nat) : Int) (by decide) (by decide) ?_
        exact ⟨_, _, by omega, Forget.refl _, rfl, 2, by omega, by rw [hcj, show s.count 92 = 0 by omega]; rfl, rfl⟩
    · refine Test.yes (by decide) ?_
      refine Sure.mk' (.inl rfl) ?_
      refine IdxE.mk' 2 [.str [34]] rfl rfl ?_
      refine ⟨⟨Nat.le_of_ble_eq_true rfl, ?_⟩⟩
      refine CallK.pure (count_ret s 34) ?_
      have hcj : cnt s 3 = cnt s 2 + s.count 34 := by simp [cnt]
      refine Test.split (fun h2 => ?_) (fun h2 => ?_)
      · refine Idx.mk' 0 34 rfl rfl ?_
        refine Sure.mk' (by decide) ?_
        refine Load.one hb (TAB_some (c := 34) rfl) ?_
        refine Arith.i64 1 rfl (by decide) ?_
        refine Arith.i64 ((s.count 34 : Nat) : Int) (by simp) (by omega) ?_
        refine Arith.i64 ((s.length + cnt s 3 : Nat) : Int) (by simp [cnt] <;> omega) (by simp only [cnt]; omega) ?_
        refine Arith.i64 ((3 : Nat) : Int) (by decide) (by decide) ?_
        exact ⟨_, _, by omega, Forget.refl _, rfl, 3, by omega, by rw [decide_eq_true (show 0 < cnt s 3 by omega)]; rfl, rfl⟩
      · refine Arith.i64 ((3 : Nat) : Int) (by decide) (by decide) ?_
        exact ⟨_, _, by omega, Forget.refl _, rfl, 3, by omega, by rw [hcj, show s.count 34 = 0 by omega]; rfl, rfl⟩
    · refine Test.no (by decide) ?_
      rw [show cnt s 3 = s.countP isSp from (sp_sum s).symm]
      by_cases h0 : 0 < s.countP isSp
      · rw [decide_eq_true h0]
        refine MkSl.full (s.length + s.countP isSp) rfl (by omega) (by omega) (by omega) ?_
        intro bb hbb
        obtain ⟨o1, g1⟩ := new_box hbb (List.replicate (s.length + s.countP isSp) [V.int .u8 0]).flatten
        generalize σ'.put bb (List.replicate (s.length + s.countP isSp) [V.int .u8 0]).flatten = σ1 at *
        rw [zeros_flat] at g1
        refine ⟨fun m sl σ2 => ∃ i : Nat, i ≤ s.length ∧ sl = ofL [(0, some (.loc b2 0)), (1, some (.str s)), (12, some (.mslice bb 0 (s.length + s.countP isSp) (s.length + s.countP isSp))), (13, some (.int .i64 (quoteB (s.take i)).length)), (14, some (.int .i64 i))] ∧
            Over σ' σ2 ∧ σ2.box bb = some (bytesV (quoteB (s.take i)) ++ List.replicate (s.length + s.countP isSp - (quoteB (s.take i)).length) (V.int .u8 0)) ∧ m = s.length - i, _, ⟨0, by omega, rfl, o1, by simpa [quoteB, bytesV] using g1, rfl⟩, ?_⟩
        rintro m sl σ2 ⟨i, hi, rfl, o2, g2, rfl⟩
        have hb2 := o2.box _ _ hb
        refine Test.split (fun h5 => ?_) (fun h5 => ?_)
        · obtain ⟨c, hc⟩ := getS (l := s) (j := i) (by omega)
          have hcl2 := c.toNat_lt
          have htk : s.take (i + 1) = s.take i ++ [c] := by rw [List.take_add_one, hc]; rfl
          have hq2 : quoteB (s.take (i + 1)) = quoteB (s.take i) ++ qOf c := by rw [htk, quoteB_snoc]
          have hle : (quoteB (s.take (i + 1))).length ≤ s.length + s.countP isSp := by
            rw [quoteB_length]
            have h7 : (s.take (i + 1)).countP isSp ≤ s.countP isSp := (List.take_sublist _ _).countP_le
            have h8 : (s.take (i + 1)).length ≤ s.length := by simp; omega
            omega
          generalize hq : quoteB (s.take i) = q at *
          rw [hq2, List.length_append] at hle
          refine Idx.mk' i c rfl hc ?_
          refine Sure.mk' (by omega) ?_
          cases hm' : mJ 3 c.toNat with
          | none =>
            have hqc : qOf c = [c] := by unfold qOf; rw [hm']
            rw [hqc] at hq2 hle
            simp only [List.length_cons, List.length_nil] at hle
            refine Load.one hb2 (TAB_none hm') ?_
            refine Sure.mk' (by omega) ?_
            refine Sure.mk' rfl ?_
            refine Store.mk' (bytesV (q ++ [c]) ++ List.replicate (s.length + s.countP isSp - (q ++ [c]).length) (V.int .u8 0)) g2 (by simp [bytesV, V.cells]; omega) ?_ (fun σ3 e3 => ?_)
            · rw [show 0 + ((q.length : Nat) : Int).toNat * 1 = q.length by simp]
              have := buf_set q [c] (s.length + s.countP isSp - q.length) (by simp; omega)
              rw [show s.length + s.countP isSp - (q ++ [c]).length = s.length + s.countP isSp - q.length - [c].length by simp; omega]
              exact this
            · have o3 : Over σ' σ3 := by rw [e3]; exact over_put o2 hbb
              have g3 : σ3.box bb = some (bytesV (q ++ [c]) ++ List.replicate (s.length + s.countP isSp - (q ++ [c]).length) (V.int .u8 0)) := by rw [e3]; exact put_box
              refine Arith.i64 (((q ++ [c]).length : Nat) : Int) (by simp) (by simp; omega) ?_
              refine Arith.i64 ((i + 1 : Nat) : Int) (by simp) (by omega) ?_
              exact ⟨_, _, by omega, Forget.refl _, i + 1, by omega, by rw [hq2]; rfl, o3, by rw [hq2]; exact g3, rfl⟩
          | some n =>
            obtain ⟨y, rfl⟩ := mJ3_some hm'
            have hqc : qOf c = [92, y] := by unfold qOf; rw [hm']
            rw [hqc] at hq2 hle
            simp only [List.length_cons, List.length_nil] at hle
            refine Load.one hb2 (TAB_some hm') ?_
            refine Sure.mk' (by omega) ?_
            refine Sure.mk' (by omega) ?_
            refine Load.one hb2 (TAB_some hm') ?_
            refine CopyK.mk' (bytesV (q ++ [92, y]) ++ List.replicate (s.length + s.countP isSp - (q ++ [92, y]).length) (V.int .u8 0)) g2 rfl (by simp [bytesV] <;> omega) (by simp [byteEls] <;> omega) (by simp [byteEls]) ?_ (fun σ3 e3 => ?_)
            · rw [show 0 + ((q.length : Nat) : Int).toNat * 1 = q.length by simp]
              have := buf_set q [92, y] (s.length + s.countP isSp - q.length) (by simp; omega)
              rw [show s.length + s.countP isSp - (q ++ [92, y]).length = s.length + s.countP isSp - q.length - [92, y].length by simp; omega]
              exact this
            · have o3 : Over σ' σ3 := by rw [e3]; exact over_put o2 hbb
              have g3 : σ3.box bb = some (bytesV (q ++ [92, y]) ++ List.replicate (s.length + s.countP isSp - (q ++ [92, y]).length) (V.int .u8 0)) := by rw [e3]; exact put_box
              refine Arith.i64 (((q ++ [92, y]).length : Nat) : Int) (by simp [byteEls]) (by simp; omega) ?_
              refine Arith.i64 ((i + 1 : Nat) : Int) (by simp) (by omega) ?_
              exact ⟨_, _, by omega, Forget.refl _, i + 1, by omega, by rw [hq2]; rfl, o3, by rw [hq2]; exact g3, rfl⟩
        · have hi' : i = s.length := by omega
          subst hi'
          rw [List.take_length, hql, Nat.sub_self, List.replicate_zero, List.append_nil] at g2
          have hbl : (bytesV (quoteB s)).length = s.length + s.countP isSp := by simp [bytesV, hql]
          refine Load.mk' g2 (by omega) ?_
          rw [List.drop_zero, List.take_of_length_le (by omega)]
          show B2S ((bytesV (quoteB s)).map ([·])) _
          rw [bytesV_els]
          refine B2S.mk' ?_
          exact Ret.mk' ⟨rfl, o2⟩
      · rw [decide_eq_false h0]
        exact Ret.mk' ⟨by rw [quoteB_none (by omega)], .refl _⟩
  · refine ⟨fun m sl σ' => σ' = σ ∧ ∃ i : Nat, i ≤ s.length ∧ sl = ofL [(0, some (.loc b2 0)), (1, some (.str s)), (5, some (.int .i64 (s.length + (s.take i).countP isSp : Nat))), (6, some (.bool (decide (0 < (s.take i).countP isSp)))), (10, some (.int .i64 i))] ∧ m = s.length - i, _, ⟨rfl, 0, by omega, rfl, rfl⟩, ?_⟩
    rintro m sl σ' ⟨rfl, i, hi, rfl, rfl⟩
    refine Test.split (fun h5 => ?_) (fun h5 => ?_)
    · obtain ⟨c, hc⟩ := getS (l := s) (j := i) (by omega)
      have hcl2 := c.toNat_lt
      have htk : s.take (i + 1) = s.take i ++ [c] := by rw [List.take_add_one, hc]; rfl
      have hct : (s.take (i + 1)).countP isSp = (s.take i).countP isSp + (if isSp c then 1 else 0) := by rw [htk, List.countP_append, List.countP_singleton]
      have h7 : (s.take i).countP isSp ≤ s.countP isSp := (List.take_sublist _ _).countP_le
      refine Idx.mk' i c rfl hc ?_
      refine Sure.mk' (by omega) ?_
      cases hm' : mJ 3 c.toNat with
      | none =>
        have hsp : isSp c = false := by unfold isSp; rw [hm']; rfl
        rw [hsp] at hct
        refine Load.one hb (TAB_none hm') ?_
        refine Arith.i64 ((i + 1 : Nat) : Int) (by simp) (by omega) ?_
        exact ⟨_, _, by omega, Forget.refl _, rfl, i + 1, by omega, by rw [hct]; rfl, rfl⟩
      | some n =>
        obtain ⟨y, rfl⟩ := mJ3_some hm'
        have hsp : isSp c = true := by unfold isSp; rw [hm']; rfl
        rw [hsp] at hct
        simp only [if_true] at hct
        refine Load.one hb (TAB_some hm') ?_
        refine Sure.mk' (by omega) ?_
        refine Load.one hb (TAB_some hm') ?_
        refine Arith.i64 1 rfl (by decide) ?_
        refine Arith.i64 ((s.length + (s.take (i + 1)).countP isSp : Nat) : Int) (by rw [hct]; simp <;> omega) (by omega) ?_
        refine Arith.i64 ((i + 1 : Nat) : Int) (by simp) (by omega) ?_
        exact ⟨_, _, by omega, Forget.refl _, rfl, i + 1, by omega, by rw [decide_eq_true (show 0 < (s.take (i + 1)).countP isSp by omega)]; rfl, rfl⟩
    · rw [show s.take i = s from List.take_of_length_le (by omega)]
      by_cases h0 : 0 < s.countP isSp
      · rw [decide_eq_true h0]
        refine MkSl.full (s.length + s.countP isSp) rfl (by omega) (by omega) (by omega) ?_
        intro bb hbb
        obtain ⟨o1, g1⟩ := new_box hbb (List.replicate (s.length + s.countP isSp) [V.int .u8 0]).flatten
        generalize σ'.put bb (List.replicate (s.length + s.countP isSp) [V.int .u8 0]).flatten = σ1 at *
        rw [zeros_flat] at g1
        refine ⟨fun m sl σ2 => ∃ i : Nat, i ≤ s.length ∧ sl = ofL [(0, some (.loc b2 0)), (1, some (.str s)), (12, some (.mslice bb 0 (s.length + s.countP isSp) (s.length + s.countP isSp))), (13, some (.int .i64 (quoteB (s.take i)).length)), (14, some (.int .i64 i))] ∧
            Over σ' σ2 ∧ σ2.box bb = some (bytesV (quoteB (s.take i)) ++ List.replicate (s.length + s.countP isSp - (quoteB (s.take i)).length) (V.int .u8 0)) ∧ m = s.length - i, _, ⟨0, by omega, rfl, o1, by simpa [quoteB, bytesV] using g1, rfl⟩, ?_⟩
        rintro m sl σ2 ⟨i, hi, rfl, o2, g2, rfl⟩
        have hb2 := o2.box _ _ hb
        refine Test.split (fun h5 => ?_) (fun h5 => ?_)
        · obtain ⟨c, hc⟩ := getS (l := s) (j := i) (by omega)
          have hcl2 := c.toNat_lt
          have htk : s.take (i + 1) = s.take i ++ [c] := by rw [List.take_add_one, hc]; rfl
          have hq2 : quoteB (s.take (i + 1)) = quoteB (s.take i) ++ qOf c := by rw [htk, quoteB_snoc]
          have hle : (quoteB (s.take (i + 1))).length ≤ s.length + s.countP isSp := by
            rw [quoteB_length]
            have h7 : (s.take (i + 1)).countP isSp ≤ s.countP isSp := (List.take_sublist _ _).countP_le
            have h8 : (s.take (i + 1)).length ≤ s.length := by simp; omega
            omega
          generalize hq : quoteB (s.take i) = q at *
          rw [hq2, List.length_append] at hle
          refine Idx.mk' i c rfl hc ?_
          refine Sure.mk' (by omega) ?_
          cases hm' : mJ 3 c.toNat with
          | none =>
            have hqc : qOf c = [c] := by unfold qOf; rw [hm']
            rw [hqc] at hq2 hle
            simp only [List.length_cons, List.length_nil] at hle
            refine Load.one hb2 (TAB_none hm') ?_
            refine Sure.mk' (by omega) ?_
            refine Sure.mk' rfl ?_
            refine Store.mk' (bytesV (q ++ [c]) ++ List.replicate (s.length + s.countP isSp - (q ++ [c]).length) (V.int .u8 0)) g2 (by simp [bytesV, V.cells]; omega) ?_ (fun σ3 e3 => ?_)
            · rw [show 0 + ((q.length : Nat) : Int).toNat * 1 = q.length by simp]
              have := buf_set q [c] (s.length + s.countP isSp - q.length) (by simp; omega)
              rw [show s.length + s.countP isSp - (q ++ [c]).length = s.length + s.countP isSp - q.length - [c].length by simp; omega]
              exact this
            · have o3 : Over σ' σ3 := by rw [e3]; exact over_put o2 hbb
              have g3 : σ3.box bb = some (bytesV (q ++ [c]) ++ List.replicate (s.length + s.countP isSp - (q ++ [c]).length) (V.int .u8 0)) := by rw [e3]; exact put_box
              refine Arith.i64 (((q ++ [c]).length : Nat) : Int) (by simp) (by simp; omega) ?_
              refine Arith.i64 ((i + 1 : Nat) : Int) (by simp) (by omega) ?_
              exact ⟨_, _, by omega, Forget.refl _, i + 1, by omega, by rw [hq2]; rfl, o3, by rw [hq2]; exact g3, rfl⟩
          | some n =>
            obtain ⟨y, rfl⟩ := mJ3_some hm'
            have hqc : qOf c = [92, y] := by unfold qOf; rw [hm']
            rw [hqc] at hq2 hle
            simp only [List.length_cons, List.length_nil] at hle
            refine Load.one hb2 (TAB_some hm') ?_
            refine Sure.mk' (by omega) ?_
            refine Sure.mk' (by omega) ?_
            refine Load.one hb2 (TAB_some hm') ?_
            refine CopyK.mk' (bytesV (q ++ [92, y]) ++ List.replicate (s.length + s.countP isSp - (q ++ [92, y]).length) (V.int .u8 0)) g2 rfl (by simp [bytesV] <;> omega) (by simp [byteEls] <;> omega) (by simp [byteEls]) ?_ (fun σ3 e3 => ?_)
            · rw [show 0 + ((q.length : Nat) : Int).toNat * 1 = q.length by simp]
              have := buf_set q [92, y] (s.length + s.countP isSp - q.length) (by simp; omega)
              rw [show s.length + s.countP isSp - (q ++ [92, y]).length = s.length + s.countP isSp - q.length - [92, y].length by simp; omega]
              exact this
            · have o3 : Over σ' σ3 := by rw [e3]; exact over_put o2 hbb
              have g3 : σ3.box bb = some (bytesV (q ++ [92, y]) ++ List.replicate (s.length + s.countP isSp - (q ++ [92, y]).length) (V.int .u8 0)) := by rw [e3]; exact put_box
              refine Arith.i64 (((q ++ [92, y]).length : Nat) : Int) (by simp [byteEls]) (by simp; omega) ?_
              refine Arith.i64 ((i + 1 : Nat) : Int) (by simp) (by omega) ?_
              exact ⟨_, _, by omega, Forget.refl _, i + 1, by omega, by rw [hq2]; rfl, o3, by rw [hq2]; exact g3, rfl⟩
        · have hi' : i = s.length := by omega
          subst hi'
          rw [List.take_length, hql, Nat.sub_self, List.replicate_zero, List.append_nil] at g2
          have hbl : (bytesV (quoteB s)).length = s.length + s.countP isSp := by simp [bytesV, hql]
          refine Load.mk' g2 (by omega) ?_
          rw [List.drop_zero, List.take_of_length_le (by omega)]
          show B2S ((bytesV (quoteB s)).map ([·])) _
          rw [bytesV_els]
          refine B2S.mk' ?_
          exact Ret.mk' ⟨rfl, o2⟩
      · rw [decide_eq_false h0]
        exact Ret.mk' ⟨by rw [quoteB_none (by omega)], .refl _⟩

theorem replace_call {σ0 σ : St} {b : Nat} {t : Nat} (s : List UInt8) (hs : s.length ≤ 1000000) (o : Over σ0 σ) (hf : σ0.box b = none) (hb : σ.box b = some [.int .u32 0, .int .i32 0, .int .u32 0, .nilIface, .slice (.tip t) 1 (strEls pairs6)]) :
    SCall Tryz.prog LG 66 [.loc b 0, .str s] σ fun e σ' => e = .ret (.str (quoteB s)) ∧ Over σ0 σ' := by
  refine code66.call hm (by simp) ?_
  refine CallK.mk' (do_call43 o hf hb) ?_
  rintro e σ1 ⟨rfl, b2, t', o1, h2, g2, x0, x1, x, gb⟩
  refine Load.mk' gb (Nat.le_of_ble_eq_true rfl) ?_
  refine CallK.mk' (replace153 s hs g2) ?_
  rintro e σ2 ⟨rfl, o2⟩
  exact Ret.mk' ⟨rfl, over_trans o1 o2⟩
end Go.Shadow.Lex

/- Proved: what the lexer's Text does, as a shadow contract. Conditions: the lists' and texts' sizes, as the theorem says. -/
namespace Go.Shadow.Lex
open Go Go.RowKit Go.Proofs

/-- The word of a token. -/
def wordT (t : Tok) : Option (List UInt8) := if t.kind = 1 ∨ t.kind = 4 then some t.s else if t.kind = 2 then some (Lib.itoa t.n) else if t.kind = 3 then some ([34] ++ quoteB t.s ++ [34]) else none

set_option maxHeartbeats 4000000 in
theorem text_ret (tag : Tag) (ts : List Tok) (h3 : ∀ t ∈ ts, t.s.length ≤ 1000000) (hn : ∀ t ∈ ts, -9223372036854775808 ≤ t.n ∧ t.n ≤ 9223372036854775807) (hl : ts.length ≤ 100000) (hj : (Lib.join (ts.filterMap wordT) [32]).length ≤ 140737488355328) :
    SRet Tryz.prog LG 37 [.slice tag 4 (ts.map tokV)] (.str (Lib.join (ts.filterMap wordT) [32])) := by
  intro σ
  refine code37.call hm (by simp) ?_
  have hlen : (ts.map tokV).length = ts.length := by simp
  refine ⟨fun m sl σ' => ∃ (i : Nat) (ws : List (List UInt8)) (tag' : Tag) (z : Nat), sl = ofL [(3, some (.slice tag' z (strEls ws))), (6, some (.slice tag 4 (ts.map tokV))), (7, some (.int .i64 (ts.map tokV).length)), (8, some (.int .i64 i))] ∧
      Over σ σ' ∧ Mine σ σ' tag' ∧ (tag' = .nil ∨ z = 1) ∧ i ≤ ts.length ∧ ws.length ≤ i ∧ ws ++ (ts.drop i).filterMap wordT = ts.filterMap wordT ∧ m = ts.length - i, _,
      ⟨0, [], .nil, 0, rfl, .refl _, trivial, .inl rfl, by omega, by simp, by simp, rfl⟩, ?_⟩
  rintro m sl σ' ⟨i, ws, tag', z, rfl, ho, hm2, hz, hi, hws, heq, rfl⟩
  have hwl : (strEls ws).length = ws.length := by simp [strEls]
  refine Test.split (fun h => ?_) (fun h => ?_)
  · rw [hlen] at h
    obtain ⟨t, ht⟩ : ∃ t, ts[i]? = some t := ⟨ts[i]'(by omega), by simp [show i < ts.length by omega]⟩
    have htm : t ∈ ts := List.mem_of_getElem? ht
    have hdrop : ts.drop i = t :: ts.drop (i + 1) := by
      obtain ⟨h1, h2⟩ := List.getElem?_eq_some_iff.1 ht
      rw [List.drop_eq_getElem_cons h1, h2]
    have hnext : ∀ (b : Nat) (σ2 : St), Over σ σ2 → ∀ (tag2 : Tag) (z2 : Nat) (ws2 : List (List UInt8)), Mine σ σ2 tag2 → (tag2 = .nil ∨ z2 = 1) → ws2 = ws ++ (wordT t).toList → ∃ m σ3, m < ts.length - i ∧ Forget σ2 σ3 ∧
        ∃ (i' : Nat) (ws' : List (List UInt8)) (tag' : Tag) (z : Nat), ofL [(3, some (.slice tag2 z2 (strEls ws2))), (6, some (.slice tag 4 (ts.map tokV))), (7, some (.int .i64 (ts.map tokV).length)), (8, some (.int .i64 (i + 1 : Nat)))] = ofL [(3, some (.slice tag' z (strEls ws'))), (6, some (.slice tag 4 (ts.map tokV))), (7, some (.int .i64 (ts.map tokV).length)), (8, some (.int .i64 i'))] ∧
      Over σ σ3 ∧ Mine σ σ3 tag' ∧ (tag' = .nil ∨ z = 1) ∧ i' ≤ ts.length ∧ ws'.length ≤ i' ∧ ws' ++ (ts.drop i').filterMap wordT = ts.filterMap wordT ∧ m = ts.length - i' := by
      intro b σ2 ho2 tag2 z2 ws2 hm3 hz3 hw2
      refine ⟨_, _, ?_, Forget.refl _, i + 1, ws2, tag2, z2, rfl, ho2, hm3, hz3, by omega, ?_, ?_, rfl⟩
      · omega
      · rw [hw2]; cases wordT t <;> simp <;> omega
      · rw [hw2, ← heq, hdrop, List.filterMap_cons]; cases wordT t <;> simp
    refine Sure.mk' (.inl rfl) ?_
    refine IdxE.mk' i (tokV t) rfl (by simp [ht]) ?_
    refine ⟨⟨by simp [tokV], ?_⟩⟩
    intro b hb
    refine Sure.mk' rfl ?_
    refine Store.mk' (tokV t) put_box (Nat.le_of_ble_eq_true rfl) rfl (fun σ2 h2 => ?_)
    rw [put_put] at h2
    have hb2 : σ2.box b = some (tokV t) := by rw [h2]; exact put_box
    have ho2 : Over σ σ2 := by
      rw [h2]
      refine over_put ho ?_
      cases hbb : σ.box b with
      | none => rfl
      | some cs => rw [ho.box b cs hbb] at hb; cases hb
    have hm3 : Mine σ σ2 tag' := by rw [h2]; exact hm2
    have happ : ∀ (x : List UInt8) (K : V → St → Prop), (∀ (t' : Nat) (σ4 : St), Over σ σ4 → Mine σ σ4 (.tip t') → K (.slice (.tip t') 1 (strEls (ws ++ [x]))) σ4) → App 1 16 tag' z (strEls ws) 1 [[V.str x]] σ2 K := by
      intro x K hk
      refine App.mk' ho2 hm3 hz rfl (by simp [hwl]; omega) (by simp [hwl]; omega) (by simp) (fun t' σ4 h4 h5 _ _ => ?_)
      have := hk t' σ4 h4 h5
      simpa [strEls] using this
    refine Load.mk' hb2 (by simp [tokV]) ?_
    have hsome : ∀ x, wordT t = some x → ws ++ [x] = ws ++ (wordT t).toList := fun x hx => by rw [hx]; rfl
    refine Test.split (fun h1 => ?_) (fun h1 => ?_)
    · refine Load.mk' hb2 (by simp [tokV]) ?_
      refine happ t.s _ (fun t' σ4 h4 h5 => ?_)
      refine Arith.i64 ((i + 1 : Nat) : Int) (by simp) (by omega) ?_
      exact hnext b σ4 h4 (.tip t') 1 _ h5 (.inr rfl) (hsome _ (by unfold wordT; rw [if_pos (.inl h1)]))
    · refine Test.split (fun h4 => ?_) (fun h4 => ?_)
      · refine Load.mk' hb2 (by simp [tokV]) ?_
        refine happ t.s _ (fun t' σ4 h5 h6 => ?_)
        refine Arith.i64 ((i + 1 : Nat) : Int) (by simp) (by omega) ?_
        exact hnext b σ4 h5 (.tip t') 1 _ h6 (.inr rfl) (hsome _ (by unfold wordT; rw [if_pos (.inr h4)]))
      · refine Test.split (fun h2' => ?_) (fun h2' => ?_)
        · refine Load.mk' hb2 (by simp [tokV]) ?_
          refine CallK.pure (itoa_ret _ (hn t htm)) ?_
          refine happ (Lib.itoa t.n) _ (fun t' σ4 h5 h6 => ?_)
          refine Arith.i64 ((i + 1 : Nat) : Int) (by simp) (by omega) ?_
          exact hnext b σ4 h5 (.tip t') 1 _ h6 (.inr rfl) (hsome _ (by unfold wordT; rw [if_neg (by omega), if_pos h2']))
        · refine Test.split (fun h4' => ?_) (fun h4' => ?_)
          · have h3t := h3 t htm
            have hql : (quoteB t.s).length ≤ 2000000 := by
              have := quoteB_length t.s
              have : t.s.countP isSp ≤ t.s.length := List.countP_le_length
              omega
            refine Sure.mk' rfl ?_
            refine Load.mk' hb2 (by simp [tokV]) ?_
            refine CallK.mk' (newReplacer_call σ2) ?_
            rintro e σ3 ⟨b', t', rfl, o3, hn', g3⟩
            refine Kept1.mk' (fun cs h => o3.box _ cs h) ?_
            refine CallK.mk' (replace_call t.s h3t o3 hn' g3) ?_
            rintro e σ4 ⟨rfl, o4⟩
            refine Sure.mk' (by simp; omega) ?_
            refine Sure.mk' (by simp; omega) ?_
            refine App.mk' (over_trans ho2 o4) (hm3.over o4) hz rfl (by simp [hwl]; omega) (by simp [hwl]; omega) (by simp) (fun t' σ5 h5 h6 _ _ => ?_)
            refine Arith.i64 ((i + 1 : Nat) : Int) (by simp) (by omega) ?_
            have e1 : strEls ws ++ [[V.str ([34] ++ quoteB t.s ++ [34])]] = strEls (ws ++ [[34] ++ quoteB t.s ++ [34]]) := by simp [strEls]
            have := hnext b σ5 h5 (.tip t') 1 _ h6 (.inr rfl) (hsome ([34] ++ quoteB t.s ++ [34]) (by unfold wordT; rw [if_neg (by omega), if_neg h2', if_pos h4']))
            rw [← e1] at this
            exact this
          · refine Arith.i64 ((i + 1 : Nat) : Int) (by simp) (by omega) ?_
            exact hnext b σ2 ho2 tag' z ws hm3 hz (by unfold wordT; rw [if_neg (by omega), if_neg h2', if_neg h4']; simp)
  · rw [hlen] at h
    have hd : ts.drop i = [] := List.drop_eq_nil_of_le (by omega)
    rw [hd] at heq
    simp only [List.filterMap_nil, List.append_nil] at heq
    rw [← heq] at hj ⊢
    refine CallK.mk' (join_call tag' ws [32] (by omega) hj z σ') ?_
    rintro e σ4 ⟨rfl, rfl⟩
    exact Ret.weak (.refl _) ho ⟨rfl, rfl⟩
end Go.Shadow.Lex

/- Proved: what PrintExpr returns. Conditions: sizes, as the theorem says. -/
namespace Go.Shadow.Lex
open Go Go.RowKit Go.Proofs

/-- The text of printed tokens. -/
def prText (ts : List Tok) : List UInt8 := Lib.join (ts.filterMap wordT) [32]
/-- What is printed can be given to Text and to the parser. -/
structure PrOK (ts : List Tok) : Prop where
  ne : ts ≠ []
  str : ∀ t ∈ ts, t.s.length ≤ 1000000
  num : ∀ t ∈ ts, -9223372036854775808 ≤ t.n ∧ t.n ≤ 9223372036854775807
  len : ts.length ≤ 100000
  text : (prText ts).length ≤ 70000
def printR (s : List UInt8) (k : Int) : V := .tup [.str s, .int .i64 k]
/-- What PrintExpr returns. -/
def PrintIs (x : Ex) (v : V) : Prop :=
  ((prE x).2 = true ∧ v = printR [] 1) ∨ ((prE x).2 = false ∧ ∃ y a E, ExprIs (prText (prE x).1) y a E ∧ ((E ≠ 0 ∧ v = printR [] 2) ∨ (E = 0 ∧ v = printR (prText (prE x).1) 0)))

theorem over_kp {σ0 σ σ' : St} {p : Nat} {toks : List Tok} {bad : Bool} (o : Over σ0 σ) (hp : PrI σ0 σ' p toks bad) (k : Kp p σ σ') (f : σ0.box p = none) : Over σ0 σ' :=
  ⟨fun b cs hb => k b cs (by rintro rfl; rw [f] at hb; cases hb) (o.box b cs hb), hp.over.live, hp.over.map⟩

set_option maxHeartbeats 1000000 in
theorem printExpr_call {x : Ex} (hS : exS x) (hl : 8 * exN x ≤ 1000000) (hK : (prE x).2 = false → PrOK (prE x).1) (σ : St) :
    SCall Tryz.prog LG 21 [.agg (exV x)] σ fun e σ' => σ' = σ ∧ ∃ v, e = .ret v ∧ PrintIs x v := by
  have hcall := fun (σ0 σ : St) (p : Nat) (h : PrI σ0 σ p [] false) => exprPr_call hS h (by simp only [List.length_nil]; omega)
  have hP : ∀ v, PrintIs x v = PrintIs x v := fun _ => rfl
  unfold PrintIs at hP ⊢
  clear hP
  generalize prE x = P at hK hcall ⊢
  obtain ⟨ts, bad⟩ := P
  simp only [List.nil_append, Bool.false_or] at hcall hK ⊢
  obtain ⟨op, n, s, kids, aa⟩ := x
  refine code21.call hm (by simp) ?_
  refine ⟨rfl, ?_⟩
  intro b1 f1
  have o1 : Over σ (σ.put b1 (exV (.mk op n s kids aa))) := over_put (.refl _) f1
  have h1 : (σ.put b1 (exV (.mk op n s kids aa))).box b1 = some (exV (.mk op n s kids aa)) := put_box
  refine ⟨rfl, ?_⟩
  intro p hp
  have n1 := box_ne h1 hp
  have fp : σ.box p = none := put_none hp
  have o2 := over_put (cs := [.slice .nil 0 [], .bool false]) o1 fp
  have hpp : ((σ.put b1 (exV (.mk op n s kids aa))).put p [.slice .nil 0 [], .bool false]).box p = some [.slice .nil 0 [], .bool false] := put_box
  have h12 : ((σ.put b1 (exV (.mk op n s kids aa))).put p [.slice .nil 0 [], .bool false]).box b1 = some (exV (.mk op n s kids aa)) := by rw [put_ne n1]; exact h1
  generalize hσ : (σ.put b1 (exV (.mk op n s kids aa))).put p [.slice .nil 0 [], .bool false] = σ2 at o2 hpp h12
  have hgoal : ∀ {G : St → Prop}, G σ2 → G ((σ.put b1 (exV (.mk op n s kids aa))).put p [.slice .nil 0 [], .bool false]) := fun h => by rw [hσ]; exact h
  refine hgoal ?_
  clear hgoal hσ
  have hI : PrI σ σ2 p [] false := ⟨⟨.nil, 0, hpp, True.intro, .inl rfl, .inr rfl⟩, ⟨fun _ _ h => (by cases h), o2.live, o2.map⟩⟩
  refine Load.mk' h12 (by simp [exV]) ?_
  refine CallK.mk' (hcall _ _ _ hI) ?_
  rintro e σ3 ⟨rfl, hI3, k3⟩
  have o3 := over_kp o2 hI3 k3 fp
  obtain ⟨⟨tag, z, hb, hmine, htz, hz⟩, _⟩ := hI3
  refine Load.mk' hb (by simp) ?_
  cases bad with
  | true =>
    exact Ret.weak (r := printR [] 1) (.refl _) (σ' := σ) o3 ⟨rfl, _, rfl, .inl ⟨rfl, rfl⟩⟩
  | false =>
    have K := hK rfl
    refine Load.mk' hb (by simp) ?_
    have hz4 : z = 4 := by
      rcases hz with h | h
      · exact h
      · exact absurd (by simpa using h) K.ne
    subst hz4
    refine CallK.pure (text_ret tag ts K.str K.num K.len (by have := K.text; unfold prText at this; omega)) ?_
    refine CallK.mk' (exprP_call (prText ts) K.text _) ?_
    rintro e σ4 ⟨rfl, y, a, E, hE, rfl⟩
    obtain ⟨op', n', s', kids', aa'⟩ := y
    intro b6 f6
    intro b7 f7
    have o6 := over_put (cs := [.int .i64 0, .int .i64 0, .str [], .slice .nil 0 [], .int .i64 0]) o3 (over_none o3 f6)
    have n67 := box_ne put_box f7
    have o7 := over_put (cs := [.int .i64 0, .int .i64 0]) o6 (over_none o3 (put_none f7))
    refine Sure.mk' rfl ?_
    refine Store.mk' (exV (.mk op' n' s' kids' aa')) (by rw [put_ne n67]; exact put_box) (by simp [exV, V.cells]) rfl (fun σ5 e5 => ?_)
    refine Sure.mk' rfl ?_
    refine Store.mk' [.int .i64 a, .int .i64 E] (by rw [e5, put_ne (Ne.symm n67)]; exact put_box) (by simp [V.cells]) rfl (fun σ6 e6 => ?_)
    have oF : Over σ σ6 := by rw [e6, e5]; exact over_put (over_put o7 (over_none o3 f6)) (over_none o3 (put_none f7))
    refine Load.mk' (by rw [e6]; exact put_box) (by simp) ?_
    refine Test.split (fun hk => ?_) (fun hk => ?_)
    · exact Ret.weak (r := printR [] 2) (.refl _) (σ' := σ) oF ⟨rfl, _, rfl, .inr ⟨rfl, _, _, _, hE, .inl ⟨hk, rfl⟩⟩⟩
    · have hk : E = 0 := Classical.byContradiction fun h => hk h
      exact Ret.weak (r := printR (prText ts) 0) (.refl _) (σ' := σ) oF ⟨rfl, _, rfl, .inr ⟨rfl, _, _, _, hE, .inr ⟨hk, rfl⟩⟩⟩
end Go.Shadow.Lex

/- The sources of the laws' sanity, by the grammar. -/
namespace Go.Shadow.Lex

def nmX (b : UInt8) (a : Int) : Ex := .mk 3 0 [b] [] a
def sanA : List UInt8 := [108, 105, 102, 116, 32, 108, 49, 32, 45, 53, 32, 34, 97, 34, 32, 45, 62, 32, 40, 120, 32, 43, 32, 49, 41, 32, 123, 32, 100, 111, 103, 59, 32, 125]
def foA : Fo := .mk [108, 105, 102, 116] [⟨1, 0, [108, 49], .none, 5⟩, ⟨2, -5, [], .none, 8⟩, ⟨3, 0, [97], .none, 11⟩, ⟨4, 0, [], .none, 15⟩, ⟨5, 0, [], .mk 10 0 [] [nmX 120 19, .mk 1 1 [] [] 23] 19, 18⟩] [.mk [100, 111, 103] [] [] 28] 0
theorem srcA : formsF 60 sanA = some ([foA], 0, 0) := rfl
theorem srcB : exprF 30 [97, 32, 60, 32, 98, 32, 60, 32, 99] = some (.none, 6, 5) := rfl
theorem srcC : exprF 30 [97, 32, 98] = some (.none, 2, 5) := rfl
theorem srcD : exprF 30 [120, 32, 40] = some (.none, 3, 5) := rfl
theorem srcE : formsF 30 [120, 32, 45, 32, 121, 59] = some ([], 4, 5) := rfl
def exF : Ex := .mk 11 0 [] [.mk 11 0 [] [nmX 97 0, nmX 98 4] 0, .mk 7 0 [] [nmX 99 8, .mk 6 0 [] [nmX 100 13] 12] 8] 0
theorem srcF : exprF 30 [97, 32, 45, 32, 98, 32, 45, 32, 99, 32, 42, 32, 45, 100] = some (exF, 0, 0) := rfl
def exG (a : List Int) : Ex := .mk 20 0 [] [.mk 5 0 [] [.mk 12 0 [] [nmX 97 (a.getD 1 0), nmX 98 (a.getD 2 0)] (a.getD 1 0)] (a.getD 0 0), .mk 4 0 [102] [.mk 1 1 [] [] (a.getD 4 0), .mk 1 2 [] [] (a.getD 5 0)] (a.getD 3 0), .mk 12 0 [] [.mk 14 0 [] [nmX 97 (a.getD 6 0), nmX 98 (a.getD 7 0)] (a.getD 6 0), nmX 99 (a.getD 8 0)] (a.getD 6 0)] (a.getD 0 0)
def sanG : List UInt8 := [33, 97, 32, 61, 61, 32, 98, 32, 63, 32, 102, 40, 49, 44, 32, 50, 41, 32, 58, 32, 40, 97, 32, 60, 32, 98, 41, 32, 61, 61, 32, 99]
theorem srcG : exprF 60 sanG = some (exG [0, 1, 6, 10, 12, 15, 21, 25, 31], 0, 0) := rfl
def sanH : List UInt8 := [33, 32, 97, 32, 61, 61, 32, 98, 32, 63, 32, 102, 32, 40, 32, 49, 32, 44, 32, 50, 32, 41, 32, 58, 32, 40, 32, 97, 32, 60, 32, 98, 32, 41, 32, 61, 61, 32, 99]
theorem srcH : exprF 60 sanH = some (exG [0, 2, 7, 11, 15, 19, 27, 31, 38], 0, 0) := rfl
theorem prG : prText (prE (exG [0, 1, 6, 10, 12, 15, 21, 25, 31])).1 = sanH := by decide +kernel
theorem prG2 : (prE (exG [0, 1, 6, 10, 12, 15, 21, 25, 31])).2 = false := rfl
end Go.Shadow.Lex

/- Proved: the laws' function sanity returns true. Conditions: none. -/
namespace Go.Shadow.Lex
open Go Go.RowKit Go.Proofs

theorem formsC {src : List UInt8} {x : List Fo} {a E : Int} (f : Nat) (h : formsF f src = some (x, a, E)) (hs : src.length ≤ 70000) : SRet Tryz.prog LG 8 [.str src] (formsR x a E) := by
  intro σ
  refine (formsP_call src hs σ).mono ?_
  rintro e σ' ⟨rfl, y, b, F, hy, rfl⟩
  obtain ⟨rfl, rfl, rfl⟩ := hy.det (formsF_is h)
  exact ⟨rfl, rfl⟩
theorem exprC {src : List UInt8} {x : Ex} {a E : Int} (f : Nat) (h : exprF f src = some (x, a, E)) (hs : src.length ≤ 70000) : SRet Tryz.prog LG 9 [.str src] (exprR x a E) := by
  intro σ
  refine (exprP_call src hs σ).mono ?_
  rintro e σ' ⟨rfl, y, b, F, hy, rfl⟩
  obtain ⟨rfl, rfl, rfl⟩ := hy.det (exprF_is h)
  exact ⟨rfl, rfl⟩
def gG : Ex := exG [0, 1, 6, 10, 12, 15, 21, 25, 31]
theorem prOKG : PrOK (prE gG).1 := ⟨by unfold gG; decide, by unfold gG; decide, by unfold gG; decide, by unfold gG; decide, by unfold gG; rw [prG]; decide⟩
theorem printG : SRet Tryz.prog LG 21 [.agg (exV gG)] (printR sanH 0) := by
  intro σ
  refine (printExpr_call (x := gG) (by simp [gG, exG, nmX, exS, exSs]) (by simp [gG, exG, nmX, exN, exNs]) (fun _ => prOKG) σ).mono ?_
  rintro e σ' ⟨rfl, v, rfl, ⟨h, _⟩ | ⟨_, y, a, E, hy, hv⟩⟩
  · exact absurd h (by unfold gG; rw [prG2]; simp)
  · unfold gG at hy hv
    rw [prG] at hy hv
    obtain ⟨rfl, rfl, rfl⟩ := hy.det (exprF_is srcH)
    rcases hv with ⟨h, _⟩ | ⟨_, rfl⟩
    · exact absurd rfl h
    · exact ⟨rfl, rfl⟩

set_option maxHeartbeats 4000000 in
set_option maxRecDepth 100000 in
theorem sanity_ret : SRet Tryz.prog LG 7 [] (.bool true) := by
  intro σ0
  refine code7.call hm (by simp) ?_
  refine CallK.pure (formsC 60 srcA (by decide)) ?_
  intro b1 fb1
  refine Sure.mk' rfl ?_
  refine Store.mk' ([.int .i64 0, .int .i64 0]) put_box (Nat.le_of_ble_eq_true rfl) rfl (fun σ1 e => ?_)
  rw [put_put] at e; obtain ⟨ob1, gb1⟩ := new_box fb1 ([.int .i64 0, .int .i64 0]); rw [← e] at ob1 gb1; clear e fb1
  refine Load.mk' gb1 (Nat.le_of_ble_eq_true rfl) ?_
  refine BTest.no rfl ?_
  first | refine BTest.no rfl ?_ | refine Test.no (by decide) ?_
  refine Sure.mk' (.inl rfl) ?_
  refine IdxE.mk' 0 _ rfl rfl ?_
  refine ⟨⟨Nat.le_of_ble_eq_true rfl, ?_⟩⟩
  first | refine BTest.no rfl ?_ | refine Test.no (by decide) ?_
  refine Sure.mk' (.inl rfl) ?_
  refine IdxE.mk' 0 _ rfl rfl ?_
  refine ⟨⟨Nat.le_of_ble_eq_true rfl, ?_⟩⟩
  first | refine BTest.no rfl ?_ | refine Test.no (by decide) ?_
  refine Sure.mk' (.inl rfl) ?_
  refine IdxE.mk' 0 _ rfl rfl ?_
  refine ⟨⟨Nat.le_of_ble_eq_true rfl, ?_⟩⟩
  first | refine BTest.no rfl ?_ | refine Test.no (by decide) ?_
  refine Sure.mk' (.inl rfl) ?_
  refine IdxE.mk' 0 _ rfl rfl ?_
  refine ⟨⟨Nat.le_of_ble_eq_true rfl, ?_⟩⟩
  refine Sure.mk' (.inl rfl) ?_
  refine IdxE.mk' 1 _ rfl rfl ?_
  refine ⟨⟨Nat.le_of_ble_eq_true rfl, ?_⟩⟩
  first | refine BTest.no rfl ?_ | refine Test.no (by decide) ?_
  refine Sure.mk' (.inl rfl) ?_
  refine IdxE.mk' 0 _ rfl rfl ?_
  refine ⟨⟨Nat.le_of_ble_eq_true rfl, ?_⟩⟩
  refine Sure.mk' (.inl rfl) ?_
  refine IdxE.mk' 3 _ rfl rfl ?_
  refine ⟨⟨Nat.le_of_ble_eq_true rfl, ?_⟩⟩
  first | refine BTest.no rfl ?_ | refine Test.no (by decide) ?_
  refine Sure.mk' (.inl rfl) ?_
  refine IdxE.mk' 0 _ rfl rfl ?_
  refine ⟨⟨Nat.le_of_ble_eq_true rfl, ?_⟩⟩
  refine Sure.mk' (.inl rfl) ?_
  refine IdxE.mk' 4 _ rfl rfl ?_
  refine ⟨⟨Nat.le_of_ble_eq_true rfl, ?_⟩⟩
  first | refine BTest.no rfl ?_ | refine Test.no (by decide) ?_
  refine CallK.pure (name22_ret [97]) ?_
  intro b5 fb5
  refine Sure.mk' rfl ?_
  refine Store.mk' (exV (nmX 97 0)) put_box (Nat.le_of_ble_eq_true rfl) rfl (fun σ2 e => ?_)
  rw [put_put] at e; obtain ⟨ob5, gb5⟩ := new_box fb5 (exV (nmX 97 0)); rw [← e] at ob5 gb5; clear e fb5
  have gb1 := ob5.box _ _ gb1
  refine CallK.pure (name22_ret [98]) ?_
  intro b6 fb6
  refine Sure.mk' rfl ?_
  refine Store.mk' (exV (nmX 98 0)) put_box (Nat.le_of_ble_eq_true rfl) rfl (fun σ3 e => ?_)
  rw [put_put] at e; obtain ⟨ob6, gb6⟩ := new_box fb6 (exV (nmX 98 0)); rw [← e] at ob6 gb6; clear e fb6
  have gb1 := ob6.box _ _ gb1
  have gb5 := ob6.box _ _ gb5
  refine CallK.pure (name22_ret [99]) ?_
  intro b7 fb7
  refine Sure.mk' rfl ?_
  refine Store.mk' (exV (nmX 99 0)) put_box (Nat.le_of_ble_eq_true rfl) rfl (fun σ4 e => ?_)
  rw [put_put] at e; obtain ⟨ob7, gb7⟩ := new_box fb7 (exV (nmX 99 0)); rw [← e] at ob7 gb7; clear e fb7
  have gb1 := ob7.box _ _ gb1
  have gb5 := ob7.box _ _ gb5
  have gb6 := ob7.box _ _ gb6
  refine CallK.pure (exprC 30 srcF (by decide)) ?_
  intro b8 fb8
  intro b9 fb9
  have nb8 := box_ne put_box fb9
  refine Sure.mk' rfl ?_
  refine Store.mk' (exV exF) (by rw [put_ne nb8]; exact put_box) (Nat.le_of_ble_eq_true rfl) rfl (fun σx ex => ?_)
  refine Sure.mk' rfl ?_
  refine Store.mk' ([.int .i64 0, .int .i64 0]) (by rw [ex, put_ne (Ne.symm nb8)]; exact put_box) (Nat.le_of_ble_eq_true rfl) rfl (fun σ5 e => ?_)
  have ob8 : Over σ4 σ5 := by rw [e, ex]; exact over_put (over_put (over_put (over_put (.refl _) fb8) (put_none fb9)) fb8) (put_none fb9)
  have gb8 : (σ5).box b8 = some (exV exF) := by rw [e, put_ne nb8, ex]; exact put_box
  have gb9 : (σ5).box b9 = some ([.int .i64 0, .int .i64 0]) := by rw [e]; exact put_box
  clear e ex fb8 fb9
  have gb1 := ob8.box _ _ gb1
  have gb5 := ob8.box _ _ gb5
  have gb6 := ob8.box _ _ gb6
  have gb7 := ob8.box _ _ gb7
  refine CallK.pure (exprC 60 srcG (by decide)) ?_
  intro b10 fb10
  intro b11 fb11
  have nb10 := box_ne put_box fb11
  refine Sure.mk' rfl ?_
  refine Store.mk' (exV gG) (by rw [put_ne nb10]; exact put_box) (Nat.le_of_ble_eq_true rfl) rfl (fun σx ex => ?_)
  refine Sure.mk' rfl ?_
  refine Store.mk' ([.int .i64 0, .int .i64 0]) (by rw [ex, put_ne (Ne.symm nb10)]; exact put_box) (Nat.le_of_ble_eq_true rfl) rfl (fun σ6 e => ?_)
  have ob10 : Over σ5 σ6 := by rw [e, ex]; exact over_put (over_put (over_put (over_put (.refl _) fb10) (put_none fb11)) fb10) (put_none fb11)
  have gb10 : (σ6).box b10 = some (exV gG) := by rw [e, put_ne nb10, ex]; exact put_box
  have gb11 : (σ6).box b11 = some ([.int .i64 0, .int .i64 0]) := by rw [e]; exact put_box
  clear e ex fb10 fb11
  have gb1 := ob10.box _ _ gb1
  have gb5 := ob10.box _ _ gb5
  have gb6 := ob10.box _ _ gb6
  have gb7 := ob10.box _ _ gb7
  have gb8 := ob10.box _ _ gb8
  have gb9 := ob10.box _ _ gb9
  refine CallK.pure (name22_ret [100]) ?_
  intro b12 fb12
  refine Sure.mk' rfl ?_
  refine Store.mk' ([.int .i64 6, .int .i64 0, .str [], .slice .full 5 [exV (nmX 100 0)], .int .i64 0]) put_box (Nat.le_of_ble_eq_true rfl) rfl (fun σ7 e => ?_)
  rw [put_put] at e; obtain ⟨ob12, gb12⟩ := new_box fb12 ([.int .i64 6, .int .i64 0, .str [], .slice .full 5 [exV (nmX 100 0)], .int .i64 0]); rw [← e] at ob12 gb12; clear e fb12
  have gb1 := ob12.box _ _ gb1
  have gb5 := ob12.box _ _ gb5
  have gb6 := ob12.box _ _ gb6
  have gb7 := ob12.box _ _ gb7
  have gb8 := ob12.box _ _ gb8
  have gb9 := ob12.box _ _ gb9
  have gb10 := ob12.box _ _ gb10
  have gb11 := ob12.box _ _ gb11
  refine Load.mk' gb5 (Nat.le_of_ble_eq_true rfl) ?_
  refine Load.mk' gb6 (Nat.le_of_ble_eq_true rfl) ?_
  refine CallK.pure (node23_ret 12 (nmX 97 0) (nmX 98 0)) ?_
  intro b13 fb13
  refine Sure.mk' rfl ?_
  refine Store.mk' ([.int .i64 5, .int .i64 0, .str [], .slice .full 5 [exV (.mk 12 0 [] [nmX 97 0, nmX 98 0] 0)], .int .i64 0]) put_box (Nat.le_of_ble_eq_true rfl) rfl (fun σ8 e => ?_)
  rw [put_put] at e; obtain ⟨ob13, gb13⟩ := new_box fb13 ([.int .i64 5, .int .i64 0, .str [], .slice .full 5 [exV (.mk 12 0 [] [nmX 97 0, nmX 98 0] 0)], .int .i64 0]); rw [← e] at ob13 gb13; clear e fb13
  have gb1 := ob13.box _ _ gb1
  have gb5 := ob13.box _ _ gb5
  have gb6 := ob13.box _ _ gb6
  have gb7 := ob13.box _ _ gb7
  have gb8 := ob13.box _ _ gb8
  have gb9 := ob13.box _ _ gb9
  have gb10 := ob13.box _ _ gb10
  have gb11 := ob13.box _ _ gb11
  have gb12 := ob13.box _ _ gb12
  intro b14 fb14
  refine Sure.mk' rfl ?_
  refine Store.mk' ([.int .i64 4, .int .i64 0, .str [102], .slice .full 5 [[.int .i64 1, .int .i64 1, .str [], .slice .nil 0 [], .int .i64 0], [.int .i64 1, .int .i64 2, .str [], .slice .nil 0 [], .int .i64 0]], .int .i64 0]) put_box (Nat.le_of_ble_eq_true rfl) rfl (fun σ9 e => ?_)
  rw [put_put] at e; obtain ⟨ob14, gb14⟩ := new_box fb14 ([.int .i64 4, .int .i64 0, .str [102], .slice .full 5 [[.int .i64 1, .int .i64 1, .str [], .slice .nil 0 [], .int .i64 0], [.int .i64 1, .int .i64 2, .str [], .slice .nil 0 [], .int .i64 0]], .int .i64 0]); rw [← e] at ob14 gb14; clear e fb14
  have gb1 := ob14.box _ _ gb1
  have gb5 := ob14.box _ _ gb5
  have gb6 := ob14.box _ _ gb6
  have gb7 := ob14.box _ _ gb7
  have gb8 := ob14.box _ _ gb8
  have gb9 := ob14.box _ _ gb9
  have gb10 := ob14.box _ _ gb10
  have gb11 := ob14.box _ _ gb11
  have gb12 := ob14.box _ _ gb12
  have gb13 := ob14.box _ _ gb13
  refine Load.mk' gb9 (Nat.le_of_ble_eq_true rfl) ?_
  first | refine BTest.no rfl ?_ | refine Test.no (by decide) ?_
  refine Load.mk' gb11 (Nat.le_of_ble_eq_true rfl) ?_
  first | refine BTest.no rfl ?_ | refine Test.no (by decide) ?_
  refine Sure.mk' rfl ?_
  refine Load.mk' gb8 (Nat.le_of_ble_eq_true rfl) ?_
  refine Load.mk' gb5 (Nat.le_of_ble_eq_true rfl) ?_
  refine Load.mk' gb6 (Nat.le_of_ble_eq_true rfl) ?_
  refine Sure.mk' rfl ?_
  refine Load.mk' gb7 (Nat.le_of_ble_eq_true rfl) ?_
  refine Sure.mk' rfl ?_
  refine Load.mk' gb12 (Nat.le_of_ble_eq_true rfl) ?_
  refine CallK.pure (node23_ret 11 (nmX 97 0) (nmX 98 0)) ?_
  refine Kept1.mk' (fun cs h => h) ?_
  refine Kept1.mk' (fun cs h => h) ?_
  refine Kept1.mk' (fun cs h => h) ?_
  refine CallK.pure (fun σ => SCall.weak3 (.refl _) (.refl _) (WeakL.agg (weak_exL (kids := [nmX 100 0]) (.cons (wx_refl (nmX 100 0)) .nil) (.inl rfl))) (node23_ret 7 (nmX 99 0) (.mk 6 0 [] [nmX 100 0] 0) σ)) ?_
  refine Kept1.mk' (fun cs h => h) ?_
  refine CallK.pure (node23_ret 11 _ _) ?_
  refine Kept1.mk' (fun cs h => h) ?_
  refine CallK.pure (show SRet Tryz.prog LG 15 [.agg (exV exF), .agg (exV (.mk 11 0 [] [.mk 11 0 [] [nmX 97 0, nmX 98 0] 0, .mk 7 0 [] [nmX 99 0, .mk 6 0 [] [nmX 100 0] 0] 0] 0))] (.bool true) from sameExpr_ret 1000000 _ _ (by decide) (Nat.le_refl _)) ?_
  refine Sure.mk' rfl ?_
  refine Load.mk' gb10 (Nat.le_of_ble_eq_true rfl) ?_
  refine Sure.mk' rfl ?_
  refine Load.mk' gb13 (Nat.le_of_ble_eq_true rfl) ?_
  refine Sure.mk' rfl ?_
  refine Load.mk' gb14 (Nat.le_of_ble_eq_true rfl) ?_
  refine Load.mk' gb5 (Nat.le_of_ble_eq_true rfl) ?_
  refine Load.mk' gb6 (Nat.le_of_ble_eq_true rfl) ?_
  refine Sure.mk' rfl ?_
  refine Load.mk' gb7 (Nat.le_of_ble_eq_true rfl) ?_
  refine CallK.pure (node23_ret 14 (nmX 97 0) (nmX 98 0)) ?_
  refine Kept1.mk' (fun cs h => h) ?_
  refine Kept1.mk' (fun cs h => h) ?_
  refine Kept1.mk' (fun cs h => h) ?_
  refine Kept1.mk' (fun cs h => h) ?_
  refine CallK.pure (node23_ret 12 _ (nmX 99 0)) ?_
  refine Kept1.mk' (fun cs h => h) ?_
  refine Kept1.mk' (fun cs h => h) ?_
  refine Kept1.mk' (fun cs h => h) ?_
  refine CallK.pure (show SRet Tryz.prog LG 15 [.agg (exV gG), .agg _] (.bool true) from sameExprW (wx_refl gG) (weak_exL (op := 20) (n := 0) (s := []) (a := 0) (kids := [.mk 5 0 [] [.mk 12 0 [] [nmX 97 0, nmX 98 0] 0] 0, .mk 4 0 [102] [.mk 1 1 [] [] 0, .mk 1 2 [] [] 0] 0, .mk 12 0 [] [.mk 14 0 [] [nmX 97 0, nmX 98 0] 0, nmX 99 0] 0]) (.cons (weak_exL (.cons (wx_refl _) .nil) (.inl rfl)) (.cons (weak_exL (.cons (weak_exL .nil (.inr rfl)) (.cons (weak_exL .nil (.inr rfl)) .nil)) (.inl rfl)) (.cons (wx_refl _) .nil))) (.inl rfl)) (by unfold gG; decide)) ?_
  refine Load.mk' gb10 (Nat.le_of_ble_eq_true rfl) ?_
  refine CallK.pure printG ?_
  refine CallK.pure (exprC 30 srcB (by decide)) ?_
  intro b17 fb17
  intro b18 fb18
  have nb17 := box_ne put_box fb18
  refine Sure.mk' rfl ?_
  refine Store.mk' (exV .none) (by rw [put_ne nb17]; exact put_box) (Nat.le_of_ble_eq_true rfl) rfl (fun σx ex => ?_)
  refine Sure.mk' rfl ?_
  refine Store.mk' ([.int .i64 6, .int .i64 5]) (by rw [ex, put_ne (Ne.symm nb17)]; exact put_box) (Nat.le_of_ble_eq_true rfl) rfl (fun σ10 e => ?_)
  have ob17 : Over σ9 σ10 := by rw [e, ex]; exact over_put (over_put (over_put (over_put (.refl _) fb17) (put_none fb18)) fb17) (put_none fb18)
  have gb17 : (σ10).box b17 = some (exV .none) := by rw [e, put_ne nb17, ex]; exact put_box
  have gb18 : (σ10).box b18 = some ([.int .i64 6, .int .i64 5]) := by rw [e]; exact put_box
  clear e ex fb17 fb18
  have gb1 := ob17.box _ _ gb1
  have gb5 := ob17.box _ _ gb5
  have gb6 := ob17.box _ _ gb6
  have gb7 := ob17.box _ _ gb7
  have gb8 := ob17.box _ _ gb8
  have gb9 := ob17.box _ _ gb9
  have gb10 := ob17.box _ _ gb10
  have gb11 := ob17.box _ _ gb11
  have gb12 := ob17.box _ _ gb12
  have gb13 := ob17.box _ _ gb13
  have gb14 := ob17.box _ _ gb14
  refine CallK.pure (exprC 30 srcC (by decide)) ?_
  intro b19 fb19
  intro b20 fb20
  have nb19 := box_ne put_box fb20
  refine Sure.mk' rfl ?_
  refine Store.mk' (exV .none) (by rw [put_ne nb19]; exact put_box) (Nat.le_of_ble_eq_true rfl) rfl (fun σx ex => ?_)
  refine Sure.mk' rfl ?_
  refine Store.mk' ([.int .i64 2, .int .i64 5]) (by rw [ex, put_ne (Ne.symm nb19)]; exact put_box) (Nat.le_of_ble_eq_true rfl) rfl (fun σ11 e => ?_)
  have ob19 : Over σ10 σ11 := by rw [e, ex]; exact over_put (over_put (over_put (over_put (.refl _) fb19) (put_none fb20)) fb19) (put_none fb20)
  have gb19 : (σ11).box b19 = some (exV .none) := by rw [e, put_ne nb19, ex]; exact put_box
  have gb20 : (σ11).box b20 = some ([.int .i64 2, .int .i64 5]) := by rw [e]; exact put_box
  clear e ex fb19 fb20
  have gb1 := ob19.box _ _ gb1
  have gb5 := ob19.box _ _ gb5
  have gb6 := ob19.box _ _ gb6
  have gb7 := ob19.box _ _ gb7
  have gb8 := ob19.box _ _ gb8
  have gb9 := ob19.box _ _ gb9
  have gb10 := ob19.box _ _ gb10
  have gb11 := ob19.box _ _ gb11
  have gb12 := ob19.box _ _ gb12
  have gb13 := ob19.box _ _ gb13
  have gb14 := ob19.box _ _ gb14
  have gb17 := ob19.box _ _ gb17
  have gb18 := ob19.box _ _ gb18
  refine CallK.pure (exprC 30 srcD (by decide)) ?_
  intro b21 fb21
  intro b22 fb22
  have nb21 := box_ne put_box fb22
  refine Sure.mk' rfl ?_
  refine Store.mk' (exV .none) (by rw [put_ne nb21]; exact put_box) (Nat.le_of_ble_eq_true rfl) rfl (fun σx ex => ?_)
  refine Sure.mk' rfl ?_
  refine Store.mk' ([.int .i64 3, .int .i64 5]) (by rw [ex, put_ne (Ne.symm nb21)]; exact put_box) (Nat.le_of_ble_eq_true rfl) rfl (fun σ12 e => ?_)
  have ob21 : Over σ11 σ12 := by rw [e, ex]; exact over_put (over_put (over_put (over_put (.refl _) fb21) (put_none fb22)) fb21) (put_none fb22)
  have gb21 : (σ12).box b21 = some (exV .none) := by rw [e, put_ne nb21, ex]; exact put_box
  have gb22 : (σ12).box b22 = some ([.int .i64 3, .int .i64 5]) := by rw [e]; exact put_box
  clear e ex fb21 fb22
  have gb1 := ob21.box _ _ gb1
  have gb5 := ob21.box _ _ gb5
  have gb6 := ob21.box _ _ gb6
  have gb7 := ob21.box _ _ gb7
  have gb8 := ob21.box _ _ gb8
  have gb9 := ob21.box _ _ gb9
  have gb10 := ob21.box _ _ gb10
  have gb11 := ob21.box _ _ gb11
  have gb12 := ob21.box _ _ gb12
  have gb13 := ob21.box _ _ gb13
  have gb14 := ob21.box _ _ gb14
  have gb17 := ob21.box _ _ gb17
  have gb18 := ob21.box _ _ gb18
  have gb19 := ob21.box _ _ gb19
  have gb20 := ob21.box _ _ gb20
  refine CallK.pure (formsC 30 srcE (by decide)) ?_
  intro b24 fb24
  refine Sure.mk' rfl ?_
  refine Store.mk' ([.int .i64 4, .int .i64 5]) put_box (Nat.le_of_ble_eq_true rfl) rfl (fun σ13 e => ?_)
  rw [put_put] at e; obtain ⟨ob24, gb24⟩ := new_box fb24 ([.int .i64 4, .int .i64 5]); rw [← e] at ob24 gb24; clear e fb24
  have gb1 := ob24.box _ _ gb1
  have gb5 := ob24.box _ _ gb5
  have gb6 := ob24.box _ _ gb6
  have gb7 := ob24.box _ _ gb7
  have gb8 := ob24.box _ _ gb8
  have gb9 := ob24.box _ _ gb9
  have gb10 := ob24.box _ _ gb10
  have gb11 := ob24.box _ _ gb11
  have gb12 := ob24.box _ _ gb12
  have gb13 := ob24.box _ _ gb13
  have gb14 := ob24.box _ _ gb14
  have gb17 := ob24.box _ _ gb17
  have gb18 := ob24.box _ _ gb18
  have gb19 := ob24.box _ _ gb19
  have gb20 := ob24.box _ _ gb20
  have gb21 := ob24.box _ _ gb21
  have gb22 := ob24.box _ _ gb22
  first | refine BTest.yes rfl ?_ | refine Test.yes rfl ?_ | refine Test.yes (by decide) ?_
  first | refine BTest.yes rfl ?_ | refine Test.yes rfl ?_ | refine Test.yes (by decide) ?_
  refine Load.mk' gb18 (Nat.le_of_ble_eq_true rfl) ?_
  first | refine BTest.yes rfl ?_ | refine Test.yes rfl ?_ | refine Test.yes (by decide) ?_
  refine Load.mk' gb20 (Nat.le_of_ble_eq_true rfl) ?_
  first | refine BTest.yes rfl ?_ | refine Test.yes rfl ?_ | refine Test.yes (by decide) ?_
  refine Load.mk' gb22 (Nat.le_of_ble_eq_true rfl) ?_
  first | refine BTest.yes rfl ?_ | refine Test.yes rfl ?_ | refine Test.yes (by decide) ?_
  refine Load.mk' gb24 (Nat.le_of_ble_eq_true rfl) ?_
  first | refine BTest.yes rfl ?_ | refine Test.yes rfl ?_ | refine Test.yes (by decide) ?_
  refine CallK.pure (show SRet Tryz.prog LG 20 [.slice .foreign 4 ([foA].map foV), .slice .foreign 4 ([foA].map foV)] (.bool true) from same_ret 1000000 [foA] [foA] _ _ (by decide) (Nat.le_refl _)) ?_
  refine Load.mk' gb5 (Nat.le_of_ble_eq_true rfl) ?_
  refine Load.mk' gb6 (Nat.le_of_ble_eq_true rfl) ?_
  refine CallK.pure (show SRet Tryz.prog LG 15 [.agg (exV (nmX 97 0)), .agg (exV (nmX 98 0))] (.bool false) from sameExpr_ret 1000000 _ _ (by decide) (Nat.le_refl _)) ?_
  exact Ret.weak (.refl _) (over_tr (over_tr (over_tr (over_tr (over_tr (over_tr (over_tr (over_tr (over_tr (over_tr (over_tr (over_tr (ob1) ob5) ob6) ob7) ob8) ob10) ob12) ob13) ob14) ob17) ob19) ob21) ob24) ⟨rfl, rfl⟩
end Go.Shadow.Lex

/- How large the results of the parser are. -/
namespace Go.Shadow.Lex

theorem exNs_snoc : ∀ (l : List Ex) (e : Ex), exNs (l ++ [e]) = exNs l + exN e
  | [], e => by simp [exNs]
  | x :: l, e => by simp [exNs, exNs_snoc l e]; omega
theorem arNs_snoc : ∀ (l : List Ar) (e : Ar), arNs (l ++ [e]) = arNs l + 1 + exN e.e
  | [], e => by simp [arNs]
  | x :: l, e => by simp [arNs, arNs_snoc l e]; omega
theorem foNs_snoc : ∀ (l : List Fo) (e : Fo), foNs (l ++ [e]) = foNs l + foN e
  | [], e => by simp [foNs]
  | x :: l, e => by simp [foNs, foNs_snoc l e]; omega
theorem isS_tail {s : List UInt8} {l : List Tok} (h : isS s l = true) : l.tail.length + 1 = l.length := by
  cases l with
  | nil => cases h
  | cons t r => simp
theorem hd_tail {l : List Tok} (h : (hd l).kind ≠ 0) : l.tail.length + 1 = l.length := by
  cases l with
  | nil => exact absurd rfl h
  | cons t r => simp
theorem opOf_tail {l : List Tok} {x : Int × Nat} (h : opOf l = some x) : l.tail.length + 1 = l.length := by
  cases l with
  | nil => cases (show (none : Option (Int × Nat)) = some x from h)
  | cons t r => simp
def baseE : NT → Nat
  | .more _ e => exN e
  | .args _ _ kids => exNs kids
  | _ => 0
theorem PE.size {nt : NT} {d : Int} {l : List Tok} {x : Res} (h : PE nt d l x) : ∀ {e r}, x = .ok e r → exN e + r.length ≤ baseE nt + l.length := by
  have htl : ∀ l : List Tok, l.tail.length ≤ l.length := fun l => by simp
  induction h with
  | expr_one h h1 h2 ih => intro e r he; injection he with e1 e2; subst e1; subst e2; simpa [baseE] using ih rfl
  | if_ok h h1 h2 h3 h4 h5 ih1 ih3 ih5 =>
    intro e r he; injection he with e1 e2; subst e1; subst e2
    have := ih1 rfl; have := ih3 rfl; have := ih5 rfl
    have := isS_tail h2; have := isS_tail h4
    simp only [exN, exNs, baseE] at *; omega
  | lvl7 h ih => intro e r he; simpa [baseE] using ih he
  | lvl3 h h1 ih => intro e r he; simpa [baseE] using ih he
  | bang_ok h h1 h2 ih =>
    intro e r he; injection he with e1 e2; subst e1; subst e2
    have := ih rfl; have := isS_tail h
    simp only [exN, exNs, baseE] at *; omega
  | lvl_ok h h1 h2 ih1 ih2 =>
    intro e r he
    have := ih1 rfl; have := ih2 he
    simp only [exN, exNs, baseE] at *; omega
  | more_end h => intro e r he; injection he with e1 e2; subst e1; subst e2; simp [baseE]
  | more_last h h1 ih =>
    intro e r he; injection he with e1 e2; subst e1; subst e2
    have := ih rfl; have := opOf_tail h
    simp only [exN, exNs, baseE] at *; omega
  | more_go hn h h1 h2 ih1 ih2 =>
    intro e r he
    have := ih1 rfl; have := ih2 he; have := opOf_tail h
    simp only [exN, exNs, baseE] at *; omega
  | neg_no h h1 ih => intro e r he; simpa [baseE] using ih he
  | neg_ok h h1 h2 ih =>
    intro e r he; injection he with e1 e2; subst e1; subst e2
    have := ih rfl; have := isS_tail h
    simp only [exN, exNs, baseE] at *; omega
  | atom_num h => intro e r he; injection he with e1 e2; subst e1; subst e2; have := hd_tail (show _ ≠ 0 from by rw [h]; decide); simp only [exN, exNs, baseE]; omega
  | atom_text h => intro e r he; injection he with e1 e2; subst e1; subst e2; have := hd_tail (show _ ≠ 0 from by rw [h]; decide); simp only [exN, exNs, baseE]; omega
  | atom_name h h1 => intro e r he; injection he with e1 e2; subst e1; subst e2; have := hd_tail (show _ ≠ 0 from by rw [h]; decide); simp only [exN, exNs, baseE]; omega
  | @atom_call d l x h h1 h2 ih =>
    intro e r he
    have := ih he; have := htl l; have := htl l.tail
    simp only [exNs, baseE] at *; omega
  | @paren_ok d l e r h h1 h2 ih =>
    intro e' r' he; injection he with e1 e2; subst e1; subst e2
    have := ih rfl; have := isS_tail h; have := htl r
    simp only [baseE] at *; omega
  | args_end h => intro e r he; injection he with e1 e2; subst e1; subst e2; have := isS_tail h; simp only [exN, baseE]; omega
  | @args_go s a kids d l e r x h h1 h2 h3 h4 ih3 ih4 =>
    intro e' r' he
    have := ih3 rfl; have := ih4 he; have := htl l
    have hA : (argL kids l).length ≤ l.length := by unfold argL; split <;> simp
    simp only [baseE, exNs_snoc] at *; omega
  | _ => intro e r he; cases he
theorem PA.size {l : List Tok} {b : Ar} {r : List Tok} (h : PA l (.ok b r)) : 1 + exN b.e + 3 * r.length ≤ 3 * l.length := by
  have htl : ∀ l : List Tok, l.tail.length ≤ l.length := fun l => by simp
  cases h with
  | tok h =>
    have := hd_tail (show (hd l).kind ≠ 0 from by omega)
    simp only [Ex.none, exN, exNs]; omega
  | neg_ok h h1 =>
    have := isS_tail h; have := htl l.tail
    simp only [Ex.none, exN, exNs]; omega
  | arrow h =>
    have := isS_tail h
    simp only [Ex.none, exN, exNs]; omega
  | paren_ok h h1 h2 =>
    have := h1.size rfl; have := isS_tail h; have := isS_tail h2
    simp only [baseE] at *; omega
def baseF : NF → Nat
  | .form => 0
  | .args _ _ u => 1 + arNs u
  | .body _ _ u b => 1 + arNs u + foNs b
theorem PF.size {nt : NF} {d n : Int} {l : List Tok} {x : ResF} (h : PF nt d n l x) : ∀ {g m r}, x = .ok g m r → foN g + 3 * r.length ≤ baseF nt + 3 * l.length := by
  induction h with
  | form_go h h1 h2 ih =>
    intro g m r e
    have := ih e; have := hd_tail (show _ ≠ 0 from by rw [h]; decide)
    simp only [baseF, arNs] at *; omega
  | args_end h => intro g m r e; injection e with e1 e2 e3; subst e1; subst e3; have := isS_tail h; simp only [baseF, foN, foNs]; omega
  | args_body h h1 ih =>
    intro g m r e
    have := ih e; have := isS_tail h
    simp only [baseF, foNs] at *; omega
  | args_go h h1 h2 h3 h4 h5 ih =>
    intro g m r e
    have := ih e; have := h4.size
    simp only [baseF, arNs_snoc] at *; omega
  | body_end h => intro g m r e; injection e with e1 e2 e3; subst e1; subst e3; have := isS_tail h; simp only [baseF, foN]; omega
  | body_go h h1 h2 ih1 ih2 =>
    intro g m r e
    have := ih1 rfl; have := ih2 e
    simp only [baseF, foNs_snoc] at *; omega
  | _ => intro g m r e; cases e
theorem PL.size {n : Int} {out : List Fo} {l : List Tok} {x : ResL} (h : PL n out l x) : ∀ {o}, x = .ok o → foNs o ≤ foNs out + 3 * l.length := by
  induction h with
  | done h => intro o e; injection e with e; subst e; omega
  | err => intro o e; cases e
  | go h h1 h2 ih =>
    intro o e
    have := ih e; have := h1.size rfl
    simp only [baseF, foNs_snoc] at *; omega
theorem ExprIs.size {src : List UInt8} {x : Ex} {a E : Int} (h : ExprIs src x a E) : exN x ≤ src.length + 1 := by
  cases h with
  | ok h h1 h2 => have := h1.size rfl; have := (lex_ended h).2; simp only [baseE] at *; omega
  | _ => simp [Ex.none, exN, exNs]
theorem FormsIs.size {src : List UInt8} {x : List Fo} {a E : Int} (h : FormsIs src x a E) : foNs x ≤ 3 * src.length + 3 := by
  cases h with
  | ok h h1 => have := h1.size rfl; have := (lex_ended h).2; simp only [foNs] at *; omega
  | _ => simp [foNs]
end Go.Shadow.Lex

/- The specification's small functions: signs, beginnings, levels, first errors, as shadow contracts. Conditions: as each theorem says. -/
namespace Go.Shadow.Lex
open Go Go.RowKit Go.Proofs

/-- Tokens as the specification is given them. -/
abbrev TS (ts : List Tok) : V := .slice .foreign 4 (ts.map tokV)
theorem get_drop {ts : List Tok} {k : Nat} (h : k < ts.length) : ∃ t, ts[k]? = some t ∧ ts.drop k = t :: ts.drop (k + 1) :=
  ⟨ts[k], List.getElem?_eq_getElem h, List.drop_eq_getElem_cons h⟩
theorem tokV_get {ts : List Tok} {k : Nat} {t : Tok} (h : ts[k]? = some t) : (ts.map tokV)[k]? = some (tokV t) := by simp [h]

theorem sign_ret {ts : List Tok} {k : Nat} (h : k < ts.length) (s : List UInt8) : SRet Tryz.prog LG 55 [TS ts, .int .i64 k, .str s] (.bool (isS s (ts.drop k))) := by
  intro σ
  obtain ⟨t, ht, hd⟩ := get_drop h
  rw [hd]
  refine code55.call hm (by simp) ?_
  refine Sure.mk' (.inl rfl) ?_
  refine IdxE.mk' k (tokV t) rfl (tokV_get ht) ?_
  refine ⟨by simp [tokV], ?_⟩
  refine Test.split (fun h => ?_) (fun h => ?_)
  · refine Sure.mk' (.inl rfl) ?_
    refine IdxE.mk' k (tokV t) rfl (tokV_get ht) ?_
    refine ⟨by simp [tokV], ?_⟩
    refine Test.split (fun h2 => ?_) (fun h2 => ?_)
    · refine Ret.mk' ⟨rfl, ?_⟩
      simp [isS, h, h2]
    · refine Ret.mk' ⟨rfl, ?_⟩
      simp [isS, h, h2]
  · refine Ret.mk' ⟨rfl, ?_⟩
    simp [isS, h]

theorem beginsR_ret {ts : List Tok} {k : Nat} (h : k < ts.length) : SRet Tryz.prog LG 56 [TS ts, .int .i64 k] (.bool (begins (ts.drop k))) := by
  intro σ
  have hs := fun s => sign_ret h s
  obtain ⟨t, ht, hd⟩ := get_drop h
  rw [hd] at hs ⊢
  refine code56.call hm (by simp) ?_
  refine CallK.pure (hs _) ?_
  refine CallK.pure (hs _) ?_
  refine Sure.mk' (.inl rfl) ?_
  refine IdxE.mk' k (tokV t) rfl (tokV_get ht) ?_
  refine ⟨by simp [tokV], ?_⟩
  have fin : ∀ x, x = ((t.kind == 1 || t.kind == 2 || t.kind == 3)) → begins (t :: ts.drop (k + 1)) = (x || isS [40] (t :: ts.drop (k + 1)) || isS [45] (t :: ts.drop (k + 1))) := by
    intro x hx; rw [hx]; rfl
  have tail : ∀ x : Bool, begins (t :: ts.drop (k + 1)) = (x || isS [40] (t :: ts.drop (k + 1)) || isS [45] (t :: ts.drop (k + 1))) → (x = true → begins (t :: ts.drop (k + 1)) = true) ∧ (x = false → begins (t :: ts.drop (k + 1)) = (isS [40] (t :: ts.drop (k + 1)) || isS [45] (t :: ts.drop (k + 1)))) := by
    intro x hx; rw [hx]; cases x <;> simp
  refine Test.split (fun h1 => ?_) (fun h1 => ?_)
  · refine Sure.mk' (.inl rfl) ?_
    refine IdxE.mk' k (tokV t) rfl (tokV_get ht) ?_
    refine ⟨by simp [tokV], ?_⟩
    refine Test.split (fun h2 => ?_) (fun h2 => ?_)
    · refine Ret.mk' ⟨rfl, ?_⟩
      have := (tail true (fin true (by have : t.kind = 1 ∨ t.kind = 2 ∨ t.kind = 3 := by omega
                                       rcases this with h | h | h <;> simp [h]))).1 rfl
      rw [this]
    · have := (tail false (fin false (by have : t.kind ≠ 1 ∧ t.kind ≠ 2 ∧ t.kind ≠ 3 := by omega
                                         simp [this]))).2 rfl
      rw [this]
      cases isS [40] (t :: ts.drop (k + 1)) <;> cases isS [45] (t :: ts.drop (k + 1)) <;> exact Ret.mk' ⟨rfl, rfl⟩
  · have := (tail false (fin false (by have : t.kind ≠ 1 ∧ t.kind ≠ 2 ∧ t.kind ≠ 3 := by omega
                                       simp [this]))).2 rfl
    rw [this]
    cases isS [40] (t :: ts.drop (k + 1)) <;> cases isS [45] (t :: ts.drop (k + 1)) <;> exact Ret.mk' ⟨rfl, rfl⟩

/-- The level and the operation of a sign, as the specification has them. -/
def lvV (x : Option (Int × Nat)) : V := match x with
  | some (op, n) => .agg [.int .i64 n, .int .i64 op]
  | none => .agg [.int .i64 0, .int .i64 0]
theorem opOf_go {l : List Tok} {i : Nat} {o : List UInt8 × Int × Nat} (hi : opsT[i]? = some o) (h : isS o.1 l = true) : opOf l = some o.2 :=
  opOf_of (List.mem_of_getElem? hi) h
theorem opOf_no {l : List Tok} (h : ∀ j : Nat, j < 13 → ∀ o, opsT[j]? = some o → isS o.1 l = false) : opOf l = none := by
  cases hx : opOf l with
  | none => rfl
  | some x =>
    obtain ⟨s, h1, h2⟩ := of_opOf hx
    obtain ⟨j, hj⟩ := List.getElem?_of_mem h1
    have := h j (List.getElem?_eq_some_iff.1 hj).1 _ hj
    simp only at this
    rw [h2] at this; cases this
theorem ops_lists : ∀ (i : Nat) (o : List UInt8 × Int × Nat), opsT[i]? = some o → ([[42], [47], [37], [43], [45], [61, 61], [33, 61], [60], [60, 61], [62], [62, 61], [38, 38], [124, 124]] : List (List UInt8))[i]? = some o.1 ∧ ([6, 6, 6, 5, 5, 4, 4, 4, 4, 4, 4, 2, 1] : List Int)[i]? = some (o.2.2 : Int) ∧ o.2.1 = 7 + (i : Int) := by
  intro i o h
  have hi : i < 13 := (List.getElem?_eq_some_iff.1 h).1
  obtain rfl | rfl | rfl | rfl | rfl | rfl | rfl | rfl | rfl | rfl | rfl | rfl | rfl : i = 0 ∨ i = 1 ∨ i = 2 ∨ i = 3 ∨ i = 4 ∨ i = 5 ∨ i = 6 ∨ i = 7 ∨ i = 8 ∨ i = 9 ∨ i = 10 ∨ i = 11 ∨ i = 12 := by omega
  all_goals (simp [opsT] at h; subst h; exact ⟨rfl, rfl, rfl⟩)
def signsL : List (List V) := [[.str [42]], [.str [47]], [.str [37]], [.str [43]], [.str [45]], [.str [61, 61]], [.str [33, 61]], [.str [60]], [.str [60, 61]], [.str [62]], [.str [62, 61]], [.str [38, 38]], [.str [124, 124]]]
def levelsL : List (List V) := [[.int .i64 6], [.int .i64 6], [.int .i64 6], [.int .i64 5], [.int .i64 5], [.int .i64 4], [.int .i64 4], [.int .i64 4], [.int .i64 4], [.int .i64 4], [.int .i64 4], [.int .i64 2], [.int .i64 1]]
theorem signsL_get {i : Nat} {o : List UInt8 × Int × Nat} (h : opsT[i]? = some o) : signsL[i]? = some [.str o.1] := by
  have h1 := (ops_lists i o h).1
  have : signsL = (([[42], [47], [37], [43], [45], [61, 61], [33, 61], [60], [60, 61], [62], [62, 61], [38, 38], [124, 124]] : List (List UInt8))).map fun s => [V.str s] := rfl
  rw [this, List.getElem?_map, h1]; rfl
theorem levelsL_get {i : Nat} {o : List UInt8 × Int × Nat} (h : opsT[i]? = some o) : levelsL[i]? = some [.int .i64 o.2.2] := by
  have h1 := (ops_lists i o h).2.1
  have : levelsL = (([6, 6, 6, 5, 5, 4, 4, 4, 4, 4, 4, 2, 1] : List Int)).map fun s => [V.int .i64 s] := rfl
  rw [this, List.getElem?_map, h1]; rfl

theorem level_ret {ts : List Tok} {k : Nat} (h : k < ts.length) : SRet Tryz.prog LG 86 [TS ts, .int .i64 k] (lvV (opOf (ts.drop k))) := by
  intro σ
  refine code86.call hm (by simp) ?_
  intro b4 f4
  have o4 : Over σ (σ.put b4 [.int .i64 0, .int .i64 0]) := over_put (.refl _) f4
  have h4 : (σ.put b4 [.int .i64 0, .int .i64 0]).box b4 = some [.int .i64 0, .int .i64 0] := put_box
  generalize σ.put b4 [.int .i64 0, .int .i64 0] = σ1 at o4 h4
  refine ⟨fun m sl σ' => σ' = σ1 ∧ ∃ i : Nat, sl = ofL [(0, some (TS ts)), (1, some (.int .i64 k)), (4, some (.loc b4 0)), (5, some (.slice .full 1 signsL)), (6, some (.slice .full 1 levelsL)), (7, some (.int .i64 i))] ∧ i ≤ 13 ∧
      (∀ j, j < i → ∀ o, opsT[j]? = some o → isS o.1 (ts.drop k) = false) ∧ m = 13 - i,
    _, ⟨rfl, 0, rfl, by omega, fun j hj => by omega, rfl⟩, ?_⟩
  rintro m sl σ' ⟨rfl, i, rfl, hi, hno, rfl⟩
  refine Test.split (fun hlt => ?_) (fun hlt => ?_)
  · have hlt : i < 13 := by
      have : (signsL.length : Int) = 13 := rfl
      omega
    obtain ⟨o, hoi⟩ : ∃ o, opsT[i]? = some o := ⟨_, List.getElem?_eq_getElem (by show i < 13; omega)⟩
    refine Sure.mk' (.inl rfl) ?_
    refine IdxE.mk' i [.str o.1] rfl (signsL_get hoi) ?_
    refine ⟨by simp, ?_⟩
    refine CallK.pure (sign_ret h _) ?_
    cases hs : isS o.1 (ts.drop k)
    · refine Arith.i64 ((i + 1 : Nat) : Int) (by omega) (by omega) ?_
      refine ⟨_, _, ?_, Forget.refl _, rfl, i + 1, rfl, by omega, fun j hj o' ho' => ?_, rfl⟩
      · omega
      · by_cases e : j = i
        · subst e; rw [hoi] at ho'; injection ho' with ho'; rw [← ho']; exact hs
        · exact hno j (by omega) o' ho'
    · refine Sure.mk' (.inl rfl) ?_
      refine IdxE.mk' i [.int .i64 o.2.2] rfl (levelsL_get hoi) ?_
      refine ⟨by simp, ?_⟩
      refine Arith.i64 o.2.1 (ops_lists i o hoi).2.2.symm (by rw [(ops_lists i o hoi).2.2]; omega) ?_
      refine Sure.mk' rfl ?_
      refine Store.mk' [.int .i64 o.2.2, .int .i64 o.2.1] h4 (Nat.le_refl _) rfl (fun σ2 e2 => ?_)
      refine Load.mk' (by rw [e2]; exact put_box) (Nat.le_refl _) ?_
      refine Ret.weak (.refl _) (σ' := σ) (by rw [e2]; exact over_put o4 f4) ⟨rfl, ?_⟩
      rw [opOf_go hoi hs]; rfl
  · have hge : i = 13 := by
      have : (signsL.length : Int) = 13 := rfl
      omega
    subst hge
    refine Sure.mk' rfl ?_
    refine Store.mk' [.int .i64 0, .int .i64 0] h4 (Nat.le_refl _) rfl (fun σ2 e2 => ?_)
    refine Load.mk' (by rw [e2]; exact put_box) (Nat.le_refl _) ?_
    refine Ret.weak (.refl _) (σ' := σ) (by rw [e2]; exact over_put o4 f4) ⟨rfl, ?_⟩
    rw [opOf_no hno]; rfl

theorem first_ret {ts : List Tok} {k : Nat} (h : k < ts.length) (d : Int) (no : Bool) : SRet Tryz.prog LG 58 [TS ts, .int .i64 k, .int .i64 d, .bool no] (.int .i64 ((first (ts.drop k) d no).getD 0)) := by
  intro σ
  refine code58.call hm (by simp) ?_
  refine CallK.pure (beginsR_ret h) ?_
  refine CallK.pure (sign_ret h _) ?_
  unfold first
  cases begins (ts.drop k) <;> cases no <;> cases isS [33] (ts.drop k)
  all_goals first
    | exact Ret.mk' ⟨rfl, rfl⟩
    | (refine Test.split (fun h => ?_) (fun h => ?_)
       · refine Ret.mk' ⟨rfl, ?_⟩
         have h : d > 30 := h
         simp [h]
       · refine Ret.mk' ⟨rfl, ?_⟩
         have h : ¬ d > 30 := h
         simp [h])
end Go.Shadow.Lex
