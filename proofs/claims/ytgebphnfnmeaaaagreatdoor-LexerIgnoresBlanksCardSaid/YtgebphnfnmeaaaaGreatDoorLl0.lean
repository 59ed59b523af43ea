/- The library's functions that the lexer calls, as shadow contracts. -/
import Derived.Test.YtgebphnfnmeaaaaGreatDoorShelf
import Derived.Test.YtgebphnfnmeaaaaGreatDoorSh17
import Derived.Lib.AppendIntMem
import Derived.Lib.AtoiErrMem
namespace Go.Shadow.Lex
open Go Go.RowKit Go.Proofs

/-- What the start-up code has laid. -/
def lexPre (w : World) : Prop :=
  Lib.TabIs Tryz.prog w "strings.asciiSpace" .u8 Lib.asciiSpaceTab ∧ Lib.TabIs Tryz.prog w "internal/strconv.uint64pow10" .u64 Lib.pow10Tab ∧
  (∃ t p, w.cell? ⟨4, 0, none⟩ = some (.iface t p)) ∧ ∃ t p, w.cell? ⟨5, 0, none⟩ = some (.iface t p)
def LG : Globs := { at_ := fun _ => none, pre := lexPre }

theorem var?_below {P : Program} {g : Nat} {W W' : World} {n : String} {cs : Array Value} (h : Below W.heap.size W W') (hg : P.globalNamed n = some g) (hv : W.var? P n = some cs) : W'.var? P n = some cs := by
  unfold World.var? at hv ⊢
  simp only [hg, Option.bind_some] at hv ⊢
  have : g < W.heap.size := by
    cases hh : W.heap[g]? with
    | none => rw [hh] at hv; cases hv
    | some o => exact (Array.getElem?_eq_some_iff.1 hh).1
  rw [h.block g this]
  exact hv
theorem lexPre_below {w w' : World} (h : lexPre w) (hb : Below w.heap.size w w') : lexPre w' := by
  obtain ⟨h1, h2, ⟨t, p, h3⟩, u, q, h4⟩ := h
  refine ⟨?_, ?_, ⟨t, p, ?_⟩, u, q, ?_⟩
  · exact var?_below hb (g := 0) (by kernel_rfl) h1
  · exact var?_below hb (g := 3) (by kernel_rfl) h2
  · rw [hb.cell (World.block_lt_of_cell? w _ h3)]; exact h3
  · rw [hb.cell (World.block_lt_of_cell? w _ h4)]; exact h4

theorem indexByte_ret (s : List UInt8) (c : UInt8) : SRet Tryz.prog LG 30 [.str s, .int .u8 c.toNat] (.int .i64 (Lib.indexByte s c)) := by
  refine SRet.of_calls (enters_of Tryz.func30 (by kernel_rfl) rfl) ?_
  intro w0 γ w xs _ _ hr
  obtain ⟨x, y, rfl, hx, hy⟩ := hr.inv2
  obtain rfl := hx.inv_str
  obtain rfl := hy.inv_int
  refine (Tryz.strings_IndexByte _ _ _).mono ?_
  rintro e w' ⟨rfl, rfl⟩
  refine ⟨.refl _ _, _, rfl, fun B γ w => ?_⟩
  have : ((c.toNat : Int).toNat).toUInt8 = c := by simp
  rw [this]
  exact .int _ _

theorem hasPrefix_ret (s p : List UInt8) : SRet Tryz.prog LG 52 [.str s, .str p] (.bool (Lib.hasPrefix s p)) := by
  refine SRet.of_calls (enters_of Tryz.func52 (by kernel_rfl) rfl) ?_
  intro w0 γ w xs _ _ hr
  obtain ⟨x, y, rfl, hx, hy⟩ := hr.inv2
  obtain rfl := hx.inv_str
  obtain rfl := hy.inv_str
  refine (Tryz.strings_HasPrefix _ _ _).mono ?_
  rintro e w' ⟨rfl, rfl⟩
  exact ⟨.refl _ _, _, rfl, fun B γ w => .bool _⟩

theorem containsOne_ret (s : List UInt8) (c : UInt8) : SRet Tryz.prog LG 53 [.str s, .str [c]] (.bool (decide (0 ≤ Lib.indexByte s c))) := by
  refine SRet.of_calls (enters_of Tryz.func53 (by kernel_rfl) rfl) ?_
  intro w0 γ w xs _ _ hr
  obtain ⟨x, y, rfl, hx, hy⟩ := hr.inv2
  obtain rfl := hx.inv_str
  obtain rfl := hy.inv_str
  refine (Tryz.strings_Contains_one _ _ _).mono ?_
  rintro e w' ⟨rfl, rfl⟩
  exact ⟨.refl _ _, _, rfl, fun B γ w => .bool _⟩

theorem itoa_ret (n : Int) (h : -9223372036854775808 ≤ n ∧ n ≤ 9223372036854775807) : SRet Tryz.prog LG 24 [.int .i64 n] (.str (Lib.itoa n)) := by
  refine SRet.of_calls (enters_of Tryz.func24 (by kernel_rfl) rfl) ?_
  intro w0 γ w xs hp hb hr
  obtain ⟨x, rfl, hx⟩ := hr.inv1
  obtain rfl := hx.inv_int
  refine (Tryz.strconv_Itoa n h.1 h.2 w (lexPre_below hp hb).2.1).mono ?_
  rintro e w' ⟨rfl, k, os, rfl⟩
  exact ⟨Lib.below_grow _ _ (Nat.le_refl _) _ _, _, rfl, fun B γ w => .mk_str _⟩

theorem below_bytesWorld (w : World) (e : TypeId) (s : ByteArray) : Below w.heap.size w (Lib.bytesWorld w e s) := Lib.bytesWorld_below w e s

theorem atoi_call (s : List UInt8) (hs : s.length ≤ 70000) (σ : St) : SCall Tryz.prog LG 50 [.str s] σ fun e σ' => σ' = σ ∧ ∃ v er, e = .ret (.tup [.int .i64 v, er]) ∧
    ((Lib.atoiAll s = .ok v ∧ er = .nilIface) ∨ ((∃ t b, er = .iface t (.loc b 0)) ∧ ∀ v, Lib.atoiAll s ≠ .ok v)) := by
  intro w0 γ w xs hI hr
  refine .inl ⟨enters_of Tryz.func50 (by kernel_rfl) rfl _ _, ?_⟩
  obtain ⟨x, rfl, hx⟩ := hr.inv1
  obtain rfl := hx.inv_str
  have hsz : (ByteArray.mk s.toArray).size = s.length := by simp [ByteArray.size]
  have hd : (ByteArray.mk s.toArray).data.toList = s := by simp
  have hp := lexPre_below hI.pre hI.bel
  rcases ha : Lib.atoiAll s with v | _ | _
  · refine (Tryz.strconv_Atoi_ok _ (by rw [hsz]; omega) v (by rw [hd]; exact ha) w).mono ?_
    rintro e w' ⟨rfl, hw⟩
    have hb : Below w.heap.size w w' := by
      rcases hw with rfl | ⟨t, rfl⟩
      · exact .refl _ _
      · exact below_bytesWorld _ _ _
    obtain ⟨h1, h2⟩ := hI.below hb
    exact ⟨γ, σ, h2, h1, _, _, RL.tup (.cons (.int .i64 v) (.cons .nilIface .nil)), .inl ⟨rfl, rfl, v, .nilIface, rfl, .inl ⟨rfl, rfl⟩⟩⟩
  · obtain ⟨t, p, hv⟩ := hp.2.2.1
    refine (Any.strconv_Atoi_syntax Tryz.laysC172 _ (by rw [hsz]; omega) (by rw [hd]; exact ha) _ w hv (.inr ⟨_, _, rfl⟩)).mono ?_
    rintro e w' ⟨A, rfl, _, _, hb⟩
    obtain ⟨h1, h2⟩ := hI.below hb
    exact ⟨γ, σ, h2, h1, _, _, RL.tup (.cons (.int .i64 0) (.cons (.iface 135 (.loc A 0) _ (.loc A 0)) .nil)), .inl ⟨rfl, rfl, _, _, rfl, .inr ⟨⟨135, A, rfl⟩, fun v e => by cases e⟩⟩⟩
  · obtain ⟨t, p, hv⟩ := hp.2.2.2
    refine (Tryz.strconv_Atoi_range _ (by rw [hsz]; omega) (by rw [hd]; exact ha) _ w hv (.inr ⟨_, _, rfl⟩)).mono ?_
    rintro e w' ⟨A, rfl, _, _, hb⟩
    obtain ⟨h1, h2⟩ := hI.below hb
    exact ⟨γ, σ, h2, h1, _, _, RL.tup (.cons (.int .i64 _) (.cons (.iface 135 (.loc A 0) _ (.loc A 0)) .nil)), .inl ⟨rfl, rfl, _, _, rfl, .inr ⟨⟨135, A, rfl⟩, fun v e => by cases e⟩⟩⟩

/-- A list of strings' elements. -/
def strEls (ls : List (List UInt8)) : List (List V) := ls.map fun l => [.str l]
theorem strEls_flatten (ls : List (List UInt8)) : (strEls ls).flatten = ls.map .str := by
  induction ls with
  | nil => rfl
  | cons l ls ih => simp only [strEls, List.map_cons, List.flatten_cons] at ih ⊢; rw [ih]; rfl

theorem fields_call (s : List UInt8) (hs : s.length < 4294967281) (ha : ∀ (j : Nat) b, s[j]? = some b → b.toNat < 128) (σ : St) :
    SCall Tryz.prog LG 51 [.str s] σ fun e σ' => σ' = σ ∧ e = .ret (.slice .foreign 1 (strEls (Lib.fields s))) := by
  intro w0 γ w xs hI hr
  refine .inl ⟨enters_of Tryz.func51 (by kernel_rfl) rfl _ _, ?_⟩
  obtain ⟨x, rfl, hx⟩ := hr.inv1
  obtain rfl := hx.inv_str
  have hsz : (ByteArray.mk s.toArray).size = s.length := by simp [ByteArray.size]
  have hd : (ByteArray.mk s.toArray).data.toList = s := by simp
  have hp := lexPre_below hI.pre hI.bel
  refine (Tryz.strings_Fields _ w (by rw [hsz]; exact hs) (by rw [hd]; exact ha) hp.1).mono ?_
  rw [hd]
  rintro e w' ⟨rfl, rfl⟩
  have hb : Below w.heap.size w (w.alloc (.cells ((Lib.fields s).map fun l => Value.string ⟨l.toArray⟩).toArray 9)) := (Below.refl _ _).alloc (Nat.le_refl _) _
  obtain ⟨γ', h1, h2, h3⟩ := hI.below_row hb (g := w.heap.size) (n := (Lib.fields s).length) (Nat.le_refl _) (by simp)
  have hlen : (Lib.fields s).length = (strEls (Lib.fields s)).length := by simp [strEls]
  refine ⟨γ', σ, h2, h1, .slice .foreign 1 (strEls (Lib.fields s)), _, ?_, .inl ⟨rfl, rfl, rfl⟩⟩
  rw [hlen]
  refine .slice .foreign 1 _ _ _ w.heap.size 0 (fun k => .string ⟨((Lib.fields s).getD k []).toArray⟩) ?_ (by simp [strEls]) (.inl rfl) trivial ?_ ?_ ?_
  · intro i e he
    simp only [strEls, List.getElem?_map, Option.map_eq_some_iff] at he
    obtain ⟨l, _, rfl⟩ := he; rfl
  · intro k x hx
    rw [strEls_flatten, List.getElem?_map, Option.map_eq_some_iff] at hx
    obtain ⟨l, _, rfl⟩ := hx; rfl
  · intro k x hx
    rw [strEls_flatten, List.getElem?_map, Option.map_eq_some_iff] at hx
    obtain ⟨l, hl, rfl⟩ := hx
    have hk : k < (Lib.fields s).length := (List.getElem?_eq_some_iff.1 hl).1
    refine ⟨.inr ⟨_, h3, by omega⟩, ?_⟩
    have hh : (w.alloc (.cells ((Lib.fields s).map fun l => Value.string ⟨l.toArray⟩).toArray 9)).heap[w.heap.size]? = some (.cells ((Lib.fields s).map fun l => Value.string ⟨l.toArray⟩).toArray 9 (0, 0)) := by
      show (w.heap.push _)[w.heap.size]? = _
      simp
    simp only [World.cell?, hh]
    simp [hl, List.getElem?_eq_getElem hk, List.getD_eq_getElem?_getD]
  · intro k x hx
    rw [strEls_flatten, List.getElem?_map, Option.map_eq_some_iff] at hx
    obtain ⟨l, hl, rfl⟩ := hx
    simp only [List.getD_eq_getElem?_getD, hl, Option.getD_some]
    exact .mk_str l

theorem join_call (tag : Tag) (ls : List (List UInt8)) (sep : List UInt8) (hn : ls.length ≤ 140737488355328) (hl : (Lib.join ls sep).length ≤ 140737488355328) (s' : Nat) (σ : St) :
    SCall Tryz.prog LG 27 [.slice tag s' (strEls ls), .str sep] σ fun e σ' => σ' = σ ∧ e = .ret (.str (Lib.join ls sep)) := by
  intro w0 γ w xs hI hr
  refine .inl ⟨enters_of Tryz.func27 (by kernel_rfl) rfl _ _, ?_⟩
  obtain ⟨x, y, rfl, hx, hy⟩ := hr.inv2
  obtain rfl := hy.inv_str
  have hd : (ByteArray.mk sep.toArray).data.toList = sep := by simp
  cases hx with
  | slice _ _ _ a cap b o vs hs hcap ha ht h1 hc hR =>
  have hlen : (strEls ls).length = ls.length := by simp [strEls]
  rw [hlen] at hcap ⊢
  match ls, ha with
  | [], _ =>
    refine (Tryz.strings_Join_none _ _ _ w).mono ?_
    rintro e w' ⟨rfl, rfl⟩
    exact ⟨γ, σ, .refl _ _ _, hI, _, _, .mk_str [], .inl ⟨rfl, rfl, rfl⟩⟩
  | l :: ls, .inr ⟨_, h⟩ => cases h
  | l :: ls, .inl h =>
    subst h
    rw [strEls_flatten] at hc hR
    have hcell : ∀ (j : Nat) (x : ByteArray), ((l :: ls).map fun l => (⟨l.toArray⟩ : ByteArray))[j]? = some x → w.cell? ⟨b, o + j, none⟩ = some (.string x) := by
      intro j x hx
      rw [List.getElem?_map, Option.map_eq_some_iff] at hx
      obtain ⟨u, hu, rfl⟩ := hx
      have hv : ((l :: ls).map V.str)[j]? = some (.str u) := by rw [List.getElem?_map, hu]; rfl
      rw [(hc j _ hv).2, (hR j _ hv).inv_str]
    have hmap : ((l :: ls).map fun l => (⟨l.toArray⟩ : ByteArray)).map (fun x => x.data.toList) = l :: ls := by
      rw [List.map_map]; simp [Function.comp_def]
    have hl2 : ((l :: ls).map fun l => (⟨l.toArray⟩ : ByteArray)).length = (l :: ls).length := by simp
    have := Tryz.strings_Join b o cap ((l :: ls).map fun l => (⟨l.toArray⟩ : ByteArray)) ⟨sep.toArray⟩ w hcell (World.block_lt_of_cell? w _ (hcell 0 _ rfl)) (by rw [hl2]; exact hn) (by rw [hl2]; exact hcap) (by rw [hmap, hd]; exact hl)
    rw [hmap, hd, hl2] at this
    refine this.mono ?_
    rintro e w' ⟨rfl, hb⟩
    obtain ⟨h1, h2⟩ := hI.below hb
    exact ⟨γ, σ, h2, h1, _, _, .mk_str _, .inl ⟨rfl, rfl, rfl⟩⟩

end Go.Shadow.Lex
