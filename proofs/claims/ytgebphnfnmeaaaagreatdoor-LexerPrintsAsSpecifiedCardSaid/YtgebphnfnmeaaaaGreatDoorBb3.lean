/- Proved: the tied card of LexerPrintsAsSpecified. Conditions: none beyond the card's own. -/
import Derived.Test.YtgebphnfnmeaaaaGreatDoorBb2
import Derived.Lib.ItoaLen
import Derived.Test.YtgebphnfnmeaaaaGreatDoorRows
import Derived.ProofKit
import Derived.LaidMore
import Derived.OpenShut
import Derived.ShutString
import Derived.ChangeOld
import Derived.Lib.LaidU8
import Derived.Stop.LaidErr
import Derived.Stop.Joined
import Derived.MakeChecks
import Derived.Deep.Slices
import Derived.WideKeyArgs
import Derived.Test.YtgebphnfnmeaaaaGreatDoorCards
import Derived.Test.YtgebphnfnmeaaaaGreatDoorTie
import Derived.SevenTiedAt

/- Proved: what strings.NewReplacer of the lexer's three pairs does, up to its table, as shadow contracts. Conditions: none. -/
namespace Go.Shadow.Lex
open Go Go.RowKit Go.Proofs

theorem Load.one {σ : St} {b off : Nat} {K : List V → Prop} {cs : List V} {v : V} (hb : σ.box b = some cs) (hv : cs[off]? = some v) (k : K [v]) : Load σ b off 1 K := by
  obtain ⟨hlt, he⟩ := List.getElem?_eq_some_iff.1 hv
  refine Load.mk' hb (by omega) ?_
  rw [List.drop_eq_getElem_cons hlt, he]
  exact k

/-! ### the lock -/
theorem bload {σ : St} {b o : Nat} {cs : List V} {n : Int} (hb : σ.box b = some cs) (ho : cs[o]? = some (.int .u32 n)) : SCall Tryz.prog LG 57 [.loc b o] σ fun e σ' => σ' = σ ∧ e = .ret (.bool (decide (n ≠ 0))) := by
  refine code57.call hm (by simp) ?_
  refine CallK.mk' (ext_load Tryz.func73 (by kernel_rfl) (by kernel_rfl) (by kernel_rfl) .u32 (by kernel_rfl) hb ho) ?_
  rintro e σ' ⟨rfl, rfl⟩
  refine Test.split (fun h => ?_) (fun h => ?_)
  · exact Ret.mk' ⟨rfl, by simp [h]⟩
  · exact Ret.mk' ⟨rfl, by simp at h; simp [h]⟩
theorem lock93 {σ : St} {b o : Nat} {cs : List V} (hb : σ.box b = some cs) (ho : cs[o]? = some (.int .i32 0)) : SCall Tryz.prog LG 93 [.loc b o] σ fun e σ' => σ' = σ.put b (cs.set o (.int .i32 1)) ∧ e = .ret (.tup []) := by
  have hlt := (List.getElem?_eq_some_iff.1 ho).1
  refine code93.call hm (by simp) ?_
  refine CallK.pure (ext_mark0 Tryz.func109 (by kernel_rfl) (by kernel_rfl) (by kernel_rfl) .disable (by kernel_rfl)) ?_
  refine CallK.mk' (ext_cas Tryz.func110 (by kernel_rfl) (by kernel_rfl) (by kernel_rfl) .i32 (by kernel_rfl) hb ho) ?_
  rintro e σ' ⟨rfl, rfl⟩
  refine CallK.pure (ext_mark0 Tryz.func111 (by kernel_rfl) (by kernel_rfl) (by kernel_rfl) .enable (by kernel_rfl)) ?_
  refine Load.mk' put_box (by simp; omega) ?_
  refine CallK.pure (ext_marked Tryz.func112 (by kernel_rfl) (by kernel_rfl) (by kernel_rfl) .acquire (by kernel_rfl) b o) ?_
  exact Ret.mk' ⟨rfl, rfl⟩
theorem lock74 {σ : St} {b o : Nat} {cs : List V} (hb : σ.box b = some cs) (ho : cs[o]? = some (.int .i32 0)) : SCall Tryz.prog LG 74 [.loc b o] σ fun e σ' => σ' = σ.put b (cs.set o (.int .i32 1)) ∧ e = .ret (.tup []) := by
  refine code74.call hm (by simp) ?_
  refine CallK.mk' (lock93 hb ho) ?_
  rintro e σ' ⟨rfl, rfl⟩
  exact Ret.mk' ⟨rfl, rfl⟩
theorem unlock94 {σ : St} {b o : Nat} {cs : List V} (hb : σ.box b = some cs) (ho : cs[o]? = some (.int .i32 1)) : SCall Tryz.prog LG 94 [.loc b o] σ fun e σ' => σ' = σ.put b (cs.set o (.int .i32 0)) ∧ e = .ret (.tup []) := by
  have hlt := (List.getElem?_eq_some_iff.1 ho).1
  refine code94.call hm (by simp) ?_
  refine Load.one hb ho ?_
  refine Load.mk' hb (by omega) ?_
  refine CallK.pure (ext_marked Tryz.func114 (by kernel_rfl) (by kernel_rfl) (by kernel_rfl) .releaseMerge (by kernel_rfl) b o) ?_
  refine CallK.pure (ext_mark0 Tryz.func109 (by kernel_rfl) (by kernel_rfl) (by kernel_rfl) .disable (by kernel_rfl)) ?_
  refine CallK.mk' (ext_add (s := 0) Tryz.func115 (by kernel_rfl) (by kernel_rfl) (by kernel_rfl) .i32 (by kernel_rfl) hb ho (by decide)) ?_
  rintro e σ' ⟨rfl, rfl⟩
  refine Test.no (by decide) ?_
  refine CallK.pure (ext_mark0 Tryz.func111 (by kernel_rfl) (by kernel_rfl) (by kernel_rfl) .enable (by kernel_rfl)) ?_
  exact Ret.mk' ⟨rfl, rfl⟩
theorem unlock75 {σ : St} {b o : Nat} {cs : List V} (mode : Option V) (hb : σ.box b = some cs) (ho : cs[o]? = some (.int .i32 1)) : SDCall Tryz.prog LG 75 [.loc b o] mode σ fun r σ' => r = false ∧ σ' = σ.put b (cs.set o (.int .i32 0)) := by
  refine SDCall.of_code hm code75 (by simp) ?_
  refine CallK.mk' (unlock94 hb ho) ?_
  rintro e σ' ⟨rfl, rfl⟩
  exact Ret.mk' ⟨⟨_, rfl⟩, rfl, rfl⟩
theorem b32_ret : SRet Tryz.prog LG 96 [.bool true] (.int .u32 1) := by
  intro σ
  refine code96.call hm (by simp) ?_
  exact Ret.mk' ⟨rfl, rfl⟩
theorem store76 {σ : St} {b o : Nat} {cs : List V} (mode : Option V) (hb : σ.box b = some cs) (ho : o < cs.length) : SDCall Tryz.prog LG 76 [.loc b o, .bool true] mode σ fun r σ' => r = false ∧ σ' = σ.put b (cs.set o (.int .u32 1)) := by
  refine SDCall.of_code hm code76 (by simp) ?_
  refine CallK.pure b32_ret ?_
  refine CallK.mk' (ext_store (k := .u32) (y := 1) Tryz.func95 (by kernel_rfl) (by kernel_rfl) (by kernel_rfl) (by kernel_rfl) hb ho) ?_
  rintro e σ' ⟨rfl, rfl⟩
  exact Ret.mk' ⟨⟨_, rfl⟩, rfl, rfl⟩

/-! ### the table -/
def cellOf (m : Nat → Option (List UInt8)) (i : Nat) : V := match m i with
  | some n => .slice .foreign 1 (byteEls n)
  | none => .slice .nil 0 []
def tabOf (m : Nat → Option (List UInt8)) (k : Nat) : List V := (List.range k).map (cellOf m)
theorem tab_length (m : Nat → Option (List UInt8)) (k : Nat) : (tabOf m k).length = k := by simp [tabOf]
theorem tab_get {m : Nat → Option (List UInt8)} {k i : Nat} {r : V} (h : i < k) : (tabOf m k ++ [r])[i]? = some (cellOf m i) := by
  rw [List.getElem?_append_left (by rw [tab_length]; exact h)]
  simp [tabOf, h]
theorem tab_last {m : Nat → Option (List UInt8)} {k : Nat} {r : V} : (tabOf m k ++ [r])[k]? = some r := by
  rw [List.getElem?_append_right (by rw [tab_length]; exact Nat.le_refl _)]
  simp [tab_length]
theorem tab_set {m m' : Nat → Option (List UInt8)} {k i : Nat} {r : V} {n : List UInt8} (h : i < k) (hm : ∀ j, m' j = if j = i then some n else m j) : (tabOf m k ++ [r]).set i (.slice .foreign 1 (byteEls n)) = tabOf m' k ++ [r] := by
  rw [List.set_append_left _ _ (by rw [tab_length]; exact h)]
  congr 1
  apply List.ext_getElem?
  intro j
  rw [List.getElem?_set]
  by_cases hj : i = j
  · subst hj
    simp [tab_length, h]
    simp [tabOf, h, cellOf, hm]
  · simp only [if_neg hj]
    simp only [tabOf, List.getElem?_map]
    by_cases hk : j < k
    · simp [hk, cellOf, hm, Ne.symm hj]
    · simp [hk]
theorem tab_set_last {m : Nat → Option (List UInt8)} {k : Nat} {r r' : V} : (tabOf m k ++ [r]).set k r' = tabOf m k ++ [r'] := by
  rw [List.set_append_right _ _ (by rw [tab_length]; exact Nat.le_refl _)]
  simp [tab_length]
/-- The table behind j pairs, from the last one. -/
def mJ (j : Nat) (i : Nat) : Option (List UInt8) := if i = 10 ∧ 1 ≤ j then some [92, 110] else if i = 92 ∧ 2 ≤ j then some [92, 92] else if i = 34 ∧ 3 ≤ j then some [92, 34] else none
def pairs6 : List (List UInt8) := [[34], [92, 34], [92], [92, 92], [10], [92, 110]]
def reps (j : Nat) : List (List UInt8) := [[10], [92], [34]].take j

theorem mJ_step10 (j : Nat) : mJ 1 j = if j = 10 then some [92, 110] else mJ 0 j := by simp [mJ]
theorem mJ_step92 (j : Nat) : mJ 2 j = if j = 92 then some [92, 92] else mJ 1 j := by
  simp only [mJ]; by_cases h : j = 10 <;> by_cases h2 : j = 92 <;> simp_all
theorem mJ_step34 (j : Nat) : mJ 3 j = if j = 34 then some [92, 34] else mJ 2 j := by
  simp only [mJ]; by_cases h : j = 10 <;> by_cases h2 : j = 92 <;> by_cases h3 : j = 34 <;> simp_all

def BuildPost (σ : St) (e : SEnd) (σ' : St) : Prop := ∃ b2 t', e = .ret (.iface 128 (.loc b2 0)) ∧ Over σ σ' ∧ σ.box b2 = none ∧ σ'.box b2 = some (tabOf (mJ 3) 256 ++ [.slice (.tip t') 1 (strEls (reps 3))])

set_option maxRecDepth 100000 in
set_option maxHeartbeats 4000000 in
theorem build_call {σ : St} {b : Nat} {x0 x1 x2 r : V} {tag : Tag} (hb : σ.box b = some [x0, x1, x2, r, .slice tag 1 (strEls pairs6)]) : SCall Tryz.prog LG 59 [.loc b 0] σ (BuildPost σ) := by
  refine code59.call hm (by simp) ?_
  refine Load.mk' hb (Nat.le_of_ble_eq_true rfl) ?_
  refine Test.no (by decide) ?_
  -- all of one byte
  refine ⟨fun m sl σ' => σ' = σ ∧ ∃ j : Nat, j ≤ 3 ∧ sl = ofL [(3, some (.slice tag 1 (strEls pairs6))), (4, some (.bool (decide (j = 0)))), (5, some (.int .i64 (2 * j : Nat)))] ∧ m = 3 - j, 3, ⟨rfl, 0, by omega, rfl, rfl⟩, ?_⟩
  rintro m sl σ' ⟨rfl, j, hj, rfl, rfl⟩
  have hstep : ∀ j' : Nat, j' < 3 → ∀ (x : List UInt8) (y : List UInt8), pairs6[2 * j']? = some x → pairs6[2 * j' + 1]? = some y → x.length = 1 → y.length = 2 → True := fun _ _ _ _ _ _ _ _ => trivial
  obtain rfl | rfl | rfl | rfl : j = 0 ∨ j = 1 ∨ j = 2 ∨ j = 3 := by omega
  · refine Test.yes (by decide) ?_
    refine Sure.mk' (.inl rfl) ?_
    refine IdxE.mk' 0 _ rfl rfl ?_
    refine ⟨⟨Nat.le_of_ble_eq_true rfl, ?_⟩⟩
    refine Test.no (by decide) ?_
    refine Arith.i64 1 (by decide) (by decide) ?_
    refine Sure.mk' (.inl rfl) ?_
    refine IdxE.mk' 1 _ rfl rfl ?_
    refine ⟨⟨Nat.le_of_ble_eq_true rfl, ?_⟩⟩
    refine Test.yes (by decide) ?_
    refine Arith.i64 2 (by decide) (by decide) ?_
    exact ⟨_, _, by omega, Forget.refl _, rfl, 1, by omega, rfl, rfl⟩
  · refine Test.yes (by decide) ?_
    refine Sure.mk' (.inl rfl) ?_
    refine IdxE.mk' 2 _ rfl rfl ?_
    refine ⟨⟨Nat.le_of_ble_eq_true rfl, ?_⟩⟩
    refine Test.no (by decide) ?_
    refine Arith.i64 3 (by decide) (by decide) ?_
    refine Sure.mk' (.inl rfl) ?_
    refine IdxE.mk' 3 _ rfl rfl ?_
    refine ⟨⟨Nat.le_of_ble_eq_true rfl, ?_⟩⟩
    refine Test.yes (by decide) ?_
    refine Arith.i64 4 (by decide) (by decide) ?_
    exact ⟨_, _, by omega, Forget.refl _, rfl, 2, by omega, rfl, rfl⟩
  · refine Test.yes (by decide) ?_
    refine Sure.mk' (.inl rfl) ?_
    refine IdxE.mk' 4 _ rfl rfl ?_
    refine ⟨⟨Nat.le_of_ble_eq_true rfl, ?_⟩⟩
    refine Test.no (by decide) ?_
    refine Arith.i64 5 (by decide) (by decide) ?_
    refine Sure.mk' (.inl rfl) ?_
    refine IdxE.mk' 5 _ rfl rfl ?_
    refine ⟨⟨Nat.le_of_ble_eq_true rfl, ?_⟩⟩
    refine Test.yes (by decide) ?_
    refine Arith.i64 6 (by decide) (by decide) ?_
    exact ⟨_, _, by omega, Forget.refl _, rfl, 3, by omega, rfl, rfl⟩
  · refine Test.no (by decide) ?_
    -- the table
    refine Sure.mk' (by decide) ?_
    refine Arith.i64 3 (by decide) (by decide) ?_
    refine MkSl.empty (by decide) (by decide) (by decide) (by decide) ?_
    intro t0 ht0
    intro b2 h2
    refine Sure.mk' rfl ?_
    refine Store.mk' (tabOf (mJ 0) 256 ++ [.slice (.tip t0) 1 (strEls (reps 0))]) put_box (Nat.le_of_ble_eq_true rfl) (by kernel_rfl) (fun σ1 e1 => ?_)
    rw [put_put] at e1
    have o1 : Over σ' σ1 := by
      rw [e1]
      exact over_put ⟨fun _ _ h => h, fun t h => by simp [St.on, h]⟩ h2
    have hm1 : Mine σ' σ1 (.tip t0) := by rw [e1]; exact ⟨by simp [St.on, St.put], ht0⟩
    have g1 : σ1.box b2 = some (tabOf (mJ 0) 256 ++ [.slice (.tip t0) 1 (strEls (reps 0))]) := by rw [e1]; exact put_box
    have h2' : σ'.box b2 = none := h2
    clear e1
    refine Arith.i64 4 (by decide) (by decide) ?_
    refine ⟨fun m sl σ2 => ∃ (j t' : Nat), j ≤ 3 ∧ sl = ofL [(3, some (.slice tag 1 (strEls pairs6))), (11, some (.loc b2 0)), (12, some (.int .i64 (4 - 2 * (j : Int))))] ∧ Over σ' σ2 ∧ Mine σ' σ2 (.tip t') ∧ σ2.box b2 = some (tabOf (mJ j) 256 ++ [.slice (.tip t') 1 (strEls (reps j))]) ∧ m = 3 - j, 3,
      ⟨0, t0, by omega, rfl, o1, hm1, g1, rfl⟩, ?_⟩
    rintro m sl σ2 ⟨j, t', hj, rfl, o2, hm2, g2, rfl⟩
    obtain rfl | rfl | rfl | rfl : j = 0 ∨ j = 1 ∨ j = 2 ∨ j = 3 := by omega
    · refine Test.yes (by decide) ?_
      refine Sure.mk' (.inl rfl) ?_
      refine IdxE.mk' 4 _ (by decide) rfl ?_
      refine ⟨⟨Nat.le_of_ble_eq_true rfl, ?_⟩⟩
      refine Idx.mk' 0 10 rfl rfl ?_
      refine Arith.i64 5 (by decide) (by decide) ?_
      refine Sure.mk' (.inl rfl) ?_
      refine IdxE.mk' 5 _ (by decide) rfl ?_
      refine ⟨⟨Nat.le_of_ble_eq_true rfl, ?_⟩⟩
      refine Sure.mk' (by decide) ?_
      refine Load.one g2 (tab_get (by decide)) ?_
      refine Load.one g2 tab_last ?_
      refine Sure.mk' (.inl rfl) ?_
      refine B2S.mk' (l := [10]) ?_
      refine App.mk' o2 hm2 (.inr rfl) rfl (by decide) (by decide) (by simp) (fun t2 σ3 o3 hm3 hbox _ => ?_)
      refine Sure.mk' rfl ?_
      refine Store.mk' (tabOf (mJ 0) 256 ++ [.slice (.tip t2) 1 (strEls (reps 1))]) (by rw [hbox]; exact g2) (by simp [tab_length, V.cells]) (by simp only [setL, V.cells]; exact tab_set_last) (fun σ4 e4 => ?_)
      have o4 : Over σ' σ4 := by rw [e4]; exact over_put o3 h2'
      have g4 : σ4.box b2 = some (tabOf (mJ 0) 256 ++ [.slice (.tip t2) 1 (strEls (reps 1))]) := by rw [e4]; exact put_box
      have hm4 : Mine σ' σ4 (.tip t2) := by rw [e4]; exact hm3
      clear e4
      refine Sure.mk' (by decide) ?_
      refine Sure.mk' rfl ?_
      refine Store.mk' (tabOf (mJ 1) 256 ++ [.slice (.tip t2) 1 (strEls (reps 1))]) g4 (by simp [tab_length, V.cells]) (by simp only [setL, V.cells]; exact tab_set (by decide) mJ_step10) (fun σ5 e5 => ?_)
      have o5 : Over σ' σ5 := by rw [e5]; exact over_put o4 h2'
      have g5 : σ5.box b2 = some (tabOf (mJ 1) 256 ++ [.slice (.tip t2) 1 (strEls (reps 1))]) := by rw [e5]; exact put_box
      have hm5 : Mine σ' σ5 (.tip t2) := by rw [e5]; exact hm4
      refine Arith.i64 (4 - 2 * ((1 : Nat) : Int)) (by decide) (by decide) ?_
      exact ⟨_, _, by omega, Forget.refl _, 1, t2, by omega, rfl, o5, hm5, g5, rfl⟩
    · refine Test.yes (by decide) ?_
      refine Sure.mk' (.inl rfl) ?_
      refine IdxE.mk' 2 _ (by decide) rfl ?_
      refine ⟨⟨Nat.le_of_ble_eq_true rfl, ?_⟩⟩
      refine Idx.mk' 0 92 rfl rfl ?_
      refine Arith.i64 3 (by decide) (by decide) ?_
      refine Sure.mk' (.inl rfl) ?_
      refine IdxE.mk' 3 _ (by decide) rfl ?_
      refine ⟨⟨Nat.le_of_ble_eq_true rfl, ?_⟩⟩
      refine Sure.mk' (by decide) ?_
      refine Load.one g2 (tab_get (by decide)) ?_
      refine Load.one g2 tab_last ?_
      refine Sure.mk' (.inl rfl) ?_
      refine B2S.mk' (l := [92]) ?_
      refine App.mk' o2 hm2 (.inr rfl) rfl (by decide) (by decide) (by simp) (fun t2 σ3 o3 hm3 hbox _ => ?_)
      refine Sure.mk' rfl ?_
      refine Store.mk' (tabOf (mJ 1) 256 ++ [.slice (.tip t2) 1 (strEls (reps 2))]) (by rw [hbox]; exact g2) (by simp [tab_length, V.cells]) (by simp only [setL, V.cells]; exact tab_set_last) (fun σ4 e4 => ?_)
      have o4 : Over σ' σ4 := by rw [e4]; exact over_put o3 h2'
      have g4 : σ4.box b2 = some (tabOf (mJ 1) 256 ++ [.slice (.tip t2) 1 (strEls (reps 2))]) := by rw [e4]; exact put_box
      have hm4 : Mine σ' σ4 (.tip t2) := by rw [e4]; exact hm3
      clear e4
      refine Sure.mk' (by decide) ?_
      refine Sure.mk' rfl ?_
      refine Store.mk' (tabOf (mJ 2) 256 ++ [.slice (.tip t2) 1 (strEls (reps 2))]) g4 (by simp [tab_length, V.cells]) (by simp only [setL, V.cells]; exact tab_set (by decide) mJ_step92) (fun σ5 e5 => ?_)
      have o5 : Over σ' σ5 := by rw [e5]; exact over_put o4 h2'
      have g5 : σ5.box b2 = some (tabOf (mJ 2) 256 ++ [.slice (.tip t2) 1 (strEls (reps 2))]) := by rw [e5]; exact put_box
      have hm5 : Mine σ' σ5 (.tip t2) := by rw [e5]; exact hm4
      refine Arith.i64 (4 - 2 * ((2 : Nat) : Int)) (by decide) (by decide) ?_
      exact ⟨_, _, by omega, Forget.refl _, 2, t2, by omega, rfl, o5, hm5, g5, rfl⟩
    · refine Test.yes (by decide) ?_
      refine Sure.mk' (.inl rfl) ?_
      refine IdxE.mk' 0 _ (by decide) rfl ?_
      refine ⟨⟨Nat.le_of_ble_eq_true rfl, ?_⟩⟩
      refine Idx.mk' 0 34 rfl rfl ?_
      refine Arith.i64 1 (by decide) (by decide) ?_
      refine Sure.mk' (.inl rfl) ?_
      refine IdxE.mk' 1 _ (by decide) rfl ?_
      refine ⟨⟨Nat.le_of_ble_eq_true rfl, ?_⟩⟩
      refine Sure.mk' (by decide) ?_
      refine Load.one g2 (tab_get (by decide)) ?_
      refine Load.one g2 tab_last ?_
      refine Sure.mk' (.inl rfl) ?_
      refine B2S.mk' (l := [34]) ?_
      refine App.mk' o2 hm2 (.inr rfl) rfl (by decide) (by decide) (by simp) (fun t2 σ3 o3 hm3 hbox _ => ?_)
      refine Sure.mk' rfl ?_
      refine Store.mk' (tabOf (mJ 2) 256 ++ [.slice (.tip t2) 1 (strEls (reps 3))]) (by rw [hbox]; exact g2) (by simp [tab_length, V.cells]) (by simp only [setL, V.cells]; exact tab_set_last) (fun σ4 e4 => ?_)
      have o4 : Over σ' σ4 := by rw [e4]; exact over_put o3 h2'
      have g4 : σ4.box b2 = some (tabOf (mJ 2) 256 ++ [.slice (.tip t2) 1 (strEls (reps 3))]) := by rw [e4]; exact put_box
      have hm4 : Mine σ' σ4 (.tip t2) := by rw [e4]; exact hm3
      clear e4
      refine Sure.mk' (by decide) ?_
      refine Sure.mk' rfl ?_
      refine Store.mk' (tabOf (mJ 3) 256 ++ [.slice (.tip t2) 1 (strEls (reps 3))]) g4 (by simp [tab_length, V.cells]) (by simp only [setL, V.cells]; exact tab_set (by decide) mJ_step34) (fun σ5 e5 => ?_)
      have o5 : Over σ' σ5 := by rw [e5]; exact over_put o4 h2'
      have g5 : σ5.box b2 = some (tabOf (mJ 3) 256 ++ [.slice (.tip t2) 1 (strEls (reps 3))]) := by rw [e5]; exact put_box
      have hm5 : Mine σ' σ5 (.tip t2) := by rw [e5]; exact hm4
      refine Arith.i64 (4 - 2 * ((3 : Nat) : Int)) (by decide) (by decide) ?_
      exact ⟨_, _, by omega, Forget.refl _, 3, t2, by omega, rfl, o5, hm5, g5, rfl⟩
    · refine Test.no (by decide) ?_
      exact Ret.mk' ⟨b2, t', rfl, o2, h2', g2⟩

/-! ### once -/
def DonePost (σ0 : St) (b : Nat) (x2 : V) (e : SEnd) (σ' : St) : Prop := e = .ret (.tup []) ∧ ∃ b2 t', Over σ0 σ' ∧ σ0.box b2 = none ∧ σ'.box b2 = some (tabOf (mJ 3) 256 ++ [.slice (.tip t') 1 (strEls (reps 3))]) ∧
  ∃ x0 x1 s, σ'.box b = some [x0, x1, x2, .iface 128 (.loc b2 0), s]
theorem buildOnce_call {σ0 σ : St} {b : Nat} {x0 x1 x2 r : V} {tag : Tag} (o : Over σ0 σ) (hf : σ0.box b = none) (hb : σ.box b = some [x0, x1, x2, r, .slice tag 1 (strEls pairs6)]) :
    SCall Tryz.prog LG 44 [.loc b 0] σ fun e σ' => e = .ret (.tup []) ∧ ∃ b2 t', Over σ0 σ' ∧ σ0.box b2 = none ∧ σ'.box b2 = some (tabOf (mJ 3) 256 ++ [.slice (.tip t') 1 (strEls (reps 3))]) ∧ σ'.box b = some [x0, x1, x2, .iface 128 (.loc b2 0), .slice .nil 0 []] := by
  refine code44.call hm (by simp) ?_
  refine CallK.mk' (build_call hb) ?_
  rintro e σ1 ⟨b2, t', rfl, o1, h2, g2⟩
  have hne : b ≠ b2 := by rintro rfl; rw [hb] at h2; cases h2
  refine Sure.mk' rfl ?_
  refine Store.mk' [x0, x1, x2, .iface 128 (.loc b2 0), .slice tag 1 (strEls pairs6)] (o1.box _ _ hb) (Nat.le_of_ble_eq_true rfl) rfl (fun σ2 e2 => ?_)
  refine Sure.mk' rfl ?_
  refine Store.mk' [x0, x1, x2, .iface 128 (.loc b2 0), .slice .nil 0 []] (by rw [e2]; exact put_box) (Nat.le_of_ble_eq_true rfl) rfl (fun σ3 e3 => ?_)
  rw [e2, put_put] at e3
  refine Ret.mk' ⟨rfl, b2, t', ?_, over_none o h2, ?_, ?_⟩
  · rw [e3]; exact over_put (over_trans o o1) hf
  · rw [e3]; simp [St.put, hne.symm, g2]
  · rw [e3]; exact put_box

theorem doSlow_call {σ0 σ : St} {b : Nat} {x2 r : V} {tag : Tag} (o : Over σ0 σ) (hf : σ0.box b = none) (hb : σ.box b = some [.int .u32 0, .int .i32 0, x2, r, .slice tag 1 (strEls pairs6)]) :
    SCall Tryz.prog LG 58 [.loc b 0, .func 44 [.loc b 0] []] σ (DonePost σ0 b x2) := by
  refine code58.call hm (by simp) ?_
  refine CallK.mk' (lock74 hb rfl) ?_
  rintro e σ1 ⟨rfl, rfl⟩
  refine CallK.mk' (bload put_box rfl) ?_
  rintro e σ1 ⟨rfl, rfl⟩
  refine CallK.mk' (buildOnce_call (over_put o hf) hf put_box) ?_
  rintro e σ2 ⟨rfl, b2, t', o2, h2, g2, gb⟩
  have hne : b2 ≠ b := by rintro rfl; rw [gb] at g2; have := congrArg (fun x => (x.getD []).length) g2; simp [tab_length] at this
  refine DefK.mk' (store76 none gb (by simp)) ?_
  rintro r1 σ3 ⟨rfl, rfl⟩
  refine DefK.mk' (unlock75 none put_box rfl) ?_
  rintro r1 σ3 ⟨rfl, rfl⟩
  refine Ret.mk' ⟨rfl, b2, t', ?_, h2, ?_, _, _, _, put_box⟩
  · rw [put_put]; exact over_put o2 hf
  · rw [put_put]; simp [St.put, hne, g2]

theorem do_call43 {σ0 σ : St} {b : Nat} {x2 r : V} {tag : Tag} (o : Over σ0 σ) (hf : σ0.box b = none) (hb : σ.box b = some [.int .u32 0, .int .i32 0, x2, r, .slice tag 1 (strEls pairs6)]) :
    SCall Tryz.prog LG 43 [.loc b 0, .func 44 [.loc b 0] []] σ (DonePost σ0 b x2) := by
  refine code43.call hm (by simp) ?_
  refine CallK.mk' (bload hb rfl) ?_
  rintro e σ1 ⟨rfl, rfl⟩
  refine CallK.mk' (doSlow_call o hf hb) ?_
  rintro e σ2 ⟨rfl, h⟩
  exact Ret.mk' ⟨rfl, h⟩

def NewPost (σ : St) (e : SEnd) (σ' : St) : Prop := ∃ b t, e = .ret (.loc b 0) ∧ Over σ σ' ∧ σ.box b = none ∧ σ'.box b = some [.int .u32 0, .int .i32 0, .int .u32 0, .nilIface, .slice (.tip t) 1 (strEls pairs6)]
theorem newReplacer_call (σ : St) : SCall Tryz.prog LG 25 [.slice .full 1 (strEls pairs6)] σ (NewPost σ) := by
  refine code25.call hm (by simp) ?_
  refine Sure.mk' (by decide) ?_
  refine Test.no (by decide) ?_
  refine App.mk' (σ1 := σ) (.refl _) trivial (.inl rfl) rfl (by decide) (by decide) (by simp [strEls, pairs6]) (fun t σ1 o1 hm1 _ _ => ?_)
  refine ⟨rfl, ?_⟩
  intro b hb
  exact Ret.mk' ⟨b, t, rfl, over_put o1 (over_none o1 hb), over_none o1 hb, put_box⟩
end Go.Shadow.Lex

/- Proved: what the lexer's replacer of strings does, as a shadow contract. Conditions: texts of at most 1000000 bytes. -/
namespace Go.Shadow.Lex
open Go Go.RowKit Go.Proofs

theorem getS {l : List UInt8} {j : Nat} (h : j < l.length) : ∃ c, l[j]? = some c := ⟨l[j], by simp [h]⟩
/-- A byte as it is quoted. -/
def qOf (c : UInt8) : List UInt8 := match mJ 3 c.toNat with
  | some n => n
  | none => [c]
def quoteB (s : List UInt8) : List UInt8 := s.flatMap qOf
def isSp (c : UInt8) : Bool := (mJ 3 c.toNat).isSome
theorem mJ3_some {i : Nat} {n : List UInt8} (h : mJ 3 i = some n) : ∃ y, n = [92, y] := by
  simp only [mJ] at h
  split at h
  · injection h with h; exact ⟨_, h.symm⟩
  · split at h
    · injection h with h; exact ⟨_, h.symm⟩
    · split at h
      · injection h with h; exact ⟨_, h.symm⟩
      · cases h
theorem qOf_length (c : UInt8) : (qOf c).length = 1 + (if isSp c then 1 else 0) := by
  unfold qOf isSp
  cases h : mJ 3 c.toNat with
  | none => rfl
  | some n => obtain ⟨y, rfl⟩ := mJ3_some h; rfl
theorem quoteB_length (s : List UInt8) : (quoteB s).length = s.length + s.countP isSp := by
  induction s with
  | nil => rfl
  | cons c s ih =>
    have : quoteB (c :: s) = qOf c ++ quoteB s := rfl
    rw [this, List.length_append, ih, qOf_length, List.countP_cons, List.length_cons]
    omega
theorem quoteB_snoc (s : List UInt8) (c : UInt8) : quoteB (s ++ [c]) = quoteB s ++ qOf c := by simp [quoteB]
theorem isSp_iff (c : UInt8) : isSp c = true ↔ (c = 10 ∨ c = 92 ∨ c = 34) := by
  unfold isSp
  have e1 : c.toNat = 10 ↔ c = 10 := ⟨fun h => UInt8.toNat_inj.1 (by simpa using h), fun h => by rw [h]; rfl⟩
  have e2 : c.toNat = 92 ↔ c = 92 := ⟨fun h => UInt8.toNat_inj.1 (by simpa using h), fun h => by rw [h]; rfl⟩
  have e3 : c.toNat = 34 ↔ c = 34 := ⟨fun h => UInt8.toNat_inj.1 (by simpa using h), fun h => by rw [h]; rfl⟩
  simp only [mJ]
  by_cases h1 : c.toNat = 10
  · simp [h1, e1.1 h1]
  · by_cases h2 : c.toNat = 92
    · simp [h2, e2.1 h2]
    · by_cases h3 : c.toNat = 34
      · simp [h3, e3.1 h3]
      · simp [h1, h2, h3, ← e1, ← e2, ← e3]
theorem quoteB_none {s : List UInt8} (h : s.countP isSp = 0) : quoteB s = s := by
  induction s with
  | nil => rfl
  | cons c s ih =>
    rw [List.countP_cons] at h
    have hc : isSp c = false := by cases hc : isSp c with | false => rfl | true => rw [hc] at h; simp at h
    have : quoteB (c :: s) = qOf c ++ quoteB s := rfl
    rw [this, ih (by omega)]
    unfold isSp at hc
    unfold qOf
    cases hm : mJ 3 c.toNat with
    | none => rfl
    | some n => rw [hm] at hc; cases hc
theorem sp_sum (s : List UInt8) : s.countP isSp = s.count 10 + s.count 92 + s.count 34 := by
  induction s with
  | nil => rfl
  | cons c s ih =>
    rw [List.countP_cons, List.count_cons, List.count_cons, List.count_cons, ih]
    by_cases h1 : c = 10
    · subst h1; simp [(isSp_iff 10).2 (.inl rfl)]; omega
    · by_cases h2 : c = 92
      · subst h2; simp [(isSp_iff 92).2 (.inr (.inl rfl))]; omega
      · by_cases h3 : c = 34
        · subst h3; simp [(isSp_iff 34).2 (.inr (.inr rfl))]; omega
        · have : isSp c = false := by
            cases hc : isSp c with
            | false => rfl
            | true => have := (isSp_iff c).1 hc; simp [h1, h2, h3] at this
          simp [this, h1, h2, h3]

theorem countS_ret (s : List UInt8) (c : UInt8) : SRet Tryz.prog LG 157 [.str s, .int .u8 c.toNat] (.int .i64 (s.count c)) := by
  intro σ w0 γ w xs hI hRL
  obtain ⟨x, y, rfl, hx, hy⟩ := hRL.inv2
  obtain rfl := hx.inv_str
  obtain rfl := hy.inv_int
  refine .inr ⟨_, w, ?_, γ, σ, .refl _ _ _, hI, .int .i64 (s.count c), _, .int _ _, .inl ⟨rfl, rfl, rfl⟩⟩
  rw [run_callFunc_extern Tryz.func157 (by kernel_rfl) (by kernel_rfl) (by kernel_rfl) (e := Extern.BytealgCount.count) (by kernel_rfl), Lib.run_countString]
  simp [Result.andThen, Lib.countByte]
theorem count_ret (s : List UInt8) (c : UInt8) : SRet Tryz.prog LG 155 [.str s, .str [c]] (.int .i64 (s.count c)) := by
  intro σ
  refine code155.call hm (by simp) ?_
  refine Test.no (by simp) ?_
  refine Test.yes (by simp) ?_
  refine Idx.mk' 0 c rfl rfl ?_
  refine CallK.pure (countS_ret s c) ?_
  exact Ret.mk' ⟨rfl, rfl⟩

def TAB (t : Nat) : List V := tabOf (mJ 3) 256 ++ [.slice (.tip t) 1 (strEls (reps 3))]
theorem TAB_none {t : Nat} {c : UInt8} (h : mJ 3 c.toNat = none) : (TAB t)[0 + ((c.toNat : Nat) : Int).toNat * 1]? = some (.slice .nil 0 []) := by
  have hc := c.toNat_lt
  rw [show 0 + ((c.toNat : Nat) : Int).toNat * 1 = c.toNat by simp]
  rw [TAB, tab_get (by omega)]
  simp [cellOf, h]
theorem TAB_some {t : Nat} {c y : UInt8} (h : mJ 3 c.toNat = some [92, y]) : (TAB t)[0 + ((c.toNat : Nat) : Int).toNat * 1]? = some (.slice .foreign 1 (byteEls [92, y])) := by
  have hc := c.toNat_lt
  rw [show 0 + ((c.toNat : Nat) : Int).toNat * 1 = c.toNat by simp]
  rw [TAB, tab_get (by omega)]
  simp [cellOf, h]
theorem TAB_last {t : Nat} : (TAB t)[256]? = some (.slice (.tip t) 1 (strEls (reps 3))) := tab_last
def bytesV (l : List UInt8) : List V := l.map fun b => V.int .u8 b.toNat
theorem bytesV_els (l : List UInt8) : (bytesV l).map ([·]) = byteEls l := by simp [bytesV, byteEls]
theorem bytesV_append (a b : List UInt8) : bytesV (a ++ b) = bytesV a ++ bytesV b := by simp [bytesV]
theorem zeros_flat (n : Nat) : (List.replicate n [V.int .u8 0]).flatten = List.replicate n (V.int .u8 0) := by
  induction n with
  | zero => rfl
  | succ n ih => rw [List.replicate_succ, List.flatten_cons, ih]; rfl
theorem buf_set (q x : List UInt8) (n : Nat) (h : x.length ≤ n) : setL (bytesV q ++ List.replicate n (V.int .u8 0)) q.length (bytesV x) = bytesV (q ++ x) ++ List.replicate (n - x.length) (V.int .u8 0) := by
  have := setL_mid (bytesV q) (List.replicate x.length (V.int .u8 0)) (List.replicate (n - x.length) (V.int .u8 0)) (bytesV x) (by simp [bytesV])
  rw [show (bytesV q).length = q.length by simp [bytesV]] at this
  rw [bytesV_append, ← this, List.append_assoc, List.replicate_append_replicate]
  congr 3
  omega

def cnt (s : List UInt8) : Nat → Nat
  | 0 => 0
  | 1 => s.count 10
  | 2 => s.count 10 + s.count 92
  | _ => s.count 10 + s.count 92 + s.count 34

set_option maxHeartbeats 16000000 in
theorem replace153 {σ : St} {b2 t : Nat} (s : List UInt8) (hs : s.length ≤ 1000000) (hb : σ.box b2 = some (TAB t)) : SCall Tryz.prog LG 153 [.loc b2 0, .str s] σ fun e σ' => e = .ret (.str (quoteB s)) ∧ Over σ σ' := by
  have hql := quoteB_length s
  have hcl : s.countP isSp ≤ s.length := List.countP_le_length
  refine code153.call hm (by simp) ?_
  refine Load.one hb TAB_last ?_
  refine Arith.i64 24 (by decide) (by decide) ?_
  refine Test.split (fun h1 => ?_) (fun h1 => ?_)
  · refine Load.one hb TAB_last ?_
    refine ⟨fun m sl σ' => σ' = σ ∧ ∃ j : Nat, j ≤ 3 ∧ sl = ofL [(0, some (.loc b2 0)), (1, some (.str s)), (5, some (.int .i64 (s.length + cnt s j : Nat))), (6, some (.bool (decide (0 < cnt s j)))), (30, some (.slice (.tip t) 1 (strEls (reps 3)))), (31, some (.int .i64 3)), (32, some (.int .i64 j))] ∧ m = 3 - j, 3, ⟨rfl, 0, by omega, rfl, rfl⟩, ?_⟩
    rintro m sl σ' ⟨rfl, j, hj, rfl, rfl⟩
    have hc1 : s.count 10 ≤ s.length := List.count_le_length
    have hc2 : s.count 92 ≤ s.length := List.count_le_length
    have hc3 : s.count 34 ≤ s.length := List.count_le_length
    obtain rfl | rfl | rfl | rfl : j = 0 ∨ j = 1 ∨ j = 2 ∨ j = 3 := by omega
    · refine Test.yes (by decide) ?_
      refine Sure.mk' (.inl rfl) ?_
      refine IdxE.mk' 0 [.str [10]] rfl rfl ?_
      refine ⟨⟨Nat.le_of_ble_eq_true rfl, ?_⟩⟩
      refine CallK.pure (count_ret s 10) ?_
      have hcj : cnt s 1 = cnt s 0 + s.count 10 := by simp [cnt]
      refine Test.split (fun h2 => ?_) (fun h2 => ?_)
      · refine Idx.mk' 0 10 rfl rfl ?_
        refine Sure.mk' (by decide) ?_
        refine Load.one hb (TAB_some (c := 10) rfl) ?_
        refine Arith.i64 1 rfl (by decide) ?_
        refine Arith.i64 ((s.count 10 : Nat) : Int) (by simp) (by omega) ?_
        refine Arith.i64 ((s.length + cnt s 1 : Nat) : Int) (by simp [cnt] <;> omega) (by simp only [cnt]; omega) ?_
        refine Arith.i64 ((1 : Nat) : Int) (by decide) (by decide) ?_
        exact ⟨_, _, by omega, Forget.refl _, rfl, 1, by omega, by rw [decide_eq_true (show 0 < cnt s 1 by omega)]; rfl, rfl⟩
      · refine Arith.i64 ((1 : Nat) : Int) (by decide) (by decide) ?_
        exact ⟨_, _, by omega, Forget.refl _, rfl, 1, by omega, by rw [hcj, show s.count 10 = 0 by omega]; rfl, rfl⟩
    · refine Test.yes (by decide) ?_
      refine Sure.mk' (.inl rfl) ?_
      refine IdxE.mk' 1 [.str [92]] rfl rfl ?_
      refine ⟨⟨Nat.le_of_ble_eq_true rfl, ?_⟩⟩
      refine CallK.pure (count_ret s 92) ?_
      have hcj : cnt s 2 = cnt s 1 + s.count 92 := by simp [cnt]
      refine Test.split (fun h2 => ?_) (fun h2 => ?_)
      · refine Idx.mk' 0 92 rfl rfl ?_
        refine Sure.mk' (by decide) ?_
        refine Load.one hb (TAB_some (c := 92) rfl) ?_
        refine Arith.i64 1 rfl (by decide) ?_
        refine Arith.i64 ((s.count 92 : Nat) : Int) (by simp) (by omega) ?_
        refine Arith.i64 ((s.length + cnt s 2 : Nat) : Int) (by simp [cnt] <;> omega) (by simp only [cnt]; omega) ?_
        refine Arith.i64 ((2 : Nat) : Int) (by decide) (by decide) ?_
        exact ⟨_, _, by omega, Forget.refl _, rfl, 2, by omega, by rw [decide_eq_true (show 0 < cnt s 2 by omega)]; rfl, rfl⟩
      · refine Arith.i64 ((2 : Nat) : Int) (by decide) (by decide) ?_
        exact ⟨_, _, by omega, Forget.refl _, rfl, 2, by omega, by rw [hcj, show s.count 92 = 0 by omega]; rfl, rfl⟩
    · refine Test.yes (by decide) ?_
      refine Sure.mk' (.inl rfl) ?_
      refine IdxE.mk' 2 [.str [34]] rfl rfl ?_
      refine ⟨⟨Nat.le_of_ble_eq_true rfl, ?_⟩⟩
      refine CallK.pure (count_ret s 34) ?_
      have hcj : cnt s 3 = cnt s 2 + s.count 34 := by simp [cnt]
      refine Test.split (fun h2 => ?_) (fun h2 => ?_)
      · refine Idx.mk' 0 34 rfl rfl ?_
        refine Sure.mk' (by decide) ?_
        refine Load.one hb (TAB_some (c := 34) rfl) ?_
        refine Arith.i64 1 rfl (by decide) ?_
        refine Arith.i64 ((s.count 34 : Nat) : Int) (by simp) (by omega) ?_
        refine Arith.i64 ((s.length + cnt s 3 : Nat) : Int) (by simp [cnt] <;> omega) (by simp only [cnt]; omega) ?_
        refine Arith.i64 ((3 : Nat) : Int) (by decide) (by decide) ?_
        exact ⟨_, _, by omega, Forget.refl _, rfl, 3, by omega, by rw [decide_eq_true (show 0 < cnt s 3 by omega)]; rfl, rfl⟩
      · refine Arith.i64 ((3 : Nat) : Int) (by decide) (by decide) ?_
        exact ⟨_, _, by omega, Forget.refl _, rfl, 3, by omega, by rw [hcj, show s.count 34 = 0 by omega]; rfl, rfl⟩
    · refine Test.no (by decide) ?_
      rw [show cnt s 3 = s.countP isSp from (sp_sum s).symm]
      by_cases h0 : 0 < s.countP isSp
      · rw [decide_eq_true h0]
        refine MkSl.full (s.length + s.countP isSp) rfl (by omega) (by omega) (by omega) ?_
        intro bb hbb
        obtain ⟨o1, g1⟩ := new_box hbb (List.replicate (s.length + s.countP isSp) [V.int .u8 0]).flatten
        generalize σ'.put bb (List.replicate (s.length + s.countP isSp) [V.int .u8 0]).flatten = σ1 at *
        rw [zeros_flat] at g1
        refine ⟨fun m sl σ2 => ∃ i : Nat, i ≤ s.length ∧ sl = ofL [(0, some (.loc b2 0)), (1, some (.str s)), (12, some (.mslice bb 0 (s.length + s.countP isSp) (s.length + s.countP isSp))), (13, some (.int .i64 (quoteB (s.take i)).length)), (14, some (.int .i64 i))] ∧
            Over σ' σ2 ∧ σ2.box bb = some (bytesV (quoteB (s.take i)) ++ List.replicate (s.length + s.countP isSp - (quoteB (s.take i)).length) (V.int .u8 0)) ∧ m = s.length - i, _, ⟨0, by omega, rfl, o1, by simpa [quoteB, bytesV] using g1, rfl⟩, ?_⟩
        rintro m sl σ2 ⟨i, hi, rfl, o2, g2, rfl⟩
        have hb2 := o2.box _ _ hb
        refine Test.split (fun h5 => ?_) (fun h5 => ?_)
        · obtain ⟨c, hc⟩ := getS (l := s) (j := i) (by omega)
          have hcl2 := c.toNat_lt
          have htk : s.take (i + 1) = s.take i ++ [c] := by rw [List.take_add_one, hc]; rfl
          have hq2 : quoteB (s.take (i + 1)) = quoteB (s.take i) ++ qOf c := by rw [htk, quoteB_snoc]
          have hle : (quoteB (s.take (i + 1))).length ≤ s.length + s.countP isSp := by
            rw [quoteB_length]
            have h7 : (s.take (i + 1)).countP isSp ≤ s.countP isSp := (List.take_sublist _ _).countP_le
            have h8 : (s.take (i + 1)).length ≤ s.length := by simp; omega
            omega
          generalize hq : quoteB (s.take i) = q at *
          rw [hq2, List.length_append] at hle
          refine Idx.mk' i c rfl hc ?_
          refine Sure.mk' (by omega) ?_
          cases hm' : mJ 3 c.toNat with
          | none =>
            have hqc : qOf c = [c] := by unfold qOf; rw [hm']
            rw [hqc] at hq2 hle
            simp only [List.length_cons, List.length_nil] at hle
            refine Load.one hb2 (TAB_none hm') ?_
            refine Sure.mk' (by omega) ?_
            refine Sure.mk' rfl ?_
            refine Store.mk' (bytesV (q ++ [c]) ++ List.replicate (s.length + s.countP isSp - (q ++ [c]).length) (V.int .u8 0)) g2 (by simp [bytesV, V.cells]; omega) ?_ (fun σ3 e3 => ?_)
            · rw [show 0 + ((q.length : Nat) : Int).toNat * 1 = q.length by simp]
              have := buf_set q [c] (s.length + s.countP isSp - q.length) (by simp; omega)
              rw [show s.length + s.countP isSp - (q ++ [c]).length = s.length + s.countP isSp - q.length - [c].length by simp; omega]
              exact this
            · have o3 : Over σ' σ3 := by rw [e3]; exact over_put o2 hbb
              have g3 : σ3.box bb = some (bytesV (q ++ [c]) ++ List.replicate (s.length + s.countP isSp - (q ++ [c]).length) (V.int .u8 0)) := by rw [e3]; exact put_box
              refine Arith.i64 (((q ++ [c]).length : Nat) : Int) (by simp) (by simp; omega) ?_
              refine Arith.i64 ((i + 1 : Nat) : Int) (by simp) (by omega) ?_
              exact ⟨_, _, by omega, Forget.refl _, i + 1, by omega, by rw [hq2]; rfl, o3, by rw [hq2]; exact g3, rfl⟩
          | some n =>
            obtain ⟨y, rfl⟩ := mJ3_some hm'
            have hqc : qOf c = [92, y] := by unfold qOf; rw [hm']
            rw [hqc] at hq2 hle
            simp only [List.length_cons, List.length_nil] at hle
            refine Load.one hb2 (TAB_some hm') ?_
            refine Sure.mk' (by omega) ?_
            refine Sure.mk' (by omega) ?_
            refine Load.one hb2 (TAB_some hm') ?_
            refine CopyK.mk' (bytesV (q ++ [92, y]) ++ List.replicate (s.length + s.countP isSp - (q ++ [92, y]).length) (V.int .u8 0)) g2 rfl (by simp [bytesV] <;> omega) (by simp [byteEls] <;> omega) (by simp [byteEls]) ?_ (fun σ3 e3 => ?_)
            · rw [show 0 + ((q.length : Nat) : Int).toNat * 1 = q.length by simp]
              have := buf_set q [92, y] (s.length + s.countP isSp - q.length) (by simp; omega)
              rw [show s.length + s.countP isSp - (q ++ [92, y]).length = s.length + s.countP isSp - q.length - [92, y].length by simp; omega]
              exact this
            · have o3 : Over σ' σ3 := by rw [e3]; exact over_put o2 hbb
              have g3 : σ3.box bb = some (bytesV (q ++ [92, y]) ++ List.replicate (s.length + s.countP isSp - (q ++ [92, y]).length) (V.int .u8 0)) := by rw [e3]; exact put_box
              refine Arith.i64 (((q ++ [92, y]).length : Nat) : Int) (by simp [byteEls]) (by simp; omega) ?_
              refine Arith.i64 ((i + 1 : Nat) : Int) (by simp) (by omega) ?_
              exact ⟨_, _, by omega, Forget.refl _, i + 1, by omega, by rw [hq2]; rfl, o3, by rw [hq2]; exact g3, rfl⟩
        · have hi' : i = s.length := by omega
          subst hi'
          rw [List.take_length, hql, Nat.sub_self, List.replicate_zero, List.append_nil] at g2
          have hbl : (bytesV (quoteB s)).length = s.length + s.countP isSp := by simp [bytesV, hql]
          refine Load.mk' g2 (by omega) ?_
          rw [List.drop_zero, List.take_of_length_le (by omega)]
          show B2S ((bytesV (quoteB s)).map ([·])) _
          rw [bytesV_els]
          refine B2S.mk' ?_
          exact Ret.mk' ⟨rfl, o2⟩
      · rw [decide_eq_false h0]
        exact Ret.mk' ⟨by rw [quoteB_none (by omega)], .refl _⟩
  · refine ⟨fun m sl σ' => σ' = σ ∧ ∃ i : Nat, i ≤ s.length ∧ sl = ofL [(0, some (.loc b2 0)), (1, some (.str s)), (5, some (.int .i64 (s.length + (s.take i).countP isSp : Nat))), (6, some (.bool (decide (0 < (s.take i).countP isSp)))), (10, some (.int .i64 i))] ∧ m = s.length - i, _, ⟨rfl, 0, by omega, rfl, rfl⟩, ?_⟩
    rintro m sl σ' ⟨rfl, i, hi, rfl, rfl⟩
    refine Test.split (fun h5 => ?_) (fun h5 => ?_)
    · obtain ⟨c, hc⟩ := getS (l := s) (j := i) (by omega)
      have hcl2 := c.toNat_lt
      have htk : s.take (i + 1) = s.take i ++ [c] := by rw [List.take_add_one, hc]; rfl
      have hct : (s.take (i + 1)).countP isSp = (s.take i).countP isSp + (if isSp c then 1 else 0) := by rw [htk, List.countP_append, List.countP_singleton]
      have h7 : (s.take i).countP isSp ≤ s.countP isSp := (List.take_sublist _ _).countP_le
      refine Idx.mk' i c rfl hc ?_
      refine Sure.mk' (by omega) ?_
      cases hm' : mJ 3 c.toNat with
      | none =>
        have hsp : isSp c = false := by unfold isSp; rw [hm']; rfl
        rw [hsp] at hct
        refine Load.one hb (TAB_none hm') ?_
        refine Arith.i64 ((i + 1 : Nat) : Int) (by simp) (by omega) ?_
        exact ⟨_, _, by omega, Forget.refl _, rfl, i + 1, by omega, by rw [hct]; rfl, rfl⟩
      | some n =>
        obtain ⟨y, rfl⟩ := mJ3_some hm'
        have hsp : isSp c = true := by unfold isSp; rw [hm']; rfl
        rw [hsp] at hct
        simp only [if_true] at hct
        refine Load.one hb (TAB_some hm') ?_
        refine Sure.mk' (by omega) ?_
        refine Load.one hb (TAB_some hm') ?_
        refine Arith.i64 1 rfl (by decide) ?_
        refine Arith.i64 ((s.length + (s.take (i + 1)).countP isSp : Nat) : Int) (by rw [hct]; simp <;> omega) (by omega) ?_
        refine Arith.i64 ((i + 1 : Nat) : Int) (by simp) (by omega) ?_
        exact ⟨_, _, by omega, Forget.refl _, rfl, i + 1, by omega, by rw [decide_eq_true (show 0 < (s.take (i + 1)).countP isSp by omega)]; rfl, rfl⟩
    · rw [show s.take i = s from List.take_of_length_le (by omega)]
      by_cases h0 : 0 < s.countP isSp
      · rw [decide_eq_true h0]
        refine MkSl.full (s.length + s.countP isSp) rfl (by omega) (by omega) (by omega) ?_
        intro bb hbb
        obtain ⟨o1, g1⟩ := new_box hbb (List.replicate (s.length + s.countP isSp) [V.int .u8 0]).flatten
        generalize σ'.put bb (List.replicate (s.length + s.countP isSp) [V.int .u8 0]).flatten = σ1 at *
        rw [zeros_flat] at g1
        refine ⟨fun m sl σ2 => ∃ i : Nat, i ≤ s.length ∧ sl = ofL [(0, some (.loc b2 0)), (1, some (.str s)), (12, some (.mslice bb 0 (s.length + s.countP isSp) (s.length + s.countP isSp))), (13, some (.int .i64 (quoteB (s.take i)).length)), (14, some (.int .i64 i))] ∧
            Over σ' σ2 ∧ σ2.box bb = some (bytesV (quoteB (s.take i)) ++ List.replicate (s.length + s.countP isSp - (quoteB (s.take i)).length) (V.int .u8 0)) ∧ m = s.length - i, _, ⟨0, by omega, rfl, o1, by simpa [quoteB, bytesV] using g1, rfl⟩, ?_⟩
        rintro m sl σ2 ⟨i, hi, rfl, o2, g2, rfl⟩
        have hb2 := o2.box _ _ hb
        refine Test.split (fun h5 => ?_) (fun h5 => ?_)
        · obtain ⟨c, hc⟩ := getS (l := s) (j := i) (by omega)
          have hcl2 := c.toNat_lt
          have htk : s.take (i + 1) = s.take i ++ [c] := by rw [List.take_add_one, hc]; rfl
          have hq2 : quoteB (s.take (i + 1)) = quoteB (s.take i) ++ qOf c := by rw [htk, quoteB_snoc]
          have hle : (quoteB (s.take (i + 1))).length ≤ s.length + s.countP isSp := by
            rw [quoteB_length]
            have h7 : (s.take (i + 1)).countP isSp ≤ s.countP isSp := (List.take_sublist _ _).countP_le
            have h8 : (s.take (i + 1)).length ≤ s.length := by simp; omega
            omega
          generalize hq : quoteB (s.take i) = q at *
          rw [hq2, List.length_append] at hle
          refine Idx.mk' i c rfl hc ?_
          refine Sure.mk' (by omega) ?_
          cases hm' : mJ 3 c.toNat with
          | none =>
            have hqc : qOf c = [c] := by unfold qOf; rw [hm']
            rw [hqc] at hq2 hle
            simp only [List.length_cons, List.length_nil] at hle
            refine Load.one hb2 (TAB_none hm') ?_
            refine Sure.mk' (by omega) ?_
            refine Sure.mk' rfl ?_
            refine Store.mk' (bytesV (q ++ [c]) ++ List.replicate (s.length + s.countP isSp - (q ++ [c]).length) (V.int .u8 0)) g2 (by simp [bytesV, V.cells]; omega) ?_ (fun σ3 e3 => ?_)
            · rw [show 0 + ((q.length : Nat) : Int).toNat * 1 = q.length by simp]
              have := buf_set q [c] (s.length + s.countP isSp - q.length) (by simp; omega)
              rw [show s.length + s.countP isSp - (q ++ [c]).length = s.length + s.countP isSp - q.length - [c].length by simp; omega]
              exact this
            · have o3 : Over σ' σ3 := by rw [e3]; exact over_put o2 hbb
              have g3 : σ3.box bb = some (bytesV (q ++ [c]) ++ List.replicate (s.length + s.countP isSp - (q ++ [c]).length) (V.int .u8 0)) := by rw [e3]; exact put_box
              refine Arith.i64 (((q ++ [c]).length : Nat) : Int) (by simp) (by simp; omega) ?_
              refine Arith.i64 ((i + 1 : Nat) : Int) (by simp) (by omega) ?_
              exact ⟨_, _, by omega, Forget.refl _, i + 1, by omega, by rw [hq2]; rfl, o3, by rw [hq2]; exact g3, rfl⟩
          | some n =>
            obtain ⟨y, rfl⟩ := mJ3_some hm'
            have hqc : qOf c = [92, y] := by unfold qOf; rw [hm']
            rw [hqc] at hq2 hle
            simp only [List.length_cons, List.length_nil] at hle
            refine Load.one hb2 (TAB_some hm') ?_
            refine Sure.mk' (by omega) ?_
            refine Sure.mk' (by omega) ?_
            refine Load.one hb2 (TAB_some hm') ?_
            refine CopyK.mk' (bytesV (q ++ [92, y]) ++ List.replicate (s.length + s.countP isSp - (q ++ [92, y]).length) (V.int .u8 0)) g2 rfl (by simp [bytesV] <;> omega) (by simp [byteEls] <;> omega) (by simp [byteEls]) ?_ (fun σ3 e3 => ?_)
            · rw [show 0 + ((q.length : Nat) : Int).toNat * 1 = q.length by simp]
              have := buf_set q [92, y] (s.length + s.countP isSp - q.length) (by simp; omega)
              rw [show s.length + s.countP isSp - (q ++ [92, y]).length = s.length + s.countP isSp - q.length - [92, y].length by simp; omega]
              exact this
            · have o3 : Over σ' σ3 := by rw [e3]; exact over_put o2 hbb
              have g3 : σ3.box bb = some (bytesV (q ++ [92, y]) ++ List.replicate (s.length + s.countP isSp - (q ++ [92, y]).length) (V.int .u8 0)) := by rw [e3]; exact put_box
              refine Arith.i64 (((q ++ [92, y]).length : Nat) : Int) (by simp [byteEls]) (by simp; omega) ?_
              refine Arith.i64 ((i + 1 : Nat) : Int) (by simp) (by omega) ?_
              exact ⟨_, _, by omega, Forget.refl _, i + 1, by omega, by rw [hq2]; rfl, o3, by rw [hq2]; exact g3, rfl⟩
        · have hi' : i = s.length := by omega
          subst hi'
          rw [List.take_length, hql, Nat.sub_self, List.replicate_zero, List.append_nil] at g2
          have hbl : (bytesV (quoteB s)).length = s.length + s.countP isSp := by simp [bytesV, hql]
          refine Load.mk' g2 (by omega) ?_
          rw [List.drop_zero, List.take_of_length_le (by omega)]
          show B2S ((bytesV (quoteB s)).map ([·])) _
          rw [bytesV_els]
          refine B2S.mk' ?_
          exact Ret.mk' ⟨rfl, o2⟩
      · rw [decide_eq_false h0]
        exact Ret.mk' ⟨by rw [quoteB_none (by omega)], .refl _⟩

theorem replace_call {σ0 σ : St} {b : Nat} {t : Nat} (s : List UInt8) (hs : s.length ≤ 1000000) (o : Over σ0 σ) (hf : σ0.box b = none) (hb : σ.box b = some [.int .u32 0, .int .i32 0, .int .u32 0, .nilIface, .slice (.tip t) 1 (strEls pairs6)]) :
    SCall Tryz.prog LG 26 [.loc b 0, .str s] σ fun e σ' => e = .ret (.str (quoteB s)) ∧ Over σ0 σ' := by
  refine code26.call hm (by simp) ?_
  refine CallK.mk' (do_call43 o hf hb) ?_
  rintro e σ1 ⟨rfl, b2, t', o1, h2, g2, x0, x1, x, gb⟩
  refine Load.mk' gb (Nat.le_of_ble_eq_true rfl) ?_
  refine CallK.mk' (replace153 s hs g2) ?_
  rintro e σ2 ⟨rfl, o2⟩
  exact Ret.mk' ⟨rfl, over_trans o1 o2⟩
end Go.Shadow.Lex

/- Proved: what the lexer's Text does, as a shadow contract. Conditions: the lists' and texts' sizes, as the theorem says. -/
namespace Go.Shadow.Lex
open Go Go.RowKit Go.Proofs

/-- The word of a token. -/
def wordT (t : Tok) : Option (List UInt8) := if t.kind = 1 ∨ t.kind = 4 then some t.s else if t.kind = 2 then some (Lib.itoa t.n) else if t.kind = 3 then some ([34] ++ quoteB t.s ++ [34]) else none

set_option maxHeartbeats 4000000 in
theorem text_ret (tag : Tag) (ts : List Tok) (h3 : ∀ t ∈ ts, t.s.length ≤ 1000000) (hn : ∀ t ∈ ts, -9223372036854775808 ≤ t.n ∧ t.n ≤ 9223372036854775807) (hl : ts.length ≤ 100000) (hj : (Lib.join (ts.filterMap wordT) [32]).length ≤ 140737488355328) :
    SRet Tryz.prog LG 14 [.slice tag 4 (ts.map tokV)] (.str (Lib.join (ts.filterMap wordT) [32])) := by
  intro σ
  refine code14.call hm (by simp) ?_
  have hlen : (ts.map tokV).length = ts.length := by simp
  refine ⟨fun m sl σ' => ∃ (i : Nat) (ws : List (List UInt8)) (tag' : Tag) (z : Nat), sl = ofL [(3, some (.slice tag' z (strEls ws))), (6, some (.slice tag 4 (ts.map tokV))), (7, some (.int .i64 (ts.map tokV).length)), (8, some (.int .i64 i))] ∧
      Over σ σ' ∧ Mine σ σ' tag' ∧ (tag' = .nil ∨ z = 1) ∧ i ≤ ts.length ∧ ws.length ≤ i ∧ ws ++ (ts.drop i).filterMap wordT = ts.filterMap wordT ∧ m = ts.length - i, _,
      ⟨0, [], .nil, 0, rfl, .refl _, trivial, .inl rfl, by omega, by simp, by simp, rfl⟩, ?_⟩
  rintro m sl σ' ⟨i, ws, tag', z, rfl, ho, hm2, hz, hi, hws, heq, rfl⟩
  have hwl : (strEls ws).length = ws.length := by simp [strEls]
  refine Test.split (fun h => ?_) (fun h => ?_)
  · rw [hlen] at h
    obtain ⟨t, ht⟩ : ∃ t, ts[i]? = some t := ⟨ts[i]'(by omega), by simp [show i < ts.length by omega]⟩
    have htm : t ∈ ts := List.mem_of_getElem? ht
    have hdrop : ts.drop i = t :: ts.drop (i + 1) := by
      obtain ⟨h1, h2⟩ := List.getElem?_eq_some_iff.1 ht
      rw [List.drop_eq_getElem_cons h1, h2]
    have hnext : ∀ (b : Nat) (σ2 : St), Over σ σ2 → ∀ (tag2 : Tag) (z2 : Nat) (ws2 : List (List UInt8)), Mine σ σ2 tag2 → (tag2 = .nil ∨ z2 = 1) → ws2 = ws ++ (wordT t).toList → ∃ m σ3, m < ts.length - i ∧ Forget σ2 σ3 ∧
        ∃ (i' : Nat) (ws' : List (List UInt8)) (tag' : Tag) (z : Nat), ofL [(3, some (.slice tag2 z2 (strEls ws2))), (6, some (.slice tag 4 (ts.map tokV))), (7, some (.int .i64 (ts.map tokV).length)), (8, some (.int .i64 (i + 1 : Nat)))] = ofL [(3, some (.slice tag' z (strEls ws'))), (6, some (.slice tag 4 (ts.map tokV))), (7, some (.int .i64 (ts.map tokV).length)), (8, some (.int .i64 i'))] ∧
      Over σ σ3 ∧ Mine σ σ3 tag' ∧ (tag' = .nil ∨ z = 1) ∧ i' ≤ ts.length ∧ ws'.length ≤ i' ∧ ws' ++ (ts.drop i').filterMap wordT = ts.filterMap wordT ∧ m = ts.length - i' := by
      intro b σ2 ho2 tag2 z2 ws2 hm3 hz3 hw2
      refine ⟨_, _, ?_, Forget.refl _, i + 1, ws2, tag2, z2, rfl, ho2, hm3, hz3, by omega, ?_, ?_, rfl⟩
      · omega
      · rw [hw2]; cases wordT t <;> simp <;> omega
      · rw [hw2, ← heq, hdrop, List.filterMap_cons]; cases wordT t <;> simp
    refine Sure.mk' (.inl rfl) ?_
    refine IdxE.mk' i (tokV t) rfl (by simp [ht]) ?_
    refine ⟨⟨by simp [tokV], ?_⟩⟩
    intro b hb
    refine Sure.mk' rfl ?_
    refine Store.mk' (tokV t) put_box (Nat.le_of_ble_eq_true rfl) rfl (fun σ2 h2 => ?_)
    rw [put_put] at h2
    have hb2 : σ2.box b = some (tokV t) := by rw [h2]; exact put_box
    have ho2 : Over σ σ2 := by
      rw [h2]
      refine over_put ho ?_
      cases hbb : σ.box b with
      | none => rfl
      | some cs => rw [ho.box b cs hbb] at hb; cases hb
    have hm3 : Mine σ σ2 tag' := by rw [h2]; exact hm2
    have happ : ∀ (x : List UInt8) (K : V → St → Prop), (∀ (t' : Nat) (σ4 : St), Over σ σ4 → Mine σ σ4 (.tip t') → K (.slice (.tip t') 1 (strEls (ws ++ [x]))) σ4) → App 1 16 tag' z (strEls ws) 1 [[V.str x]] σ2 K := by
      intro x K hk
      refine App.mk' ho2 hm3 hz rfl (by simp [hwl]; omega) (by simp [hwl]; omega) (by simp) (fun t' σ4 h4 h5 _ _ => ?_)
      have := hk t' σ4 h4 h5
      simpa [strEls] using this
    refine Load.mk' hb2 (by simp [tokV]) ?_
    have hsome : ∀ x, wordT t = some x → ws ++ [x] = ws ++ (wordT t).toList := fun x hx => by rw [hx]; rfl
    refine Test.split (fun h1 => ?_) (fun h1 => ?_)
    · refine Load.mk' hb2 (by simp [tokV]) ?_
      refine happ t.s _ (fun t' σ4 h4 h5 => ?_)
      refine Arith.i64 ((i + 1 : Nat) : Int) (by simp) (by omega) ?_
      exact hnext b σ4 h4 (.tip t') 1 _ h5 (.inr rfl) (hsome _ (by unfold wordT; rw [if_pos (.inl h1)]))
    · refine Test.split (fun h4 => ?_) (fun h4 => ?_)
      · refine Load.mk' hb2 (by simp [tokV]) ?_
        refine happ t.s _ (fun t' σ4 h5 h6 => ?_)
        refine Arith.i64 ((i + 1 : Nat) : Int) (by simp) (by omega) ?_
        exact hnext b σ4 h5 (.tip t') 1 _ h6 (.inr rfl) (hsome _ (by unfold wordT; rw [if_pos (.inr h4)]))
      · refine Test.split (fun h2' => ?_) (fun h2' => ?_)
        · refine Load.mk' hb2 (by simp [tokV]) ?_
          refine CallK.pure (itoa_ret _ (hn t htm)) ?_
          refine happ (Lib.itoa t.n) _ (fun t' σ4 h5 h6 => ?_)
          refine Arith.i64 ((i + 1 : Nat) : Int) (by simp) (by omega) ?_
          exact hnext b σ4 h5 (.tip t') 1 _ h6 (.inr rfl) (hsome _ (by unfold wordT; rw [if_neg (by omega), if_pos h2']))
        · refine Test.split (fun h4' => ?_) (fun h4' => ?_)
          · have h3t := h3 t htm
            have hql : (quoteB t.s).length ≤ 2000000 := by
              have := quoteB_length t.s
              have : t.s.countP isSp ≤ t.s.length := List.countP_le_length
              omega
            refine Load.mk' hb2 (by simp [tokV]) ?_
            refine CallK.mk' (newReplacer_call σ2) ?_
            rintro e σ3 ⟨b', t', rfl, o3, hn', g3⟩
            refine Kept.mk' (fun b cs h => o3.box b cs h) ?_
            refine CallK.mk' (replace_call t.s h3t o3 hn' g3) ?_
            rintro e σ4 ⟨rfl, o4⟩
            refine Sure.mk' (by simp; omega) ?_
            refine Sure.mk' (by simp; omega) ?_
            refine App.mk' (over_trans ho2 o4) (hm3.over o4) hz rfl (by simp [hwl]; omega) (by simp [hwl]; omega) (by simp) (fun t' σ5 h5 h6 _ _ => ?_)
            refine Arith.i64 ((i + 1 : Nat) : Int) (by simp) (by omega) ?_
            have e1 : strEls ws ++ [[V.str ([34] ++ quoteB t.s ++ [34])]] = strEls (ws ++ [[34] ++ quoteB t.s ++ [34]]) := by simp [strEls]
            have := hnext b σ5 h5 (.tip t') 1 _ h6 (.inr rfl) (hsome ([34] ++ quoteB t.s ++ [34]) (by unfold wordT; rw [if_neg (by omega), if_neg h2', if_pos h4']))
            rw [← e1] at this
            exact this
          · refine Arith.i64 ((i + 1 : Nat) : Int) (by simp) (by omega) ?_
            exact hnext b σ2 ho2 tag' z ws hm3 hz (by unfold wordT; rw [if_neg (by omega), if_neg h2', if_neg h4']; simp)
  · rw [hlen] at h
    have hd : ts.drop i = [] := List.drop_eq_nil_of_le (by omega)
    rw [hd] at heq
    simp only [List.filterMap_nil, List.append_nil] at heq
    rw [← heq] at hj ⊢
    refine CallK.mk' (join_call tag' ws [32] (by omega) hj z σ') ?_
    rintro e σ4 ⟨rfl, rfl⟩
    exact Ret.weak (.refl _) ho ⟨rfl, rfl⟩
end Go.Shadow.Lex

/- The functions of the lexer's specification, as shadow contracts: letter, digit, Blank, pair, name, number. No condition but the sources' lengths. -/
namespace Go.Shadow.Lex
open Go Go.RowKit Go.Proofs

theorem letter_ret (c : UInt8) : SRet Tryz.prog LG 36 [.int .u8 c.toNat] (.bool (isLetter c)) := by
  intro σ
  refine code36.call hm (by simp) ?_
  have hc := c.toNat_lt
  repeat' (first
    | refine Test.split (fun h => ?_) (fun h => ?_)
    | refine Ret.mk' ⟨rfl, ?_⟩)
  all_goals (refine congrArg (fun x => SEnd.ret (V.bool x)) ?_; simp only [isLetter]; grind)
theorem digit_ret (c : UInt8) : SRet Tryz.prog LG 38 [.int .u8 c.toNat] (.bool (isDigit c)) := by
  intro σ
  refine code38.call hm (by simp) ?_
  have hc := c.toNat_lt
  repeat' (first
    | refine Test.split (fun h => ?_) (fun h => ?_)
    | refine Ret.mk' ⟨rfl, ?_⟩)
  all_goals (refine congrArg (fun x => SEnd.ret (V.bool x)) ?_; simp only [isDigit]; grind)
def pairV (c : UInt8) : Int := match esc c with
  | some e => e.toNat
  | none => 0
theorem pair_ret (c : UInt8) : SRet Tryz.prog LG 54 [.int .u8 c.toNat] (.int .u8 (pairV c)) := by
  intro σ
  refine code54.call hm (by simp) ?_
  have hc := c.toNat_lt
  repeat' (first
    | refine Test.split (fun h => ?_) (fun h => ?_)
    | refine Ret.mk' ⟨rfl, ?_⟩)
  all_goals (refine congrArg (fun x => SEnd.ret (V.int .u8 x)) ?_; simp only [pairV, esc])
  · rw [if_pos (by omega)]; simp; omega
  · rw [if_neg (by omega), if_pos (by omega)]; simp; omega
  · rw [if_neg (by omega), if_neg (by omega), if_pos (by omega)]; rfl
  · rw [if_neg (by omega), if_neg (by omega), if_neg (by omega)]

theorem get_some {l : List UInt8} {j : Nat} (h : j < l.length) : ∃ c, l[j]? = some c := ⟨l[j], by simp [h]⟩

/-- A comment, byte by byte: where it ends. -/
def lineTo (l : List UInt8) (k : Nat) : Nat := k + ((l.drop k).takeWhile (·.toNat != 10)).length
theorem lineTo_eq (l : List UInt8) (k : Nat) : lineTo l k = spanTo (·.toNat != 10) l k := rfl

set_option maxHeartbeats 4000000 in
theorem blank_ret (l : List UInt8) (k : Nat) (hl : l.length ≤ 70000) (hk : k ≤ l.length) : SRet Tryz.prog LG 19 [.str l, .int .i64 k] (.int .i64 (skipTo l k)) := by
  intro σ
  refine code19.call hm (by simp) ?_
  refine ⟨fun m sl σ' => σ' = σ ∧ ∃ j : Nat, sl = ofL [(0, some (.str l)), (1, some (.int .i64 j))] ∧ j ≤ l.length ∧ skipTo l j = skipTo l k ∧ m = l.length - j, _, ⟨rfl, k, rfl, hk, rfl, rfl⟩, ?_⟩
  rintro m sl σ' ⟨rfl, j, rfl, hj, hsp, rfl⟩
  refine Test.split (fun h => ?_) (fun h => ?_)
  · obtain ⟨c, hc⟩ := get_some (l := l) (j := j) (by omega)
    have hstep : isBlank c = true → ∃ m σ'', m < l.length - j ∧ Forget σ' σ'' ∧ σ'' = σ' ∧ ∃ j' : Nat, ofL [(0, some (.str l)), (1, some (.int .i64 (j + 1 : Nat)))] = ofL [(0, some (.str l)), (1, some (V.int .i64 j'))] ∧ j' ≤ l.length ∧ skipTo l j' = skipTo l k ∧ m = l.length - j' := by
      intro hb
      exact ⟨_, _, by omega, .refl _, rfl, j + 1, rfl, by omega, by rw [skipTo_blank hc hb, hsp], rfl⟩
    refine Idx.mk' j c rfl hc ?_
    refine Test.split (fun h1 => ?_) (fun h1 => ?_)
    · refine Arith.i64 ((j + 1 : Nat) : Int) (by simp) (by omega) ?_
      exact hstep (by simp [isBlank]; omega)
    · refine Idx.mk' j c rfl hc ?_
      refine Test.split (fun h2 => ?_) (fun h2 => ?_)
      · refine Arith.i64 ((j + 1 : Nat) : Int) (by simp) (by omega) ?_
        exact hstep (by simp [isBlank]; omega)
      · refine Idx.mk' j c rfl hc ?_
        refine Test.split (fun h3 => ?_) (fun h3 => ?_)
        · refine Arith.i64 ((j + 1 : Nat) : Int) (by simp) (by omega) ?_
          exact hstep (by simp [isBlank]; omega)
        · refine Idx.mk' j c rfl hc ?_
          refine Test.split (fun h4 => ?_) (fun h4 => ?_)
          · refine Arith.i64 ((j + 1 : Nat) : Int) (by simp) (by omega) ?_
            exact hstep (by simp [isBlank]; omega)
          · have hb : isBlank c = false := by simp [isBlank]; omega
            refine Idx.mk' j c rfl hc ?_
            refine Test.split (fun h5 => ?_) (fun h5 => ?_)
            · have hcm := skipTo_comment hc (by omega)
              refine ⟨fun m sl σ1 => σ1 = σ' ∧ ∃ i : Nat, sl = ofL [(0, some (.str l)), (1, some (.int .i64 i))] ∧ j ≤ i ∧ i ≤ l.length ∧ lineTo l i = lineTo l j ∧ m = l.length - i, _, ⟨rfl, j, rfl, by omega, by omega, rfl, rfl⟩, ?_⟩
              rintro m sl σ1 ⟨rfl, i, rfl, hji, hi, hli, rfl⟩
              refine Test.split (fun h6 => ?_) (fun h6 => ?_)
              · obtain ⟨d, hd⟩ := get_some (l := l) (j := i) (by omega)
                refine Idx.mk' i d rfl hd ?_
                refine Test.split (fun h7 => ?_) (fun h7 => ?_)
                · refine Arith.i64 ((i + 1 : Nat) : Int) (by simp) (by omega) ?_
                  refine ⟨_, _, ?_, Forget.refl _, rfl, i + 1, rfl, by omega, by omega, ?_, rfl⟩
                  · omega
                  · rw [lineTo_eq, spanTo_step hd (by simp; omega), ← lineTo_eq, hli]
                · have he : lineTo l j = i := by rw [← hli, lineTo_eq, spanTo_stop hd (by simp; omega)]
                  refine ⟨_, _, ?_, Forget.refl _, rfl, i, rfl, by omega, ?_, rfl⟩
                  · have := hcm.2; unfold lineTo at he; omega
                  · rw [← hsp, ← he]; exact hcm.1
              · have he : lineTo l j = i := by rw [← hli, lineTo_eq, spanTo_end (by omega)]
                refine ⟨_, _, ?_, Forget.refl _, rfl, i, rfl, by omega, ?_, rfl⟩
                · have := hcm.2; unfold lineTo at he; omega
                · rw [← hsp, ← he]; exact hcm.1
            · refine Ret.mk' ⟨rfl, ?_⟩
              rw [← hsp, skipTo_stop hc hb (by omega)]
  · refine Ret.mk' ⟨rfl, ?_⟩
    rw [← hsp, skipTo_end (by omega)]

def oneC : Sum Nat (Tok × Nat) → List V
  | .inl e => [.int .i64 0, .int .i64 0, .str [], .int .i64 0, .int .i64 0, .int .i64 e]
  | .inr (t, e2) => [.int .i64 t.kind, .int .i64 t.at_, .str t.s, .int .i64 t.n, .int .i64 e2, .int .i64 0]

def oneV (x : Sum Nat (Tok × Nat)) : V := .agg (oneC x)
theorem oneC_length (x : Sum Nat (Tok × Nat)) : (oneC x).length = 6 := by rcases x with e | ⟨t, e2⟩ <;> rfl

set_option maxHeartbeats 4000000 in
theorem refName_ret (l : List UInt8) (k : Nat) (hl : l.length ≤ 70000) (hk : k ≤ l.length) :
    SRet Tryz.prog LG 37 [.str l, .int .i64 k] (oneV (if 32 < spanTo isWord l k - k then .inl 2 else .inr (⟨1, k, (l.take (spanTo isWord l k)).drop k, 0⟩, spanTo isWord l k))) := by
  intro σ
  have h1 := spanTo_ge isWord l k
  have h2 := spanTo_le isWord l k hk
  refine code37.call hm (by simp) ?_
  intro b4 h4
  obtain ⟨o1, g4⟩ := new_box h4 [.int .i64 0, .int .i64 0, .str [], .int .i64 0, .int .i64 0, .int .i64 0]
  generalize σ.put b4 [.int .i64 0, .int .i64 0, .str [], .int .i64 0, .int .i64 0, .int .i64 0] = σ1 at *
  refine ⟨fun m sl σ' => σ' = σ1 ∧ ∃ j : Nat, sl = ofL [(0, some (.str l)), (1, some (.int .i64 k)), (4, some (.loc b4 0)), (5, some (.int .i64 j))] ∧ j ≤ l.length ∧ spanTo isWord l j = spanTo isWord l k ∧ m = l.length - j, _, ⟨rfl, k, rfl, hk, rfl, rfl⟩, ?_⟩
  rintro m sl σ' ⟨rfl, j, rfl, hj, hsp, rfl⟩
  have hnext : ∀ c, l[j]? = some c → isWord c = true → ∃ m σ'', m < l.length - j ∧ Forget σ' σ'' ∧ σ'' = σ' ∧ ∃ j' : Nat, ofL [(0, some (.str l)), (1, some (.int .i64 k)), (4, some (.loc b4 0)), (5, some (.int .i64 (j + 1 : Nat)))] = ofL [(0, some (.str l)), (1, some (.int .i64 k)), (4, some (.loc b4 0)), (5, some (V.int .i64 j'))] ∧ j' ≤ l.length ∧ spanTo isWord l j' = spanTo isWord l k ∧ m = l.length - j' := by
    intro c hc hw
    have := (List.getElem?_eq_some_iff.1 hc).1
    exact ⟨_, _, by omega, .refl _, rfl, j + 1, rfl, by omega, by rw [spanTo_step hc hw, hsp], rfl⟩
  refine Test.split (fun h => ?_) (fun h => ?_)
  · obtain ⟨c, hc⟩ := get_some (l := l) (j := j) (by omega)
    refine Idx.mk' j c rfl hc ?_
    refine CallK.pure (letter_ret c) ?_
    cases hL : isLetter c with
    | true =>
      refine Arith.i64 ((j + 1 : Nat) : Int) (by simp) (by omega) ?_
      exact hnext c hc (by simp [isWord, hL])
    | false =>
      refine Idx.mk' j c rfl hc ?_
      refine CallK.pure (digit_ret c) ?_
      cases hD : isDigit c with
      | true =>
        refine Arith.i64 ((j + 1 : Nat) : Int) (by simp) (by omega) ?_
        exact hnext c hc (by simp [isWord, hD])
      | false =>
        have hjk : spanTo isWord l k = j := by rw [← hsp, spanTo_stop hc (by simp [isWord, hL, hD])]
        rw [hjk] at h1 h2 ⊢
        refine Arith.i64 ((j - k : Nat) : Int) (by omega) (by omega) ?_
        refine Test.split (fun h9 => ?_) (fun h9 => ?_)
        · refine Sure.mk' rfl ?_
          refine Store.mk' [.int .i64 0, .int .i64 0, .str [], .int .i64 0, .int .i64 0, .int .i64 2] g4 (Nat.le_of_ble_eq_true rfl) rfl (fun σ2 e2 => ?_)
          subst e2
          refine Load.mk' put_box (Nat.le_of_ble_eq_true rfl) ?_
          refine Ret.weak (.refl _) (over_put o1 h4) ⟨rfl, ?_⟩
          rw [if_pos (by omega)]; rfl
        · refine Cut.mk' k j rfl rfl (by omega) (by omega) ?_
          refine Sure.mk' rfl ?_
          refine Store.mk' [.int .i64 1, .int .i64 k, .str ((l.take j).drop k), .int .i64 0, .int .i64 j, .int .i64 0] g4 (Nat.le_of_ble_eq_true rfl) rfl (fun σ2 e2 => ?_)
          subst e2
          refine Load.mk' put_box (Nat.le_of_ble_eq_true rfl) ?_
          refine Ret.weak (.refl _) (over_put o1 h4) ⟨rfl, ?_⟩
          rw [if_neg (by omega)]; rfl
  · have hjk : spanTo isWord l k = j := by rw [← hsp, spanTo_end (by omega)]
    rw [hjk] at h1 h2 ⊢
    refine Arith.i64 ((j - k : Nat) : Int) (by omega) (by omega) ?_
    refine Test.split (fun h9 => ?_) (fun h9 => ?_)
    · refine Sure.mk' rfl ?_
      refine Store.mk' [.int .i64 0, .int .i64 0, .str [], .int .i64 0, .int .i64 0, .int .i64 2] g4 (Nat.le_of_ble_eq_true rfl) rfl (fun σ2 e2 => ?_)
      subst e2
      refine Load.mk' put_box (Nat.le_of_ble_eq_true rfl) ?_
      refine Ret.weak (.refl _) (over_put o1 h4) ⟨rfl, ?_⟩
      rw [if_pos (by omega)]; rfl
    · refine Cut.mk' k j rfl rfl (by omega) (by omega) ?_
      refine Sure.mk' rfl ?_
      refine Store.mk' [.int .i64 1, .int .i64 k, .str ((l.take j).drop k), .int .i64 0, .int .i64 j, .int .i64 0] g4 (Nat.le_of_ble_eq_true rfl) rfl (fun σ2 e2 => ?_)
      subst e2
      refine Load.mk' put_box (Nat.le_of_ble_eq_true rfl) ?_
      refine Ret.weak (.refl _) (over_put o1 h4) ⟨rfl, ?_⟩
      rw [if_neg (by omega)]; rfl
end Go.Shadow.Lex

/- The specification's 'number', 'text' and 'Sign', as shadow contracts. No condition but the sources' lengths. -/
namespace Go.Shadow.Lex
open Go Go.RowKit Go.Proofs

theorem takeWhile_take (p : UInt8 → Bool) : ∀ r : List UInt8, r.take (r.takeWhile p).length = r.takeWhile p
  | [] => rfl
  | c :: r => by
    simp only [List.takeWhile_cons]
    split
    · simp [takeWhile_take p r]
    · rfl
theorem slice_span (p : UInt8 → Bool) (l : List UInt8) (k : Nat) : (l.take (spanTo p l k)).drop k = (l.drop k).takeWhile p := by
  rw [spanTo, List.drop_take, Nat.add_sub_cancel_left, takeWhile_take]
theorem letter_after {e : UInt8} : ∀ r : List UInt8, r[(r.takeWhile isDigit).length]? = some e → isLetter e = true → (r.takeWhile isWord).all isDigit = false
  | [], h, _ => by simp at h
  | c :: r, h, he => by
    by_cases hd : isDigit c = true
    · simp only [List.takeWhile_cons, hd, if_true, List.length_cons, List.getElem?_cons_succ] at h
      simp [List.takeWhile_cons, isWord, hd, letter_after r h he]
    · simp only [List.takeWhile_cons, hd, Bool.false_eq_true, if_false, List.length_nil, List.getElem?_cons_zero, Option.some.injEq] at h
      subst h
      simp [List.takeWhile_cons, isWord, he, hd]
theorem no_letter_after : ∀ r : List UInt8, (∀ e, r[(r.takeWhile isDigit).length]? = some e → isLetter e = false) → r.takeWhile isWord = r.takeWhile isDigit
  | [], _ => rfl
  | c :: r, h => by
    by_cases hd : isDigit c = true
    · simp only [List.takeWhile_cons, hd, if_true, List.length_cons, List.getElem?_cons_succ] at h
      simp [List.takeWhile_cons, isWord, hd, no_letter_after r h]
    · have := h c (by simp [List.takeWhile_cons, hd])
      simp [List.takeWhile_cons, isWord, hd, this]
theorem all_takeWhile (p : UInt8 → Bool) : ∀ r : List UInt8, (r.takeWhile p).all p = true
  | [] => rfl
  | c :: r => by
    simp only [List.takeWhile_cons]
    split
    · rename_i h; simp [h, all_takeWhile p r]
    · rfl
theorem slice_snoc {l : List UInt8} {k i : Nat} {c : UInt8} (hk : k ≤ i) (hc : l[i]? = some c) : (l.take (i + 1)).drop k = (l.take i).drop k ++ [c] := by
  have hi := (List.getElem?_eq_some_iff.1 hc).1
  rw [List.take_add_one, hc, List.drop_append_of_le_length (by simp; omega)]
  rfl
theorem digitsVal_snoc (s : List UInt8) (c : UInt8) : digitsVal (s ++ [c]) = 10 * digitsVal s + (c.toNat - 48) := by simp [digitsVal]

set_option maxHeartbeats 4000000 in
theorem refNumber_ret (l : List UInt8) (k : Nat) (c0 : UInt8) (hl : l.length ≤ 70000) (hc0 : l[k]? = some c0) (hd0 : isDigit c0 = true) :
    SRet Tryz.prog LG 39 [.str l, .int .i64 k] (oneV (match numVal ((l.take (spanTo isWord l k)).drop k) with
      | some n => .inr (⟨2, k, [], n⟩, spanTo isWord l k)
      | none => .inl 27)) := by
  intro σ
  have hk : k < l.length := (List.getElem?_eq_some_iff.1 hc0).1
  have h1 := spanTo_ge isDigit l k
  have h2 := spanTo_le isDigit l k (by omega)
  have hr : l.drop k = c0 :: l.drop (k + 1) := drop_cons hc0
  have hat : ∀ e : UInt8, (l.drop k)[((l.drop k).takeWhile isDigit).length]? = some e ↔ l[spanTo isDigit l k]? = some e := by
    intro e; rw [List.getElem?_drop]; rfl
  have hbad : (15 < spanTo isDigit l k - k ∨ (1 < spanTo isDigit l k - k ∧ c0.toNat = 48) ∨ ∃ d, l[spanTo isDigit l k]? = some d ∧ isLetter d = true) → numVal ((l.take (spanTo isWord l k)).drop k) = none := by
    intro h
    rw [slice_span]
    unfold numVal
    rw [if_neg]
    rintro ⟨ha, hlen, hz⟩
    have hnl : ∀ e, (l.drop k)[((l.drop k).takeWhile isDigit).length]? = some e → isLetter e = false := by
      intro e he
      cases hL : isLetter e with
      | false => rfl
      | true => rw [letter_after _ he hL] at ha; cases ha
    have heq := no_letter_after _ hnl
    have hld : ((l.drop k).takeWhile isDigit).length = spanTo isDigit l k - k := by simp [spanTo]
    rw [heq, hld] at hlen hz
    rcases h with h | ⟨h, h48⟩ | ⟨d, hd, hL⟩
    · omega
    · refine hz ⟨h, ?_⟩
      rw [hr]
      simp only [List.takeWhile_cons, hd0, if_true, List.head?_cons, Option.some.injEq]
      exact UInt8.toNat_inj.1 h48
    · rw [hnl d ((hat d).2 hd)] at hL; cases hL
  have hgood : ¬ 15 < spanTo isDigit l k - k → ¬ (1 < spanTo isDigit l k - k ∧ c0.toNat = 48) → (∀ e, l[spanTo isDigit l k]? = some e → isLetter e = false) →
      (match numVal ((l.take (spanTo isWord l k)).drop k) with
        | some n => (Sum.inr ((⟨2, k, [], n⟩ : Tok), spanTo isWord l k) : Sum Nat (Tok × Nat))
        | none => .inl 27) = .inr (⟨2, k, [], (digitsVal ((l.take (spanTo isDigit l k)).drop k) : Nat)⟩, spanTo isDigit l k) := by
    intro g1 g2 g3
    have heq := no_letter_after (l.drop k) (fun e he => g3 e ((hat e).1 he))
    have hsp : spanTo isWord l k = spanTo isDigit l k := by simp only [spanTo, heq]
    rw [hsp]
    have hld : ((l.drop k).takeWhile isDigit).length = spanTo isDigit l k - k := by simp [spanTo]
    rw [show numVal ((l.take (spanTo isDigit l k)).drop k) = some (digitsVal ((l.take (spanTo isDigit l k)).drop k)) from by
      unfold numVal
      rw [if_pos]
      rw [slice_span]
      refine ⟨all_takeWhile _ _, by omega, ?_⟩
      rintro ⟨h3, h4⟩
      refine g2 ⟨by omega, ?_⟩
      rw [hr] at h4
      simp only [List.takeWhile_cons, hd0, if_true, List.head?_cons, Option.some.injEq] at h4
      subst h4; rfl]
  have hdig : ∀ i c, k ≤ i → i < spanTo isDigit l k → l[i]? = some c → isDigit c = true := by
    intro i c hi1 hi2 hc
    have h3 := all_takeWhile isDigit (l.drop k)
    rw [← slice_span] at h3
    rw [List.all_eq_true] at h3
    refine h3 c (List.mem_of_getElem? (i := i - k) ?_)
    rw [List.getElem?_drop, List.getElem?_take, if_pos (by omega), show k + (i - k) = i from by omega, hc]
  have hpre : ∀ i, k ≤ i → i ≤ spanTo isDigit l k → ((l.take i).drop k).all isDigit = true := by
    intro i hi1 hi2
    rw [List.all_eq_true]
    intro c hc
    obtain ⟨m, hm, hmc⟩ := List.mem_iff_getElem.1 hc
    have hm' : ((l.take i).drop k)[m]? = some c := by rw [List.getElem?_eq_getElem hm, hmc]
    rw [List.getElem?_drop, List.getElem?_take] at hm'
    split at hm'
    · exact hdig _ c (by omega) (by omega) hm'
    · cases hm'
  refine code39.call hm (by simp) ?_
  intro b4 h4
  obtain ⟨o1, g4⟩ := new_box h4 [.int .i64 0, .int .i64 0, .str [], .int .i64 0, .int .i64 0, .int .i64 0]
  generalize σ.put b4 [.int .i64 0, .int .i64 0, .str [], .int .i64 0, .int .i64 0, .int .i64 0] = σ1 at *
  refine ⟨fun m sl σ' => σ' = σ1 ∧ ∃ j : Nat, sl = ofL [(0, some (.str l)), (1, some (.int .i64 k)), (4, some (.loc b4 0)), (5, some (.int .i64 j))] ∧ j ≤ l.length ∧ spanTo isDigit l j = spanTo isDigit l k ∧ m = l.length - j, _, ⟨rfl, k, rfl, by omega, rfl, rfl⟩, ?_⟩
  rintro m sl σ' ⟨rfl, j, rfl, hj, hsp, rfl⟩
  refine Test.split (fun h => ?_) (fun h => ?_)
  · obtain ⟨c, hc⟩ := get_some (l := l) (j := j) (by omega)
    refine Idx.mk' j c rfl hc ?_
    refine CallK.pure (digit_ret c) ?_
    cases hD : isDigit c with
    | true =>
      refine Arith.i64 ((j + 1 : Nat) : Int) (by simp) (by omega) ?_
      exact ⟨_, _, by omega, .refl _, rfl, j + 1, rfl, by omega, by rw [spanTo_step hc hD, hsp], rfl⟩
    | false =>
      have hjk : spanTo isDigit l k = j := by rw [← hsp, spanTo_stop hc hD]
      rw [hjk] at h1 h2 hbad hgood hdig hpre
      refine Arith.i64 ((j - k : Nat) : Int) (by omega) (by omega) ?_
      refine Test.split (fun h9 => ?_) (fun h9 => ?_)
      · refine Sure.mk' rfl ?_
        refine Store.mk' [.int .i64 0, .int .i64 0, .str [], .int .i64 0, .int .i64 0, .int .i64 27] g4 (Nat.le_of_ble_eq_true rfl) rfl (fun σ2 e2 => ?_)
        subst e2
        refine Load.mk' put_box (Nat.le_of_ble_eq_true rfl) ?_
        refine Ret.weak (.refl _) (over_put o1 h4) ⟨rfl, ?_⟩
        rw [hbad (.inl (by omega))]; rfl
      · refine Arith.i64 ((j - k : Nat) : Int) (by omega) (by omega) ?_
        refine Test.split (fun h10 => ?_) (fun h10 => ?_)
        · refine Idx.mk' k c0 rfl hc0 ?_
          refine Test.split (fun h11 => ?_) (fun h11 => ?_)
          · refine Sure.mk' rfl ?_
            refine Store.mk' [.int .i64 0, .int .i64 0, .str [], .int .i64 0, .int .i64 0, .int .i64 27] g4 (Nat.le_of_ble_eq_true rfl) rfl (fun σ2 e2 => ?_)
            subst e2
            refine Load.mk' put_box (Nat.le_of_ble_eq_true rfl) ?_
            refine Ret.weak (.refl _) (over_put o1 h4) ⟨rfl, ?_⟩
            rw [hbad (.inr (.inl ⟨by omega, by omega⟩))]; rfl
          · have h1z : ¬ (1 < j - k ∧ c0.toNat = 48) := by omega
            refine Test.split (fun h12 => ?_) (fun h12 => ?_)
            · obtain ⟨d, hd⟩ := get_some (l := l) (j := j) (by omega)
              refine Idx.mk' j d rfl hd ?_
              refine CallK.pure (letter_ret d) ?_
              cases hL : isLetter d with
              | true =>
                refine Sure.mk' rfl ?_
                refine Store.mk' [.int .i64 0, .int .i64 0, .str [], .int .i64 0, .int .i64 0, .int .i64 27] g4 (Nat.le_of_ble_eq_true rfl) rfl (fun σ2 e2 => ?_)
                subst e2
                refine Load.mk' put_box (Nat.le_of_ble_eq_true rfl) ?_
                refine Ret.weak (.refl _) (over_put o1 h4) ⟨rfl, ?_⟩
                rw [hbad (.inr (.inr ⟨d, hd, hL⟩))]; rfl
              | false =>
                have hnl : ∀ e, l[j]? = some e → isLetter e = false := fun e he => by rw [hd] at he; injection he with he; rw [← he]; exact hL
                refine ⟨fun m sl σ3 => σ3 = σ' ∧ ∃ i : Nat, sl = ofL [(0, some (.str l)), (1, some (.int .i64 k)), (4, some (.loc b4 0)), (5, some (.int .i64 j)), (6, some (.int .i64 (digitsVal ((l.take i).drop k)))), (7, some (.int .i64 i))] ∧ k ≤ i ∧ i ≤ j ∧ m = j - i, _, ⟨rfl, k, by rw [show (l.take k).drop k = [] from by simp]; rfl, by omega, by omega, rfl⟩, ?_⟩
                rintro m sl σ3 ⟨rfl, i, rfl, hki, hij, rfl⟩
                refine Test.split (fun h6 => ?_) (fun h6 => ?_)
                · obtain ⟨c, hc⟩ := get_some (l := l) (j := i) (by omega)
                  have hall : ((l.take i).drop k).all isDigit = true := hpre i hki hij
                  have hcd : isDigit c = true := hdig i c hki (by omega) hc
                  have hcd' : 48 ≤ c.toNat ∧ c.toNat ≤ 57 := by simpa [isDigit] using hcd
                  have hb := digitsVal_bound ((l.take i).drop k) 0 hall
                  have hl2 : ((l.take i).drop k).length ≤ 15 := by simp; omega
                  have hp : 10 ^ ((l.take i).drop k).length ≤ 10 ^ 15 := Nat.pow_le_pow_right (by omega) hl2
                  have hb2 : digitsVal ((l.take i).drop k) < 10 ^ 15 := by
                    have : digitsVal ((l.take i).drop k) < (0 + 1) * 10 ^ ((l.take i).drop k).length := hb
                    omega
                  refine Arith.i64 (10 * (digitsVal ((l.take i).drop k) : Int)) rfl (by omega) ?_
                  refine Idx.mk' i c rfl hc ?_
                  refine Arith.u8 ((c.toNat - 48 : Nat) : Int) (by omega) (by omega) ?_
                  refine Arith.i64 ((c.toNat - 48 : Nat) : Int) rfl (by omega) ?_
                  refine Arith.i64 ((digitsVal ((l.take (i + 1)).drop k) : Nat) : Int) (by rw [slice_snoc hki hc, digitsVal_snoc]; omega) (by rw [slice_snoc hki hc, digitsVal_snoc]; omega) ?_
                  refine Arith.i64 ((i + 1 : Nat) : Int) (by simp) (by omega) ?_
                  exact ⟨_, _, by omega, Forget.refl _, rfl, i + 1, rfl, by omega, by omega, rfl⟩
                · have hij2 : i = j := by omega
                  subst hij2
                  refine Sure.mk' rfl ?_
                  refine Store.mk' [.int .i64 2, .int .i64 k, .str [], .int .i64 (digitsVal ((l.take i).drop k)), .int .i64 i, .int .i64 0] g4 (Nat.le_of_ble_eq_true rfl) rfl (fun σ2 e2 => ?_)
                  subst e2
                  refine Load.mk' put_box (Nat.le_of_ble_eq_true rfl) ?_
                  refine Ret.weak (.refl _) (over_put o1 h4) ⟨rfl, ?_⟩
                  rw [hgood (by omega) h1z hnl]; rfl
            · have hnl : ∀ e, l[j]? = some e → isLetter e = false := fun e he => by have := (List.getElem?_eq_some_iff.1 he).1; omega
              refine ⟨fun m sl σ3 => σ3 = σ' ∧ ∃ i : Nat, sl = ofL [(0, some (.str l)), (1, some (.int .i64 k)), (4, some (.loc b4 0)), (5, some (.int .i64 j)), (6, some (.int .i64 (digitsVal ((l.take i).drop k)))), (7, some (.int .i64 i))] ∧ k ≤ i ∧ i ≤ j ∧ m = j - i, _, ⟨rfl, k, by rw [show (l.take k).drop k = [] from by simp]; rfl, by omega, by omega, rfl⟩, ?_⟩
              rintro m sl σ3 ⟨rfl, i, rfl, hki, hij, rfl⟩
              refine Test.split (fun h6 => ?_) (fun h6 => ?_)
              · obtain ⟨c, hc⟩ := get_some (l := l) (j := i) (by omega)
                have hall : ((l.take i).drop k).all isDigit = true := hpre i hki hij
                have hcd : isDigit c = true := hdig i c hki (by omega) hc
                have hcd' : 48 ≤ c.toNat ∧ c.toNat ≤ 57 := by simpa [isDigit] using hcd
                have hb := digitsVal_bound ((l.take i).drop k) 0 hall
                have hl2 : ((l.take i).drop k).length ≤ 15 := by simp; omega
                have hp : 10 ^ ((l.take i).drop k).length ≤ 10 ^ 15 := Nat.pow_le_pow_right (by omega) hl2
                have hb2 : digitsVal ((l.take i).drop k) < 10 ^ 15 := by
                  have : digitsVal ((l.take i).drop k) < (0 + 1) * 10 ^ ((l.take i).drop k).length := hb
                  omega
                refine Arith.i64 (10 * (digitsVal ((l.take i).drop k) : Int)) rfl (by omega) ?_
                refine Idx.mk' i c rfl hc ?_
                refine Arith.u8 ((c.toNat - 48 : Nat) : Int) (by omega) (by omega) ?_
                refine Arith.i64 ((c.toNat - 48 : Nat) : Int) rfl (by omega) ?_
                refine Arith.i64 ((digitsVal ((l.take (i + 1)).drop k) : Nat) : Int) (by rw [slice_snoc hki hc, digitsVal_snoc]; omega) (by rw [slice_snoc hki hc, digitsVal_snoc]; omega) ?_
                refine Arith.i64 ((i + 1 : Nat) : Int) (by simp) (by omega) ?_
                exact ⟨_, _, by omega, Forget.refl _, rfl, i + 1, rfl, by omega, by omega, rfl⟩
              · have hij2 : i = j := by omega
                subst hij2
                refine Sure.mk' rfl ?_
                refine Store.mk' [.int .i64 2, .int .i64 k, .str [], .int .i64 (digitsVal ((l.take i).drop k)), .int .i64 i, .int .i64 0] g4 (Nat.le_of_ble_eq_true rfl) rfl (fun σ2 e2 => ?_)
                subst e2
                refine Load.mk' put_box (Nat.le_of_ble_eq_true rfl) ?_
                refine Ret.weak (.refl _) (over_put o1 h4) ⟨rfl, ?_⟩
                rw [hgood (by omega) h1z hnl]; rfl
        · have h1z : ¬ (1 < j - k ∧ c0.toNat = 48) := by omega
          refine Test.split (fun h12 => ?_) (fun h12 => ?_)
          · obtain ⟨d, hd⟩ := get_some (l := l) (j := j) (by omega)
            refine Idx.mk' j d rfl hd ?_
            refine CallK.pure (letter_ret d) ?_
            cases hL : isLetter d with
            | true =>
              refine Sure.mk' rfl ?_
              refine Store.mk' [.int .i64 0, .int .i64 0, .str [], .int .i64 0, .int .i64 0, .int .i64 27] g4 (Nat.le_of_ble_eq_true rfl) rfl (fun σ2 e2 => ?_)
              subst e2
              refine Load.mk' put_box (Nat.le_of_ble_eq_true rfl) ?_
              refine Ret.weak (.refl _) (over_put o1 h4) ⟨rfl, ?_⟩
              rw [hbad (.inr (.inr ⟨d, hd, hL⟩))]; rfl
            | false =>
              have hnl : ∀ e, l[j]? = some e → isLetter e = false := fun e he => by rw [hd] at he; injection he with he; rw [← he]; exact hL
              refine ⟨fun m sl σ3 => σ3 = σ' ∧ ∃ i : Nat, sl = ofL [(0, some (.str l)), (1, some (.int .i64 k)), (4, some (.loc b4 0)), (5, some (.int .i64 j)), (6, some (.int .i64 (digitsVal ((l.take i).drop k)))), (7, some (.int .i64 i))] ∧ k ≤ i ∧ i ≤ j ∧ m = j - i, _, ⟨rfl, k, by rw [show (l.take k).drop k = [] from by simp]; rfl, by omega, by omega, rfl⟩, ?_⟩
              rintro m sl σ3 ⟨rfl, i, rfl, hki, hij, rfl⟩
              refine Test.split (fun h6 => ?_) (fun h6 => ?_)
              · obtain ⟨c, hc⟩ := get_some (l := l) (j := i) (by omega)
                have hall : ((l.take i).drop k).all isDigit = true := hpre i hki hij
                have hcd : isDigit c = true := hdig i c hki (by omega) hc
                have hcd' : 48 ≤ c.toNat ∧ c.toNat ≤ 57 := by simpa [isDigit] using hcd
                have hb := digitsVal_bound ((l.take i).drop k) 0 hall
                have hl2 : ((l.take i).drop k).length ≤ 15 := by simp; omega
                have hp : 10 ^ ((l.take i).drop k).length ≤ 10 ^ 15 := Nat.pow_le_pow_right (by omega) hl2
                have hb2 : digitsVal ((l.take i).drop k) < 10 ^ 15 := by
                  have : digitsVal ((l.take i).drop k) < (0 + 1) * 10 ^ ((l.take i).drop k).length := hb
                  omega
                refine Arith.i64 (10 * (digitsVal ((l.take i).drop k) : Int)) rfl (by omega) ?_
                refine Idx.mk' i c rfl hc ?_
                refine Arith.u8 ((c.toNat - 48 : Nat) : Int) (by omega) (by omega) ?_
                refine Arith.i64 ((c.toNat - 48 : Nat) : Int) rfl (by omega) ?_
                refine Arith.i64 ((digitsVal ((l.take (i + 1)).drop k) : Nat) : Int) (by rw [slice_snoc hki hc, digitsVal_snoc]; omega) (by rw [slice_snoc hki hc, digitsVal_snoc]; omega) ?_
                refine Arith.i64 ((i + 1 : Nat) : Int) (by simp) (by omega) ?_
                exact ⟨_, _, by omega, Forget.refl _, rfl, i + 1, rfl, by omega, by omega, rfl⟩
              · have hij2 : i = j := by omega
                subst hij2
                refine Sure.mk' rfl ?_
                refine Store.mk' [.int .i64 2, .int .i64 k, .str [], .int .i64 (digitsVal ((l.take i).drop k)), .int .i64 i, .int .i64 0] g4 (Nat.le_of_ble_eq_true rfl) rfl (fun σ2 e2 => ?_)
                subst e2
                refine Load.mk' put_box (Nat.le_of_ble_eq_true rfl) ?_
                refine Ret.weak (.refl _) (over_put o1 h4) ⟨rfl, ?_⟩
                rw [hgood (by omega) h1z hnl]; rfl
          · have hnl : ∀ e, l[j]? = some e → isLetter e = false := fun e he => by have := (List.getElem?_eq_some_iff.1 he).1; omega
            refine ⟨fun m sl σ3 => σ3 = σ' ∧ ∃ i : Nat, sl = ofL [(0, some (.str l)), (1, some (.int .i64 k)), (4, some (.loc b4 0)), (5, some (.int .i64 j)), (6, some (.int .i64 (digitsVal ((l.take i).drop k)))), (7, some (.int .i64 i))] ∧ k ≤ i ∧ i ≤ j ∧ m = j - i, _, ⟨rfl, k, by rw [show (l.take k).drop k = [] from by simp]; rfl, by omega, by omega, rfl⟩, ?_⟩
            rintro m sl σ3 ⟨rfl, i, rfl, hki, hij, rfl⟩
            refine Test.split (fun h6 => ?_) (fun h6 => ?_)
            · obtain ⟨c, hc⟩ := get_some (l := l) (j := i) (by omega)
              have hall : ((l.take i).drop k).all isDigit = true := hpre i hki hij
              have hcd : isDigit c = true := hdig i c hki (by omega) hc
              have hcd' : 48 ≤ c.toNat ∧ c.toNat ≤ 57 := by simpa [isDigit] using hcd
              have hb := digitsVal_bound ((l.take i).drop k) 0 hall
              have hl2 : ((l.take i).drop k).length ≤ 15 := by simp; omega
              have hp : 10 ^ ((l.take i).drop k).length ≤ 10 ^ 15 := Nat.pow_le_pow_right (by omega) hl2
              have hb2 : digitsVal ((l.take i).drop k) < 10 ^ 15 := by
                have : digitsVal ((l.take i).drop k) < (0 + 1) * 10 ^ ((l.take i).drop k).length := hb
                omega
              refine Arith.i64 (10 * (digitsVal ((l.take i).drop k) : Int)) rfl (by omega) ?_
              refine Idx.mk' i c rfl hc ?_
              refine Arith.u8 ((c.toNat - 48 : Nat) : Int) (by omega) (by omega) ?_
              refine Arith.i64 ((c.toNat - 48 : Nat) : Int) rfl (by omega) ?_
              refine Arith.i64 ((digitsVal ((l.take (i + 1)).drop k) : Nat) : Int) (by rw [slice_snoc hki hc, digitsVal_snoc]; omega) (by rw [slice_snoc hki hc, digitsVal_snoc]; omega) ?_
              refine Arith.i64 ((i + 1 : Nat) : Int) (by simp) (by omega) ?_
              exact ⟨_, _, by omega, Forget.refl _, rfl, i + 1, rfl, by omega, by omega, rfl⟩
            · have hij2 : i = j := by omega
              subst hij2
              refine Sure.mk' rfl ?_
              refine Store.mk' [.int .i64 2, .int .i64 k, .str [], .int .i64 (digitsVal ((l.take i).drop k)), .int .i64 i, .int .i64 0] g4 (Nat.le_of_ble_eq_true rfl) rfl (fun σ2 e2 => ?_)
              subst e2
              refine Load.mk' put_box (Nat.le_of_ble_eq_true rfl) ?_
              refine Ret.weak (.refl _) (over_put o1 h4) ⟨rfl, ?_⟩
              rw [hgood (by omega) h1z hnl]; rfl
  · have hjk : spanTo isDigit l k = j := by rw [← hsp, spanTo_end (by omega)]
    rw [hjk] at h1 h2 hbad hgood hdig hpre
    refine Arith.i64 ((j - k : Nat) : Int) (by omega) (by omega) ?_
    refine Test.split (fun h9 => ?_) (fun h9 => ?_)
    · refine Sure.mk' rfl ?_
      refine Store.mk' [.int .i64 0, .int .i64 0, .str [], .int .i64 0, .int .i64 0, .int .i64 27] g4 (Nat.le_of_ble_eq_true rfl) rfl (fun σ2 e2 => ?_)
      subst e2
      refine Load.mk' put_box (Nat.le_of_ble_eq_true rfl) ?_
      refine Ret.weak (.refl _) (over_put o1 h4) ⟨rfl, ?_⟩
      rw [hbad (.inl (by omega))]; rfl
    · refine Arith.i64 ((j - k : Nat) : Int) (by omega) (by omega) ?_
      refine Test.split (fun h10 => ?_) (fun h10 => ?_)
      · refine Idx.mk' k c0 rfl hc0 ?_
        refine Test.split (fun h11 => ?_) (fun h11 => ?_)
        · refine Sure.mk' rfl ?_
          refine Store.mk' [.int .i64 0, .int .i64 0, .str [], .int .i64 0, .int .i64 0, .int .i64 27] g4 (Nat.le_of_ble_eq_true rfl) rfl (fun σ2 e2 => ?_)
          subst e2
          refine Load.mk' put_box (Nat.le_of_ble_eq_true rfl) ?_
          refine Ret.weak (.refl _) (over_put o1 h4) ⟨rfl, ?_⟩
          rw [hbad (.inr (.inl ⟨by omega, by omega⟩))]; rfl
        · have h1z : ¬ (1 < j - k ∧ c0.toNat = 48) := by omega
          refine Test.split (fun h12 => ?_) (fun h12 => ?_)
          · obtain ⟨d, hd⟩ := get_some (l := l) (j := j) (by omega)
            refine Idx.mk' j d rfl hd ?_
            refine CallK.pure (letter_ret d) ?_
            cases hL : isLetter d with
            | true =>
              refine Sure.mk' rfl ?_
              refine Store.mk' [.int .i64 0, .int .i64 0, .str [], .int .i64 0, .int .i64 0, .int .i64 27] g4 (Nat.le_of_ble_eq_true rfl) rfl (fun σ2 e2 => ?_)
              subst e2
              refine Load.mk' put_box (Nat.le_of_ble_eq_true rfl) ?_
              refine Ret.weak (.refl _) (over_put o1 h4) ⟨rfl, ?_⟩
              rw [hbad (.inr (.inr ⟨d, hd, hL⟩))]; rfl
            | false =>
              have hnl : ∀ e, l[j]? = some e → isLetter e = false := fun e he => by rw [hd] at he; injection he with he; rw [← he]; exact hL
              refine ⟨fun m sl σ3 => σ3 = σ' ∧ ∃ i : Nat, sl = ofL [(0, some (.str l)), (1, some (.int .i64 k)), (4, some (.loc b4 0)), (5, some (.int .i64 j)), (6, some (.int .i64 (digitsVal ((l.take i).drop k)))), (7, some (.int .i64 i))] ∧ k ≤ i ∧ i ≤ j ∧ m = j - i, _, ⟨rfl, k, by rw [show (l.take k).drop k = [] from by simp]; rfl, by omega, by omega, rfl⟩, ?_⟩
              rintro m sl σ3 ⟨rfl, i, rfl, hki, hij, rfl⟩
              refine Test.split (fun h6 => ?_) (fun h6 => ?_)
              · obtain ⟨c, hc⟩ := get_some (l := l) (j := i) (by omega)
                have hall : ((l.take i).drop k).all isDigit = true := hpre i hki hij
                have hcd : isDigit c = true := hdig i c hki (by omega) hc
                have hcd' : 48 ≤ c.toNat ∧ c.toNat ≤ 57 := by simpa [isDigit] using hcd
                have hb := digitsVal_bound ((l.take i).drop k) 0 hall
                have hl2 : ((l.take i).drop k).length ≤ 15 := by simp; omega
                have hp : 10 ^ ((l.take i).drop k).length ≤ 10 ^ 15 := Nat.pow_le_pow_right (by omega) hl2
                have hb2 : digitsVal ((l.take i).drop k) < 10 ^ 15 := by
                  have : digitsVal ((l.take i).drop k) < (0 + 1) * 10 ^ ((l.take i).drop k).length := hb
                  omega
                refine Arith.i64 (10 * (digitsVal ((l.take i).drop k) : Int)) rfl (by omega) ?_
                refine Idx.mk' i c rfl hc ?_
                refine Arith.u8 ((c.toNat - 48 : Nat) : Int) (by omega) (by omega) ?_
                refine Arith.i64 ((c.toNat - 48 : Nat) : Int) rfl (by omega) ?_
                refine Arith.i64 ((digitsVal ((l.take (i + 1)).drop k) : Nat) : Int) (by rw [slice_snoc hki hc, digitsVal_snoc]; omega) (by rw [slice_snoc hki hc, digitsVal_snoc]; omega) ?_
                refine Arith.i64 ((i + 1 : Nat) : Int) (by simp) (by omega) ?_
                exact ⟨_, _, by omega, Forget.refl _, rfl, i + 1, rfl, by omega, by omega, rfl⟩
              · have hij2 : i = j := by omega
                subst hij2
                refine Sure.mk' rfl ?_
                refine Store.mk' [.int .i64 2, .int .i64 k, .str [], .int .i64 (digitsVal ((l.take i).drop k)), .int .i64 i, .int .i64 0] g4 (Nat.le_of_ble_eq_true rfl) rfl (fun σ2 e2 => ?_)
                subst e2
                refine Load.mk' put_box (Nat.le_of_ble_eq_true rfl) ?_
                refine Ret.weak (.refl _) (over_put o1 h4) ⟨rfl, ?_⟩
                rw [hgood (by omega) h1z hnl]; rfl
          · have hnl : ∀ e, l[j]? = some e → isLetter e = false := fun e he => by have := (List.getElem?_eq_some_iff.1 he).1; omega
            refine ⟨fun m sl σ3 => σ3 = σ' ∧ ∃ i : Nat, sl = ofL [(0, some (.str l)), (1, some (.int .i64 k)), (4, some (.loc b4 0)), (5, some (.int .i64 j)), (6, some (.int .i64 (digitsVal ((l.take i).drop k)))), (7, some (.int .i64 i))] ∧ k ≤ i ∧ i ≤ j ∧ m = j - i, _, ⟨rfl, k, by rw [show (l.take k).drop k = [] from by simp]; rfl, by omega, by omega, rfl⟩, ?_⟩
            rintro m sl σ3 ⟨rfl, i, rfl, hki, hij, rfl⟩
            refine Test.split (fun h6 => ?_) (fun h6 => ?_)
            · obtain ⟨c, hc⟩ := get_some (l := l) (j := i) (by omega)
              have hall : ((l.take i).drop k).all isDigit = true := hpre i hki hij
              have hcd : isDigit c = true := hdig i c hki (by omega) hc
              have hcd' : 48 ≤ c.toNat ∧ c.toNat ≤ 57 := by simpa [isDigit] using hcd
              have hb := digitsVal_bound ((l.take i).drop k) 0 hall
              have hl2 : ((l.take i).drop k).length ≤ 15 := by simp; omega
              have hp : 10 ^ ((l.take i).drop k).length ≤ 10 ^ 15 := Nat.pow_le_pow_right (by omega) hl2
              have hb2 : digitsVal ((l.take i).drop k) < 10 ^ 15 := by
                have : digitsVal ((l.take i).drop k) < (0 + 1) * 10 ^ ((l.take i).drop k).length := hb
                omega
              refine Arith.i64 (10 * (digitsVal ((l.take i).drop k) : Int)) rfl (by omega) ?_
              refine Idx.mk' i c rfl hc ?_
              refine Arith.u8 ((c.toNat - 48 : Nat) : Int) (by omega) (by omega) ?_
              refine Arith.i64 ((c.toNat - 48 : Nat) : Int) rfl (by omega) ?_
              refine Arith.i64 ((digitsVal ((l.take (i + 1)).drop k) : Nat) : Int) (by rw [slice_snoc hki hc, digitsVal_snoc]; omega) (by rw [slice_snoc hki hc, digitsVal_snoc]; omega) ?_
              refine Arith.i64 ((i + 1 : Nat) : Int) (by simp) (by omega) ?_
              exact ⟨_, _, by omega, Forget.refl _, rfl, i + 1, rfl, by omega, by omega, rfl⟩
            · have hij2 : i = j := by omega
              subst hij2
              refine Sure.mk' rfl ?_
              refine Store.mk' [.int .i64 2, .int .i64 k, .str [], .int .i64 (digitsVal ((l.take i).drop k)), .int .i64 i, .int .i64 0] g4 (Nat.le_of_ble_eq_true rfl) rfl (fun σ2 e2 => ?_)
              subst e2
              refine Load.mk' put_box (Nat.le_of_ble_eq_true rfl) ?_
              refine Ret.weak (.refl _) (over_put o1 h4) ⟨rfl, ?_⟩
              rw [hgood (by omega) h1z hnl]; rfl
      · have h1z : ¬ (1 < j - k ∧ c0.toNat = 48) := by omega
        refine Test.split (fun h12 => ?_) (fun h12 => ?_)
        · obtain ⟨d, hd⟩ := get_some (l := l) (j := j) (by omega)
          refine Idx.mk' j d rfl hd ?_
          refine CallK.pure (letter_ret d) ?_
          cases hL : isLetter d with
          | true =>
            refine Sure.mk' rfl ?_
            refine Store.mk' [.int .i64 0, .int .i64 0, .str [], .int .i64 0, .int .i64 0, .int .i64 27] g4 (Nat.le_of_ble_eq_true rfl) rfl (fun σ2 e2 => ?_)
            subst e2
            refine Load.mk' put_box (Nat.le_of_ble_eq_true rfl) ?_
            refine Ret.weak (.refl _) (over_put o1 h4) ⟨rfl, ?_⟩
            rw [hbad (.inr (.inr ⟨d, hd, hL⟩))]; rfl
          | false =>
            have hnl : ∀ e, l[j]? = some e → isLetter e = false := fun e he => by rw [hd] at he; injection he with he; rw [← he]; exact hL
            refine ⟨fun m sl σ3 => σ3 = σ' ∧ ∃ i : Nat, sl = ofL [(0, some (.str l)), (1, some (.int .i64 k)), (4, some (.loc b4 0)), (5, some (.int .i64 j)), (6, some (.int .i64 (digitsVal ((l.take i).drop k)))), (7, some (.int .i64 i))] ∧ k ≤ i ∧ i ≤ j ∧ m = j - i, _, ⟨rfl, k, by rw [show (l.take k).drop k = [] from by simp]; rfl, by omega, by omega, rfl⟩, ?_⟩
            rintro m sl σ3 ⟨rfl, i, rfl, hki, hij, rfl⟩
            refine Test.split (fun h6 => ?_) (fun h6 => ?_)
            · obtain ⟨c, hc⟩ := get_some (l := l) (j := i) (by omega)
              have hall : ((l.take i).drop k).all isDigit = true := hpre i hki hij
              have hcd : isDigit c = true := hdig i c hki (by omega) hc
              have hcd' : 48 ≤ c.toNat ∧ c.toNat ≤ 57 := by simpa [isDigit] using hcd
              have hb := digitsVal_bound ((l.take i).drop k) 0 hall
              have hl2 : ((l.take i).drop k).length ≤ 15 := by simp; omega
              have hp : 10 ^ ((l.take i).drop k).length ≤ 10 ^ 15 := Nat.pow_le_pow_right (by omega) hl2
              have hb2 : digitsVal ((l.take i).drop k) < 10 ^ 15 := by
                have : digitsVal ((l.take i).drop k) < (0 + 1) * 10 ^ ((l.take i).drop k).length := hb
                omega
              refine Arith.i64 (10 * (digitsVal ((l.take i).drop k) : Int)) rfl (by omega) ?_
              refine Idx.mk' i c rfl hc ?_
              refine Arith.u8 ((c.toNat - 48 : Nat) : Int) (by omega) (by omega) ?_
              refine Arith.i64 ((c.toNat - 48 : Nat) : Int) rfl (by omega) ?_
              refine Arith.i64 ((digitsVal ((l.take (i + 1)).drop k) : Nat) : Int) (by rw [slice_snoc hki hc, digitsVal_snoc]; omega) (by rw [slice_snoc hki hc, digitsVal_snoc]; omega) ?_
              refine Arith.i64 ((i + 1 : Nat) : Int) (by simp) (by omega) ?_
              exact ⟨_, _, by omega, Forget.refl _, rfl, i + 1, rfl, by omega, by omega, rfl⟩
            · have hij2 : i = j := by omega
              subst hij2
              refine Sure.mk' rfl ?_
              refine Store.mk' [.int .i64 2, .int .i64 k, .str [], .int .i64 (digitsVal ((l.take i).drop k)), .int .i64 i, .int .i64 0] g4 (Nat.le_of_ble_eq_true rfl) rfl (fun σ2 e2 => ?_)
              subst e2
              refine Load.mk' put_box (Nat.le_of_ble_eq_true rfl) ?_
              refine Ret.weak (.refl _) (over_put o1 h4) ⟨rfl, ?_⟩
              rw [hgood (by omega) h1z hnl]; rfl
        · have hnl : ∀ e, l[j]? = some e → isLetter e = false := fun e he => by have := (List.getElem?_eq_some_iff.1 he).1; omega
          refine ⟨fun m sl σ3 => σ3 = σ' ∧ ∃ i : Nat, sl = ofL [(0, some (.str l)), (1, some (.int .i64 k)), (4, some (.loc b4 0)), (5, some (.int .i64 j)), (6, some (.int .i64 (digitsVal ((l.take i).drop k)))), (7, some (.int .i64 i))] ∧ k ≤ i ∧ i ≤ j ∧ m = j - i, _, ⟨rfl, k, by rw [show (l.take k).drop k = [] from by simp]; rfl, by omega, by omega, rfl⟩, ?_⟩
          rintro m sl σ3 ⟨rfl, i, rfl, hki, hij, rfl⟩
          refine Test.split (fun h6 => ?_) (fun h6 => ?_)
          · obtain ⟨c, hc⟩ := get_some (l := l) (j := i) (by omega)
            have hall : ((l.take i).drop k).all isDigit = true := hpre i hki hij
            have hcd : isDigit c = true := hdig i c hki (by omega) hc
            have hcd' : 48 ≤ c.toNat ∧ c.toNat ≤ 57 := by simpa [isDigit] using hcd
            have hb := digitsVal_bound ((l.take i).drop k) 0 hall
            have hl2 : ((l.take i).drop k).length ≤ 15 := by simp; omega
            have hp : 10 ^ ((l.take i).drop k).length ≤ 10 ^ 15 := Nat.pow_le_pow_right (by omega) hl2
            have hb2 : digitsVal ((l.take i).drop k) < 10 ^ 15 := by
              have : digitsVal ((l.take i).drop k) < (0 + 1) * 10 ^ ((l.take i).drop k).length := hb
              omega
            refine Arith.i64 (10 * (digitsVal ((l.take i).drop k) : Int)) rfl (by omega) ?_
            refine Idx.mk' i c rfl hc ?_
            refine Arith.u8 ((c.toNat - 48 : Nat) : Int) (by omega) (by omega) ?_
            refine Arith.i64 ((c.toNat - 48 : Nat) : Int) rfl (by omega) ?_
            refine Arith.i64 ((digitsVal ((l.take (i + 1)).drop k) : Nat) : Int) (by rw [slice_snoc hki hc, digitsVal_snoc]; omega) (by rw [slice_snoc hki hc, digitsVal_snoc]; omega) ?_
            refine Arith.i64 ((i + 1 : Nat) : Int) (by simp) (by omega) ?_
            exact ⟨_, _, by omega, Forget.refl _, rfl, i + 1, rfl, by omega, by omega, rfl⟩
          · have hij2 : i = j := by omega
            subst hij2
            refine Sure.mk' rfl ?_
            refine Store.mk' [.int .i64 2, .int .i64 k, .str [], .int .i64 (digitsVal ((l.take i).drop k)), .int .i64 i, .int .i64 0] g4 (Nat.le_of_ble_eq_true rfl) rfl (fun σ2 e2 => ?_)
            subst e2
            refine Load.mk' put_box (Nat.le_of_ble_eq_true rfl) ?_
            refine Ret.weak (.refl _) (over_put o1 h4) ⟨rfl, ?_⟩
            rw [hgood (by omega) h1z hnl]; rfl
end Go.Shadow.Lex

/- The specification's text, Sign and token, as shadow contracts. Conditions: sources of at most 70000 bytes. -/
namespace Go.Shadow.Lex
open Go Go.RowKit Go.Proofs

theorem esc_pos {d e : UInt8} (h : esc d = some e) : e.toNat ≠ 0 := by
  unfold esc at h
  repeat' split at h
  all_goals first | (injection h with h; subst h; decide) | cases h

set_option maxHeartbeats 4000000 in
theorem refText_ret (l : List UInt8) (k : Nat) (hl : l.length ≤ 70000) (hk : k < l.length) :
    SRet Tryz.prog LG 40 [.str l, .int .i64 k] (oneV (match textScan (l.drop (k + 1)) [] with
      | .inl e => .inl e
      | .inr (s, left) => .inr (⟨3, k, s, 0⟩, l.length - left))) := by
  intro σ
  refine code40.call hm (by simp) ?_
  intro b4 h4
  obtain ⟨o1, g4⟩ := new_box h4 [.int .i64 0, .int .i64 0, .str [], .int .i64 0, .int .i64 0, .int .i64 0]
  generalize σ.put b4 [.int .i64 0, .int .i64 0, .str [], .int .i64 0, .int .i64 0, .int .i64 0] = σ1 at *
  refine Arith.i64 ((k + 1 : Nat) : Int) (by simp) (by omega) ?_
  refine ⟨fun m sl σ' => ∃ (j : Nat) (bs : List UInt8) (tag' : Tag) (z : Nat), sl = ofL [(0, some (.str l)), (1, some (.int .i64 k)), (4, some (.loc b4 0)), (5, some (.slice tag' z (byteEls bs))), (6, some (.int .i64 j))] ∧
    Over σ1 σ' ∧ Mine σ1 σ' tag' ∧ (tag' = .nil ∨ z = 1) ∧ (tag' = .nil → bs = []) ∧ j ≤ l.length ∧ bs.length ≤ j ∧ textScan (l.drop j) bs = textScan (l.drop (k + 1)) [] ∧ m = l.length - j, _,
    ⟨k + 1, [], .nil, 0, rfl, .refl _, trivial, .inl rfl, fun _ => rfl, by omega, by simp, rfl, rfl⟩, ?_⟩
  rintro m sl σ' ⟨j, bs, tag', z, rfl, ho', hm2, hz, hz2, hj, hbs, hsc, rfl⟩
  have g4' := ho'.box b4 _ g4
  have hlen : (byteEls bs).length = bs.length := by simp [byteEls]
  rw [← hsc]
  refine Test.split (fun h1 => ?_) (fun h1 => ?_)
  · obtain ⟨c, hc⟩ := get_some (l := l) (j := j) (by omega)
    rw [drop_cons hc, textScan_cons]
    refine Test.split (fun h2 => ?_) (fun h2 => ?_)
    · rw [hlen] at h2
      refine Sure.mk' rfl ?_
      refine Store.mk' [.int .i64 0, .int .i64 0, .str [], .int .i64 0, .int .i64 0, .int .i64 2] g4' (Nat.le_of_ble_eq_true rfl) rfl (fun σ2 e2 => ?_)
      subst e2
      refine Load.mk' put_box (Nat.le_of_ble_eq_true rfl) ?_
      refine Ret.weak (.refl _) (over_put (over_trans o1 ho') h4) ⟨rfl, ?_⟩
      rw [if_pos (show 200 < bs.length by omega)]; rfl
    · rw [hlen] at h2
      rw [if_neg (show ¬ 200 < bs.length by omega)]
      refine Idx.mk' j c rfl hc ?_
      refine Test.split (fun h3 => ?_) (fun h3 => ?_)
      · refine Sure.mk' (hz.elim (fun h => .inr (by rw [hz2 h]; rfl)) .inl) ?_
        refine B2S.mk' ?_
        refine Arith.i64 ((j + 1 : Nat) : Int) (by simp) (by omega) ?_
        refine Sure.mk' rfl ?_
        refine Store.mk' [.int .i64 3, .int .i64 k, .str bs, .int .i64 0, .int .i64 (j + 1 : Nat), .int .i64 0] g4' (Nat.le_of_ble_eq_true rfl) rfl (fun σ2 e2 => ?_)
        subst e2
        refine Load.mk' put_box (Nat.le_of_ble_eq_true rfl) ?_
        refine Ret.weak (.refl _) (over_put (over_trans o1 ho') h4) ⟨rfl, ?_⟩
        rw [if_pos (by omega)]
        simp only []
        rw [show l.length - (l.drop (j + 1)).length = j + 1 from by simp; omega]
        rfl
      · rw [if_neg (show ¬ c.toNat = 34 by omega)]
        refine Idx.mk' j c rfl hc ?_
        refine Test.split (fun h4' => ?_) (fun h4' => ?_)
        · rw [if_pos (show c.toNat = 92 by omega)]
          refine Arith.i64 ((j + 1 : Nat) : Int) (by simp) (by omega) ?_
          refine Test.split (fun h5 => ?_) (fun h5 => ?_)
          · obtain ⟨d, hd⟩ := get_some (l := l) (j := j + 1) (by omega)
            rw [drop_cons hd]
            refine Arith.i64 ((j + 1 : Nat) : Int) (by simp) (by omega) ?_
            refine Idx.mk' (j + 1) d rfl hd ?_
            refine CallK.pure (pair_ret d) ?_
            cases he : esc d with
            | none =>
              rw [show pairV d = 0 from by unfold pairV; rw [he]]
              refine Test.no (by omega) ?_
              refine Idx.mk' j c rfl hc ?_
              refine Test.yes (by omega) ?_
              refine Sure.mk' rfl ?_
              refine Store.mk' [.int .i64 0, .int .i64 0, .str [], .int .i64 0, .int .i64 0, .int .i64 28] g4' (Nat.le_of_ble_eq_true rfl) rfl (fun σ2 e2 => ?_)
              subst e2
              refine Load.mk' put_box (Nat.le_of_ble_eq_true rfl) ?_
              refine Ret.weak (.refl _) (over_put (over_trans o1 ho') h4) ⟨rfl, ?_⟩
              first | rfl | (simp only [he]; rfl)
            | some e =>
              have hpv : pairV d = e.toNat := by unfold pairV; rw [he]
              rw [hpv]
              refine Test.yes (by have := esc_pos he; omega) ?_
              refine Arith.i64 ((j + 1 : Nat) : Int) (by simp) (by omega) ?_
              refine Idx.mk' (j + 1) d rfl hd ?_
              refine CallK.pure (pair_ret d) ?_
              rw [hpv]
              refine App.mk' ho' hm2 hz rfl (by simp [hlen]; omega) (by simp [hlen]; omega) (by simp) (fun t' σ2 ho2 hm3 _ _ => ?_)
              refine Arith.i64 ((j + 2 : Nat) : Int) (by omega) (by omega) ?_
              refine ⟨_, _, ?_, Forget.refl _, j + 2, bs ++ [e], .tip t', 1, by rw [byteEls_snoc]; rfl, ho2, hm3, .inr rfl, fun h => (by cases h), by omega, by simp; omega, by simp only [he], rfl⟩
              omega
          · rw [List.drop_eq_nil_of_le (show l.length ≤ j + 1 by omega)]
            refine Idx.mk' j c rfl hc ?_
            refine Test.yes (by omega) ?_
            refine Sure.mk' rfl ?_
            refine Store.mk' [.int .i64 0, .int .i64 0, .str [], .int .i64 0, .int .i64 0, .int .i64 28] g4' (Nat.le_of_ble_eq_true rfl) rfl (fun σ2 e2 => ?_)
            subst e2
            refine Load.mk' put_box (Nat.le_of_ble_eq_true rfl) ?_
            refine Ret.weak (.refl _) (over_put (over_trans o1 ho') h4) ⟨rfl, ?_⟩
            first | rfl | (simp only [he]; rfl)
        · rw [if_neg (show ¬ c.toNat = 92 by omega)]
          refine Idx.mk' j c rfl hc ?_
          refine Test.no (by omega) ?_
          refine Idx.mk' j c rfl hc ?_
          refine Test.split (fun h5 => ?_) (fun h5 => ?_)
          · refine Sure.mk' rfl ?_
            refine Store.mk' [.int .i64 0, .int .i64 0, .str [], .int .i64 0, .int .i64 0, .int .i64 28] g4' (Nat.le_of_ble_eq_true rfl) rfl (fun σ2 e2 => ?_)
            subst e2
            refine Load.mk' put_box (Nat.le_of_ble_eq_true rfl) ?_
            refine Ret.weak (.refl _) (over_put (over_trans o1 ho') h4) ⟨rfl, ?_⟩
            rw [if_pos (show c.toNat < 32 ∨ 126 < c.toNat by omega)]; rfl
          · refine Idx.mk' j c rfl hc ?_
            refine Test.split (fun h6 => ?_) (fun h6 => ?_)
            · refine Sure.mk' rfl ?_
              refine Store.mk' [.int .i64 0, .int .i64 0, .str [], .int .i64 0, .int .i64 0, .int .i64 28] g4' (Nat.le_of_ble_eq_true rfl) rfl (fun σ2 e2 => ?_)
              subst e2
              refine Load.mk' put_box (Nat.le_of_ble_eq_true rfl) ?_
              refine Ret.weak (.refl _) (over_put (over_trans o1 ho') h4) ⟨rfl, ?_⟩
              rw [if_pos (show c.toNat < 32 ∨ 126 < c.toNat by omega)]; rfl
            · rw [if_neg (show ¬ (c.toNat < 32 ∨ 126 < c.toNat) by omega)]
              refine Idx.mk' j c rfl hc ?_
              refine App.mk' ho' hm2 hz rfl (by simp [hlen]; omega) (by simp [hlen]; omega) (by simp) (fun t' σ2 ho2 hm3 _ _ => ?_)
              refine Arith.i64 ((j + 1 : Nat) : Int) (by omega) (by omega) ?_
              refine ⟨_, _, ?_, Forget.refl _, j + 1, bs ++ [c], .tip t', 1, by rw [byteEls_snoc]; rfl, ho2, hm3, .inr rfl, fun h => (by cases h), by omega, by simp; omega, rfl, rfl⟩
              omega
  · rw [List.drop_eq_nil_of_le (show l.length ≤ j by omega), textScan_nil]
    refine Test.split (fun h2 => ?_) (fun h2 => ?_)
    · rw [hlen] at h2
      refine Sure.mk' rfl ?_
      refine Store.mk' [.int .i64 0, .int .i64 0, .str [], .int .i64 0, .int .i64 0, .int .i64 2] g4' (Nat.le_of_ble_eq_true rfl) rfl (fun σ2 e2 => ?_)
      subst e2
      refine Load.mk' put_box (Nat.le_of_ble_eq_true rfl) ?_
      refine Ret.weak (.refl _) (over_put (over_trans o1 ho') h4) ⟨rfl, ?_⟩
      rw [if_pos (show 200 < bs.length by omega)]; rfl
    · rw [hlen] at h2
      refine Sure.mk' rfl ?_
      refine Store.mk' [.int .i64 0, .int .i64 0, .str [], .int .i64 0, .int .i64 0, .int .i64 28] g4' (Nat.le_of_ble_eq_true rfl) rfl (fun σ2 e2 => ?_)
      subst e2
      refine Load.mk' put_box (Nat.le_of_ble_eq_true rfl) ?_
      refine Ret.weak (.refl _) (over_put (over_trans o1 ho') h4) ⟨rfl, ?_⟩
      rw [if_neg (show ¬ 200 < bs.length by omega)]; rfl

theorem has_ret (tag : Tag) (ls : List (List UInt8)) (s : List UInt8) (hl : ls.length ≤ 1000) : SRet Tryz.prog LG 55 [.slice tag 1 (strEls ls), .str s] (.bool (decide (s ∈ ls))) := by
  intro σ
  have hlen : (strEls ls).length = ls.length := by simp [strEls]
  refine code55.call hm (by simp) ?_
  refine ⟨fun m sl σ' => σ' = σ ∧ ∃ i : Nat, sl = ofL [(0, some (.slice tag 1 (strEls ls))), (1, some (.str s)), (5, some (.int .i64 i))] ∧ i ≤ ls.length ∧ s ∉ ls.take i ∧ m = ls.length - i, _, ⟨rfl, 0, rfl, by omega, by simp, rfl⟩, ?_⟩
  rintro m sl σ' ⟨rfl, i, rfl, hi, hnot, rfl⟩
  refine Test.split (fun h => ?_) (fun h => ?_)
  · rw [hlen] at h
    obtain ⟨x, hx⟩ : ∃ x, ls[i]? = some x := ⟨ls[i]'(by omega), by simp [show i < ls.length by omega]⟩
    refine Sure.mk' (.inl rfl) ?_
    refine IdxE.mk' i [.str x] rfl (by simp [strEls, hx]) ?_
    refine ⟨⟨Nat.le_of_ble_eq_true rfl, ?_⟩⟩
    refine Test.split (fun h1 => ?_) (fun h1 => ?_)
    · refine Ret.mk' ⟨rfl, ?_⟩
      subst h1
      rw [decide_eq_true (List.mem_of_getElem? hx)]
    · refine Arith.i64 ((i + 1 : Nat) : Int) (by simp) (by omega) ?_
      refine ⟨_, _, ?_, Forget.refl _, rfl, i + 1, rfl, by omega, ?_, rfl⟩
      · omega
      · rw [List.take_add_one, hx]
        simp only [Option.toList_some, List.mem_append, List.mem_singleton, not_or]
        exact ⟨hnot, fun e => h1 e.symm⟩
  · rw [hlen] at h
    refine Ret.mk' ⟨rfl, ?_⟩
    rw [List.take_of_length_le (by omega)] at hnot
    rw [decide_eq_false hnot]

theorem find_two (r : List UInt8) (h : 2 ≤ r.length) : ∀ L : List (List UInt8), (∀ p ∈ L, p.length = 2) → L.find? (·.isPrefixOf r) = if r.take 2 ∈ L then some (r.take 2) else none
  | [], _ => by simp
  | p :: L, hL => by
    have hp : p.isPrefixOf r = true ↔ p = r.take 2 := by
      rw [List.isPrefixOf_iff_prefix, List.prefix_iff_eq_take, hL p (by simp)]
    rw [List.find?_cons]
    by_cases e : p = r.take 2
    · rw [hp.2 e]; simp [e]
    · rw [show p.isPrefixOf r = false from by rw [← Bool.not_eq_true, hp]; exact e]
      simp only [find_two r h L (fun q hq => hL q (by simp [hq])), List.mem_cons, show ¬ r.take 2 = p from fun e' => e e'.symm, false_or]
theorem find_short (r : List UInt8) (h : r.length < 2) : ∀ L : List (List UInt8), (∀ p ∈ L, p.length = 2) → L.find? (·.isPrefixOf r) = none := by
  intro L hL
  rw [List.find?_eq_none]
  intro p hp h2
  have := isPrefixOf_length h2
  have := hL p hp
  omega
theorem signs2_two : ∀ p ∈ signs2, p.length = 2 := by decide
def singles : List (List UInt8) := signs1.map fun c => [c]
theorem single_mem (c : UInt8) : [c] ∈ singles ↔ c ∈ signs1 := by simp [singles]

theorem refSign_ret (r : List UInt8) (hl : r.length ≤ 70000) : SRet Tryz.prog LG 41 [.str r] (.str ((signAt r).getD [])) := by
  intro σ
  refine code41.call hm (by simp) ?_
  refine Test.split (fun h => ?_) (fun h => ?_)
  · refine CutL.mk' 2 rfl (by omega) ?_
    refine CallK.pure (has_ret .full signs2 _ (by decide)) ?_
    have hf := find_two r (by omega) signs2 signs2_two
    by_cases h2 : r.take 2 ∈ signs2
    · rw [if_pos h2] at hf
      rw [decide_eq_true h2]
      refine CutL.mk' 2 rfl (by omega) ?_
      refine Ret.mk' ⟨rfl, ?_⟩
      unfold signAt; rw [hf]; rfl
    · rw [if_neg h2] at hf
      rw [decide_eq_false h2]
      refine Test.yes (by omega) ?_
      obtain ⟨c, r', rfl⟩ : ∃ c r', r = c :: r' := by
        cases r with
        | nil => simp at h
        | cons c r' => exact ⟨c, r', rfl⟩
      refine CutL.mk' 1 rfl (by simp) ?_
      refine CallK.pure (has_ret .full singles _ (by decide)) ?_
      rw [show (c :: r').take 1 = [c] from rfl]
      by_cases hc : c ∈ signs1
      · rw [decide_eq_true ((single_mem c).2 hc)]
        refine CutL.mk' 1 rfl (by simp) ?_
        refine Ret.mk' ⟨rfl, ?_⟩
        unfold signAt; rw [hf]; simp [hc]
      · rw [decide_eq_false (fun h => hc ((single_mem c).1 h))]
        refine Ret.mk' ⟨rfl, ?_⟩
        unfold signAt; rw [hf]; simp [hc]
  · have hf := find_short r (by omega) signs2 signs2_two
    refine Test.split (fun h1 => ?_) (fun h1 => ?_)
    · obtain ⟨c, r', rfl⟩ : ∃ c r', r = c :: r' := by
        cases r with
        | nil => simp at h1
        | cons c r' => exact ⟨c, r', rfl⟩
      refine CutL.mk' 1 rfl (by simp) ?_
      refine CallK.pure (has_ret .full singles _ (by decide)) ?_
      rw [show (c :: r').take 1 = [c] from rfl]
      by_cases hc : c ∈ signs1
      · rw [decide_eq_true ((single_mem c).2 hc)]
        refine CutL.mk' 1 rfl (by simp) ?_
        refine Ret.mk' ⟨rfl, ?_⟩
        unfold signAt; rw [hf]; simp [hc]
      · rw [decide_eq_false (fun h => hc ((single_mem c).1 h))]
        refine Ret.mk' ⟨rfl, ?_⟩
        unfold signAt; rw [hf]; simp [hc]
    · refine Ret.mk' ⟨rfl, ?_⟩
      have : r = [] := List.eq_nil_of_length_eq_zero (by omega)
      subst this; rfl

theorem refToken_ret (l : List UInt8) (k : Nat) (c : UInt8) (hl : l.length ≤ 70000) (hc : l[k]? = some c) : SRet Tryz.prog LG 23 [.str l, .int .i64 k] (oneV (lexOne l k)) := by
  intro σ
  have hk : k < l.length := (List.getElem?_eq_some_iff.1 hc).1
  refine code23.call hm (by simp) ?_
  intro b4 h4
  obtain ⟨o1, g4⟩ := new_box h4 [.int .i64 0, .int .i64 0, .str [], .int .i64 0, .int .i64 0, .int .i64 0]
  generalize σ.put b4 [.int .i64 0, .int .i64 0, .str [], .int .i64 0, .int .i64 0, .int .i64 0] = σ1 at *
  have hset : ∀ x, setL [.int .i64 0, .int .i64 0, .str [], .int .i64 0, .int .i64 0, .int .i64 0] 0 (oneC x) = oneC x := by intro x; rcases x with e | ⟨t, e2⟩ <;> rfl
  have htake : ∀ x, ((oneC x).drop 0).take 6 = oneC x := by intro x; rcases x with e | ⟨t, e2⟩ <;> rfl
  refine Idx.mk' k c rfl hc ?_
  refine CallK.pure (letter_ret c) ?_
  simp only [lexOne, hc]
  cases hL : isLetter c with
  | true =>
    refine CallK.pure (refName_ret l k hl (by omega)) ?_
    refine Sure.mk' (oneC_length _) ?_
    refine Store.mk' (oneC _) g4 (by rw [show V.cells (oneV _) = oneC _ from rfl, oneC_length]; decide) (hset _) (fun σ2 e2 => ?_)
    subst e2
    refine Load.mk' put_box (by rw [oneC_length]; decide) ?_
    rw [htake]
    refine Ret.weak (.refl _) (over_put o1 h4) ⟨rfl, ?_⟩
    rfl
  | false =>
    refine Idx.mk' k c rfl hc ?_
    refine CallK.pure (digit_ret c) ?_
    cases hD : isDigit c with
    | true =>
      refine CallK.pure (refNumber_ret l k c hl hc hD) ?_
      refine Sure.mk' (oneC_length _) ?_
      refine Store.mk' (oneC _) g4 (by rw [show V.cells (oneV _) = oneC _ from rfl, oneC_length]; decide) (hset _) (fun σ2 e2 => ?_)
      subst e2
      refine Load.mk' put_box (by rw [oneC_length]; decide) ?_
      rw [htake]
      refine Ret.weak (.refl _) (over_put o1 h4) ⟨rfl, ?_⟩
      rfl
    | false =>
      refine Idx.mk' k c rfl hc ?_
      refine Test.split (fun h34 => ?_) (fun h34 => ?_)
      · refine CallK.pure (refText_ret l k hl hk) ?_
        refine Sure.mk' (oneC_length _) ?_
        refine Store.mk' (oneC _) g4 (by rw [show V.cells (oneV _) = oneC _ from rfl, oneC_length]; decide) (hset _) (fun σ2 e2 => ?_)
        subst e2
        refine Load.mk' put_box (by rw [oneC_length]; decide) ?_
        rw [htake]
        refine Ret.weak (.refl _) (over_put o1 h4) ⟨rfl, ?_⟩
        rw [if_pos (show c.toNat = 34 by omega)]; rfl
      · refine CutR.mk' k rfl (by omega) ?_
        refine CallK.pure (refSign_ret (l.drop k) (by simp; omega)) ?_
        cases hS : signAt (l.drop k) with
        | none =>
          refine Test.yes rfl ?_
          refine Sure.mk' rfl ?_
          refine Store.mk' [.int .i64 0, .int .i64 0, .str [], .int .i64 0, .int .i64 0, .int .i64 26] g4 (Nat.le_of_ble_eq_true rfl) rfl (fun σ2 e2 => ?_)
          subst e2
          refine Load.mk' put_box (Nat.le_of_ble_eq_true rfl) ?_
          refine Ret.weak (.refl _) (over_put o1 h4) ⟨rfl, ?_⟩
          rw [if_neg (show ¬ c.toNat = 34 by omega)]; rfl
        | some s =>
          have hs := signAt_length hS
          refine Test.no (by intro e; rw [show (some s).getD [] = s from rfl] at e; rw [e] at hs; simp at hs) ?_
          simp only [List.length_drop] at hs
          refine Arith.i64 ((k + s.length : Nat) : Int) (by simp) (by omega) ?_
          refine Sure.mk' rfl ?_
          refine Store.mk' [.int .i64 4, .int .i64 k, .str s, .int .i64 0, .int .i64 (k + s.length : Nat), .int .i64 0] g4 (Nat.le_of_ble_eq_true rfl) rfl (fun σ2 e2 => ?_)
          subst e2
          refine Load.mk' put_box (Nat.le_of_ble_eq_true rfl) ?_
          refine Ret.weak (.refl _) (over_put o1 h4) ⟨rfl, ?_⟩
          rw [if_neg (show ¬ c.toNat = 34 by omega)]; rfl
end Go.Shadow.Lex

/- The specification's Tokens, and the law LexerReadsAsSpecified, as shadow contracts. Conditions: sources of at most 70000 bytes; the law's: none. -/
namespace Go.Shadow.Lex
open Go Go.RowKit Go.Proofs

theorem textScan_err : ∀ (r b : List UInt8) (n : Nat), textScan r b = .inl n → n ≠ 0 := by
  intro r
  induction hn : r.length using Nat.strongRecOn generalizing r with
  | _ n ih =>
    intro b m h
    cases r with
    | nil => rw [textScan_nil] at h; split at h <;> (injection h with h; omega)
    | cons c r =>
      subst hn
      rw [textScan_cons] at h
      split at h
      · injection h with h; omega
      · split at h
        · cases h
        · split at h
          · split at h
            · injection h with h; omega
            · split at h
              · injection h with h; omega
              · exact ih _ (by simp; omega) _ rfl _ _ h
          · split at h
            · injection h with h; omega
            · exact ih _ (by simp) _ rfl _ _ h
theorem lexOne_err {l : List UInt8} {k n : Nat} (h : lexOne l k = .inl n) : n ≠ 0 := by
  unfold lexOne at h
  split at h
  · injection h with h; omega
  · split at h
    · simp only at h
      split at h
      · injection h with h; omega
      · cases h
    · split at h
      · simp only at h
        split at h
        · cases h
        · injection h with h; omega
      · split at h
        · split at h
          · rename_i e he
            injection h with h; subst h
            exact textScan_err _ _ _ he
          · cases h
        · split at h
          · cases h
          · injection h with h; omega

theorem lexJ_len {l : List UInt8} : ∀ (n k : Nat) (ts : List Tok), l.length - k ≤ n → k ≤ l.length → lexJ l k = .inr ts → ts.length ≤ l.length - k + 1 := by
  intro n
  induction n with
  | zero =>
    intro k ts hn hk h
    rw [lexJ_end (by omega)] at h
    injection h with h; subst h; simp
  | succ n ih =>
    intro k ts hn hk h
    by_cases hkl : k < l.length
    · cases hone : lexOne l k with
      | inl e => rw [lexJ_bad hkl hone] at h; cases h
      | inr x =>
        obtain ⟨t, e2⟩ := x
        have hp := lexOne_pos hone
        have hge := skipTo_ge l e2
        have hle := skipTo_le l e2 hp.2
        rw [lexJ_one hone] at h
        cases hr : lexJ l (skipTo l e2) with
        | inl p => rw [hr] at h; cases h
        | inr ts' =>
          rw [hr] at h
          injection h with h; subst h
          have := ih (skipTo l e2) ts' (by omega) hle hr
          simp; omega
    · rw [lexJ_end (by omega)] at h
      injection h with h; subst h; simp
theorem lex_len {l : List UInt8} {ts : List Tok} (h : lex l = .inr ts) : ts.length ≤ l.length + 1 := by
  unfold lex at h
  split at h
  · cases h
  · have := lexJ_len _ _ ts (Nat.le_refl _) (skipTo_le l 0 (by omega)) h
    omega

theorem Weak.agg_head {a b : V} {r : List V} (h : Weak a b) (hb : b.one = true) : Weak (.agg (a :: r)) (.agg (b :: r)) := by
  intro B γ w x hx
  cases hx with
  | agg _ vs hl h1 hr =>
    refine .agg _ _ hl (fun j y hj => ?_) (fun i y z hy hz => ?_)
    · cases j with
      | zero => injection hj with hj; subst hj; exact hb
      | succ j => exact h1 (j + 1) y hj
    · cases i with
      | zero => injection hy with hy; subst hy; exact h _ _ _ _ (hr 0 _ _ rfl hz)
      | succ i => exact hr (i + 1) y z hy hz

def refRes : Sum (Nat × Nat) (List Tok) → V
  | .inl (a, e) => .agg [.slice .nil 0 [], .int .i64 a, .int .i64 e]
  | .inr ts => .agg [.slice .foreign 4 (ts.map tokV), .int .i64 0, .int .i64 0]

set_option maxHeartbeats 4000000 in
theorem refTokens_ret (src : List UInt8) (hs : src.length ≤ 70000) : SRet Tryz.prog LG 13 [.str src] (refRes (lex src)) := by
  intro σ
  refine code13.call hm (by simp) ?_
  intro b2 h2
  obtain ⟨o1, g2⟩ := new_box h2 [.slice .nil 0 [], .int .i64 0, .int .i64 0]
  generalize σ.put b2 [.slice .nil 0 [], .int .i64 0, .int .i64 0] = σ1 at *
  refine Test.split (fun h => ?_) (fun h => ?_)
  · refine Sure.mk' rfl ?_
    refine Store.mk' [.slice .nil 0 [], .int .i64 0, .int .i64 2] g2 (Nat.le_of_ble_eq_true rfl) rfl (fun σ2 e2 => ?_)
    subst e2
    refine Load.mk' put_box (Nat.le_of_ble_eq_true rfl) ?_
    refine Ret.weak (r := refRes (lex src)) (σ' := σ) ?_ (over_put o1 h2) ⟨rfl, rfl⟩
    rw [show lex src = .inl (0, 2) from by unfold lex; rw [if_pos (by omega)]]
    exact .refl _
  · have hlex : lex src = lexJ src (skipTo src 0) := by unfold lex; rw [if_neg (by omega)]
    rw [hlex]
    refine CallK.pure (blank_ret src 0 hs (by omega)) ?_
    refine ⟨fun m sl σ' => ∃ (k : Nat) (toks : List Tok) (tag' : Tag) (z : Nat), sl = ofL [(0, some (.str src)), (2, some (.loc b2 0)), (3, some (.slice tag' z (toks.map tokV))), (4, some (.int .i64 k))] ∧ Over σ1 σ' ∧ Mine σ1 σ' tag' ∧ (tag' = .nil ∨ z = 4) ∧
        toks.length ≤ k ∧ k ≤ src.length ∧ addAll toks (lexJ src k) = lexJ src (skipTo src 0) ∧ m = src.length - k, _,
      ⟨skipTo src 0, [], .nil, 0, rfl, .refl _, trivial, .inl rfl, by simp, skipTo_le _ _ (by omega), by cases lexJ src (skipTo src 0) <;> rfl, rfl⟩, ?_⟩
    rintro m sl σ' ⟨k, toks, tag', z, rfl, ho, hm2, hz, htk, hk, hadd, rfl⟩
    have hlen : (toks.map tokV).length = toks.length := by simp
    rw [← hadd]
    refine Test.split (fun h5 => ?_) (fun h5 => ?_)
    · obtain ⟨c, hc⟩ := get_some (l := src) (j := k) (by omega)
      refine CallK.pure (refToken_ret src k c hs hc) ?_
      intro b5 h5'
      have hb5 : σ1.box b5 = none := over_none ho h5'
      cases hone : lexOne src k with
      | inl n =>
        have hn0 := lexOne_err hone
        refine Sure.mk' rfl ?_
        refine Store.mk' [.int .i64 0, .int .i64 0, .str [], .int .i64 0, .int .i64 0, .int .i64 n] put_box (Nat.le_of_ble_eq_true rfl) rfl (fun σ2 e2 => ?_)
        rw [put_put] at e2
        have ho2 : Over σ1 σ2 := by rw [e2]; exact over_put ho hb5
        have g5 : σ2.box b5 = some [.int .i64 0, .int .i64 0, .str [], .int .i64 0, .int .i64 0, .int .i64 n] := by rw [e2]; exact put_box
        refine Load.mk' g5 (Nat.le_of_ble_eq_true rfl) ?_
        refine Test.yes (by omega) ?_
        refine Load.mk' g5 (Nat.le_of_ble_eq_true rfl) ?_
        refine Sure.mk' rfl ?_
        refine Store.mk' [.slice .nil 0 [], .int .i64 k, .int .i64 n] (ho2.box _ _ g2) (Nat.le_of_ble_eq_true rfl) rfl (fun σ3 e3 => ?_)
        subst e3
        refine Load.mk' put_box (Nat.le_of_ble_eq_true rfl) ?_
        refine Ret.weak (r := refRes (addAll toks (lexJ src k))) (σ' := σ) ?_ (over_put (over_trans o1 ho2) h2) ⟨rfl, rfl⟩
        rw [lexJ_bad (by omega) hone]; exact .refl _
      | inr x =>
        obtain ⟨t, e2⟩ := x
        have hp := lexOne_pos hone
        have hge := skipTo_ge src e2
        have hle := skipTo_le src e2 hp.2
        refine Sure.mk' rfl ?_
        refine Store.mk' [.int .i64 t.kind, .int .i64 t.at_, .str t.s, .int .i64 t.n, .int .i64 e2, .int .i64 0] put_box (Nat.le_of_ble_eq_true rfl) rfl (fun σ2 q2 => ?_)
        rw [put_put] at q2
        have ho2 : Over σ1 σ2 := by rw [q2]; exact over_put ho hb5
        have hm3 : Mine σ1 σ2 tag' := by rw [q2]; exact hm2
        have g5 : σ2.box b5 = some [.int .i64 t.kind, .int .i64 t.at_, .str t.s, .int .i64 t.n, .int .i64 e2, .int .i64 0] := by rw [q2]; exact put_box
        refine Load.mk' g5 (Nat.le_of_ble_eq_true rfl) ?_
        refine Test.no (by omega) ?_
        refine Load.mk' g5 (Nat.le_of_ble_eq_true rfl) ?_
        refine App.mk' ho2 hm3 hz rfl (by simp; omega) (by simp; omega) (by simp) (fun t' σ3 ho3 hm4 hbox _ => ?_)
        rw [← hbox] at g5
        refine Load.mk' g5 (Nat.le_of_ble_eq_true rfl) ?_
        refine CallK.pure (blank_ret src e2 hs hp.2) ?_
        refine ⟨_, _, ?_, Forget.refl _, skipTo src e2, toks ++ [t], .tip t', 4, by rw [List.map_append]; rfl, ho3, hm4, .inr rfl, by simp; omega, hle, ?_, rfl⟩
        · omega
        · rw [lexJ_one hone, addAll_addAll]
    · have hkl : k = src.length := by omega
      refine App.mk' ho hm2 hz rfl (by simp; omega) (by simp; omega) (by simp) (fun t' σ3 ho3 hm4 hbox _ => ?_)
      refine Sure.mk' rfl ?_
      refine Store.mk' [.slice (.tip t') 4 ((toks ++ [(⟨5, src.length, [], 0⟩ : Tok)]).map tokV), .int .i64 0, .int .i64 0] (ho3.box _ _ g2) (Nat.le_of_ble_eq_true rfl) (by rw [List.map_append]; rfl) (fun σ4 e4 => ?_)
      subst e4
      refine Load.mk' put_box (Nat.le_of_ble_eq_true rfl) ?_
      refine Ret.weak (r := refRes (addAll toks (lexJ src k))) (σ' := σ) ?_ (over_put (over_trans o1 ho3) h2) ⟨rfl, rfl⟩
      rw [lexJ_end (by omega)]
      exact Weak.agg_head (Weak.foreign _ _ _) rfl

set_option maxHeartbeats 4000000 in
theorem law3 (src : List UInt8) : SRet Tryz.prog LG 3 [.str src] (.bool true) := by
  intro σ
  refine code3.call hm (by simp) ?_
  refine Test.split (fun h => ?_) (fun h => ?_)
  · refine CallK.pure sanity_ret ?_
    exact Ret.mk' ⟨rfl, rfl⟩
  · refine CallK.pure (tokens_ret src (by omega)) ?_
    have hcall := refTokens_ret src (by omega)
    cases hlex : lex src with
    | inl x =>
      obtain ⟨a, e⟩ := x
      rw [hlex] at hcall
      intro b4 h4
      refine Sure.mk' rfl ?_
      refine Store.mk' [.int .i64 a, .int .i64 e] put_box (Nat.le_of_ble_eq_true rfl) rfl (fun σ1 e1 => ?_)
      rw [put_put] at e1; obtain ⟨o1, g4⟩ := new_box h4 [.int .i64 a, .int .i64 e]; rw [← e1] at o1 g4; clear e1
      refine CallK.pure hcall ?_
      intro b5 h5
      refine Sure.mk' rfl ?_
      refine Store.mk' [.slice .nil 0 [], .int .i64 a, .int .i64 e] put_box (Nat.le_of_ble_eq_true rfl) rfl (fun σ2 e2 => ?_)
      rw [put_put] at e2; obtain ⟨o2, g5⟩ := new_box h5 [.slice .nil 0 [], .int .i64 a, .int .i64 e]; rw [← e2] at o2 g5; clear e2
      refine Load.mk' (o2.box _ _ g4) (Nat.le_of_ble_eq_true rfl) ?_
      refine Load.mk' g5 (Nat.le_of_ble_eq_true rfl) ?_
      refine BTest.no (by simp) ?_
      refine Load.mk' g5 (Nat.le_of_ble_eq_true rfl) ?_
      refine Test.no (by simp) ?_
      refine ⟨fun m sl σ' => σ' = σ2 ∧ sl = ofL [(3, some (.slice .nil 0 [])), (5, some (.loc b5 0)), (6, some (.int .i64 0))], 0, ⟨rfl, rfl⟩, ?_⟩
      rintro m sl σ' ⟨rfl, rfl⟩
      refine Test.no (by simp) ?_
      refine CallK.pure sanity_ret ?_
      exact Ret.weak (.refl _) (over_trans o1 o2) ⟨rfl, rfl⟩
    | inr ts =>
      rw [hlex] at hcall
      have hlen : (ts.map tokV).length = ts.length := by simp
      have hts := lex_len hlex
      intro b4 h4
      refine Sure.mk' rfl ?_
      refine Store.mk' [.int .i64 0, .int .i64 0] put_box (Nat.le_of_ble_eq_true rfl) rfl (fun σ1 e1 => ?_)
      rw [put_put] at e1; obtain ⟨o1, g4⟩ := new_box h4 [.int .i64 0, .int .i64 0]; rw [← e1] at o1 g4; clear e1
      refine CallK.pure hcall ?_
      intro b5 h5
      refine Sure.mk' rfl ?_
      refine Store.mk' [.slice .foreign 4 (ts.map tokV), .int .i64 0, .int .i64 0] put_box (Nat.le_of_ble_eq_true rfl) rfl (fun σ2 e2 => ?_)
      rw [put_put] at e2; obtain ⟨o2, g5⟩ := new_box h5 [.slice .foreign 4 (ts.map tokV), .int .i64 0, .int .i64 0]; rw [← e2] at o2 g5; clear e2
      refine Load.mk' (o2.box _ _ g4) (Nat.le_of_ble_eq_true rfl) ?_
      refine Load.mk' g5 (Nat.le_of_ble_eq_true rfl) ?_
      refine BTest.no (by simp) ?_
      refine Load.mk' g5 (Nat.le_of_ble_eq_true rfl) ?_
      refine Test.no (by simp) ?_
      refine ⟨fun m sl σ' => σ' = σ2 ∧ ∃ i : Nat, sl = ofL [(3, some (.slice .foreign 4 (ts.map tokV))), (5, some (.loc b5 0)), (6, some (.int .i64 i))] ∧ i ≤ ts.length ∧ m = ts.length - i, _, ⟨rfl, 0, rfl, by omega, rfl⟩, ?_⟩
      rintro m sl σ' ⟨rfl, i, rfl, hi, rfl⟩
      refine Test.split (fun h6 => ?_) (fun h6 => ?_)
      · rw [hlen] at h6
        obtain ⟨t, ht⟩ : ∃ t, ts[i]? = some t := ⟨ts[i]'(by omega), by simp [show i < ts.length by omega]⟩
        refine Sure.mk' (.inl rfl) ?_
        refine IdxE.mk' i (tokV t) rfl (by simp [ht]) ?_
        refine ⟨⟨by simp [tokV], ?_⟩⟩
        refine Load.mk' g5 (Nat.le_of_ble_eq_true rfl) ?_
        refine Sure.mk' (.inl rfl) ?_
        refine IdxE.mk' i (tokV t) rfl (by simp [ht]) ?_
        refine ⟨⟨by simp [tokV], ?_⟩⟩
        refine BTest.no (by simp) ?_
        refine Arith.i64 ((i + 1 : Nat) : Int) (by simp) (by omega) ?_
        exact ⟨_, _, by omega, Forget.refl _, rfl, i + 1, rfl, by omega, rfl⟩
      · refine CallK.pure sanity_ret ?_
        exact Ret.weak (.refl _) (over_trans o1 o2) ⟨rfl, rfl⟩
end Go.Shadow.Lex

/- Proved: what the specification's Text does, as a shadow contract. Conditions: the lists' and texts' sizes, as the theorem says. -/
namespace Go.Shadow.Lex
open Go Go.RowKit Go.Proofs

theorem itoa_ten {u : Nat} (h : 10 ≤ u) : Lib.itoa (u : Int) = Lib.itoa ((u / 10 : Nat) : Int) ++ Lib.itoa ((u % 10 : Nat) : Int) := by
  rw [Lib.itoa_nonneg, Lib.itoa_nonneg, Lib.itoa_nonneg, Lib.decDigits, dif_neg (by omega), Lib.decDigits_one (show u % 10 < 10 by omega)]
theorem itoa_neg_ten {u : Nat} (h : 10 ≤ u) : Lib.itoa (-(u : Int)) = Lib.itoa (-((u / 10 : Nat) : Int)) ++ Lib.itoa ((u % 10 : Nat) : Int) := by
  rw [Lib.itoa_neg u (by omega), Lib.itoa_neg (u / 10) (by omega), Lib.itoa_nonneg, Lib.decDigits, dif_neg (by omega), Lib.decDigits_one (show u % 10 < 10 by omega)]
  rfl
theorem itoa_len (n : Int) (h : -9223372036854775808 ≤ n ∧ n ≤ 9223372036854775807) : (Lib.itoa n).length ≤ 21 := Lib.itoa_length_le n h.1 h.2

theorem decimal_nonneg : ∀ (N u : Nat), u < N → u ≤ 9223372036854775807 → SRet Tryz.prog LG 28 [.int .i64 u] (.str (Lib.itoa (u : Int))) := by
  intro N
  induction N with
  | zero => intro u h; omega
  | succ N ih =>
    intro u hu hb σ
    refine code28.call hm (by simp) ?_
    refine Test.no (by omega) ?_
    refine Test.no (by omega) ?_
    refine Test.split (fun h => ?_) (fun h => ?_)
    · refine Arith.i64 ((48 + u : Nat) : Int) (by omega) (by omega) ?_
      refine Arith.u8 ((48 + u : Nat) : Int) rfl (by omega) ?_
      refine Sure.mk' (.inl rfl) ?_
      have e1 : ([[V.int .u8 ((48 + u : Nat) : Int)]] : List (List V)) = byteEls [UInt8.ofNat (48 + u)] := by
        simp [byteEls, UInt8.toNat_ofNat, Nat.mod_eq_of_lt (show 48 + u < 256 by omega)]
      show B2S [[V.int .u8 ((48 + u : Nat) : Int)]] _
      rw [e1]
      refine B2S.mk' ?_
      exact Ret.mk' ⟨rfl, by rw [Lib.itoa_nonneg, Lib.decDigits_one (by omega)]⟩
    · refine Sure.mk' (by decide) ?_
      refine Arith.i64 ((u / 10 : Nat) : Int) (by rw [Int.tdiv_eq_ediv_of_nonneg (by omega)]; omega) (by omega) ?_
      refine CallK.pure (ih (u / 10) (by omega) (by omega)) ?_
      refine Sure.mk' (by decide) ?_
      rw [show Int.tmod (u : Int) 10 = ((u % 10 : Nat) : Int) by rw [Int.tmod_eq_emod_of_nonneg (by omega)]; omega]
      refine CallK.pure (ih (u % 10) (by omega) (by omega)) ?_
      have h1 := itoa_len ((u / 10 : Nat) : Int) (by omega)
      have h2 := itoa_len ((u % 10 : Nat) : Int) (by omega)
      refine Sure.mk' (by omega) ?_
      exact Ret.mk' ⟨rfl, by rw [← itoa_ten (show 10 ≤ u by omega)]⟩
theorem decimal_neg : ∀ (N u : Nat), u < N → 1 ≤ u → u ≤ 9223372036854775808 → SRet Tryz.prog LG 28 [.int .i64 (-(u : Int))] (.str (Lib.itoa (-(u : Int)))) := by
  intro N
  induction N with
  | zero => intro u h; omega
  | succ N ih =>
    intro u hu h1 hb σ
    refine code28.call hm (by simp) ?_
    refine Test.split (fun h => ?_) (fun h => ?_)
    · refine Sure.mk' (by decide) ?_
      refine Arith.i64 (-((u / 10 : Nat) : Int)) (by rw [Int.neg_tdiv, Int.tdiv_eq_ediv_of_nonneg (by omega)]; omega) (by omega) ?_
      refine CallK.pure (ih (u / 10) (by omega) (by omega) (by omega)) ?_
      refine Sure.mk' (by decide) ?_
      refine Arith.i64 ((u % 10 : Nat) : Int) (by rw [Int.neg_tmod, Int.tmod_eq_emod_of_nonneg (by omega)]; omega) (by omega) ?_
      refine CallK.pure (decimal_nonneg _ (u % 10) (Nat.lt_succ_self _) (by omega)) ?_
      have h3 := itoa_len (-((u / 10 : Nat) : Int)) (by omega)
      have h2 := itoa_len ((u % 10 : Nat) : Int) (by omega)
      refine Sure.mk' (by omega) ?_
      exact Ret.mk' ⟨rfl, by rw [← itoa_neg_ten (show 10 ≤ u by omega)]⟩
    · refine Test.yes (by omega) ?_
      refine Arith.i64 (u : Int) (by omega) (by omega) ?_
      refine CallK.pure (decimal_nonneg _ u (Nat.lt_succ_self _) (by omega)) ?_
      have h2 := itoa_len (u : Int) (by omega)
      refine Sure.mk' (by simp; omega) ?_
      exact Ret.mk' ⟨rfl, by rw [Lib.itoa_neg u (by omega), Lib.itoa_nonneg]; rfl⟩
theorem decimal_ret (n : Int) (h : -9223372036854775808 ≤ n ∧ n ≤ 9223372036854775807) : SRet Tryz.prog LG 28 [.int .i64 n] (.str (Lib.itoa n)) := by
  rcases Int.le_total 0 n with h0 | h0
  · obtain ⟨u, rfl⟩ : ∃ u : Nat, n = u := ⟨n.toNat, by omega⟩
    exact decimal_nonneg _ u (Nat.lt_succ_self _) (by omega)
  · by_cases hz : n = 0
    · subst hz; exact decimal_nonneg _ 0 (Nat.lt_succ_self _) (by omega)
    · obtain ⟨u, rfl⟩ : ∃ u : Nat, n = -(u : Int) := ⟨n.natAbs, by omega⟩
      exact decimal_neg _ u (Nat.lt_succ_self _) (by omega) (by omega)

theorem quoted_ret (s : List UInt8) (hs : s.length ≤ 1000000) : SRet Tryz.prog LG 29 [.str s] (.str ([34] ++ quoteB s ++ [34])) := by
  intro σ
  have hql := quoteB_length s
  have hcl : s.countP isSp ≤ s.length := List.countP_le_length
  refine code29.call hm (by simp) ?_
  refine ⟨fun m sl σ' => ∃ (i : Nat) (tag' : Tag), i ≤ s.length ∧ sl = ofL [(0, some (.str s)), (3, some (.slice tag' 1 (byteEls (34 :: quoteB (s.take i))))), (4, some (.int .i64 i))] ∧ Over σ σ' ∧ Mine σ σ' tag' ∧ m = s.length - i, _,
    ⟨0, .full, by omega, rfl, .refl _, trivial, rfl⟩, ?_⟩
  rintro m sl σ' ⟨i, tag', hi, rfl, ho, hm2, rfl⟩
  have hle : (quoteB (s.take i)).length ≤ 2000000 := by
    have := quoteB_length (s.take i)
    have h7 : (s.take i).countP isSp ≤ (s.take i).length := List.countP_le_length
    have h8 : (s.take i).length ≤ s.length := by simp; omega
    omega
  have hlb : (byteEls (34 :: quoteB (s.take i))).length = 1 + (quoteB (s.take i)).length := by simp [byteEls]; omega
  refine Test.split (fun h => ?_) (fun h => ?_)
  · obtain ⟨c, hc⟩ := getS (l := s) (j := i) (by omega)
    have htk : s.take (i + 1) = s.take i ++ [c] := by rw [List.take_add_one, hc]; rfl
    have hq2 : quoteB (s.take (i + 1)) = quoteB (s.take i) ++ qOf c := by rw [htk, quoteB_snoc]
    have hbe : ∀ x : List UInt8, byteEls (34 :: quoteB (s.take i)) ++ byteEls x = byteEls (34 :: (quoteB (s.take i) ++ x)) := by intro x; simp [byteEls]
    refine Idx.mk' i c rfl hc ?_
    refine Test.split (fun h1 => ?_) (fun h1 => ?_)
    · have hc' : c = 34 := UInt8.toNat_inj.1 (by have : c.toNat = 34 := by omega
                                                 simpa using this)
      refine Idx.mk' i c rfl hc ?_
      refine App.mk' ho hm2 (.inr rfl) rfl (by simp [hlb]; omega) (by simp [hlb]; omega) (by simp) (fun t' σ2 o2 hm3 _ _ => ?_)
      refine Arith.i64 ((i + 1 : Nat) : Int) (by simp) (by omega) ?_
      refine ⟨_, _, ?_, Forget.refl _, i + 1, .tip t', by omega, ?_, o2, hm3, rfl⟩
      · omega
      · rw [hq2, show qOf c = [92, c] by subst hc'; rfl, ← hbe]; rfl
    · refine Test.split (fun h2 => ?_) (fun h2 => ?_)
      · have hc' : c = 92 := UInt8.toNat_inj.1 (by have : c.toNat = 92 := by omega
                                                   simpa using this)
        refine Idx.mk' i c rfl hc ?_
        refine App.mk' ho hm2 (.inr rfl) rfl (by simp [hlb]; omega) (by simp [hlb]; omega) (by simp) (fun t' σ2 o2 hm3 _ _ => ?_)
        refine Arith.i64 ((i + 1 : Nat) : Int) (by simp) (by omega) ?_
        refine ⟨_, _, ?_, Forget.refl _, i + 1, .tip t', by omega, ?_, o2, hm3, rfl⟩
        · omega
        · rw [hq2, show qOf c = [92, c] by subst hc'; rfl, ← hbe]; rfl
      · refine Test.split (fun h3 => ?_) (fun h3 => ?_)
        · have hc' : c = 10 := UInt8.toNat_inj.1 (by have : c.toNat = 10 := by omega
                                                     simpa using this)
          refine App.mk' ho hm2 (.inr rfl) rfl (by simp [hlb]; omega) (by simp [hlb]; omega) (by simp) (fun t' σ2 o2 hm3 _ _ => ?_)
          refine Arith.i64 ((i + 1 : Nat) : Int) (by simp) (by omega) ?_
          refine ⟨_, _, ?_, Forget.refl _, i + 1, .tip t', by omega, ?_, o2, hm3, rfl⟩
          · omega
          · rw [hq2, show qOf c = [92, 110] by subst hc'; rfl, ← hbe]; rfl
        · have hqc : qOf c = [c] := by
            have : mJ 3 c.toNat = none := by
              simp only [mJ]
              rw [if_neg (by omega), if_neg (by omega), if_neg (by omega)]
            unfold qOf; rw [this]
          refine Idx.mk' i c rfl hc ?_
          refine App.mk' ho hm2 (.inr rfl) rfl (by simp [hlb]; omega) (by simp [hlb]; omega) (by simp) (fun t' σ2 o2 hm3 _ _ => ?_)
          refine Arith.i64 ((i + 1 : Nat) : Int) (by simp) (by omega) ?_
          refine ⟨_, _, ?_, Forget.refl _, i + 1, .tip t', by omega, ?_, o2, hm3, rfl⟩
          · omega
          · rw [hq2, hqc, ← hbe]; rfl
  · rw [show s.take i = s from List.take_of_length_le (by omega)] at hlb hle ⊢
    refine App.mk' ho hm2 (.inr rfl) rfl (by simp [hlb]; omega) (by simp [hlb]; omega) (by simp) (fun t' σ2 o2 hm3 _ _ => ?_)
    refine Sure.mk' (.inl rfl) ?_
    have e1 : byteEls (34 :: quoteB s) ++ [[V.int .u8 34]] = byteEls ([34] ++ quoteB s ++ [34]) := by simp [byteEls]
    show B2S (byteEls (34 :: quoteB s) ++ [[V.int .u8 34]]) _
    rw [e1]
    refine B2S.mk' ?_
    exact Ret.weak (.refl _) o2 ⟨rfl, rfl⟩

theorem join_snoc (ws : List (List UInt8)) (w : List UInt8) : Lib.join (ws ++ [w]) [32] = if ws = [] then w else Lib.join ws [32] ++ [32] ++ w := by
  cases ws with
  | nil => simp [Lib.join_one]
  | cons x r =>
    rw [if_neg (by simp), List.cons_append, Lib.join_cons, Lib.join_cons]
    simp [Lib.joinTail]
set_option maxHeartbeats 8000000 in
theorem refText_all (tag : Tag) (ts : List Tok) (h3 : ∀ t ∈ ts, t.s.length ≤ 1000) (hn : ∀ t ∈ ts, -9223372036854775808 ≤ t.n ∧ t.n ≤ 9223372036854775807) (hl : ts.length ≤ 1000) :
    SRet Tryz.prog LG 15 [.slice tag 4 (ts.map tokV)] (.str (Lib.join (ts.filterMap wordT) [32])) := by
  intro σ
  have hlen : (ts.map tokV).length = ts.length := by simp
  have hwl : ∀ t ∈ ts, ∀ w, wordT t = some w → w.length ≤ 3000 := by
    intro t ht w hw
    have h1 := h3 t ht
    have h2 := itoa_len t.n (hn t ht)
    have h4 := quoteB_length t.s
    have h5 : t.s.countP isSp ≤ t.s.length := List.countP_le_length
    unfold wordT at hw
    split at hw
    · injection hw with hw; subst hw; omega
    · split at hw
      · injection hw with hw; subst hw; omega
      · split at hw
        · injection hw with hw; subst hw; simp; omega
        · cases hw
  refine code15.call hm (by simp) ?_
  refine ⟨fun m sl σ' => σ' = σ ∧ ∃ (i : Nat), sl = ofL [(0, some (.slice tag 4 (ts.map tokV))), (3, some (.str (Lib.join ((ts.take i).filterMap wordT) [32]))), (4, some (.bool (decide ((ts.take i).filterMap wordT = [])))), (5, some (.int .i64 i))] ∧
      i ≤ ts.length ∧ (Lib.join ((ts.take i).filterMap wordT) [32]).length ≤ 4000 * i ∧ m = ts.length - i, _, ⟨rfl, 0, rfl, by omega, by simp [Lib.join, List.intercalate], rfl⟩, ?_⟩
  rintro m sl σ' ⟨rfl, i, rfl, hi, hjl, rfl⟩
  refine Test.split (fun h => ?_) (fun h => ?_)
  · rw [hlen] at h
    obtain ⟨t, ht⟩ : ∃ t, ts[i]? = some t := ⟨ts[i]'(by omega), by simp [show i < ts.length by omega]⟩
    have htm : t ∈ ts := List.mem_of_getElem? ht
    have htk : (ts.take (i + 1)).filterMap wordT = (ts.take i).filterMap wordT ++ (wordT t).toList := by
      rw [List.take_add_one, ht, List.filterMap_append]
      congr 1
    generalize hws : (ts.take i).filterMap wordT = ws at *
    have hitem : ∀ (kd off : Nat), True := fun _ _ => trivial
    refine Sure.mk' (.inl rfl) ?_
    refine IdxE.mk' i (tokV t) rfl (by simp [ht]) ?_
    refine ⟨⟨by simp [tokV], ?_⟩⟩
    have h3t := h3 t htm
    have fin : ∀ w, wordT t = some w → (Lib.join ((ts.take (i + 1)).filterMap wordT) [32] = if ws = [] then w else Lib.join ws [32] ++ [32] ++ w) ∧ ¬ ((ts.take (i + 1)).filterMap wordT = []) ∧ w.length ≤ 3000 := by
      intro w hw
      rw [htk, hw]
      exact ⟨join_snoc ws w, by simp, hwl t htm w hw⟩
    refine Test.split (fun h1 => ?_) (fun h1 => ?_)
    · obtain ⟨f1, f2, f3⟩ := fin t.s (by unfold wordT; rw [if_pos (.inl h1)])
      refine Sure.mk' (.inl rfl) ?_
      refine IdxE.mk' i (tokV t) rfl (by simp [ht]) ?_
      refine ⟨⟨by simp [tokV], ?_⟩⟩
      by_cases hw0 : ws = []
      · rw [decide_eq_true hw0]
        rw [if_pos hw0] at f1
        subst hw0
        refine Sure.mk' (by simp [Lib.join, List.intercalate]; omega) ?_
        refine Arith.i64 ((i + 1 : Nat) : Int) (by simp) (by omega) ?_
        refine ⟨_, _, by omega, Forget.refl _, rfl, i + 1, ?_, by omega, by rw [f1]; (try simp only [List.length_append, List.length_cons, List.length_nil]); omega, rfl⟩
        rw [f1, decide_eq_false f2]; rfl
      · rw [decide_eq_false hw0]
        rw [if_neg hw0] at f1
        refine Sure.mk' (by simp; omega) ?_
        refine Sure.mk' (by simp only [List.length_append, List.length_cons, List.length_nil]; omega) ?_
        refine Arith.i64 ((i + 1 : Nat) : Int) (by simp) (by omega) ?_
        refine ⟨_, _, by omega, Forget.refl _, rfl, i + 1, ?_, by omega, by rw [f1]; simp only [List.length_append, List.length_cons, List.length_nil]; omega, rfl⟩
        rw [f1, decide_eq_false f2]; rfl
    · refine Test.split (fun h4 => ?_) (fun h4 => ?_)
      · obtain ⟨f1, f2, f3⟩ := fin t.s (by unfold wordT; rw [if_pos (.inr h4)])
        refine Sure.mk' (.inl rfl) ?_
        refine IdxE.mk' i (tokV t) rfl (by simp [ht]) ?_
        refine ⟨⟨by simp [tokV], ?_⟩⟩
        by_cases hw0 : ws = []
        · rw [decide_eq_true hw0]
          rw [if_pos hw0] at f1
          subst hw0
          refine Sure.mk' (by simp [Lib.join, List.intercalate]; omega) ?_
          refine Arith.i64 ((i + 1 : Nat) : Int) (by simp) (by omega) ?_
          refine ⟨_, _, by omega, Forget.refl _, rfl, i + 1, ?_, by omega, by rw [f1]; (try simp only [List.length_append, List.length_cons, List.length_nil]); omega, rfl⟩
          rw [f1, decide_eq_false f2]; rfl
        · rw [decide_eq_false hw0]
          rw [if_neg hw0] at f1
          refine Sure.mk' (by simp; omega) ?_
          refine Sure.mk' (by simp only [List.length_append, List.length_cons, List.length_nil]; omega) ?_
          refine Arith.i64 ((i + 1 : Nat) : Int) (by simp) (by omega) ?_
          refine ⟨_, _, by omega, Forget.refl _, rfl, i + 1, ?_, by omega, by rw [f1]; simp only [List.length_append, List.length_cons, List.length_nil]; omega, rfl⟩
          rw [f1, decide_eq_false f2]; rfl
      · refine Test.split (fun h2 => ?_) (fun h2 => ?_)
        · obtain ⟨f1, f2, f3⟩ := fin (Lib.itoa t.n) (by unfold wordT; rw [if_neg (by omega), if_pos h2])
          refine Sure.mk' (.inl rfl) ?_
          refine IdxE.mk' i (tokV t) rfl (by simp [ht]) ?_
          refine ⟨⟨by simp [tokV], ?_⟩⟩
          refine CallK.pure (decimal_ret t.n (hn t htm)) ?_
          by_cases hw0 : ws = []
          · rw [decide_eq_true hw0]
            rw [if_pos hw0] at f1
            subst hw0
            refine Sure.mk' (by simp [Lib.join, List.intercalate]; omega) ?_
            refine Arith.i64 ((i + 1 : Nat) : Int) (by simp) (by omega) ?_
            refine ⟨_, _, by omega, Forget.refl _, rfl, i + 1, ?_, by omega, by rw [f1]; (try simp only [List.length_append, List.length_cons, List.length_nil]); omega, rfl⟩
            rw [f1, decide_eq_false f2]; rfl
          · rw [decide_eq_false hw0]
            rw [if_neg hw0] at f1
            refine Sure.mk' (by simp; omega) ?_
            refine Sure.mk' (by simp only [List.length_append, List.length_cons, List.length_nil]; omega) ?_
            refine Arith.i64 ((i + 1 : Nat) : Int) (by simp) (by omega) ?_
            refine ⟨_, _, by omega, Forget.refl _, rfl, i + 1, ?_, by omega, by rw [f1]; simp only [List.length_append, List.length_cons, List.length_nil]; omega, rfl⟩
            rw [f1, decide_eq_false f2]; rfl
        · refine Test.split (fun h5 => ?_) (fun h5 => ?_)
          · obtain ⟨f1, f2, f3⟩ := fin ([34] ++ quoteB t.s ++ [34]) (by unfold wordT; rw [if_neg (by omega), if_neg h2, if_pos h5])
            simp only [List.length_append, List.length_cons, List.length_nil] at f3
            refine Sure.mk' (.inl rfl) ?_
            refine IdxE.mk' i (tokV t) rfl (by simp [ht]) ?_
            refine ⟨⟨by simp [tokV], ?_⟩⟩
            refine CallK.pure (quoted_ret t.s (by omega)) ?_
            by_cases hw0 : ws = []
            · rw [decide_eq_true hw0]
              rw [if_pos hw0] at f1
              subst hw0
              refine Sure.mk' (by simp [Lib.join, List.intercalate]; omega) ?_
              refine Arith.i64 ((i + 1 : Nat) : Int) (by simp) (by omega) ?_
              refine ⟨_, _, by omega, Forget.refl _, rfl, i + 1, ?_, by omega, by rw [f1]; (try simp only [List.length_append, List.length_cons, List.length_nil]); omega, rfl⟩
              rw [f1, decide_eq_false f2]; rfl
            · rw [decide_eq_false hw0]
              rw [if_neg hw0] at f1
              refine Sure.mk' (by simp; omega) ?_
              refine Sure.mk' (by simp only [List.length_append, List.length_cons, List.length_nil]; omega) ?_
              refine Arith.i64 ((i + 1 : Nat) : Int) (by simp) (by omega) ?_
              refine ⟨_, _, by omega, Forget.refl _, rfl, i + 1, ?_, by omega, by rw [f1]; simp only [List.length_append, List.length_cons, List.length_nil]; omega, rfl⟩
              rw [f1, decide_eq_false f2]; rfl
          · have hnone : wordT t = none := by unfold wordT; rw [if_neg (by omega), if_neg h2, if_neg h5]
            rw [hnone] at htk
            simp only [Option.toList_none, List.append_nil] at htk
            refine Arith.i64 ((i + 1 : Nat) : Int) (by simp) (by omega) ?_
            exact ⟨_, _, by omega, Forget.refl _, rfl, i + 1, by rw [htk]; rfl, by omega, by rw [htk]; omega, rfl⟩
  · rw [hlen] at h
    rw [show ts.take i = ts from List.take_of_length_le (by omega)]
    exact Ret.mk' ⟨rfl, rfl⟩

set_option maxHeartbeats 4000000 in
theorem law4 (tag : Tag) (ts : List Tok) (hn : ∀ t ∈ ts, -9223372036854775808 ≤ t.n ∧ t.n ≤ 9223372036854775807) : SRet Tryz.prog LG 4 [.slice tag 4 (ts.map tokV)] (.bool true) := by
  intro σ
  have hlen : (ts.map tokV).length = ts.length := by simp
  refine code4.call hm (by simp) ?_
  refine Test.split (fun h => ?_) (fun h => ?_)
  · refine CallK.pure sanity_ret ?_
    exact Ret.mk' ⟨rfl, rfl⟩
  · rw [hlen] at h
    refine ⟨fun m sl σ' => σ' = σ ∧ ∃ i : Nat, sl = ofL [(0, some (.slice tag 4 (ts.map tokV))), (3, some (.int .i64 i))] ∧ i ≤ ts.length ∧ (∀ t ∈ ts.take i, t.s.length ≤ 400) ∧ m = ts.length - i, _, ⟨rfl, 0, rfl, by omega, by simp, rfl⟩, ?_⟩
    rintro m sl σ' ⟨rfl, i, rfl, hi, hall, rfl⟩
    refine Test.split (fun h6 => ?_) (fun h6 => ?_)
    · rw [hlen] at h6
      obtain ⟨t, ht⟩ : ∃ t, ts[i]? = some t := ⟨ts[i]'(by omega), by simp [show i < ts.length by omega]⟩
      refine Sure.mk' (.inl rfl) ?_
      refine IdxE.mk' i (tokV t) rfl (by simp [ht]) ?_
      refine ⟨⟨by simp [tokV], ?_⟩⟩
      refine Test.split (fun h7 => ?_) (fun h7 => ?_)
      · refine CallK.pure sanity_ret ?_
        exact Ret.mk' ⟨rfl, rfl⟩
      · refine Arith.i64 ((i + 1 : Nat) : Int) (by simp) (by omega) ?_
        refine ⟨_, _, by omega, Forget.refl _, rfl, i + 1, rfl, by omega, fun u hu => ?_, rfl⟩
        rw [List.take_add_one, ht] at hu
        rcases List.mem_append.1 hu with hu | hu
        · exact hall u hu
        · simp at hu; subst hu; omega
    · rw [hlen] at h6
      rw [show ts.take i = ts from List.take_of_length_le (by omega)] at hall
      have hj : (Lib.join (ts.filterMap wordT) [32]).length ≤ 140737488355328 := by
        have : ∀ us : List Tok, (∀ t ∈ us, t.s.length ≤ 400) → (∀ t ∈ us, -9223372036854775808 ≤ t.n ∧ t.n ≤ 9223372036854775807) → (Lib.join (us.filterMap wordT) [32]).length ≤ 4000 * us.length := by
          intro us
          induction us with
          | nil => intro _ _; simp [Lib.join, List.intercalate]
          | cons t us ih =>
            intro g1 g2
            have h1 := ih (fun t ht => g1 t (by simp [ht])) (fun t ht => g2 t (by simp [ht]))
            have h3t := g1 t (by simp)
            have h2 := itoa_len t.n (g2 t (by simp))
            have h4 := quoteB_length t.s
            have h5 : t.s.countP isSp ≤ t.s.length := List.countP_le_length
            cases hw : wordT t with
            | none => rw [List.filterMap_cons_none hw]; simp; omega
            | some w =>
              rw [List.filterMap_cons_some hw]
              have hwl : w.length ≤ 3000 := by
                unfold wordT at hw
                split at hw
                · injection hw with hw; subst hw; omega
                · split at hw
                  · injection hw with hw; subst hw; omega
                  · split at hw
                    · injection hw with hw; subst hw; simp; omega
                    · cases hw
              cases hr : us.filterMap wordT with
              | nil => rw [Lib.join_one]; simp; omega
              | cons y r =>
                rw [hr] at h1
                rw [show Lib.join (w :: y :: r) [32] = w ++ 32 :: Lib.join (y :: r) [32] by rw [Lib.join_cons, Lib.join_cons]; simp [Lib.joinTail]]
                simp; omega
        have := this ts hall hn
        omega
      refine CallK.pure sanity_ret ?_
      refine CallK.pure (text_ret tag ts (fun t ht => by have := hall t ht; omega) hn (by omega) hj) ?_
      refine CallK.pure (refText_all tag ts (fun t ht => by have := hall t ht; omega) hn (by omega)) ?_
      refine Test.yes rfl ?_
      exact Ret.mk' ⟨rfl, rfl⟩
end Go.Shadow.Lex

/- What the rows' cell 'laid' gives the walks; and a start that meets it. -/
namespace Go.Shadow.Lex
open Go Go.RowKit Go.Proofs Go.Proofs.YtgebphnfnmeaaaaGreatDoor

def laidAll : List (String × DataW Unit) := [("math/bits.deBruijn32tab", Rows.laid_math_bits_deBruijn32tab), ("math/bits.deBruijn64tab", Rows.laid_math_bits_deBruijn64tab), ("internal/strconv.uint64pow10", Rows.laid_internal_strconv_uint64pow10), ("strconv.ErrRange", Rows.laid_strconv_ErrRange), ("strconv.ErrSyntax", Rows.laid_strconv_ErrSyntax), ("unicode.White_Space", Rows.laid_unicode_White_Space), ("strings.asciiSpace", Rows.laid_strings_asciiSpace)]

theorem own : ownKnob Tryz.prog.godebug = none := by kernel_rfl
theorem gA : Tryz.prog.globalNamed "strings.asciiSpace" = some 0 := by kernel_rfl
theorem gP : Tryz.prog.globalNamed "internal/strconv.uint64pow10" = some 3 := by kernel_rfl
theorem gS : Tryz.prog.globalNamed "strconv.ErrSyntax" = some 4 := by kernel_rfl
theorem gR : Tryz.prog.globalNamed "strconv.ErrRange" = some 5 := by kernel_rfl
theorem tA : (Tryz.prog.globals[0]?).map (·.type) = some 105 := by kernel_rfl
theorem tP : (Tryz.prog.globals[3]?).map (·.type) = some 144 := by kernel_rfl
theorem tS : (Tryz.prog.globals[4]?).map (·.type) = some 92 := by kernel_rfl
theorem tR : (Tryz.prog.globals[5]?).map (·.type) = some 92 := by kernel_rfl
theorem star : "*" ++ "errors.errorString" = "*errors.errorString" := by decide
theorem row190 (u : TypeId) (h : Tryz.prog.typeName? 3 u = some "*errors.errorString") : u = 190 :=
  typeName_ptr_named (nm := "errors.errorString") (by rw [star]; kernel_rfl) (by kernel_rfl) (by decide) u (by rw [star]; exact h)
theorem cells192 : Tryz.prog.cellsOf 192 = 1 := by kernel_rfl
theorem cells9 : Tryz.prog.cellsOf 9 = 1 := by kernel_rfl
theorem dataA : (Rows.laid_strings_asciiSpace : DataW Unit) = Lib.tabData .u8 Lib.asciiSpaceTab := by kernel_rfl
theorem dataP : (Rows.laid_internal_strconv_uint64pow10 : DataW Unit) = Lib.tabData .u64 Lib.pow10Tab := by kernel_rfl

theorem tab_of {W : World} {n : String} {k : IntKind} {zs : List Int} {d : DataW Unit} {g : Nat} {t e : TypeId} {m : Nat} (h : Lib.VarReads Tryz.prog W n d) (hd : d = Lib.tabData k zs)
    (hg : Tryz.prog.globalNamed n = some g) (hty : (Tryz.prog.globals[g]?).map (·.type) = some t) (ht : Tryz.prog.underlying t = some (.array m e)) (he : Tryz.prog.underlying e = some (.int k)) (hce : Tryz.prog.cellsOf e = 1) (hct : Tryz.prog.cellsOf t = m) : Lib.TabIs Tryz.prog W n k zs := by
  obtain ⟨g', t', cs, fuel, p, hg', hty', hv, htr⟩ := h
  obtain rfl := Option.some.inj (hg.symm.trans hg')
  obtain rfl := Option.some.inj (hty.symm.trans hty')
  subst hd
  have := Lib.cells_of_tab ht he hce hct htr
  unfold Lib.TabIs
  rw [hv, ← this]

theorem lexPre_of {W : World} (h0 : laidMetH Tryz.prog laidAll W) : lexPre W := by
  have h : laidMet Tryz.prog laidAll W := by
    rw [MakeChecks.laidMetH_plain _ _ _ (by kernel_rfl)] at h0; exact h0
  refine ⟨?_, ?_, ?_, ?_⟩
  · exact tab_of (Lib.laidMet.reads h (n := "strings.asciiSpace") (d := Rows.laid_strings_asciiSpace) (by simp [laidAll])) dataA gA tA Tryz.underlying105 Tryz.underlying5 (by kernel_rfl) (by kernel_rfl)
  · exact tab_of (Lib.laidMet.reads h (n := "internal/strconv.uint64pow10") (d := Rows.laid_internal_strconv_uint64pow10) (by simp [laidAll])) dataP gP tP Tryz.underlying144 Tryz.underlying110 (by kernel_rfl) (by kernel_rfl)
  · obtain ⟨a, s, hv, _⟩ := laid_sentinel (h.tail.tail.tail.tail) gS tS Tryz.underlying92 row190 Tryz.underlying190 Tryz.underlying192 rfl rfl Tryz.underlying9 cells192 cells9
    have := World.var?_cell gS hv 0
    exact ⟨190, _, by simpa using this⟩
  · obtain ⟨a, s, hv, _⟩ := laid_sentinel (h.tail.tail.tail) gR tR Tryz.underlying92 row190 Tryz.underlying190 Tryz.underlying192 rfl rfl Tryz.underlying9 cells192 cells9
    have := World.var?_cell gR hv 0
    exact ⟨190, _, by simpa using this⟩

/-- The door's own heap meets the condition. -/
theorem door_met (os : Os) (args : Array Value) : laidMetH Tryz.prog laidAll ((World.doorLaid Tryz.prog 400 os).forCall (fun _ _ => 0) ⟨#[], args, []⟩).memory :=
  laidMetH_of_parts3 (fuel := 8) (laidMet_of_run' 8 (by kernel_rfl) (by kernel_rfl)) (by kernel_rfl) (by kernel_rfl)
end Go.Shadow.Lex

/- THE SHADOW LOGIC, part 18: out of it: a contract as 'Calls', for a row. -/
namespace Go.Shadow
open Go Go.RowKit Go.Proofs

def Gh.zero : Gh := { row := fun _ => none, tip := fun _ => none, nt := 0 }
def St.zero : St := { box := fun _ => none, live := fun _ => false }
theorem Inv.zero {G : Globs} {W : World} (hp : G.pre W) (hg : ∀ g cs, G g = some cs → R W.heap.size Gh.zero W (.ref cs) (.pointer (some ⟨g, 0, none⟩))) : Inv G W Gh.zero St.zero W :=
  ⟨.refl _ _, fun b cs h => (by cases h), fun t h => (by cases h), fun t g h => (by cases h), fun t t' g h => (by cases h), fun b u h => (by cases h), hg, hp⟩
theorem SRet.run {P : Program} {G : Globs} {f : FuncId} {args : List V} {r : V} {W : World} {xs : Array Value} {v : Value} (h : SRet P G f args r) (he : ∀ args w, (callFunc f args).run P w = .ok (.enter f args) w) (hp : G.pre W)
    (hg : ∀ g cs, G g = some cs → R W.heap.size Gh.zero W (.ref cs) (.pointer (some ⟨g, 0, none⟩))) (hx : RL W.heap.size Gh.zero W args xs.toList) (hv : ∀ B γ w x, R B γ w r x → x = v) :
    Calls P f xs W fun e W' => e = .returned v ∧ Below W.heap.size W W' := by
  rcases h St.zero W Gh.zero W xs (.zero hp hg) hx with ⟨_, hc⟩ | ⟨x, w', h1, _⟩
  · refine hc.mono ?_
    rintro e w' ⟨γ', σ', _, hI, r', x, hR, ⟨rfl, _, hr⟩ | ⟨_, _, hr⟩⟩
    · injection hr with hr; subst hr
      exact ⟨by rw [hv _ _ _ _ hR], hI.bel⟩
    · cases hr
  · rw [he] at h1; cases h1
theorem R.bool_eq {B : Nat} {γ : Gh} {w : World} {b : Bool} {x : Value} (h : R B γ w (.bool b) x) : x = .bool b := by cases h; rfl
end Go.Shadow

/- THE SHADOW LOGIC, part 21: for rows: what is read in old memory is read again. -/
namespace Go.Shadow
open Go Go.RowKit
theorem sameAt_below {W W' : World} (hb : Below W.heap.size W W') {p : MemPlace} (hp : p.block < W.heap.size) : W.sameAt W' p := by
  cases p with
  | cell b off => exact hb.cell hp
  | map b => exact hb.block b hp
theorem trod_lt0 {H : Type} {enc : TypeId × Value → H} {P : Program} {W : World} {base : Nat} {sp : Nat → Bool} {held : Bool} {t : TypeId} {v : Value} {d : DataW H} {ps : List MemPlace}
    (h : DataW.Trod enc P W base sp held t v d ps) : ∀ p ∈ ps, p.block < W.heap.size := by
  obtain ⟨fuel, hf⟩ := h
  exact DataW.trod_lt fuel t _ _ hf
theorem trod_below {H : Type} {enc : TypeId × Value → H} {P : Program} {W W' : World} {base : Nat} {sp : Nat → Bool} {held : Bool} {t : TypeId} {v : Value} {d : DataW H} {ps : List MemPlace} (hb : Below W.heap.size W W')
    (h : DataW.Trod enc P W base sp held t v d ps) : DataW.Trod enc P W' base sp held t v d ps := by
  obtain ⟨fuel, hf⟩ := h
  exact ⟨fuel, DataW.trod_carry fuel t _ _ hf fun p hp => sameAt_below hb (DataW.trod_lt fuel t _ _ hf p hp)⟩
end Go.Shadow

/- For rows: a parameter that is a list of tokens. -/
set_option linter.unusedVariables false
namespace Go.Shadow.Lex.R4
open Go Go.ChangeShapes Go.WideShapes Go.ChangeAt Go.RowKit Go.Proofs Go.Proofs.YtgebphnfnmeaaaaGreatDoor

theorem slice_wide {P : Program} {W : World} {r : Reach} {base : Nat} {t e : TypeId} {v : Value} (ht : P.underlying t = some (.slice e)) (h : Value.okWide P W r base t v) : v = .slice none 0 0 ∨ ∃ a l c, v = .slice (some a) l c ∧ a.spot = none := by
  simp only [Value.okWide, ht] at h
  simp only [Cell.okWide, ht] at h
  cases v with
  | slice a l c =>
    simp only [Cell.ok, ht] at h
    cases a with
    | none =>
      left
      cases l <;> cases c <;> simp at h ⊢
    | some a => exact .inr ⟨a, l, c, rfl, h.2.2.2.1⟩
  | _ => simp [Cell.ok, ht] at h
theorem i64_wf {a : Int} (h : (Lit.int .i64 a).wf = true) : -9223372036854775808 ≤ a ∧ a ≤ 9223372036854775807 := by
  simp [Lit.wf, IntKind.min, IntKind.max, IntKind.signed, IntKind.bits] at h; omega
theorem und33 : ∃ fs : Array Field, Tryz.prog.underlying 33 = some (.struct fs) ∧ fs.toList.map (fun f => (f.type, f.offset)) = [(3, 0), (3, 1), (9, 2), (3, 3)] ∧ fs.size = 4 := ⟨_, Tryz.underlying33, by kernel_rfl, by kernel_rfl⟩
theorem laidOut : laidOutB Tryz.prog = true := by kernel_rfl
theorem read23 : Tryz.prog.readableRec 23 = true := by kernel_rfl
theorem row23 : 23 < Tryz.prog.types.size := of_decide_eq_true (by kernel_rfl)
theorem c33 : Tryz.prog.cellsOf 33 = 4 := by kernel_rfl
theorem c3 : Tryz.prog.cellsOf 3 = 1 := by kernel_rfl
theorem c9 : Tryz.prog.cellsOf 9 = 1 := by kernel_rfl
set_option maxRecDepth 100000 in
/-- A token's cells. -/
theorem tok_of {H : Type} {enc : TypeId × Value → H} {W : World} {base : Nat} {sp : Nat → Bool} {held : Bool} {n : Nat} {cs : List Value} {x : DataW H × List MemPlace} (h : DataW.trod enc Tryz.prog W base sp held n 33 cs = some x) :
    ∃ t : Tok, (-9223372036854775808 ≤ t.n ∧ t.n ≤ 9223372036854775807) ∧ ∀ (B : Nat) (γ : Gh) (w : World), RL B γ w (tokV t) cs := by
  obtain ⟨fs, hu, flds, fsz⟩ := und33
  obtain ⟨xs, m, rfl, rfl, hl, hxs, hf⟩ := DataW.trod_struct hu h
  rw [c33] at hl
  rw [fsz] at hxs
  match cs, hl with
  | [v0, v1, v2, v3], _ =>
    have get : ∀ (i : Nat) (t o : Nat), ([(3, 0), (3, 1), (9, 2), (3, 3)] : List (TypeId × Nat))[i]? = some (t, o) → i < 4 → ∃ y, DataW.trod enc Tryz.prog W base sp held m t (([v0, v1, v2, v3].drop o).take (Tryz.prog.cellsOf t)) = some y := by
      intro i t o hi hlt
      rw [← flds, List.getElem?_map, Option.map_eq_some_iff] at hi
      obtain ⟨f, h1, h2⟩ := hi
      injection h2 with h2 h3
      have h1 : fs[i]? = some f := by simpa using h1
      have := hf i f h1
      rw [h2, h3] at this
      rw [this]
      exact ⟨xs[i]'(by omega), by simp [show i < xs.length by omega]⟩
    obtain ⟨y0, g0⟩ := get 0 3 0 rfl (by omega)
    obtain ⟨y1, g1⟩ := get 1 3 1 rfl (by omega)
    obtain ⟨y2, g2⟩ := get 2 9 2 rfl (by omega)
    obtain ⟨y3, g3⟩ := get 3 3 3 rfl (by omega)
    rw [c3] at g0 g1 g3
    rw [c9] at g2
    obtain ⟨a0, e0, _, w0⟩ := DataW.trod_int Tryz.underlying3 g0
    obtain ⟨a1, e1, _, w1⟩ := DataW.trod_int Tryz.underlying3 g1
    obtain ⟨a2, e2, _, w2⟩ := DataW.trod_string Tryz.underlying9 g2
    obtain ⟨a3, e3, _, w3⟩ := DataW.trod_int Tryz.underlying3 g3
    simp at e0 e1 e2 e3
    subst e0; subst e1; subst e2; subst e3
    exact ⟨⟨a0, a1, a2.data.toList, a3⟩, i64_wf w3, fun B γ w => .cons (.int _ _) (.cons (.int _ _) (.cons (.str _ _ rfl) (.cons (.int _ _) .nil)))⟩
set_option maxRecDepth 100000 in
theorem toks_of {H : Type} {enc : TypeId × Value → H} {W : World} {base : Nat} {v : Value} {d : DataW H} {ps : List MemPlace} (hv : Value.okWide Tryz.prog W .any base 23 v) (h : DataW.Trod enc Tryz.prog W 0 (fun _ => true) true 23 v d ps) :
    ∃ ts : List Tok, (∀ t ∈ ts, -9223372036854775808 ≤ t.n ∧ t.n ≤ 9223372036854775807) ∧ R W.heap.size Gh.zero W (.slice .foreign 4 (ts.map tokV)) v := by
  have hv' := slice_wide Tryz.underlying23 hv
  obtain ⟨fuel, hf⟩ := h
  rcases Go.Deep.open_slice Tryz.underlying23 hf with ⟨h1, _⟩ | ⟨a, len, cap, m, n, D, Pl, h1, hb, hlc, hcm, hm', _, hel⟩
  · obtain rfl : v = .slice none 0 0 := by
      rcases hv' with rfl | ⟨a, l, c, rfl, _⟩
      · rfl
      · simp [Value.cells] at h1
    exact ⟨[], by simp, .slice .foreign 4 [] none 0 0 0 (fun _ => undef) (by simp) (by simp) (.inr ⟨rfl, rfl⟩) trivial (by simp) (by simp) (by simp)⟩
  · obtain ⟨rfl, hsp⟩ : v = .slice (some a) len cap ∧ a.spot = none := by
      rcases hv' with rfl | ⟨a', l, c, rfl, hs⟩
      · simp [Value.cells] at h1
      · simp [Value.cells] at h1
        obtain ⟨rfl, rfl, rfl⟩ := h1
        exact ⟨rfl, hs⟩
    have hmc : m = cap := by simpa using hm'
    subst hmc
    have key : ∀ i, i < len → ∃ t : Tok, (-9223372036854775808 ≤ t.n ∧ t.n ≤ 9223372036854775807) ∧ ∃ cs, W.cells? 0 (a.add (i * 4)) 4 = some cs ∧ ∀ (B : Nat) (γ : Gh) (w : World), RL B γ w (tokV t) cs := by
      intro i hi
      obtain ⟨cs, g1, g2⟩ := hel i (by omega)
      rw [c33] at g1
      obtain ⟨t, ht, hR⟩ := tok_of g2
      exact ⟨t, ht, cs, g1, hR⟩
    have : Inhabited Tok := ⟨⟨0, 0, [], 0⟩⟩
    obtain ⟨f, hfk⟩ := Go.Deep.choose_lt key
    obtain ⟨b, o, sp⟩ := a
    simp only at hsp
    subst hsp
    refine ⟨(List.range len).map f, fun t ht => ?_, ?_⟩
    · obtain ⟨i, hi, rfl⟩ := List.mem_map.1 ht
      exact (hfk i (by simpa using hi)).1
    · have hlen : (((List.range len).map f).map tokV).length = len := by simp
      have hs4 : ∀ (i : Nat) (e : List V), (((List.range len).map f).map tokV)[i]? = some e → e.length = 4 := by
        intro i e he
        rw [List.getElem?_map, Option.map_eq_some_iff] at he
        obtain ⟨t, _, rfl⟩ := he; rfl
      have hcell : ∀ (k : Nat) (x : V), (((List.range len).map f).map tokV).flatten[k]? = some x → ∃ y, W.cell? ⟨b, o + k, none⟩ = some y ∧ ∀ (B : Nat) (γ : Gh) (w : World), R B γ w x y := by
        intro k x hk
        have hkl : k < len * 4 := by
          have := (List.getElem?_eq_some_iff.1 hk).1
          rwa [flatten_length hs4, hlen] at this
        have hi : k / 4 < len := by omega
        obtain ⟨_, cs, g1, g2⟩ := hfk (k / 4) hi
        obtain ⟨_, hcl, hcc⟩ := World.cells?_some g1
        have hel' : (((List.range len).map f).map tokV)[k / 4]? = some (tokV (f (k / 4))) := by simp [hi]
        have hj : k % 4 < (tokV (f (k / 4))).length := by show k % 4 < 4; omega
        have := flatten_get hs4 hel' (List.getElem?_eq_getElem hj)
        rw [show k / 4 * 4 + k % 4 = k by omega, hk] at this
        injection this with this
        have hc := hcc (k % 4) (by omega)
        rw [add_lit, add_lit, show o + k / 4 * 4 + k % 4 = o + k by omega] at hc
        refine ⟨cs[k % 4]'(by omega), by rw [hc]; simp [show k % 4 < cs.length by omega], fun B γ w => ?_⟩
        rw [this]
        exact (g2 B γ w).2 (k % 4) _ _ (List.getElem?_eq_getElem hj) (by simp [show k % 4 < cs.length by omega])
      have hones : ∀ (k : Nat) (x : V), (((List.range len).map f).map tokV).flatten[k]? = some x → x.one = true := by
        intro k x hk
        have hm := List.mem_of_getElem? hk
        rw [List.mem_flatten] at hm
        obtain ⟨l, hl, hx⟩ := hm
        obtain ⟨t, _, rfl⟩ := List.mem_map.1 hl
        simp [tokV] at hx
        rcases hx with rfl | rfl | rfl | rfl <;> rfl
      have hget : ∀ k : Nat, ∃ y, ∀ x, (((List.range len).map f).map tokV).flatten[k]? = some x → W.cell? ⟨b, o + k, none⟩ = some y ∧ ∀ (B : Nat) (γ : Gh) (w : World), R B γ w x y := by
        intro k
        cases hk : (((List.range len).map f).map tokV).flatten[k]? with
        | none => exact ⟨undef, fun x h => by cases h⟩
        | some x => obtain ⟨y, h⟩ := hcell k x hk; exact ⟨y, fun x' h' => by injection h' with h'; subst h'; exact h⟩
      have := R.slice (B := W.heap.size) (γ := Gh.zero) (w := W) .foreign 4 (((List.range len).map f).map tokV) (some ⟨b, o, none⟩) m b o (fun k => (hget k).choose) hs4 (by rw [hlen]; exact hlc) (.inl rfl) trivial hones
        (fun k x hk => ⟨.inl (World.block_lt_of_cell? W _ ((hget k).choose_spec x hk).1), ((hget k).choose_spec x hk).1⟩) (fun k x hk => ((hget k).choose_spec x hk).2 _ _ _)
      rwa [hlen] at this

end Go.Shadow.Lex.R4

/- Proved: the row of LexerPrintsAsSpecified: for every input the call returns true, and each argument reads as it did. Conditions: those of the row (laid). -/
set_option linter.unusedVariables false
namespace Go.Shadow.Lex.R4
open Go Go.ChangeShapes Go.WideShapes Go.ChangeAt Go.RowKit Go.Proofs Go.Proofs.YtgebphnfnmeaaaaGreatDoor
open Go.ChangeMaps (open_string shut_string)

theorem walk (v : Value) (ts : List Tok) (hn : ∀ t ∈ ts, -9223372036854775808 ≤ t.n ∧ t.n ≤ 9223372036854775807) (W : World) (hR : R W.heap.size Gh.zero W (.slice .foreign 4 (ts.map tokV)) v) (hL : laidMetH Tryz.prog laidAll W) :
    Calls Tryz.prog 4 #[v] W fun e W' => e = .returned (.bool true) ∧ Below W.heap.size W W' := by
  refine (law4 .foreign ts hn).run (enters_of Tryz.func4 (by kernel_rfl) rfl) (lexPre_of hL) (fun g cs h => by cases h) ?_ (fun B γ w x h => h.bool_eq)
  exact (.cons hR .nil)

set_option maxRecDepth 100000 in
theorem lifted (os : Os) (started : os.Started) (H : Type) (enc : TypeId × Value → H) :
    ReturnsInHanded {} Tryz.checked os 4 .any (fun w args => (Rows.lexerPrintsAsSpecifiedSpec.pre enc Tryz.prog Tryz.f4 [] false w args ∧ laidMetH Tryz.prog laidAll w) ∧ sizedMet enc Tryz.prog Tryz.f4 (OpenSpec.ofChange Rows.lexerPrintsAsSpecifiedSpec) false w args)
      (Rows.lexerPrintsAsSpecifiedSpec.post enc Tryz.prog Tryz.f4 false true false false) := by
  refine returnsInHanded_of_change_and (C := Tryz.checked) (X := fun w _ => laidMetH Tryz.prog laidAll w) (fun _ _ _ hh h => h.of_heap hh) own started (by kernel_rfl) Tryz.func4
    (ChangeSpec.witness_shaped (enc := enc) (C := Tryz.checked) (os := os) (X := fun w _ => laidMetH Tryz.prog laidAll w) false (World.doorLaid Tryz.prog 400 os) #[.slice none 0 0] 8 rfl (World.shaped_of_RefB (by kernel_rfl) (by kernel_rfl)) (by kernel_rfl) (by kernel_rfl) (by kernel_rfl) (door_met os _)) ?_
  intro W base args ds gs before hval0 hW _ _ hL _
  have hval : ∀ (j : Nat) t v, Tryz.f4.params[j]? = some t → args[j]? = some v → Value.okWide Tryz.prog W .any base t v := hval0
  have hW' := hW
  obtain ⟨p, q, hA0, hV, rfl, hfz, hnd⟩ := hW
  have hA : DataW.TrodAll enc Tryz.prog W 0 (fun _ => true) true Tryz.f4.params.toList args.toList ds p := hA0
  rw [Tryz.params4] at hA hval
  obtain ⟨v0, vs0, d0, ds0, p0, q0, hargs, rfl, rfl, h0, r0⟩ := trodAll_cons hA
  obtain ⟨rfl, rfl, rfl⟩ := trodAll_nil r0
  obtain rfl : args = #[v0] := by cases args; simp_all
  obtain ⟨rfl, rfl⟩ := trodVars_none hV
  obtain ⟨ts, hn, hR⟩ := toks_of (hval 0 23 v0 rfl rfl) h0
  clear hA0 hval0
  refine (walk v0 ts hn W hR hL).mono fun e W' ⟨he, bel⟩ => ?_
  subst he
  exact ⟨_, rfl, _, _, _, [], _, [], hW', trodAll_mk1 (shut_bool Tryz.underlying4 _), (trodAll_cons_mk (Go.WideElems.Trod_stays laidOut read23 row23 h0 (fun p hp => sameAt_below bel (trod_lt0 h0 p hp)) (fun p hp => decide_eq_true (trod_lt0 h0 p hp))) trodAll_mk0), rfl, bel.frame _, fun h => by cases h⟩

theorem over : Rows.lexerPrintsAsSpecifiedRow.holds Tryz.pinned (OpenSpec.ofChange Rows.lexerPrintsAsSpecifiedSpec) :=
  OpenClaim.holds_of_wide 4 Tryz.f4 rfl rfl rfl rfl rfl rfl rfl ⟨rfl, rfl, rfl, rfl, rfl⟩ rfl rfl rfl rfl rfl (by kernel_rfl) Tryz.func4 (by kernel_rfl)
    (of_decide_eq_true (by kernel_rfl)) (by unfold Func.isWrapper; first | (rw [if_pos (by decide +kernel)]; kernel_rfl) | (rw [if_neg (by decide +kernel)]; exact ⟨rfl, rfl⟩))
    (fun os started H enc _ => lifted os started H enc)
end Go.Shadow.Lex.R4

/- Proved: the tied card of LexerPrintsAsSpecified. Conditions: none beyond the card's own. -/
namespace Go.Proofs.YtgebphnfnmeaaaaGreatDoor
open Go

theorem lexerPrintsAsSpecified_card : Rows.LexerPrintsAsSpecifiedCardSaid :=
  Claim7.holds_tied_plain_at .later [] [.data, .data, .data, .sentinel, .sentinel, .listed, .data] true (true, "ddb17e109f53d6eaaafb01bdedf637cfbe560ab146dd6fdd2ba16c71defaa5c1") true
    Go.Shadow.Lex.R4.over (fun _ h => by cases h) (by kernel_rfl) (fun _ h => by cases h) lexerPrintsAsSpecified_row_tie rfl ⟨rfl, rfl⟩ (by kernel_rfl) rfl
    (fun f fn hf hfn => by
      obtain rfl : f = 4 := Option.some.inj ((show Tryz.prog.funcNamed "quietus/quietuslaw31.LexerPrintsAsSpecified" = some 4 by kernel_rfl).symm.trans hf) |>.symm
      obtain rfl : fn = Tryz.f4 := (Option.some.inj (Tryz.func4.symm.trans hfn)).symm
      exact ⟨by kernel_rfl, fun j t ht => by
        rw [Tryz.params4] at ht
        have h3 : t = 23 := by
          rcases j with _ | j
          · simpa using ht.symm
          · simp at ht
        subst h3
        exact (show Tryz.prog.wantsStandIn 23 = false by kernel_rfl)⟩)
    (by kernel_rfl)
#print axioms lexerPrintsAsSpecified_card
end Go.Proofs.YtgebphnfnmeaaaaGreatDoor
