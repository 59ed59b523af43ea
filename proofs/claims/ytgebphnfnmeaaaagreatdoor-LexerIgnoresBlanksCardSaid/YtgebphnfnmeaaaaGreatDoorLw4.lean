/- Proved: what the lexer's Position does, and its Text at lists without texts. Conditions: the lists' and sources' sizes, as each theorem says. -/
import Derived.Test.YtgebphnfnmeaaaaGreatDoorLw3
import Derived.Test.YtgebphnfnmeaaaaGreatDoorLc1
import Derived.Test.YtgebphnfnmeaaaaGreatDoorLq0
namespace Go.Shadow.Lex
open Go Go.RowKit Go.Proofs

/-- lexer.Position and its specification. -/
def posV (l : List UInt8) (k : Int) : Int × Int := if k < 0 ∨ (l.length : Int) < k then (0, 0) else ((lineAt l k.toNat : Nat) + 1, k - (firstAt l k.toNat : Nat) + 1)
theorem position_ret (l : List UInt8) (k : Int) (hl : l.length ≤ 70000) : SRet Tryz.prog LG 16 [.str l, .int .i64 k] (.tup [.int .i64 (posV l k).1, .int .i64 (posV l k).2]) := by
  refine SRet.of_calls (enters_of Tryz.func16 (by kernel_rfl) rfl) ?_
  intro w0 γ w xs _ _ hr
  obtain ⟨x, y, rfl, hx, hy⟩ := hr.inv2
  obtain rfl := hx.inv_str
  obtain rfl := hy.inv_int
  have hsz : (ByteArray.mk l.toArray).size = l.length := by simp [ByteArray.size]
  have hd : (ByteArray.mk l.toArray).data.toList = l := by simp
  by_cases h : k < 0 ∨ (l.length : Int) < k
  · refine (position_out _ k w (by rw [hsz]; exact hl) (by rw [hsz]; exact h)).mono ?_
    rintro e w' ⟨rfl, hb⟩
    refine ⟨hb, _, rfl, fun B γ w => ?_⟩
    rw [show posV l k = (0, 0) from if_pos h]
    exact RL.tup (.cons (.int _ _) (.cons (.int _ _) .nil))
  · obtain ⟨n, rfl⟩ : ∃ n : Nat, k = n := ⟨k.toNat, by omega⟩
    refine (position_walk _ n w (by rw [hsz]; exact hl) (by rw [hsz]; omega)).mono ?_
    rintro e w' ⟨rfl, hb⟩
    refine ⟨hb, _, rfl, fun B γ w => ?_⟩
    rw [show posV l n = (((lineAt l n : Nat) : Int) + 1, (n : Int) - (firstAt l n : Nat) + 1) from by unfold posV; rw [if_neg h]; simp, hd]
    exact RL.tup (.cons (.int _ _) (.cons (.int _ _) .nil))

/-- The word of a token that is no text. -/
def wordN (t : Tok) : Option (List UInt8) := if t.kind = 1 ∨ t.kind = 4 then some t.s else if t.kind = 2 then some (Lib.itoa t.n) else none

theorem textN_ret (tag : Tag) (ts : List Tok) (h3 : ∀ t ∈ ts, t.kind ≠ 3) (hn : ∀ t ∈ ts, -9223372036854775808 ≤ t.n ∧ t.n ≤ 9223372036854775807) (hl : ts.length ≤ 100000) (hj : (Lib.join (ts.filterMap wordN) [32]).length ≤ 140737488355328) :
    SRet Tryz.prog LG 14 [.slice tag 4 (ts.map tokV)] (.str (Lib.join (ts.filterMap wordN) [32])) := by
  intro σ
  refine code14.call hm (by simp) ?_
  have hlen : (ts.map tokV).length = ts.length := by simp
  refine ⟨fun m sl σ' => ∃ (i : Nat) (ws : List (List UInt8)) (tag' : Tag) (z : Nat), sl = ofL [(3, some (.slice tag' z (strEls ws))), (6, some (.slice tag 4 (ts.map tokV))), (7, some (.int .i64 (ts.map tokV).length)), (8, some (.int .i64 i))] ∧
      Over σ σ' ∧ Mine σ σ' tag' ∧ (tag' = .nil ∨ z = 1) ∧ i ≤ ts.length ∧ ws.length ≤ i ∧ ws ++ (ts.drop i).filterMap wordN = ts.filterMap wordN ∧ m = ts.length - i, _,
      ⟨0, [], .nil, 0, rfl, .refl _, trivial, .inl rfl, by omega, by simp, by simp, rfl⟩, ?_⟩
  rintro m sl σ' ⟨i, ws, tag', z, rfl, ho, hm2, hz, hi, hws, heq, rfl⟩
  have hwl : (strEls ws).length = ws.length := by simp [strEls]
  refine Test.split (fun h => ?_) (fun h => ?_)
  · rw [hlen] at h
    obtain ⟨t, ht⟩ : ∃ t, ts[i]? = some t := ⟨ts[i]'(by omega), by simp [show i < ts.length by omega]⟩
    have htm : t ∈ ts := List.mem_of_getElem? ht
    have hdrop : ts.drop i = t :: ts.drop (i + 1) := by
      obtain ⟨h1, h2⟩ := List.getElem?_eq_some_iff.1 ht
      rw [List.drop_eq_getElem_cons h1, h2]
    have hnext : ∀ (b : Nat) (σ2 : St), Over σ σ2 → ∀ (tag2 : Tag) (z2 : Nat) (ws2 : List (List UInt8)), Mine σ σ2 tag2 → (tag2 = .nil ∨ z2 = 1) → ws2 = ws ++ (wordN t).toList → ∃ m σ3, m < ts.length - i ∧ Forget σ2 σ3 ∧
        ∃ (i' : Nat) (ws' : List (List UInt8)) (tag' : Tag) (z : Nat), ofL [(3, some (.slice tag2 z2 (strEls ws2))), (6, some (.slice tag 4 (ts.map tokV))), (7, some (.int .i64 (ts.map tokV).length)), (8, some (.int .i64 (i + 1 : Nat)))] = ofL [(3, some (.slice tag' z (strEls ws'))), (6, some (.slice tag 4 (ts.map tokV))), (7, some (.int .i64 (ts.map tokV).length)), (8, some (.int .i64 i'))] ∧
      Over σ σ3 ∧ Mine σ σ3 tag' ∧ (tag' = .nil ∨ z = 1) ∧ i' ≤ ts.length ∧ ws'.length ≤ i' ∧ ws' ++ (ts.drop i').filterMap wordN = ts.filterMap wordN ∧ m = ts.length - i' := by
      intro b σ2 ho2 tag2 z2 ws2 hm3 hz3 hw2
      refine ⟨_, _, ?_, Forget.refl _, i + 1, ws2, tag2, z2, rfl, ho2, hm3, hz3, by omega, ?_, ?_, rfl⟩
      · omega
      · rw [hw2]; cases wordN t <;> simp <;> omega
      · rw [hw2, ← heq, hdrop, List.filterMap_cons]; cases wordN t <;> simp
    refine Sure.mk' (.inl rfl) ?_
    refine IdxE.mk' i (tokV t) rfl (by simp [ht]) ?_
    refine ⟨⟨by simp [tokV], ?_⟩⟩
    intro b hb
    refine Sure.mk' rfl ?_
    refine Store.mk' (tokV t) put_box (Nat.le_of_ble_eq_true rfl) rfl (fun σ2 h2 => ?_)
    rw [put_put] at h2
    have hb2 : σ2.box b = some (tokV t) := by rw [h2]; exact put_box
    have ho2 : Over σ σ2 := by
      rw [h2]
      refine over_put ho ?_
      cases hbb : σ.box b with
      | none => rfl
      | some cs => rw [ho.box b cs hbb] at hb; cases hb
    have hm3 : Mine σ σ2 tag' := by rw [h2]; exact hm2
    have happ : ∀ (x : List UInt8) (K : V → St → Prop), (∀ (t' : Nat) (σ4 : St), Over σ σ4 → Mine σ σ4 (.tip t') → K (.slice (.tip t') 1 (strEls (ws ++ [x]))) σ4) → App 1 16 tag' z (strEls ws) 1 [[V.str x]] σ2 K := by
      intro x K hk
      refine App.mk' ho2 hm3 hz rfl (by simp [hwl]; omega) (by simp [hwl]; omega) (by simp) (fun t' σ4 h4 h5 _ _ => ?_)
      have := hk t' σ4 h4 h5
      simpa [strEls] using this
    refine Load.mk' hb2 (by simp [tokV]) ?_
    have hsome : ∀ x, wordN t = some x → ws ++ [x] = ws ++ (wordN t).toList := fun x hx => by rw [hx]; rfl
    refine Test.split (fun h1 => ?_) (fun h1 => ?_)
    · refine Load.mk' hb2 (by simp [tokV]) ?_
      refine happ t.s _ (fun t' σ4 h4 h5 => ?_)
      refine Arith.i64 ((i + 1 : Nat) : Int) (by simp) (by omega) ?_
      exact hnext b σ4 h4 (.tip t') 1 _ h5 (.inr rfl) (hsome _ (by unfold wordN; rw [if_pos (.inl h1)]))
    · refine Test.split (fun h4 => ?_) (fun h4 => ?_)
      · refine Load.mk' hb2 (by simp [tokV]) ?_
        refine happ t.s _ (fun t' σ4 h5 h6 => ?_)
        refine Arith.i64 ((i + 1 : Nat) : Int) (by simp) (by omega) ?_
        exact hnext b σ4 h5 (.tip t') 1 _ h6 (.inr rfl) (hsome _ (by unfold wordN; rw [if_pos (.inr h4)]))
      · refine Test.split (fun h2' => ?_) (fun h2' => ?_)
        · refine Load.mk' hb2 (by simp [tokV]) ?_
          refine CallK.pure (itoa_ret _ (hn t htm)) ?_
          refine happ (Lib.itoa t.n) _ (fun t' σ4 h5 h6 => ?_)
          refine Arith.i64 ((i + 1 : Nat) : Int) (by simp) (by omega) ?_
          exact hnext b σ4 h5 (.tip t') 1 _ h6 (.inr rfl) (hsome _ (by unfold wordN; rw [if_neg (by omega), if_pos h2']))
        · refine Test.no (h3 t htm) ?_
          refine Arith.i64 ((i + 1 : Nat) : Int) (by simp) (by omega) ?_
          exact hnext b σ2 ho2 tag' z ws hm3 hz (by unfold wordN; rw [if_neg (by omega), if_neg h2']; simp)
  · rw [hlen] at h
    have hd : ts.drop i = [] := List.drop_eq_nil_of_le (by omega)
    rw [hd] at heq
    simp only [List.filterMap_nil, List.append_nil] at heq
    rw [← heq] at hj ⊢
    refine CallK.mk' (join_call tag' ws [32] (by omega) hj z σ') ?_
    rintro e σ4 ⟨rfl, rfl⟩
    exact Ret.weak (.refl _) ho ⟨rfl, rfl⟩
end Go.Shadow.Lex
