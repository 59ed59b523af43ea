/- THE SHADOW LOGIC, part 17: contracts proved otherwise ('Calls') taken over. -/
import Derived.Test.YtgebphnfnmeaaaaGreatDoorSh16
import Derived.Shelf.Abstract
namespace Go.Shadow
open Go Go.RowKit

section
variable {P : Program} {G : Globs} {w0 w w' : World} {γ : Gh} {σ : St}

theorem Inv.below (hI : Inv G w0 γ σ w) (hb : Below w.heap.size w w') : Inv G w0 γ σ w' ∧ Ext w0.heap.size γ w γ w' := by
  have hk := fun b (h : b < w.heap.size) => hb.block b h
  have he : Ext w0.heap.size γ w γ w' := .of_heap hb.size hk
  exact ⟨hI.ext he (hI.bel.trans (hb.mono hI.size)) (fun b cs h => let ⟨h1, h2, h3, vs, ty, h4, h5⟩ := hI.box b cs h; ⟨h1, h2, h3, vs, ty, (hk b (lt_of_heap h4)).trans h4, h5.ext he⟩) hI.live
    (fun t g h => let ⟨h1, h2, u, vs, ty, h3, h4, h5⟩ := hI.tip t g h; ⟨h1, h2, u, vs, ty, h3, (hk g (lt_of_heap h4)).trans h4, h5⟩) hI.inj
    (fun b u h => let ⟨h1, h2⟩ := hI.rowlt b u h; ⟨h1, Nat.lt_of_lt_of_le h2 hb.size⟩), he⟩

/-- A new block's first 'n' cells: they never change from here on. -/
theorem Inv.below_row (hI : Inv G w0 γ σ w) (hb : Below w.heap.size w w') {g n : Nat} (hg : w.heap.size ≤ g) (hlt : g < w'.heap.size) :
    ∃ γ', Inv G w0 γ' σ w' ∧ Ext w0.heap.size γ w γ' w' ∧ γ'.row g = some n := by
  obtain ⟨hI', he⟩ := hI.below hb
  have hfr := hI.row_fresh hg
  have he2 : Ext w0.heap.size γ w { γ with row := fun b => if b = g then some n else γ.row b } w' := by
    refine ⟨he.hsz, he.cell, fun b u hu => ⟨u, ?_, Nat.le_refl _⟩, Nat.le_refl _, fun t g' _ hg' => ⟨hg', ?_⟩, he.shape⟩
    · have : b ≠ g := by rintro rfl; rw [hfr] at hu; cases hu
      simp [this, hu]
    · obtain ⟨_, _, u, _, _, hu, _⟩ := hI.tip t g' hg'
      have : g' ≠ g := by rintro rfl; rw [hfr] at hu; cases hu
      simp [this]
  refine ⟨_, hI.ext he2 hI'.bel (fun b cs h => ?_) hI.live (fun t g' h => ?_) hI.inj (fun b u h => ?_), he2, by simp⟩
  · obtain ⟨h1, h2, h3, us, ty', h4, h5⟩ := hI.box b cs h
    have hlt := lt_of_heap h4
    exact ⟨h1, by simp [show b ≠ g by omega, h2], h3, us, ty', (hb.block b hlt).trans h4, h5.ext he2⟩
  · obtain ⟨h1, h2, u, us, ty', h3, h4, h5⟩ := hI.tip t g' h
    have hlt := lt_of_heap h4
    exact ⟨h1, h2, u, us, ty', by simp [show g' ≠ g by omega, h3], (hb.block g' hlt).trans h4, h5⟩
  · by_cases hbg : b = g
    · subst hbg; exact ⟨Nat.le_trans hI.size hg, hlt⟩
    · simp only [if_neg hbg] at h
      have := hI.rowlt b u h
      exact ⟨this.1, Nat.lt_of_lt_of_le this.2 hb.size⟩

theorem RL.inv1 {B : Nat} {a : V} {xs : Array Value} (h : RL B γ w [a] xs.toList) : ∃ x, xs = #[x] ∧ R B γ w a x := by
  obtain ⟨x, xs', e, h1, h2⟩ := h.inv_cons
  obtain rfl := h2.inv_nil
  exact ⟨x, by rw [← Array.toArray_toList (xs := xs), e], h1⟩
theorem RL.inv2 {B : Nat} {a b : V} {xs : Array Value} (h : RL B γ w [a, b] xs.toList) : ∃ x y, xs = #[x, y] ∧ R B γ w a x ∧ R B γ w b y := by
  obtain ⟨x, xs', e, h1, h2⟩ := h.inv_cons
  obtain ⟨y, xs'', rfl, h3, h4⟩ := h2.inv_cons
  obtain rfl := h4.inv_nil
  exact ⟨x, y, by rw [← Array.toArray_toList (xs := xs), e], h1, h3⟩
theorem RL.inv3 {B : Nat} {a b c : V} {xs : Array Value} (h : RL B γ w [a, b, c] xs.toList) : ∃ x y z, xs = #[x, y, z] ∧ R B γ w a x ∧ R B γ w b y ∧ R B γ w c z := by
  obtain ⟨x, xs', e, h1, h2⟩ := h.inv_cons
  obtain ⟨y, xs'', rfl, h3, h4⟩ := h2.inv_cons
  obtain ⟨z, xs3, rfl, h5, h6⟩ := h4.inv_cons
  obtain rfl := h6.inv_nil
  exact ⟨x, y, z, by rw [← Array.toArray_toList (xs := xs), e], h1, h3, h5⟩
theorem R.inv_str {B : Nat} {l : List UInt8} {x : Value} (h : R B γ w (.str l) x) : x = .string ⟨l.toArray⟩ := by
  cases h with
  | str l s h => subst h; rfl
theorem R.inv_int {B : Nat} {k : IntKind} {n : Int} {x : Value} (h : R B γ w (.int k n) x) : x = .int k n := by cases h; rfl
theorem R.mk_str {B : Nat} (l : List UInt8) : R B γ w (.str l) (.string ⟨l.toArray⟩) := .str _ _ (by simp)

/-- A function that is known by 'Calls', whose result is no address. -/
theorem SRet.of_calls {f : FuncId} {args : List V} {r : V} (he : ∀ args w, (callFunc f args).run P w = .ok (.enter f args) w)
    (h : ∀ (w0 : World) (γ : Gh) (w : World) (xs : Array Value), G.pre w0 → Below w0.heap.size w0 w → RL w0.heap.size γ w args xs.toList → Calls P f xs w fun e w' => Below w.heap.size w w' ∧ ∃ x, e = .returned x ∧ ∀ B γ w, R B γ w r x) : SRet P G f args r := by
  intro σ w0 γ w xs hI hr
  refine .inl ⟨he _ _, (h w0 γ w xs hI.pre hI.bel hr).mono ?_⟩
  rintro e w' ⟨hb, x, rfl, hx⟩
  obtain ⟨h1, h2⟩ := hI.below hb
  exact ⟨γ, σ, h2, h1, r, x, hx _ _ _, .inl ⟨rfl, rfl, rfl⟩⟩

theorem RL.tup {B : Nat} {vs : List V} {xs : List Value} (h : RL B γ w vs xs) : R B γ w (.tup vs) (.tuple xs.toArray) :=
  .tup _ _ (by simpa using h.1) (fun i x y hx hy => h.2 i x y hx (by simpa using hy))
end
end Go.Shadow
