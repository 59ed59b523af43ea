/- THE SHADOW LOGIC, part 1: what each change of memory does to the invariant. -/
import Derived.Test.YtgebphnfnmeaaaaGreatDoorSh0
namespace Go.Shadow
open Go Go.RowKit

def St.put (σ : St) (b : Nat) (cs : List V) : St := { σ with box := fun b' => if b' = b then some cs else σ.box b' }
def St.on (σ : St) (t : Nat) : St := { σ with live := fun t' => t' == t || σ.live t' }
def St.off (σ : St) (t : Nat) : St := { σ with live := fun t' => t' != t && σ.live t' }

theorem shape_of_heap {w w' : World} {b : Nat} (h : w'.heap[b]? = w.heap[b]?) : w'.shape? b = w.shape? b := by simp [World.shape?, h]
theorem lt_of_shape {w : World} {b : Nat} {x : TypeId × Nat} (h : w.shape? b = some x) : b < w.heap.size := by
  unfold World.shape? at h
  split at h
  · rename_i hh; exact (Array.getElem?_eq_some_iff.1 hh).1
  · cases h
theorem lt_of_heap {w : World} {b : Nat} {o : Obj} (h : w.heap[b]? = some o) : b < w.heap.size := (Array.getElem?_eq_some_iff.1 h).1

/-- No old block has changed. -/
theorem Ext.of_heap {B : Nat} {γ : Gh} {w w' : World} (hs : w.heap.size ≤ w'.heap.size) (h : ∀ b, b < w.heap.size → w'.heap[b]? = w.heap[b]?) : Ext B γ w γ w' :=
  ⟨hs, fun b o v _ hc => (World.cell?_of_block (w := w) (h b (World.block_lt_of_cell? w _ hc))).trans hc, fun _ u hu => ⟨u, hu, Nat.le_refl _⟩, Nat.le_refl _, fun _ _ _ hg => ⟨hg, rfl⟩,
    fun b x hx => (shape_of_heap (h b (lt_of_shape hx))).trans hx⟩

theorem Inv.ext {G : Globs} {w0 w w' : World} {γ γ' : Gh} {σ σ' : St} (hI : Inv G w0 γ σ w) (he : Ext w0.heap.size γ w γ' w') (hb : Below w0.heap.size w0 w')
    (hbox : ∀ b cs, σ'.box b = some cs → w0.heap.size ≤ b ∧ γ'.row b = none ∧ (∀ (j : Nat) (x : V), cs[j]? = some x → x.one = true) ∧ ∃ vs ty, w'.heap[b]? = some (.cells vs ty (0, 0)) ∧ RL w0.heap.size γ' w' cs vs.toList)
    (hlive : ∀ t, σ'.live t = true → ∃ g, γ'.tip t = some g)
    (htip : ∀ t g, γ'.tip t = some g → t < γ'.nt ∧ w0.heap.size ≤ g ∧ ∃ u vs ty, γ'.row g = some u ∧ w'.heap[g]? = some (.cells vs ty (0, 0)) ∧ u ≤ vs.size)
    (hinj : ∀ t t' g, γ'.tip t = some g → γ'.tip t' = some g → t = t')
    (hrow : ∀ b u, γ'.row b = some u → w0.heap.size ≤ b ∧ b < w'.heap.size) : Inv G w0 γ' σ' w' :=
  ⟨hb, hbox, hlive, htip, hinj, hrow, fun g cs h => (hI.glob g cs h).ext he, hI.pre⟩

theorem Inv.size {G : Globs} {w0 w : World} {γ : Gh} {σ : St} (hI : Inv G w0 γ σ w) : w0.heap.size ≤ w.heap.size := hI.bel.size
theorem Inv.row_fresh {G : Globs} {w0 w : World} {γ : Gh} {σ : St} (hI : Inv G w0 γ σ w) {b : Nat} (h : w.heap.size ≤ b) : γ.row b = none := by
  cases hr : γ.row b with
  | none => rfl
  | some u => have := (hI.rowlt b u hr).2; omega
theorem Inv.box_lt {G : Globs} {w0 w : World} {γ : Gh} {σ : St} (hI : Inv G w0 γ σ w) {b : Nat} {cs : List V} (h : σ.box b = some cs) : b < w.heap.size := by
  obtain ⟨_, _, _, vs, ty, hh, _⟩ := hI.box b cs h
  exact lt_of_heap hh
theorem Inv.box_fresh {G : Globs} {w0 w : World} {γ : Gh} {σ : St} (hI : Inv G w0 γ σ w) {b : Nat} (h : w.heap.size ≤ b) : σ.box b = none := by
  cases hr : σ.box b with
  | none => rfl
  | some u => have := hI.box_lt hr; omega

/-- A draw. -/
theorem Inv.drew {G : Globs} {w0 w : World} {γ : Gh} {σ : St} (hI : Inv G w0 γ σ w) : Inv G w0 γ σ w.drew ∧ Ext w0.heap.size γ w γ w.drew := by
  have he : Ext w0.heap.size γ w γ w.drew := .of_heap (Nat.le_refl _) fun _ _ => rfl
  exact ⟨hI.ext he hI.bel.drew (fun b cs h => let ⟨h1, h2, h3, vs, ty, h4, h5⟩ := hI.box b cs h; ⟨h1, h2, h3, vs, ty, h4, h5.ext he⟩) hI.live hI.tip hI.inj hI.rowlt, he⟩

/-- A new block that nothing is told of. -/
theorem Inv.alloc {G : Globs} {w0 w : World} {γ : Gh} {σ : St} (hI : Inv G w0 γ σ w) (o : Obj) : Inv G w0 γ σ (w.alloc o) ∧ Ext w0.heap.size γ w γ (w.alloc o) := by
  have hk := fun b (h : b < w.heap.size) => heap_alloc_old w o b h
  have he : Ext w0.heap.size γ w γ (w.alloc o) := .of_heap (by simp) hk
  exact ⟨hI.ext he (hI.bel.alloc hI.size o) (fun b cs h => let ⟨h1, h2, h3, vs, ty, h4, h5⟩ := hI.box b cs h; ⟨h1, h2, h3, vs, ty, (hk b (lt_of_heap h4)).trans h4, h5.ext he⟩) hI.live
    (fun t g h => let ⟨h1, h2, u, vs, ty, h3, h4, h5⟩ := hI.tip t g h; ⟨h1, h2, u, vs, ty, h3, (hk g (lt_of_heap h4)).trans h4, h5⟩) hI.inj
    (fun b u h => let ⟨h1, h2⟩ := hI.rowlt b u h; ⟨h1, by simp; omega⟩), he⟩

/-- A new variable in memory. -/
theorem Inv.box_new {G : Globs} {w0 w : World} {γ : Gh} {σ : St} (hI : Inv G w0 γ σ w) (ty : TypeId) {cs : List V} {vs : Array Value} (hr : RL w0.heap.size γ w cs vs.toList) (h1 : ∀ (j : Nat) (x : V), cs[j]? = some x → x.one = true) :
    Inv G w0 γ (σ.put w.heap.size cs) (w.alloc (.cells vs ty)) ∧ Ext w0.heap.size γ w γ (w.alloc (.cells vs ty)) := by
  obtain ⟨hI', he⟩ := hI.alloc (.cells vs ty)
  refine ⟨hI.ext he hI'.bel (fun b ds h => ?_) hI'.live hI'.tip hI'.inj hI'.rowlt, he⟩
  by_cases hb : b = w.heap.size
  · subst hb
    simp only [St.put, if_true, Option.some.injEq] at h
    subst h
    exact ⟨hI.size, hI.row_fresh (Nat.le_refl _), h1, vs, ty, heap_alloc_new w _, hr.ext he⟩
  · simp only [St.put, if_neg hb] at h
    exact hI'.box b ds h

/-- A store into a variable's cell. -/
theorem Inv.box_set {G : Globs} {w0 w : World} {γ : Gh} {σ : St} (hI : Inv G w0 γ σ w) {b i : Nat} {cs : List V} (hb : σ.box b = some cs) (hi : i < cs.length) {v : V} {x : Value} (hr : R w0.heap.size γ w v x) (h1 : v.one = true) :
    (∃ y, w.cell? ⟨b, i, none⟩ = some y) ∧ w.frozen? ⟨b, i, none⟩ = false ∧ Inv G w0 γ (σ.put b (cs.set i v)) (w.setCell ⟨b, i, none⟩ x) ∧ Ext w0.heap.size γ w γ (w.setCell ⟨b, i, none⟩ x) := by
  obtain ⟨hB, hrow, hone, vs, ty, hh, hl⟩ := hI.box b cs hb
  have hlen : cs.length = vs.size := by simpa using hl.1
  have hne : ∀ k, k ≠ b → (w.setCell ⟨b, i, none⟩ x).heap[k]? = w.heap[k]? := fun k hk => heap_setCell_other w _ k x hk
  have hsame : (w.setCell ⟨b, i, none⟩ x).heap[b]? = some (.cells (vs.setIfInBounds i x) ty (0, 0)) := heap_setCell_same w b i vs ty x hh
  have he : Ext w0.heap.size γ w γ (w.setCell ⟨b, i, none⟩ x) := by
    refine ⟨by simp, fun b' o v' hi' hc => ?_, fun _ u hu => ⟨u, hu, Nat.le_refl _⟩, Nat.le_refl _, fun _ _ _ hg => ⟨hg, rfl⟩, fun b' y hy => ?_⟩
    · have hbb : b' ≠ b := by
        rintro rfl
        rcases hi' with hi' | ⟨u, hu, _⟩
        · omega
        · rw [hrow] at hu; cases hu
      exact (World.cell?_of_block (w := w) (hne b' hbb)).trans hc
    · by_cases hbb : b' = b
      · subst hbb
        rw [← hy]; simp [World.shape?, hsame, hh]
      · exact (shape_of_heap (hne b' hbb)).trans hy
  refine ⟨⟨vs[i]'(by omega), by rw [cell_of_row w b i vs ty _ hh]; simp [show i < vs.size by omega]⟩, frozen_of_row w b i vs ty hh, hI.ext he (hI.bel.setCell hB x) (fun b' ds h => ?_) hI.live (fun t g h => ?_) hI.inj (fun b' u h => ?_), he⟩
  · by_cases hbb : b' = b
    · subst hbb
      simp only [St.put, if_true, Option.some.injEq] at h
      subst h
      refine ⟨hB, hrow, fun j y hy => ?_, _, ty, hsame, by simp [hlen], fun j y z hy hz => ?_⟩
      · rw [List.getElem?_set] at hy
        split at hy
        · injection hy with hy; subst hy; exact h1
        · exact hone j y hy
      · rw [List.getElem?_set] at hy
        simp only [Array.toList_setIfInBounds, List.getElem?_set, Array.length_toList] at hz
        split at hy
        · rename_i hij
          subst hij
          injection hy with hy
          simp only [show i < vs.size by omega, if_true] at hz
          injection hz with hz
          subst hy; subst hz
          exact hr.ext he
        · rename_i hij
          simp only [if_neg hij] at hz
          exact (hl.2 j y z hy hz).ext he
    · simp only [St.put, if_neg hbb] at h
      obtain ⟨g1, g2, g3, vs', ty', g4, g5⟩ := hI.box b' ds h
      exact ⟨g1, g2, g3, vs', ty', (hne b' hbb).trans g4, g5.ext he⟩
  · obtain ⟨g1, g2, u, vs', ty', g3, g4, g5⟩ := hI.tip t g h
    have hbb : g ≠ b := by rintro rfl; rw [hrow] at g3; cases g3
    exact ⟨g1, g2, u, vs', ty', g3, (hne g hbb).trans g4, g5⟩
  · obtain ⟨g1, g2⟩ := hI.rowlt b' u h
    exact ⟨g1, by simpa using g2⟩

/-- A new row that never changes. -/
theorem Inv.row_new {G : Globs} {w0 w : World} {γ : Gh} {σ : St} (hI : Inv G w0 γ σ w) (ty : TypeId) (vs : Array Value) :
    ∃ γ', Inv G w0 γ' σ (w.alloc (.cells vs ty)) ∧ Ext w0.heap.size γ w γ' (w.alloc (.cells vs ty)) ∧ γ'.row w.heap.size = some vs.size ∧ γ'.tip = γ.tip := by
  obtain ⟨hI', he⟩ := hI.alloc (.cells vs ty)
  have hfr := hI.row_fresh (Nat.le_refl _)
  have he2 : Ext w0.heap.size γ w { γ with row := fun b => if b = w.heap.size then some vs.size else γ.row b } (w.alloc (.cells vs ty)) := by
    refine ⟨he.hsz, he.cell, fun b u hu => ⟨u, ?_, Nat.le_refl _⟩, Nat.le_refl _, fun t g _ hg => ⟨hg, ?_⟩, he.shape⟩
    · have : b ≠ w.heap.size := by rintro rfl; rw [hfr] at hu; cases hu
      simp [this, hu]
    · obtain ⟨_, _, u, _, _, hu, _⟩ := hI.tip t g hg
      have : g ≠ w.heap.size := by rintro rfl; rw [hfr] at hu; cases hu
      simp [this]
  refine ⟨_, hI.ext he2 hI'.bel (fun b cs h => ?_) hI.live (fun t g h => ?_) hI.inj (fun b u h => ?_), he2, by simp, rfl⟩
  · obtain ⟨h1, h2, h3, us, ty', h4, h5⟩ := hI.box b cs h
    have hlt := lt_of_heap h4
    exact ⟨h1, by simp [show b ≠ w.heap.size by omega, h2], h3, us, ty', (heap_alloc_old w _ b hlt).trans h4, h5.ext he2⟩
  · obtain ⟨h1, h2, u, us, ty', h3, h4, h5⟩ := hI.tip t g h
    have hlt := lt_of_heap h4
    exact ⟨h1, h2, u, us, ty', by simp [show g ≠ w.heap.size by omega, h3], (heap_alloc_old w _ g hlt).trans h4, h5⟩
  · by_cases hb : b = w.heap.size
    · subst hb; exact ⟨hI.size, by simp⟩
    · simp only [if_neg hb] at h
      have := hI.rowlt b u h
      exact ⟨this.1, by simp; omega⟩

end Go.Shadow
