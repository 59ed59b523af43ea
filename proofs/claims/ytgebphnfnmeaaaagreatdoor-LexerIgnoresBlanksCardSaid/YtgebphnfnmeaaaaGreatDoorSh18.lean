/- THE SHADOW LOGIC, part 18: out of it: a contract as 'Calls', for a row. -/
import Derived.Test.YtgebphnfnmeaaaaGreatDoorSh17
namespace Go.Shadow
open Go Go.RowKit Go.Proofs

def Gh.zero : Gh := { row := fun _ => none, tip := fun _ => none, nt := 0 }
def St.zero : St := { box := fun _ => none, live := fun _ => false }
theorem Inv.zero {G : Globs} {W : World} (hp : G.pre W) (hg : ∀ g cs, G g = some cs → R W.heap.size Gh.zero W (.ref cs) (.pointer (some ⟨g, 0, none⟩))) : Inv G W Gh.zero St.zero W :=
  ⟨.refl _ _, fun b cs h => (by cases h), fun t h => (by cases h), fun t g h => (by cases h), fun t t' g h => (by cases h), fun b u h => (by cases h), hg, hp⟩
theorem SRet.run {P : Program} {G : Globs} {f : FuncId} {args : List V} {r : V} {W : World} {xs : Array Value} {v : Value} (h : SRet P G f args r) (he : ∀ args w, (callFunc f args).run P w = .ok (.enter f args) w) (hp : G.pre W)
    (hg : ∀ g cs, G g = some cs → R W.heap.size Gh.zero W (.ref cs) (.pointer (some ⟨g, 0, none⟩))) (hx : RL W.heap.size Gh.zero W args xs.toList) (hv : ∀ B γ w x, R B γ w r x → x = v) :
    Calls P f xs W fun e W' => e = .returned v ∧ Below W.heap.size W W' := by
  rcases h St.zero W Gh.zero W xs (.zero hp hg) hx with ⟨_, hc⟩ | ⟨x, w', h1, _⟩
  · refine hc.mono ?_
    rintro e w' ⟨γ', σ', _, hI, r', x, hR, ⟨rfl, _, hr⟩ | ⟨_, _, hr⟩⟩
    · injection hr with hr; subst hr
      exact ⟨by rw [hv _ _ _ _ hR], hI.bel⟩
    · cases hr
  · rw [he] at h1; cases h1
theorem R.bool_eq {B : Nat} {γ : Gh} {w : World} {b : Bool} {x : Value} (h : R B γ w (.bool b) x) : x = .bool b := by cases h; rfl
end Go.Shadow
