/- THE SHADOW LOGIC, part 2: append. -/
import Derived.Test.YtgebphnfnmeaaaaGreatDoorSh1
namespace Go.Shadow
open Go Go.RowKit

section
variable {P : Program} (w : World)

/-- What is appended: m elements, the cells news. -/
structure Src (P : Program) (w : World) (size : Nat) (xT : TypeId) (x : Value) (m : Nat) (news : List Value) : Prop where
  ty : (∃ e, P.underlying xT = some (.slice e)) ∨ P.underlying xT = some .string
  len : ∀ w', (Builtin.lenOf x).run P w' = .ok m w'
  cells : ∀ w', w'.heap = w.heap → (Builtin.firstCells size m x).run P w' = .ok news.toArray w'
  size : news.length = m * size

theorem run_app_room (t xT ty e : TypeId) (i : TypeInfo) (ht : P.underlying t = some (.slice e)) (hi : P.info? e = some i)
    (g sLen sCap : Nat) (cur : Array Value) (te : TypeId) (hg : w.heap[g]? = some (.cells cur te (0, 0))) (x : Value) (m : Nat) (news : List Value) (hs : Src P w i.size xT x m news) (h1 : ∀ u ∈ news, u.oneCell' = true)
    (hroom : sLen + m ≤ sCap) (hfit : sLen * i.size + news.length ≤ cur.size) :
    (Builtin.append_ #[t, xT] ty #[.slice (some ⟨g, 0, none⟩) sLen sCap, x]).run P w =
      .ok (.slice (some ⟨g, 0, none⟩) (sLen + m) sCap) (w.setRow g (cur.toList.take (sLen * i.size) ++ news ++ cur.toList.drop (sLen * i.size + news.length)).toArray) := by
  have hst := run_storeCells_at P g (sLen * i.size) te news 0 cur w hg (by simpa using hfit) h1
  simp only [Nat.add_zero] at hst
  have hf := hs.cells w rfl
  rcases hs.ty with ⟨e2, h2⟩ | h2 <;>
    simp [Builtin.append_, run_underlying ht, run_underlying h2, sizeOf, typeInfo, hi, hs.len, hroom, hf, Addr.add_lit, hst]

theorem run_app_none (t xT ty e : TypeId) (i : TypeInfo) (ht : P.underlying t = some (.slice e)) (hi : P.info? e = some i)
    (b : Option Addr) (sLen sCap : Nat) (x : Value) (hs : Src P w i.size xT x 0 []) (hl : sLen ≤ sCap) :
    (Builtin.append_ #[t, xT] ty #[.slice b sLen sCap, x]).run P w = .ok (.slice b sLen sCap) w := by
  have hf := hs.cells w rfl
  rcases hs.ty with ⟨e2, h2⟩ | h2 <;> cases b <;>
    simp [Builtin.append_, run_underlying ht, run_underlying h2, sizeOf, typeInfo, hi, hs.len, hl, hf, storeCells]

theorem run_app_grow (t xT ty e : TypeId) (i : TypeInfo) (z : Value) (ht : P.underlying t = some (.slice e)) (hi : P.info? e = some i) (hz : i.zero = some z)
    (b : Option Addr) (sLen sCap : Nat) (olds : List Value) (hfo : ∀ w', w'.heap = w.heap → (Builtin.firstCells i.size sLen (.slice b sLen sCap)).run P w' = .ok olds.toArray w')
    (x : Value) (m : Nat) (news : List Value) (hs : Src P w i.size xT x m news)
    (hg : sCap < sLen + m) (h63 : ((sLen + m : Nat) : Int) ≤ 9223372036854775807) (hfit : Builtin.nextslicecap (sLen + m) sCap * i.bytes ≤ 281474976710656) :
    (Builtin.append_ #[t, xT] ty #[.slice b sLen sCap, x]).run P w =
      .ok (.slice (some ⟨w.heap.size, 0, none⟩) (sLen + m) (grownCap w (sLen + m) sCap e))
        (w.drew.alloc (.cells (olds ++ news ++ (Builtin.zeroCells z.cells (grownCap w (sLen + m) sCap e - (sLen + m))).toList).toArray e)) := by
  have hn : ¬ (sLen + m ≤ sCap) := by omega
  have h63' : ¬ (9223372036854775807 < ((sLen : Int) + (m : Int))) := by omega
  have h48' : ¬ (281474976710656 < Builtin.nextslicecap (sLen + m) sCap * i.bytes) := by omega
  have hf := hs.cells w.drew rfl
  have hfo := hfo w.drew rfl
  rcases hs.ty with ⟨e2, h2⟩ | h2 <;>
    (simp [Builtin.append_, run_underlying ht, run_underlying h2, sizeOf, typeInfo, zeroValue, hi, hz, hs.len, hn, h63', h48', Question.forced, hf, hfo, newRow, grownCap]
     try (congr 2; apply Array.ext'; simp [List.append_assoc]))
end

theorem Src.of_slice {P : Program} {w : World} {B : Nat} {γ : Gh} {s : Nat} {xT e : TypeId} (hT : P.underlying xT = some (.slice e)) {tag : Tag} {es : List (List V)} {x : Value} (h : R B γ w (.slice tag s es) x) :
    ∃ news, Src P w s xT x es.length news ∧ RL B γ w es.flatten news ∧ ∀ u ∈ news, u.oneCell' = true := by
  cases h with
  | slice _ _ _ a cap b o vs hs hl ha ht h1 hc hr =>
    obtain ⟨xs, hrl, hcells⟩ := cells_of hc hr
    have hlen : xs.length = es.length * s := hrl.1.symm.trans (flatten_length hs)
    refine ⟨xs, ⟨.inl ⟨e, hT⟩, fun w' => rfl, fun w' hw => ?_, hlen⟩, hrl, hrl.ones h1⟩
    rcases ha with rfl | ⟨rfl, rfl⟩
    · exact run_firstCells_some w' s es.length _ _ cap xs hlen fun j v hj => by
        rw [add_lit]
        have := (hcells j v hj).2
        simpa [World.cell?, hw] using this
    · obtain rfl : xs = [] := List.eq_nil_of_length_eq_zero (by simpa using hlen)
      exact run_firstCells_none w' s 0 0 cap

theorem Src.of_str {P : Program} {w : World} {xT : TypeId} (hT : P.underlying xT = some .string) (l : List UInt8) (s : ByteArray) (h : s.data.toList = l) :
    Src P w 1 xT (.string s) l.length (l.map fun b => Value.int .u8 b.toNat) := by
  have hs : s.size = l.length := by rw [← h]; rfl
  refine ⟨.inr hT, fun w' => by simp [Builtin.lenOf, hs], fun w' _ => ?_, by simp⟩
  simp only [Builtin.firstCells, Sem.run_pure, ← hs]
  congr 1
  apply Array.ext'
  simp only [Array.toList_map, ByteArray.extract_zero_size, h]

/-- What append does to the invariant: the result is a live tip. -/
theorem Inv.append {P : Program} {G : Globs} {w0 w : World} {γ : Gh} {σ : St} (hI : Inv G w0 γ σ w) {t xT ty e : TypeId} {i : TypeInfo} {z : Value}
    (ht : P.underlying t = some (.slice e)) (hi : P.info? e = some i) (hz : i.zero = some z) (hzs : z.cells.size = i.size) (hsz : 0 < i.size)
    {tag : Tag} {es : List (List V)} {v : Value} (hv : R w0.heap.size γ w (.slice tag i.size es) v)
    (htag : tag = .nil ∨ tag = .full ∨ ∃ k, tag = .tip k ∧ σ.live k = true)
    {x : Value} {ns : List (List V)} {news : List Value} (hs : Src P w i.size xT x ns.length news) (hns : ∀ (i' : Nat) (e : List V), ns[i']? = some e → e.length = i.size) (hrl : RL w0.heap.size γ w ns.flatten news)
    (h1 : ∀ (k : Nat) (x : V), ns.flatten[k]? = some x → x.one = true) (hne : ns ≠ []) (hb : (es.length + ns.length) * i.bytes ≤ 140737488355328) (hb2 : es.length + ns.length ≤ 9223372036854775807) :
    ∃ t' γ' v' w', (Builtin.append_ #[t, xT] ty #[v, x]).run P w = .ok v' w' ∧ σ.live t' = false ∧ Ext w0.heap.size γ w γ' w' ∧
      Inv G w0 γ' ((match tag with | .tip k => σ.off k | _ => σ).on t') w' ∧ R w0.heap.size γ' w' (.slice (.tip t') i.size (es ++ ns)) v' := by
  have hfresh : σ.live γ.nt = false := by
    cases hlv : σ.live γ.nt with
    | false => rfl
    | true => obtain ⟨g, hg⟩ := hI.live _ hlv; have := (hI.tip _ _ hg).1; omega
  have hns0 : 0 < ns.length := by cases ns with | nil => exact absurd rfl hne | cons _ _ => simp
  cases hv with
  | slice _ _ _ a cap b o vs hes hl ha htg h1s hc hr =>
  obtain ⟨olds, hol, hocells⟩ := cells_of hc hr
  have holen : olds.length = es.length * i.size := hol.1.symm.trans (flatten_length hes)
  have hnlen : news.length = ns.length * i.size := hs.size
  have hall : ∀ (i' : Nat) (e : List V), (es ++ ns)[i']? = some e → e.length = i.size := by
    intro i' e he
    rw [List.getElem?_append] at he
    split at he
    · exact hes _ _ he
    · exact hns _ _ he
  have hflat : (es ++ ns).flatten = es.flatten ++ ns.flatten := by simp
  have honly : ∀ (k : Nat) (x : V), (es ++ ns).flatten[k]? = some x → x.one = true := by
    intro k x hk
    rw [hflat, List.getElem?_append] at hk
    split at hk
    · exact h1s _ _ hk
    · exact h1 _ _ hk
  have hfo : ∀ w', w'.heap = w.heap → (Builtin.firstCells i.size es.length (.slice a es.length cap)).run P w' = .ok olds.toArray w' := by
    intro w' hw
    rcases ha with rfl | ⟨rfl, rfl⟩
    · exact run_firstCells_some w' i.size es.length _ _ cap olds holen fun j v hj => by
        rw [add_lit]
        have := (hocells j v hj).2
        simpa [World.cell?, hw] using this
    · obtain rfl : olds = [] := List.eq_nil_of_length_eq_zero (by simpa using holen)
      exact run_firstCells_none w' i.size 0 0 cap
  -- the new block
  have grow : cap < es.length + ns.length → ∃ t' γ' v' w', (Builtin.append_ #[t, xT] ty #[.slice a es.length cap, x]).run P w = .ok v' w' ∧ σ.live t' = false ∧ Ext w0.heap.size γ w γ' w' ∧
      Inv G w0 γ' ((match tag with | .tip k => σ.off k | _ => σ).on t') w' ∧ R w0.heap.size γ' w' (.slice (.tip t') i.size (es ++ ns)) v' := by
    intro hcap
    have hrun := run_app_grow (P := P) w t xT ty e i z ht hi hz a es.length cap olds hfo x ns.length news hs hcap (by omega) (growslice_fits hcap hb)
    have hge := grownCap_ge w (es.length + ns.length) cap e
    generalize hN : grownCap w (es.length + ns.length) cap e = N at hrun hge
    generalize hZ : (Builtin.zeroCells z.cells (N - (es.length + ns.length))).toList = Z at hrun
    have hZl : Z.length = (N - (es.length + ns.length)) * i.size := by rw [← hZ, ← hzs]; simp [Builtin.zeroCells]
    obtain ⟨hI1, he1⟩ := hI.drew
    obtain ⟨hI2, he2⟩ := hI1.alloc (.cells (olds ++ news ++ Z).toArray e)
    have hE := he1.trans he2
    generalize hW : w.drew.alloc (.cells (olds ++ news ++ Z).toArray e) = W at hrun hI2 he2 hE
    have hWn : W.heap[w.heap.size]? = some (.cells (olds ++ news ++ Z).toArray e (0, 0)) := by rw [← hW]; exact heap_alloc_new w.drew _
    have hWs : W.heap.size = w.heap.size + 1 := by rw [← hW]; simp
    have hcellW : ∀ (k : Nat), W.cell? ⟨w.heap.size, k, none⟩ = (olds ++ news ++ Z)[k]? := fun k => by rw [cell_of_row W _ k _ _ _ hWn]; simp
    have hrf := hI.row_fresh (Nat.le_refl w.heap.size)
    let γ' : Gh := { row := fun b => if b = w.heap.size then some ((es.length + ns.length) * i.size) else γ.row b,
                     tip := fun k => if k = γ.nt then some w.heap.size else if tag = .tip k then none else γ.tip k, nt := γ.nt + 1 }
    have hrowW : γ'.row w.heap.size = some ((es.length + ns.length) * i.size) := by simp only [γ', if_true]
    have htipold : ∀ k g, k ≠ γ.nt → γ'.tip k = some g → γ.tip k = some g := by
      intro k g hk hg
      simp only [γ', if_neg hk] at hg
      split at hg
      · cases hg
      · exact hg
    have htipb : ∀ k g, γ.tip k = some g → g ≠ w.heap.size := by
      intro k g hg hgs
      obtain ⟨_, _, u, us, ty', _, hh, _⟩ := hI.tip k g hg
      have := lt_of_heap hh; omega
    have hext : Ext w0.heap.size γ w γ' W := by
      refine ⟨hE.hsz, hE.cell, fun b u hu => ⟨u, ?_, Nat.le_refl _⟩, Nat.le_succ _, fun k g hk hg => ?_, hE.shape⟩
      · have hbne : b ≠ w.heap.size := by rintro rfl; rw [hrf] at hu; cases hu
        simp only [γ', if_neg hbne]; exact hu
      · have h0 := htipold k g (by omega) hg
        exact ⟨h0, by simp only [γ', if_neg (htipb k g h0)]⟩
    have hRL : RL w0.heap.size γ' W (es.flatten ++ ns.flatten) (olds ++ news) := (hol.append hrl).ext hext
    refine ⟨γ.nt, γ', _, W, hrun, hfresh, hext, hI.ext hext hI2.bel (fun b cs hbx => ?_) (fun k hk => ?_) (fun k g hg => ?_) (fun k k' g hg hg' => ?_) (fun b u hu => ?_), ?_⟩
    · have hbx' : σ.box b = some cs := by cases tag <;> exact hbx
      obtain ⟨g1, g2, g3, us, ty', g4, g5⟩ := hI2.box b cs hbx'
      have hbne : b ≠ w.heap.size := by have := hI.box_lt hbx'; omega
      obtain ⟨_, _, _, us0, ty0, g40, g50⟩ := hI.box b cs hbx'
      have e0 : W.heap[b]? = w.heap[b]? := by rw [← hW]; exact heap_alloc_old w.drew _ b (hI.box_lt hbx')
      exact ⟨g1, by simp only [γ', if_neg hbne]; exact g2, g3, us0, ty0, e0.trans g40, g50.ext hext⟩
    · by_cases hkn : k = γ.nt
      · exact ⟨w.heap.size, by simp only [γ', if_pos hkn]⟩
      · have hk2 : σ.live k = true ∧ tag ≠ .tip k := by
          cases tag <;> simp_all [St.on, St.off]
          exact fun h => hk.1 h.symm
        obtain ⟨g, hg⟩ := hI.live k hk2.1
        exact ⟨g, by simp only [γ', if_neg hkn, if_neg hk2.2]; exact hg⟩
    · by_cases hkn : k = γ.nt
      · simp only [γ', if_pos hkn, Option.some.injEq] at hg
        subst hg
        refine ⟨by simp only [γ']; omega, hI.size, _, _, e, hrowW, hWn, ?_⟩
        simp only [List.size_toArray, List.length_append, holen, hnlen, hZl]
        rw [← Nat.add_mul]; exact Nat.le_add_right _ _
      · have h0 := htipold k g hkn hg
        obtain ⟨g1, g2, u, us, ty', g3, g4, g5⟩ := hI2.tip k g h0
        exact ⟨by simp only [γ']; omega, g2, u, us, ty', by simp only [γ', if_neg (htipb k g h0)]; exact g3, g4, g5⟩
    · by_cases hkn : k = γ.nt <;> by_cases hkn' : k' = γ.nt
      · rw [hkn, hkn']
      · simp only [γ', if_pos hkn, Option.some.injEq] at hg
        exact absurd hg.symm (htipb k' g (htipold k' g hkn' hg'))
      · simp only [γ', if_pos hkn', Option.some.injEq] at hg'
        exact absurd hg'.symm (htipb k g (htipold k g hkn hg))
      · exact hI.inj k k' g (htipold k g hkn hg) (htipold k' g hkn' hg')
    · by_cases hbn : b = w.heap.size
      · subst hbn; exact ⟨hI.size, by omega⟩
      · simp only [γ', if_neg hbn] at hu
        have := hI.rowlt b u hu
        exact ⟨this.1, by omega⟩
    · have hlen2 : (es ++ ns).length = es.length + ns.length := by simp
      have hfl : (es ++ ns).flatten.length = (es.length + ns.length) * i.size := by rw [flatten_length hall, hlen2]
      have hmk := R.slice (B := w0.heap.size) (γ := γ') (w := W) (.tip γ.nt) i.size (es ++ ns) (some ⟨w.heap.size, 0, none⟩) N w.heap.size 0 (fun k => (olds ++ news).getD k undef) hall (by rw [hlen2]; exact hge) (.inl rfl)
        ⟨by simp only [γ']; omega, fun g hg => ?_⟩ honly (fun k x hk => ?_) (fun k x hk => ?_)
      · rw [hlen2] at hmk; exact hmk
      · simp only [γ', if_true, Option.some.injEq] at hg
        subst hg
        refine ⟨rfl, by simp only [γ', if_true, hlen2], e, _, by simp [World.shape?, hWn]; rfl, ?_⟩
        simp only [List.length_append, holen, hnlen, hZl]
        rw [← Nat.add_mul, ← Nat.add_mul]
        exact Nat.mul_le_mul_right _ (by omega)
      · have hk' : k < (es ++ ns).flatten.length := (List.getElem?_eq_some_iff.1 hk).1
        refine ⟨.inr ⟨_, hrowW, by rw [hfl] at hk'; rw [Nat.zero_add]; exact hk'⟩, ?_⟩
        have hkl : k < (olds ++ news).length := by rw [← hRL.1, ← hflat]; exact hk'
        simp only [Nat.zero_add]
        rw [hcellW, List.getElem?_append_left hkl, List.getD_eq_getElem?_getD, List.getElem?_eq_getElem hkl]; rfl
      · rw [hflat] at hk
        have hkl : k < (olds ++ news).length := by rw [← hRL.1]; exact (List.getElem?_eq_some_iff.1 hk).1
        exact hRL.2 k x _ hk (by rw [List.getD_eq_getElem?_getD, List.getElem?_eq_getElem hkl]; rfl)
  by_cases hcap : cap < es.length + ns.length
  · exact grow hcap
  -- room: then the tag is a live tip
  have htip : ∃ k, tag = .tip k ∧ σ.live k = true := by
    rcases htag with rfl | rfl | h
    · obtain ⟨_, h2, h3⟩ := htg; omega
    · have : cap = es.length := htg; omega
    · exact h
  obtain ⟨k, rfl, hlive⟩ := htip
  obtain ⟨g, hg⟩ := hI.live k hlive
  obtain ⟨hkn, htg⟩ := htg
  obtain ⟨rfl, hrow, e', n, hshape, hfit⟩ := htg g hg
  obtain ⟨-, hgB, u, cur, te, hu, hgh, hule⟩ := hI.tip k g hg
  obtain rfl : u = es.length * i.size := by rw [hrow] at hu; exact (Option.some.inj hu).symm
  obtain ⟨rfl, rfl⟩ : b = g ∧ o = 0 := by
    rcases ha with ha | ⟨ha, _⟩
    · have h := Option.some.inj ha
      injection h with h1 h2 h3
      exact ⟨h1.symm, h2.symm⟩
    · cases ha
  have hn : n = cur.size := by simp [World.shape?, hgh] at hshape; exact hshape.2.symm
  have hfit2 : es.length * i.size + news.length ≤ cur.size := by
    rw [hnlen, ← Nat.add_mul, ← hn]
    exact Nat.le_trans (Nat.mul_le_mul_right _ (by omega)) hfit
  have h1n : ∀ u ∈ news, u.oneCell' = true := hrl.ones h1
  have hrun := run_app_room (P := P) w t xT ty e i ht hi b es.length cap cur te hgh x ns.length news hs h1n (by omega) hfit2
  generalize hC : (cur.toList.take (es.length * i.size) ++ news ++ cur.toList.drop (es.length * i.size + news.length)).toArray = C at hrun
  have hCs : C.size = cur.size := by
    rw [← hC]
    simp only [List.size_toArray, List.length_append, List.length_take, List.length_drop, Array.length_toList]
    omega
  have hWb : (w.setRow b C).heap[b]? = some (.cells C te (0, 0)) := setRow_heap w b cur C te _ hgh
  have hWo : ∀ k, k ≠ b → (w.setRow b C).heap[k]? = w.heap[k]? := fun k hk => setRow_other w b k C hk
  have hold : ∀ k, k < es.length * i.size → C[k]? = cur[k]? := by
    intro k hk
    rw [← hC]
    simp only [List.getElem?_toArray]
    rw [List.append_assoc, List.getElem?_append_left (by simp; omega), List.getElem?_take_of_lt hk]; simp
  have hnew : ∀ k, k < news.length → C[es.length * i.size + k]? = news[k]? := by
    intro k hk
    rw [← hC]
    simp only [List.getElem?_toArray]
    have hle : es.length * i.size ≤ cur.toList.length := by simpa using hule
    rw [List.append_assoc, List.getElem?_append_right (by simp; omega), List.length_take, Nat.min_eq_left hle, Nat.add_sub_cancel_left, List.getElem?_append_left hk]
  generalize hW : w.setRow b C = W at hrun hWb hWo
  have hWs : W.heap.size = w.heap.size := by rw [← hW]; simp
  let γ' : Gh := { row := fun c => if c = b then some ((es.length + ns.length) * i.size) else γ.row c,
                   tip := fun q => if q = γ.nt then some b else if q = k then none else γ.tip q, nt := γ.nt + 1 }
  have hrowB : γ'.row b = some ((es.length + ns.length) * i.size) := by simp only [γ', if_true]
  have htipold : ∀ q g, q ≠ γ.nt → γ'.tip q = some g → γ.tip q = some g ∧ g ≠ b := by
    intro q g hq hg'
    simp only [γ', if_neg hq] at hg'
    split at hg'
    · cases hg'
    · rename_i hqk
      exact ⟨hg', fun h => hqk (hI.inj q k b (h ▸ hg') hg)⟩
  have hext : Ext w0.heap.size γ w γ' W := by
    refine ⟨by omega, fun c q v hi' hcv => ?_, fun c u' hu' => ?_, Nat.le_succ _, fun q g' hq hg' => ?_, fun c y hy => ?_⟩
    · by_cases hcb : c = b
      · subst hcb
        have hq : q < es.length * i.size := by
          rcases hi' with hi' | ⟨u', hu', hq⟩
          · omega
          · rw [hu] at hu'; injection hu' with hu'; omega
        rw [cell_of_row W c q C te _ hWb, hold q hq, ← hcv, cell_of_row w c q cur te _ hgh]
      · exact (World.cell?_of_block (w := w) (hWo c hcb)).trans hcv
    · by_cases hcb : c = b
      · subst hcb
        rw [hu] at hu'; injection hu' with hu'
        exact ⟨_, hrowB, by rw [← hu', Nat.add_mul]; exact Nat.le_add_right _ _⟩
      · exact ⟨u', by simp only [γ', if_neg hcb]; exact hu', Nat.le_refl _⟩
    · obtain ⟨h0, hne⟩ := htipold q g' (by omega) hg'
      exact ⟨h0, by simp only [γ', if_neg hne]⟩
    · by_cases hcb : c = b
      · subst hcb
        rw [← hy]; simp [World.shape?, hWb, hgh, hCs]
      · exact (shape_of_heap (hWo c hcb)).trans hy
  have hBel : Below w0.heap.size w0 W := hI.bel.trans ⟨by rw [← hW]; rfl, by rw [← hW]; rfl, by rw [← hW]; rfl, by omega, fun c hcB => hWo c (by omega)⟩
  have hRLo : RL w0.heap.size γ' W es.flatten olds := hol.ext hext
  have hRLn : RL w0.heap.size γ' W ns.flatten news := hrl.ext hext
  refine ⟨γ.nt, γ', _, W, hrun, hfresh, hext, hI.ext hext hBel (fun c cs hbx => ?_) (fun q hq => ?_) (fun q g' hg' => ?_) (fun q q' g' hg1 hg2 => ?_) (fun c u' hu' => ?_), ?_⟩
  · have hbx' : σ.box c = some cs := hbx
    obtain ⟨g1, g2, g3, us, ty', g4, g5⟩ := hI.box c cs hbx'
    have hcb : c ≠ b := by rintro rfl; rw [hu] at g2; cases g2
    exact ⟨g1, by simp only [γ', if_neg hcb]; exact g2, g3, us, ty', (hWo c hcb).trans g4, g5.ext hext⟩
  · by_cases hqn : q = γ.nt
    · exact ⟨b, by simp only [γ', if_pos hqn]⟩
    · have hq2 : σ.live q = true ∧ q ≠ k := by simp_all [St.on, St.off]
      obtain ⟨g', hg'⟩ := hI.live q hq2.1
      exact ⟨g', by simp only [γ', if_neg hqn, if_neg hq2.2]; exact hg'⟩
  · by_cases hqn : q = γ.nt
    · simp only [γ', if_pos hqn, Option.some.injEq] at hg'
      subst hg'
      refine ⟨by simp only [γ']; omega, hgB, _, C, te, hrowB, hWb, ?_⟩
      rw [hCs, Nat.add_mul, ← hnlen]; exact hfit2
    · obtain ⟨h0, hne'⟩ := htipold q g' hqn hg'
      obtain ⟨g1, g2, u', us, ty', g3, g4, g5⟩ := hI.tip q g' h0
      exact ⟨by simp only [γ']; omega, g2, u', us, ty', by simp only [γ', if_neg hne']; exact g3, (hWo g' hne').trans g4, g5⟩
  · by_cases h1q : q = γ.nt <;> by_cases h2q : q' = γ.nt
    · rw [h1q, h2q]
    · simp only [γ', if_pos h1q, Option.some.injEq] at hg1
      exact absurd hg1.symm (htipold q' g' h2q hg2).2
    · simp only [γ', if_pos h2q, Option.some.injEq] at hg2
      exact absurd hg2.symm (htipold q g' h1q hg1).2
    · exact hI.inj q q' g' (htipold q g' h1q hg1).1 (htipold q' g' h2q hg2).1
  · by_cases hcb : c = b
    · subst hcb; exact ⟨hgB, by rw [hWs]; exact lt_of_heap hgh⟩
    · simp only [γ', if_neg hcb] at hu'
      have := hI.rowlt c u' hu'
      exact ⟨this.1, by omega⟩
  · have hlen2 : (es ++ ns).length = es.length + ns.length := by simp
    have hfl : es.flatten.length = es.length * i.size := flatten_length hes
    have hmk := R.slice (B := w0.heap.size) (γ := γ') (w := W) (.tip γ.nt) i.size (es ++ ns) (some ⟨b, 0, none⟩) cap b 0 (fun q => (olds ++ news).getD q undef) hall (by rw [hlen2]; omega) (.inl rfl)
      ⟨by simp only [γ']; omega, fun g' hg' => ?_⟩ honly (fun q x' hq => ?_) (fun q x' hq => ?_)
    · rw [hlen2] at hmk; exact hmk
    · simp only [γ', if_true, Option.some.injEq] at hg'
      subst hg'
      exact ⟨rfl, by simp only [γ', if_true, hlen2], te, C.size, by simp [World.shape?, hWb], by rw [hCs, ← hn]; exact hfit⟩
    · have hq' : q < (es ++ ns).flatten.length := (List.getElem?_eq_some_iff.1 hq).1
      have hq2 : q < (es.length + ns.length) * i.size := by rw [flatten_length hall, hlen2] at hq'; exact hq'
      refine ⟨.inr ⟨_, hrowB, by simpa using hq2⟩, ?_⟩
      simp only [Nat.zero_add]
      rw [cell_of_row W b q C te _ hWb, List.getD_eq_getElem?_getD]
      by_cases hqo : q < es.length * i.size
      · have hqol : q < olds.length := by omega
        rw [hold q hqo, List.getElem?_append_left hqol, List.getElem?_eq_getElem hqol]
        have h2 := (hocells q _ (List.getElem?_eq_getElem hqol)).2
        rw [Nat.zero_add, cell_of_row w b q cur te _ hgh] at h2
        rw [h2]; rfl
      · have hqn : q - es.length * i.size < news.length := by rw [hnlen]; rw [Nat.add_mul] at hq2; omega
        rw [show q = es.length * i.size + (q - es.length * i.size) by omega, hnew _ hqn, ← holen, List.getElem?_append_right (by omega), Nat.add_sub_cancel_left, holen, List.getElem?_eq_getElem hqn]; rfl
    · rw [hflat] at hq
      have hRLa := hRLo.append hRLn
      have hql : q < (olds ++ news).length := by rw [← hRLa.1]; exact (List.getElem?_eq_some_iff.1 hq).1
      exact hRLa.2 q x' _ hq (by rw [List.getD_eq_getElem?_getD, List.getElem?_eq_getElem hql]; rfl)

end Go.Shadow
