/- THE SHADOW LOGIC, part 8: cuts of slices and strings, literals, append, calls: sound. -/
import Derived.Test.YtgebphnfnmeaaaaGreatDoorSh7
import Derived.Laws.Tables
import Derived.Laws.DeepStrings4
namespace Go.Shadow
open Go Go.RowKit

section
variable {P : Program} {G : Globs} {w0 w : World} {γ : Gh} {σ : St} {n : Nat} {ds : List Deferred} {sl : Slots} {a : Act} {o : Oper} {K Kp : V → St → Prop}

theorem extract_list (s : ByteArray) (l : List UInt8) (h : s.data.toList = l) (i j : Nat) : (s.extract i j).data.toList = (l.take j).drop i := by
  simp only [ByteArray.data_extract, Array.toList_extract, List.extract_eq_take_drop, h]
  rw [List.drop_take]

theorem R.slice_cut {B : Nat} {γ : Gh} {w : World} {s : Nat} {es : List (List V)} {ad : Option Addr} {cap b off : Nat} {vs : Nat → Value}
    (hs : ∀ (i : Nat) (e : List V), es[i]? = some e → e.length = s) (hl : es.length ≤ cap) (ha : ad = some ⟨b, off, none⟩ ∨ (ad = none ∧ es = []))
    (h1 : ∀ (k : Nat) (x : V), es.flatten[k]? = some x → x.one = true)
    (hc : ∀ (k : Nat) (x : V), es.flatten[k]? = some x → Imm B γ b (off + k) ∧ w.cell? ⟨b, off + k, none⟩ = some (vs k))
    (hr : ∀ (k : Nat) (x : V), es.flatten[k]? = some x → R B γ w x (vs k)) {i j : Nat} (hij : i ≤ j) (hj : j ≤ es.length) :
    R B γ w (.slice .foreign s ((es.take j).drop i)) (Go.sliced ad i j cap s) := by
  have hlen : ((es.take j).drop i).length = j - i := by simp [Nat.min_eq_left hj]
  have hes : ∀ (p : Nat) (e : List V), ((es.take j).drop i)[p]? = some e → e.length = s := by
    intro p e he
    rw [List.getElem?_drop, List.getElem?_take] at he
    split at he
    · exact hs _ e he
    · cases he
  have hflat : ∀ (k : Nat) (x : V), ((es.take j).drop i).flatten[k]? = some x → es.flatten[i * s + k]? = some x := by
    intro k x hk
    have e1 : es = es.take i ++ ((es.take j).drop i ++ es.drop j) := by
      rw [← List.append_assoc]
      have : es.take i ++ (es.take j).drop i = es.take j := by
        have := List.take_append_drop i (es.take j)
        rw [List.take_take, Nat.min_eq_left hij] at this
        exact this
      rw [this, List.take_append_drop]
    have hil : (es.take i).flatten.length = i * s := by
      rw [flatten_length (s := s) (fun p e he => by
        rw [List.getElem?_take] at he
        split at he
        · exact hs p e he
        · cases he)]
      simp [Nat.min_eq_left (Nat.le_trans hij hj)]
    have hkl : k < ((es.take j).drop i).flatten.length := (List.getElem?_eq_some_iff.1 hk).1
    rw [e1]
    simp only [List.flatten_append]
    rw [List.getElem?_append_right (by omega), hil, Nat.add_sub_cancel_left, List.getElem?_append_left hkl]
    exact hk
  have hmk := fun (ad' : Option Addr) (ha' : ad' = some ⟨b, off + i * s, none⟩ ∨ (ad' = none ∧ (es.take j).drop i = [])) =>
    R.slice (B := B) (γ := γ) (w := w) .foreign s ((es.take j).drop i) ad' (cap - i) b (off + i * s) (fun k => vs (i * s + k)) hes (by rw [hlen]; omega) ha' trivial
      (fun k x hk => h1 _ x (hflat k x hk)) (fun k x hk => by have := hc _ x (hflat k x hk); rwa [← Nat.add_assoc] at this) (fun k x hk => hr _ x (hflat k x hk))
  rw [hlen] at hmk
  unfold Go.sliced
  by_cases hci : cap = i
  · rw [if_pos hci]
    have h0 : j - i = 0 := by omega
    have hnil : (es.take j).drop i = [] := List.eq_nil_of_length_eq_zero (by omega)
    rw [h0, hnil]
    have := R.slice (B := B) (γ := γ) (w := w) .foreign s [] ad (cap - i) b off vs (by simp) (by simp) (by rcases ha with h | ⟨h, _⟩; exact .inl h; exact .inr ⟨h, rfl⟩) trivial (by simp) (by simp) (by simp)
    exact this
  · rw [if_neg hci]
    rcases ha with rfl | ⟨rfl, rfl⟩
    · simp only [Option.map_some, add_lit]
      exact hmk _ (.inl rfl)
    · exact hmk none (.inr ⟨rfl, by simp⟩)

theorem elem_of {t e : TypeId} (h : P.underlying t = some (.slice e)) : P.elem t = e := by simp [Program.elem, h]

theorem lo_some {lo : Option Operand} {olo : Option Opd} (hlo : lo.map trOpd = olo.map some) : ∀ y, lo = some y → ∃ oy, olo = some oy ∧ trOpd y = some oy := by
  intro y hy; subst hy
  cases olo with
  | none => simp at hlo
  | some oy => simp at hlo; exact ⟨oy, rfl, hlo⟩
theorem lo_none {lo : Option Operand} {olo : Option Opd} (hlo : lo.map trOpd = olo.map some) : lo = none → olo = none := by rintro rfl; cases olo <;> simp_all
theorem int_of (hr : Rel G w0 γ σ w n ds sl a) {y : Operand} {oy : Opd} {k : IntKind} {q : Int} (hy : trOpd y = some oy) (hv : oy.ev sl G = some (.int k q)) : a.eval y = .int k q := by
  have := ev_sound hr hy hv
  generalize a.eval y = ye at this
  cases this; rfl

theorem do_cuts (hr : Rel G w0 γ σ w n ds sl a) {t : TypeId} {x : Operand} {lo hi : Option Operand} {ox : Opd} {olo ohi : Option Opd} (ho : o.op = .slice t x lo hi none) (ht : P.underlying t = some .string)
    (hx : trOpd x = some ox) (hlo : lo.map trOpd = olo.map some) (hhi : hi.map trOpd = ohi.map some) (h : sOp P G (.cuts ox olo ohi) sl σ K Kp) : Does P G o a w w0 γ K Kp := by
  have str : ∀ l, ox.ev sl G = some (.str l) → ∃ s : ByteArray, a.eval x = .string s ∧ s.data.toList = l ∧ s.size = l.length := by
    intro l hv
    have e1 := ev_sound hr hx hv
    generalize hxe : a.eval x = xe at e1
    cases e1 with | str _ s1 q1 =>
    exact ⟨s1, rfl, q1, by rw [← q1]; rfl⟩
  cases hlc : lo with
  | none =>
    have := lo_none hlo hlc; subst this
    cases hhc : hi with
    | none =>
      have := lo_none hhi hhc; subst this
      simp only [sOp, Option.map_none] at h
      cases hv : ox.ev sl G with
      | none => simp [hv] at h
      | some v =>
        rw [hv] at h
        cases v <;> simp only at h <;> first | exact h.elim | skip
        rename_i l
        obtain ⟨s, hs, hl, hsz⟩ := str l hv
        exact .same hr.inv (x := .string (s.extract 0 s.size)) (by simp [execOp, ho, hlc, hhc, hs, run_sliceAt_string w t _ _ _ _ ht, run_slice_string_all w t s ht]) (.str _ _ (by rw [extract_list s l hl, hsz]; simp)) h
    | some y =>
      obtain ⟨oy, rfl, hy⟩ := lo_some hhi y hhc
      simp only [sOp, Option.map_none, Option.map_some] at h
      cases hv : ox.ev sl G with
      | none => simp [hv] at h
      | some v =>
        cases hw : oy.ev sl G with
        | none => simp [hv, hw] at h
        | some u =>
          rw [hv, hw] at h
          cases v <;> cases u <;> simp only at h <;> first | exact h.elim | skip
          rename_i l k q
          obtain ⟨s, hs, hl, hsz⟩ := str l hv
          obtain ⟨h0, h1, h⟩ := h
          have hye := int_of hr hy hw
          exact .same hr.inv (x := .string (s.extract 0 q.toNat)) (by simp [execOp, ho, hlc, hhc, hs, hye, run_sliceAt_string w t _ _ _ _ ht, run_slice_string_h w t s ht k q h0 (by omega)]) (.str _ _ (by rw [extract_list s l hl]; simp)) h
  | some z =>
    obtain ⟨oz, rfl, hz⟩ := lo_some hlo z hlc
    cases hhc : hi with
    | none =>
      have := lo_none hhi hhc; subst this
      simp only [sOp, Option.map_none, Option.map_some] at h
      cases hv : ox.ev sl G with
      | none => simp [hv] at h
      | some v =>
        cases hw : oz.ev sl G with
        | none => simp [hv, hw] at h
        | some u =>
          rw [hv, hw] at h
          cases v <;> cases u <;> simp only at h <;> first | exact h.elim | skip
          rename_i l k q
          obtain ⟨s, hs, hl, hsz⟩ := str l hv
          obtain ⟨h0, h1, h⟩ := h
          have hye := int_of hr hz hw
          exact .same hr.inv (x := .string (s.extract q.toNat s.size)) (by simp [execOp, ho, hlc, hhc, hs, hye, run_sliceAt_string w t _ _ _ _ ht, run_slice_string_l w t s ht k q h0 (by omega)]) (.str _ _ (by rw [extract_list s l hl, hsz]; simp)) h
    | some y =>
      obtain ⟨oy, rfl, hy⟩ := lo_some hhi y hhc
      simp only [sOp, Option.map_some] at h
      cases hv : ox.ev sl G with
      | none => simp [hv] at h
      | some v =>
        cases hw : oz.ev sl G with
        | none => simp [hv, hw] at h
        | some u =>
          cases hw2 : oy.ev sl G with
          | none => simp [hv, hw, hw2] at h
          | some u2 =>
            rw [hv, hw, hw2] at h
            cases v <;> cases u <;> first | exact h.elim | skip
            all_goals cases u2 <;> simp only at h <;> first | exact h.elim | skip
            rename_i l k q k2 q2
            obtain ⟨s, hs, hl, hsz⟩ := str l hv
            obtain ⟨h0, h1, h2, h⟩ := h
            have hze := int_of hr hz hw
            have hye := int_of hr hy hw2
            have hrun := run_slice_string_if (P := P) (w := w) t s k k2 q q2 ht
            exact .same hr.inv (x := .string (s.extract q.toNat q2.toNat)) (by
              simp [execOp, ho, hlc, hhc, hs, hye, hze, run_sliceAt_string w t _ _ _ _ ht, hrun, h0, h1, show 0 ≤ q2 by omega, show q2 ≤ (s.size : Int) by omega]) (.str _ _ (by rw [extract_list s l hl])) h

theorem do_slice (hr : Rel G w0 γ σ w n ds sl a) {t e : TypeId} {i : TypeInfo} {x : Operand} {lo hi : Option Operand} {ox : Opd} {olo ohi : Option Opd} (ho : o.op = .slice t x lo hi none) (ht : P.underlying t = some (.slice e)) (hi' : P.info? e = some i)
    (hx : trOpd x = some ox) (hlo : lo.map trOpd = olo.map some) (hhi : hi.map trOpd = ohi.map some) (h : sOp P G (.slice i.size ox olo ohi) sl σ K Kp) : Does P G o a w w0 γ K Kp := by
  have hel := elem_of (P := P) ht
  have ht' : P.underlying t = some (.slice (P.elem t)) := by rw [hel]; exact ht
  cases hlc : lo with
  | none =>
    have := lo_none hlo hlc; subst this
    cases hhc : hi with
    | none =>
      have := lo_none hhi hhc; subst this
      simp only [sOp, Option.map_none] at h
      cases hv : ox.ev sl G with
      | none => simp [hv] at h
      | some v =>
        rw [hv] at h
        cases v <;> simp only at h <;> first | exact h.elim | skip
        rename_i g s es
        obtain ⟨hss, h⟩ := h
        have e1 := ev_sound hr hx hv
        generalize hxe : a.eval x = xe at e1
        have e1' := e1
        cases e1 with | slice _ _ _ ad cap b off vs hs hl ha htg h1 hc hr' =>
        refine .same hr.inv (x := .slice ad es.length cap) ?_ e1' h
        simp [execOp, ho, hlc, hhc, hxe, run_sliceAt_slice w t _ _ _ _ ht', run_slice_all w t ad es.length cap ht', hel, sizeOf, typeInfo, hi', Go.sliced]
        intro hcap
        rcases ha with rfl | ⟨rfl, _⟩ <;> simp [add_lit]
    | some y =>
      obtain ⟨oy, rfl, hy⟩ := lo_some hhi y hhc
      simp only [sOp, Option.map_none, Option.map_some] at h
      cases hv : ox.ev sl G with
      | none => simp [hv] at h
      | some v =>
        cases hw : oy.ev sl G with
        | none => simp [hv, hw] at h
        | some u =>
          rw [hv, hw] at h
          cases v <;> cases u <;> simp only at h <;> first | exact h.elim | skip
          rename_i g s es k q
          obtain ⟨hss, h0, h1, h⟩ := h
          have hye := int_of hr hy hw
          have e1 := ev_sound hr hx hv
          generalize hxe : a.eval x = xe at e1
          cases e1 with | slice _ _ _ ad cap b off vs hs hl ha htg h1' hc hr' =>
          have hcut := R.slice_cut hs hl ha h1' hc hr' (i := 0) (j := q.toNat) (Nat.zero_le _) (by omega)
          simp only [List.drop_zero] at hcut
          refine .same hr.inv (x := Go.sliced ad 0 q.toNat cap s) ?_ hcut h
          simp [execOp, ho, hlc, hhc, hxe, hye, run_sliceAt_slice w t _ _ _ _ ht', run_slice_h w t ad es.length cap ht' k q h0 (by omega), hel, sizeOf, typeInfo, hi', hss]
  | some z =>
    obtain ⟨oz, rfl, hz⟩ := lo_some hlo z hlc
    cases hhc : hi with
    | none =>
      have := lo_none hhi hhc; subst this
      simp only [sOp, Option.map_none, Option.map_some] at h
      cases hv : ox.ev sl G with
      | none => simp [hv] at h
      | some v =>
        cases hw : oz.ev sl G with
        | none => simp [hv, hw] at h
        | some u =>
          rw [hv, hw] at h
          cases v <;> cases u <;> simp only at h <;> first | exact h.elim | skip
          rename_i g s es k q
          obtain ⟨hss, h0, h1, h⟩ := h
          have hye := int_of hr hz hw
          have e1 := ev_sound hr hx hv
          generalize hxe : a.eval x = xe at e1
          cases e1 with | slice _ _ _ ad cap b off vs hs hl ha htg h1' hc hr' =>
          have hcut := R.slice_cut hs hl ha h1' hc hr' (i := q.toNat) (j := es.length) (by omega) (Nat.le_refl _)
          simp only [List.take_length] at hcut
          refine .same hr.inv (x := Go.sliced ad q.toNat es.length cap s) ?_ hcut h
          simp [execOp, ho, hlc, hhc, hxe, hye, run_sliceAt_slice w t _ _ _ _ ht', run_slice_l w t ad es.length cap ht' k q h0 (by omega), hel, sizeOf, typeInfo, hi', hss]
    | some y =>
      obtain ⟨oy, rfl, hy⟩ := lo_some hhi y hhc
      simp only [sOp, Option.map_some] at h
      cases hv : ox.ev sl G with
      | none => simp [hv] at h
      | some v =>
        cases hw : oz.ev sl G with
        | none => simp [hv, hw] at h
        | some u =>
          cases hw2 : oy.ev sl G with
          | none => simp [hv, hw, hw2] at h
          | some u2 =>
            rw [hv, hw, hw2] at h
            cases v <;> cases u <;> first | exact h.elim | skip
            all_goals cases u2 <;> simp only at h <;> first | exact h.elim | skip
            rename_i g s es k q k2 q2
            obtain ⟨hss, h0, h1, h2, h⟩ := h
            have hze := int_of hr hz hw
            have hye := int_of hr hy hw2
            have e1 := ev_sound hr hx hv
            generalize hxe : a.eval x = xe at e1
            cases e1 with | slice _ _ _ ad cap b off vs hs hl ha htg h1' hc hr' =>
            have hcut := R.slice_cut hs hl ha h1' hc hr' (i := q.toNat) (j := q2.toNat) (by omega) (by omega)
            refine .same hr.inv (x := Go.sliced ad q.toNat q2.toNat cap s) ?_ hcut h
            simp [execOp, ho, hlc, hhc, hxe, hye, hze, run_sliceAt_slice w t _ _ _ _ ht', run_slice_lh w t ad es.length cap ht' k k2 q q2 h0 h1 (by omega), hel, sizeOf, typeInfo, hi', hss]

end
end Go.Shadow
