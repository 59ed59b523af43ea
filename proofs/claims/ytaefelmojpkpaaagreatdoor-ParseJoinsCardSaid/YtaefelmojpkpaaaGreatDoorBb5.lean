/- Proved: the tied card of ParseJoins. Conditions: none beyond the card's own. -/
import Derived.Test.YtaefelmojpkpaaaGreatDoorBb4
import Derived.Test.YtaefelmojpkpaaaGreatDoorRows
import Derived.ProofKit
import Derived.LaidMore
import Derived.OpenShut
import Derived.ShutString
import Derived.ChangeOld
import Derived.Lib.LaidU8
import Derived.Stop.LaidErr
import Derived.Stop.Joined
import Derived.MakeChecks
import Derived.Test.YtaefelmojpkpaaaGreatDoorCards
import Derived.Test.YtaefelmojpkpaaaGreatDoorTie
import Derived.SevenTiedAt

/- Proved: what the lexer's replacer of strings does, as a shadow contract. Conditions: texts of at most 1000000 bytes. -/
namespace Go.Shadow.Lex
open Go Go.RowKit Go.Proofs

theorem getS {l : List UInt8} {j : Nat} (h : j < l.length) : ∃ c, l[j]? = some c := ⟨l[j], by simp [h]⟩
/-- A byte as it is quoted. -/
def qOf (c : UInt8) : List UInt8 := match mJ 3 c.toNat with
  | some n => n
  | none => [c]
def quoteB (s : List UInt8) : List UInt8 := s.flatMap qOf
def isSp (c : UInt8) : Bool := (mJ 3 c.toNat).isSome
theorem mJ3_some {i : Nat} {n : List UInt8} (h : mJ 3 i = some n) : ∃ y, n = [92, y] := by
  simp only [mJ] at h
  split at h
  · injection h with h; exact ⟨_, h.symm⟩
  · split at h
    · injection h with h; exact ⟨_, h.symm⟩
    · split at h
      · injection h with h; exact ⟨_, h.symm⟩
      · cases h
theorem qOf_length (c : UInt8) : (qOf c).length = 1 + (if isSp c then 1 else 0) := by
  unfold qOf isSp
  cases h : mJ 3 c.toNat with
  | none => rfl
  | some n => obtain ⟨y, rfl⟩ := mJ3_some h; rfl
theorem quoteB_length (s : List UInt8) : (quoteB s).length = s.length + s.countP isSp := by
  induction s with
  | nil => rfl
  | cons c s ih =>
    have : quoteB (c :: s) = qOf c ++ quoteB s := rfl
    rw [this, List.length_append, ih, qOf_length, List.countP_cons, List.length_cons]
    omega
theorem quoteB_snoc (s : List UInt8) (c : UInt8) : quoteB (s ++ [c]) = quoteB s ++ qOf c := by simp [quoteB]
theorem isSp_iff (c : UInt8) : isSp c = true ↔ (c = 10 ∨ c = 92 ∨ c = 34) := by
  unfold isSp
  have e1 : c.toNat = 10 ↔ c = 10 := ⟨fun h => UInt8.toNat_inj.1 (by simpa using h), fun h => by rw [h]; rfl⟩
  have e2 : c.toNat = 92 ↔ c = 92 := ⟨fun h => UInt8.toNat_inj.1 (by simpa using h), fun h => by rw [h]; rfl⟩
  have e3 : c.toNat = 34 ↔ c = 34 := ⟨fun h => UInt8.toNat_inj.1 (by simpa using h), fun h => by rw [h]; rfl⟩
  simp only [mJ]
  by_cases h1 : c.toNat = 10
  · simp [h1, e1.1 h1]
  · by_cases h2 : c.toNat = 92
    · simp [h2, e2.1 h2]
    · by_cases h3 : c.toNat = 34
      · simp [h3, e3.1 h3]
      · simp [h1, h2, h3, ← e1, ← e2, ← e3]
theorem quoteB_none {s : List UInt8} (h : s.countP isSp = 0) : quoteB s = s := by
  induction s with
  | nil => rfl
  | cons c s ih =>
    rw [List.countP_cons] at h
    have hc : isSp c = false := by cases hc : isSp c with | false => rfl | true => rw [hc] at h; simp at h
    have : quoteB (c :: s) = qOf c ++ quoteB s := rfl
    rw [this, ih (by omega)]
    unfold isSp at hc
    unfold qOf
    cases hm : mJ 3 c.toNat with
    | none => rfl
    | some n => rw [hm] at hc; cases hc
theorem sp_sum (s : List UInt8) : s.countP isSp = s.count 10 + s.count 92 + s.count 34 := by
  induction s with
  | nil => rfl
  | cons c s ih =>
    rw [List.countP_cons, List.count_cons, List.count_cons, List.count_cons, ih]
    by_cases h1 : c = 10
    · subst h1; simp [(isSp_iff 10).2 (.inl rfl)]; omega
    · by_cases h2 : c = 92
      · subst h2; simp [(isSp_iff 92).2 (.inr (.inl rfl))]; omega
      · by_cases h3 : c = 34
        · subst h3; simp [(isSp_iff 34).2 (.inr (.inr rfl))]; omega
        · have : isSp c = false := by
            cases hc : isSp c with
            | false => rfl
            | true => have := (isSp_iff c).1 hc; simp [h1, h2, h3] at this
          simp [this, h1, h2, h3]

theorem countS_ret (s : List UInt8) (c : UInt8) : SRet Tryz.prog LG 213 [.str s, .int .u8 c.toNat] (.int .i64 (s.count c)) := by
  intro σ w0 γ w xs hI hRL
  obtain ⟨x, y, rfl, hx, hy⟩ := hRL.inv2
  obtain rfl := hx.inv_str
  obtain rfl := hy.inv_int
  refine .inr ⟨_, w, ?_, γ, σ, .refl _ _ _, hI, .int .i64 (s.count c), _, .int _ _, .inl ⟨rfl, rfl, rfl⟩⟩
  rw [run_callFunc_extern Tryz.func213 (by kernel_rfl) (by kernel_rfl) (by kernel_rfl) (e := Extern.BytealgCount.count) (by kernel_rfl), Lib.run_countString]
  simp [Result.andThen, Lib.countByte]
theorem count_ret (s : List UInt8) (c : UInt8) : SRet Tryz.prog LG 211 [.str s, .str [c]] (.int .i64 (s.count c)) := by
  intro σ
  refine code211.call hm (by simp) ?_
  refine Test.no (by simp) ?_
  refine Test.yes (by simp) ?_
  refine Idx.mk' 0 c rfl rfl ?_
  refine CallK.pure (countS_ret s c) ?_
  exact Ret.mk' ⟨rfl, rfl⟩

def TAB (t : Nat) : List V := tabOf (mJ 3) 256 ++ [.slice (.tip t) 1 (strEls (reps 3))]
theorem TAB_none {t : Nat} {c : UInt8} (h : mJ 3 c.toNat = none) : (TAB t)[0 + ((c.toNat : Nat) : Int).toNat * 1]? = some (.slice .nil 0 []) := by
  have hc := c.toNat_lt
  rw [show 0 + ((c.toNat : Nat) : Int).toNat * 1 = c.toNat by simp]
  rw [TAB, tab_get (by omega)]
  simp [cellOf, h]
theorem TAB_some {t : Nat} {c y : UInt8} (h : mJ 3 c.toNat = some [92, y]) : (TAB t)[0 + ((c.toNat : Nat) : Int).toNat * 1]? = some (.slice .foreign 1 (byteEls [92, y])) := by
  have hc := c.toNat_lt
  rw [show 0 + ((c.toNat : Nat) : Int).toNat * 1 = c.toNat by simp]
  rw [TAB, tab_get (by omega)]
  simp [cellOf, h]
theorem TAB_last {t : Nat} : (TAB t)[256]? = some (.slice (.tip t) 1 (strEls (reps 3))) := tab_last
def bytesV (l : List UInt8) : List V := l.map fun b => V.int .u8 b.toNat
theorem bytesV_els (l : List UInt8) : (bytesV l).map ([·]) = byteEls l := by simp [bytesV, byteEls]
theorem bytesV_append (a b : List UInt8) : bytesV (a ++ b) = bytesV a ++ bytesV b := by simp [bytesV]
theorem zeros_flat (n : Nat) : (List.replicate n [V.int .u8 0]).flatten = List.replicate n (V.int .u8 0) := by
  induction n with
  | zero => rfl
  | succ n ih => rw [List.replicate_succ, List.flatten_cons, ih]; rfl
theorem buf_set (q x : List UInt8) (n : Nat) (h : x.length ≤ n) : setL (bytesV q ++ List.replicate n (V.int .u8 0)) q.length (bytesV x) = bytesV (q ++ x) ++ List.replicate (n - x.length) (V.int .u8 0) := by
  have := setL_mid (bytesV q) (List.replicate x.length (V.int .u8 0)) (List.replicate (n - x.length) (V.int .u8 0)) (bytesV x) (by simp [bytesV])
  rw [show (bytesV q).length = q.length by simp [bytesV]] at this
  rw [bytesV_append, ← this, List.append_assoc, List.replicate_append_replicate]
  congr 3
  omega

def cnt (s : List UInt8) : Nat → Nat
  | 0 => 0
  | 1 => s.count 10
  | 2 => s.count 10 + s.count 92
  | _ => s.count 10 + s.count 92 + s.count 34

set_option maxHeartbeats 16000000 in
theorem replace153 {σ : St} {b2 t : Nat} (s : List UInt8) (hs : s.length ≤ 1000000) (hb : σ.box b2 = some (TAB t)) : SCall Tryz.prog LG 209 [.loc b2 0, .str s] σ fun e σ' => e = .ret (.str (quoteB s)) ∧ Over σ σ' := by
  have hql := quoteB_length s
  have hcl : s.countP isSp ≤ s.length := List.countP_le_length
  refine code209.call hm (by simp) ?_
  refine Load.one hb TAB_last ?_
  refine Arith.i64 24 (by decide) (by decide) ?_
  refine Test.split (fun h1 => ?_) (fun h1 => ?_)
  · refine Load.one hb TAB_last ?_
    refine ⟨fun m sl σ' => σ' = σ ∧ ∃ j : Nat, j ≤ 3 ∧ sl = ofL [(0, some (.loc b2 0)), (1, some (.str s)), (5, some (.int .i64 (s.length + cnt s j : Nat))), (6, some (.bool (decide (0 < cnt s j)))), (30, some (.slice (.tip t) 1 (strEls (reps 3)))), (31, some (.int .i64 3)), (32, some (.int .i64 j))] ∧ m = 3 - j, 3, ⟨rfl, 0, by omega, rfl, rfl⟩, ?_⟩
    rintro m sl σ' ⟨rfl, j, hj, rfl, rfl⟩
    have hc1 : s.count 10 ≤ s.length := List.count_le_length
    have hc2 : s.count 92 ≤ s.length := List.count_le_length
    have hc3 : s.count 34 ≤ s.length := List.count_le_length
    obtain rfl | rfl | rfl | rfl : j = 0 ∨ j = 1 ∨ j = 2 ∨ j = 3 := by omega
    · refine Test.yes (by decide) ?_
      refine Sure.mk' (.inl rfl) ?_
      refine IdxE.mk' 0 [.str [10]] rfl rfl ?_
      refine ⟨⟨Nat.le_of_ble_eq_true rfl, ?_⟩⟩
      refine CallK.pure (count_ret s 10) ?_
      have hcj : cnt s 1 = cnt s 0 + s.count 10 := by simp [cnt]
      refine Test.split (fun h2 => ?_) (fun h2 => ?_)
      · refine Idx.mk' 0 10 rfl rfl ?_
        refine Sure.mk' (by decide) ?_
        refine Load.one hb (TAB_some (c := 10) rfl) ?_
        refine Arith.i64 1 rfl (by decide) ?_
        refine Arith.i64 ((s.count 10 : Nat) : Int) (by simp) (by omega) ?_
        refine Arith.i64 ((s.length + cnt s 1 : Nat) : Int) (by simp [cnt] <;> omega) (by simp only [cnt]; omega) ?_
        refine Arith.i64 ((1 : Nat) : Int) (by decide) (by decide) ?_
        exact ⟨_, _, by omega, Forget.refl _, rfl, 1, by omega, by rw [decide_eq_true (show 0 < cnt s 1 by omega)]; rfl, rfl⟩
      · refine Arith.i64 ((1 : Nat) : Int) (by decide) (by decide) ?_
        exact ⟨_, _, by omega, Forget.refl _, rfl, 1, by omega, by rw [hcj, show s.count 10 = 0 by omega]; rfl, rfl⟩
    · refine Test.yes (by decide) ?_
      refine Sure.mk' (.inl rfl) ?_
      refine IdxE.mk' 1 [.str [92]] rfl rfl ?_
      refine ⟨⟨Nat.le_of_ble_eq_true rfl, ?_⟩⟩
      refine CallK.pure (count_ret s 92) ?_
      have hcj : cnt s 2 = cnt s 1 + s.count 92 := by simp [cnt]
      refine Test.split (fun h2 => ?_) (fun h2 => ?_)
      · refine Idx.mk' 0 92 rfl rfl ?_
        refine Sure.mk' (by decide) ?_
        refine Load.one hb (TAB_some (c := 92) rfl) ?_
        refine Arith.i64 1 rfl (by decide) ?_
        refine Arith.i64 ((s.count 92 : Nat) : Int) (by simp) (by omega) ?_
        refine Arith.i64 ((s.length + cnt s 2 : Nat) : Int) (by simp [cnt] <;> omega) (by simp only [cnt]; omega) ?_
        refine Arith.i64 ((2 : Nat) : Int) (by decide) (by decide) ?_
        exact ⟨_, _, by omega, Forget.refl _, rfl, 2, by omega, by rw [decide_eq_true (show 0 < cnt s 2 by omega)]; rfl, rfl⟩
      · refine Arith.i64 ((2 : Nat) : Int) (by decide) (by decide) ?_
        exact ⟨_, _, by omega, Forget.refl _, rfl, 2, by omega, by rw [hcj, show s.count 92 = 0 by omega]; rfl, rfl⟩
    · refine Test.yes (by decide) ?_
      refine Sure.mk' (.inl rfl) ?_
      refine IdxE.mk' 2 [.str [34]] rfl rfl ?_
      refine ⟨⟨Nat.le_of_ble_eq_true rfl, ?_⟩⟩
      refine CallK.pure (count_ret s 34) ?_
      have hcj : cnt s 3 = cnt s 2 + s.count 34 := by simp [cnt]
      refine Test.split (fun h2 => ?_) (fun h2 => ?_)
      · refine Idx.mk' 0 34 rfl rfl ?_
        refine Sure.mk' (by decide) ?_
        refine Load.one hb (TAB_some (c := 34) rfl) ?_
        refine Arith.i64 1 rfl (by decide) ?_
        refine Arith.i64 ((s.count 34 : Nat) : Int) (by simp) (by omega) ?_
        refine Arith.i64 ((s.length + cnt s 3 : Nat) : Int) (by simp [cnt] <;> omega) (by simp only [cnt]; omega) ?_
        refine Arith.i64 ((3 : Nat) : Int) (by decide) (by decide) ?_
        exact ⟨_, _, by omega, Forget.refl _, rfl, 3, by omega, by rw [decide_eq_true (show 0 < cnt s 3 by omega)]; rfl, rfl⟩
      · refine Arith.i64 ((3 : Nat) : Int) (by decide) (by decide) ?_
        exact ⟨_, _, by omega, Forget.refl _, rfl, 3, by omega, by rw [hcj, show s.count 34 = 0 by omega]; rfl, rfl⟩
    · refine Test.no (by decide) ?_
      rw [show cnt s 3 = s.countP isSp from (sp_sum s).symm]
      by_cases h0 : 0 < s.countP isSp
      · rw [decide_eq_true h0]
        refine MkSl.full (s.length + s.countP isSp) rfl (by omega) (by omega) (by omega) ?_
        intro bb hbb
        obtain ⟨o1, g1⟩ := new_box hbb (List.replicate (s.length + s.countP isSp) [V.int .u8 0]).flatten
        generalize σ'.put bb (List.replicate (s.length + s.countP isSp) [V.int .u8 0]).flatten = σ1 at *
        rw [zeros_flat] at g1
        refine ⟨fun m sl σ2 => ∃ i : Nat, i ≤ s.length ∧ sl = ofL [(0, some (.loc b2 0)), (1, some (.str s)), (12, some (.mslice bb 0 (s.length + s.countP isSp) (s.length + s.countP isSp))), (13, some (.int .i64 (quoteB (s.take i)).length)), (14, some (.int .i64 i))] ∧
            Over σ' σ2 ∧ σ2.box bb = some (bytesV (quoteB (s.take i)) ++ List.replicate (s.length + s.countP isSp - (quoteB (s.take i)).length) (V.int .u8 0)) ∧ m = s.length - i, _, ⟨0, by omega, rfl, o1, by simpa [quoteB, bytesV] using g1, rfl⟩, ?_⟩
        rintro m sl σ2 ⟨i, hi, rfl, o2, g2, rfl⟩
        have hb2 := o2.box _ _ hb
        refine Test.split (fun h5 => ?_) (fun h5 => ?_)
        · obtain ⟨c, hc⟩ := getS (l := s) (j := i) (by omega)
          have hcl2 := c.toNat_lt
          have htk : s.take (i + 1) = s.take i ++ [c] := by rw [List.take_add_one, hc]; rfl
          have hq2 : quoteB (s.take (i + 1)) = quoteB (s.take i) ++ qOf c := by rw [htk, quoteB_snoc]
          have hle : (quoteB (s.take (i + 1))).length ≤ s.length + s.countP isSp := by
            rw [quoteB_length]
            have h7 : (s.take (i + 1)).countP isSp ≤ s.countP isSp := (List.take_sublist _ _).countP_le
            have h8 : (s.take (i + 1)).length ≤ s.length := by simp; omega
            omega
          generalize hq : quoteB (s.take i) = q at *
          rw [hq2, List.length_append] at hle
          refine Idx.mk' i c rfl hc ?_
          refine Sure.mk' (by omega) ?_
          cases hm' : mJ 3 c.toNat with
          | none =>
            have hqc : qOf c = [c] := by unfold qOf; rw [hm']
            rw [hqc] at hq2 hle
            simp only [List.length_cons, List.length_nil] at hle
            refine Load.one hb2 (TAB_none hm') ?_
            refine Sure.mk' (by omega) ?_
            refine Sure.mk' rfl ?_
            refine Store.mk' (bytesV (q ++ [c]) ++ List.replicate (s.length + s.countP isSp - (q ++ [c]).length) (V.int .u8 0)) g2 (by simp [bytesV, V.cells]; omega) ?_ (fun σ3 e3 => ?_)
            · rw [show 0 + ((q.length : Nat) : Int).toNat * 1 = q.length by simp]
              have := buf_set q [c] (s.length + s.countP isSp - q.length) (by simp; omega)
              rw [show s.length + s.countP isSp - (q ++ [c]).length = s.length + s.countP isSp - q.length - [c].length by simp; omega]
              exact this
            · have o3 : Over σ' σ3 := by rw [e3]; exact over_put o2 hbb
              have g3 : σ3.box bb = some (bytesV (q ++ [c]) ++ List.replicate (s.length + s.countP isSp - (q ++ [c]).length) (V.int .u8 0)) := by rw [e3]; exact put_box
              refine Arith.i64 (((q ++ [c]).length : Nat) : Int) (by simp) (by simp; omega) ?_
              refine Arith.i64 ((i + 1 : Nat) : Int) (by simp) (by omega) ?_
              exact ⟨_, _, by omega, Forget.refl _, i + 1, by omega, by rw [hq2]; rfl, o3, by rw [hq2]; exact g3, rfl⟩
          | some n =>
            obtain ⟨y, rfl⟩ := mJ3_some hm'
            have hqc : qOf c = [92, y] := by unfold qOf; rw [hm']
            rw [hqc] at hq2 hle
            simp only [List.length_cons, List.length_nil] at hle
            refine Load.one hb2 (TAB_some hm') ?_
            refine Sure.mk' (by omega) ?_
            refine Sure.mk' (by omega) ?_
            refine Load.one hb2 (TAB_some hm') ?_
            refine CopyK.mk' (bytesV (q ++ [92, y]) ++ List.replicate (s.length + s.countP isSp - (q ++ [92, y]).length) (V.int .u8 0)) g2 rfl (by simp [bytesV] <;> omega) (by simp [byteEls] <;> omega) (by simp [byteEls]) ?_ (fun σ3 e3 => ?_)
            · rw [show 0 + ((q.length : Nat) : Int).toNat * 1 = q.length by simp]
              have := buf_set q [92, y] (s.length + s.countP isSp - q.length) (by simp; omega)
              rw [show s.length + s.countP isSp - (q ++ [92, y]).length = s.length + s.countP isSp - q.length - [92, y].length by simp; omega]
              exact this
            · have o3 : Over σ' σ3 := by rw [e3]; exact over_put o2 hbb
              have g3 : σ3.box bb = some (bytesV (q ++ [92, y]) ++ List.replicate (s.length + s.countP isSp - (q ++ [92, y]).length) (V.int .u8 0)) := by rw [e3]; exact put_box
              refine Arith.i64 (((q ++ [92, y]).length : Nat) : Int) (by simp [byteEls]) (by simp; omega) ?_
              refine Arith.i64 ((i + 1 : Nat) : Int) (by simp) (by omega) ?_
              exact ⟨_, _, by omega, Forget.refl _, i + 1, by omega, by rw [hq2]; rfl, o3, by rw [hq2]; exact g3, rfl⟩
        · have hi' : i = s.length := by omega
          subst hi'
          rw [List.take_length, hql, Nat.sub_self, List.replicate_zero, List.append_nil] at g2
          have hbl : (bytesV (quoteB s)).length = s.length + s.countP isSp := by simp [bytesV, hql]
          refine Load.mk' g2 (by omega) ?_
          rw [List.drop_zero, List.take_of_length_le (by omega)]
          show B2S ((bytesV (quoteB s)).map ([·])) _
          rw [bytesV_els]
          refine B2S.mk' ?_
          exact Ret.mk' ⟨rfl, o2⟩
      · rw [decide_eq_false h0]
        exact Ret.mk' ⟨by rw [quoteB_none (by omega)], .refl _⟩
  · refine ⟨fun m sl σ' => σ' = σ ∧ ∃ i : Nat, i ≤ s.length ∧ sl = ofL [(0, some (.loc b2 0)), (1, some (.str s)), (5, some (.int .i64 (s.length + (s.take i).countP isSp : Nat))), (6, some (.bool (decide (0 < (s.take i).countP isSp)))), (10, some (.int .i64 i))] ∧ m = s.length - i, _, ⟨rfl, 0, by omega, rfl, rfl⟩, ?_⟩
    rintro m sl σ' ⟨rfl, i, hi, rfl, rfl⟩
    refine Test.split (fun h5 => ?_) (fun h5 => ?_)
    · obtain ⟨c, hc⟩ := getS (l := s) (j := i) (by omega)
      have hcl2 := c.toNat_lt
      have htk : s.take (i + 1) = s.take i ++ [c] := by rw [List.take_add_one, hc]; rfl
      have hct : (s.take (i + 1)).countP isSp = (s.take i).countP isSp + (if isSp c then 1 else 0) := by rw [htk, List.countP_append, List.countP_singleton]
      have h7 : (s.take i).countP isSp ≤ s.countP isSp := (List.take_sublist _ _).countP_le
      refine Idx.mk' i c rfl hc ?_
      refine Sure.mk' (by omega) ?_
      cases hm' : mJ 3 c.toNat with
      | none =>
        have hsp : isSp c = false := by unfold isSp; rw [hm']; rfl
        rw [hsp] at hct
        refine Load.one hb (TAB_none hm') ?_
        refine Arith.i64 ((i + 1 : Nat) : Int) (by simp) (by omega) ?_
        exact ⟨_, _, by omega, Forget.refl _, rfl, i + 1, by omega, by rw [hct]; rfl, rfl⟩
      | some n =>
        obtain ⟨y, rfl⟩ := mJ3_some hm'
        have hsp : isSp c = true := by unfold isSp; rw [hm']; rfl
        rw [hsp] at hct
        simp only [if_true] at hct
        refine Load.one hb (TAB_some hm') ?_
        refine Sure.mk' (by omega) ?_
        refine Load.one hb (TAB_some hm') ?_
        refine Arith.i64 1 rfl (by decide) ?_
        refine Arith.i64 ((s.length + (s.take (i + 1)).countP isSp : Nat) : Int) (by rw [hct]; simp <;> omega) (by omega) ?_
        refine Arith.i64 ((i + 1 : Nat) : Int) (by simp) (by omega) ?_
        exact ⟨_, _, by omega, Forget.refl _, rfl, i + 1, by omega, by rw [decide_eq_true (show 0 < (s.take (i + 1)).countP isSp by omega)]; rfl, rfl⟩
    · rw [show s.take i = s from List.take_of_length_le (by omega)]
      by_cases h0 : 0 < s.countP isSp
      · rw [decide_eq_true h0]
        refine MkSl.full (s.length + s.countP isSp) rfl (by omega) (by omega) (by omega) ?_
        intro bb hbb
        obtain ⟨o1, g1⟩ := new_box hbb (List.replicate (s.length + s.countP isSp) [V.int .u8 0]).flatten
        generalize σ'.put bb (List.replicate (s.length + s.countP isSp) [V.int .u8 0]).flatten = σ1 at *
        rw [zeros_flat] at g1
        refine ⟨fun m sl σ2 => ∃ i : Nat, i ≤ s.length ∧ sl = ofL [(0, some (.loc b2 0)), (1, some (.str s)), (12, some (.mslice bb 0 (s.length + s.countP isSp) (s.length + s.countP isSp))), (13, some (.int .i64 (quoteB (s.take i)).length)), (14, some (.int .i64 i))] ∧
            Over σ' σ2 ∧ σ2.box bb = some (bytesV (quoteB (s.take i)) ++ List.replicate (s.length + s.countP isSp - (quoteB (s.take i)).length) (V.int .u8 0)) ∧ m = s.length - i, _, ⟨0, by omega, rfl, o1, by simpa [quoteB, bytesV] using g1, rfl⟩, ?_⟩
        rintro m sl σ2 ⟨i, hi, rfl, o2, g2, rfl⟩
        have hb2 := o2.box _ _ hb
        refine Test.split (fun h5 => ?_) (fun h5 => ?_)
        · obtain ⟨c, hc⟩ := getS (l := s) (j := i) (by omega)
          have hcl2 := c.toNat_lt
          have htk : s.take (i + 1) = s.take i ++ [c] := by rw [List.take_add_one, hc]; rfl
          have hq2 : quoteB (s.take (i + 1)) = quoteB (s.take i) ++ qOf c := by rw [htk, quoteB_snoc]
          have hle : (quoteB (s.take (i + 1))).length ≤ s.length + s.countP isSp := by
            rw [quoteB_length]
            have h7 : (s.take (i + 1)).countP isSp ≤ s.countP isSp := (List.take_sublist _ _).countP_le
            have h8 : (s.take (i + 1)).length ≤ s.length := by simp; omega
            omega
          generalize hq : quoteB (s.take i) = q at *
          rw [hq2, List.length_append] at hle
          refine Idx.mk' i c rfl hc ?_
          refine Sure.mk' (by omega) ?_
          cases hm' : mJ 3 c.toNat with
          | none =>
            have hqc : qOf c = [c] := by unfold qOf; rw [hm']
            rw [hqc] at hq2 hle
            simp only [List.length_cons, List.length_nil] at hle
            refine Load.one hb2 (TAB_none hm') ?_
            refine Sure.mk' (by omega) ?_
            refine Sure.mk' rfl ?_
            refine Store.mk' (bytesV (q ++ [c]) ++ List.replicate (s.length + s.countP isSp - (q ++ [c]).length) (V.int .u8 0)) g2 (by simp [bytesV, V.cells]; omega) ?_ (fun σ3 e3 => ?_)
            · rw [show 0 + ((q.length : Nat) : Int).toNat * 1 = q.length by simp]
              have := buf_set q [c] (s.length + s.countP isSp - q.length) (by simp; omega)
              rw [show s.length + s.countP isSp - (q ++ [c]).length = s.length + s.countP isSp - q.length - [c].length by simp; omega]
              exact this
            · have o3 : Over σ' σ3 := by rw [e3]; exact over_put o2 hbb
              have g3 : σ3.box bb = some (bytesV (q ++ [c]) ++ List.replicate (s.length + s.countP isSp - (q ++ [c]).length) (V.int .u8 0)) := by rw [e3]; exact put_box
              refine Arith.i64 (((q ++ [c]).length : Nat) : Int) (by simp) (by simp; omega) ?_
              refine Arith.i64 ((i + 1 : Nat) : Int) (by simp) (by omega) ?_
              exact ⟨_, _, by omega, Forget.refl _, i + 1, by omega, by rw [hq2]; rfl, o3, by rw [hq2]; exact g3, rfl⟩
          | some n =>
            obtain ⟨y, rfl⟩ := mJ3_some hm'
            have hqc : qOf c = [92, y] := by unfold qOf; rw [hm']
            rw [hqc] at hq2 hle
            simp only [List.length_cons, List.length_nil] at hle
            refine Load.one hb2 (TAB_some hm') ?_
            refine Sure.mk' (by omega) ?_
            refine Sure.mk' (by omega) ?_
            refine Load.one hb2 (TAB_some hm') ?_
            refine CopyK.mk' (bytesV (q ++ [92, y]) ++ List.replicate (s.length + s.countP isSp - (q ++ [92, y]).length) (V.int .u8 0)) g2 rfl (by simp [bytesV] <;> omega) (by simp [byteEls] <;> omega) (by simp [byteEls]) ?_ (fun σ3 e3 => ?_)
            · rw [show 0 + ((q.length : Nat) : Int).toNat * 1 = q.length by simp]
              have := buf_set q [92, y] (s.length + s.countP isSp - q.length) (by simp; omega)
              rw [show s.length + s.countP isSp - (q ++ [92, y]).length = s.length + s.countP isSp - q.length - [92, y].length by simp; omega]
              exact this
            · have o3 : Over σ' σ3 := by rw [e3]; exact over_put o2 hbb
              have g3 : σ3.box bb = some (bytesV (q ++ [92, y]) ++ List.replicate (s.length + s.countP isSp - (q ++ [92, y]).length) (V.int .u8 0)) := by rw [e3]; exact put_box
              refine Arith.i64 (((q ++ [92, y]).length : Nat) : Int) (by simp [byteEls]) (by simp; omega) ?_
              refine Arith.i64 ((i + 1 : Nat) : Int) (by simp) (by omega) ?_
              exact ⟨_, _, by omega, Forget.refl _, i + 1, by omega, by rw [hq2]; rfl, o3, by rw [hq2]; exact g3, rfl⟩
        · have hi' : i = s.length := by omega
          subst hi'
          rw [List.take_length, hql, Nat.sub_self, List.replicate_zero, List.append_nil] at g2
          have hbl : (bytesV (quoteB s)).length = s.length + s.countP isSp := by simp [bytesV, hql]
          refine Load.mk' g2 (by omega) ?_
          rw [List.drop_zero, List.take_of_length_le (by omega)]
          show B2S ((bytesV (quoteB s)).map ([·])) _
          rw [bytesV_els]
          refine B2S.mk' ?_
          exact Ret.mk' ⟨rfl, o2⟩
      · rw [decide_eq_false h0]
        exact Ret.mk' ⟨by rw [quoteB_none (by omega)], .refl _⟩

theorem replace_call {σ0 σ : St} {b : Nat} {t : Nat} (s : List UInt8) (hs : s.length ≤ 1000000) (o : Over σ0 σ) (hf : σ0.box b = none) (hb : σ.box b = some [.int .u32 0, .int .i32 0, .int .u32 0, .nilIface, .slice (.tip t) 1 (strEls pairs6)]) :
    SCall Tryz.prog LG 66 [.loc b 0, .str s] σ fun e σ' => e = .ret (.str (quoteB s)) ∧ Over σ0 σ' := by
  refine code66.call hm (by simp) ?_
  refine CallK.mk' (do_call43 o hf hb) ?_
  rintro e σ1 ⟨rfl, b2, t', o1, h2, g2, x0, x1, x, gb⟩
  refine Load.mk' gb (Nat.le_of_ble_eq_true rfl) ?_
  refine CallK.mk' (replace153 s hs g2) ?_
  rintro e σ2 ⟨rfl, o2⟩
  exact Ret.mk' ⟨rfl, over_trans o1 o2⟩
end Go.Shadow.Lex

/- Proved: what the lexer's Text does, as a shadow contract. Conditions: the lists' and texts' sizes, as the theorem says. -/
namespace Go.Shadow.Lex
open Go Go.RowKit Go.Proofs

/-- The word of a token. -/
def wordT (t : Tok) : Option (List UInt8) := if t.kind = 1 ∨ t.kind = 4 then some t.s else if t.kind = 2 then some (Lib.itoa t.n) else if t.kind = 3 then some ([34] ++ quoteB t.s ++ [34]) else none

set_option maxHeartbeats 4000000 in
theorem text_ret (tag : Tag) (ts : List Tok) (h3 : ∀ t ∈ ts, t.s.length ≤ 1000000) (hn : ∀ t ∈ ts, -9223372036854775808 ≤ t.n ∧ t.n ≤ 9223372036854775807) (hl : ts.length ≤ 100000) (hj : (Lib.join (ts.filterMap wordT) [32]).length ≤ 140737488355328) :
    SRet Tryz.prog LG 37 [.slice tag 4 (ts.map tokV)] (.str (Lib.join (ts.filterMap wordT) [32])) := by
  intro σ
  refine code37.call hm (by simp) ?_
  have hlen : (ts.map tokV).length = ts.length := by simp
  refine ⟨fun m sl σ' => ∃ (i : Nat) (ws : List (List UInt8)) (tag' : Tag) (z : Nat), sl = ofL [(3, some (.slice tag' z (strEls ws))), (6, some (.slice tag 4 (ts.map tokV))), (7, some (.int .i64 (ts.map tokV).length)), (8, some (.int .i64 i))] ∧
      Over σ σ' ∧ Mine σ σ' tag' ∧ (tag' = .nil ∨ z = 1) ∧ i ≤ ts.length ∧ ws.length ≤ i ∧ ws ++ (ts.drop i).filterMap wordT = ts.filterMap wordT ∧ m = ts.length - i, _,
      ⟨0, [], .nil, 0, rfl, .refl _, trivial, .inl rfl, by omega, by simp, by simp, rfl⟩, ?_⟩
  rintro m sl σ' ⟨i, ws, tag', z, rfl, ho, hm2, hz, hi, hws, heq, rfl⟩
  have hwl : (strEls ws).length = ws.length := by simp [strEls]
  refine Test.split (fun h => ?_) (fun h => ?_)
  · rw [hlen] at h
    obtain ⟨t, ht⟩ : ∃ t, ts[i]? = some t := ⟨ts[i]'(by omega), by simp [show i < ts.length by omega]⟩
    have htm : t ∈ ts := List.mem_of_getElem? ht
    have hdrop : ts.drop i = t :: ts.drop (i + 1) := by
      obtain ⟨h1, h2⟩ := List.getElem?_eq_some_iff.1 ht
      rw [List.drop_eq_getElem_cons h1, h2]
    have hnext : ∀ (b : Nat) (σ2 : St), Over σ σ2 → ∀ (tag2 : Tag) (z2 : Nat) (ws2 : List (List UInt8)), Mine σ σ2 tag2 → (tag2 = .nil ∨ z2 = 1) → ws2 = ws ++ (wordT t).toList → ∃ m σ3, m < ts.length - i ∧ Forget σ2 σ3 ∧
        ∃ (i' : Nat) (ws' : List (List UInt8)) (tag' : Tag) (z : Nat), ofL [(3, some (.slice tag2 z2 (strEls ws2))), (6, some (.slice tag 4 (ts.map tokV))), (7, some (.int .i64 (ts.map tokV).length)), (8, some (.int .i64 (i + 1 : Nat)))] = ofL [(3, some (.slice tag' z (strEls ws'))), (6, some (.slice tag 4 (ts.map tokV))), (7, some (.int .i64 (ts.map tokV).length)), (8, some (.int .i64 i'))] ∧
      Over σ σ3 ∧ Mine σ σ3 tag' ∧ (tag' = .nil ∨ z = 1) ∧ i' ≤ ts.length ∧ ws'.length ≤ i' ∧ ws' ++ (ts.drop i').filterMap wordT = ts.filterMap wordT ∧ m = ts.length - i' := by
      intro b σ2 ho2 tag2 z2 ws2 hm3 hz3 hw2
      refine ⟨_, _, ?_, Forget.refl _, i + 1, ws2, tag2, z2, rfl, ho2, hm3, hz3, by omega, ?_, ?_, rfl⟩
      · omega
      · rw [hw2]; cases wordT t <;> simp <;> omega
      · rw [hw2, ← heq, hdrop, List.filterMap_cons]; cases wordT t <;> simp
    refine Sure.mk' (.inl rfl) ?_
    refine IdxE.mk' i (tokV t) rfl (by simp [ht]) ?_
    refine ⟨⟨by simp [tokV], ?_⟩⟩
    intro b hb
    refine Sure.mk' rfl ?_
    refine Store.mk' (tokV t) put_box (Nat.le_of_ble_eq_true rfl) rfl (fun σ2 h2 => ?_)
    rw [put_put] at h2
    have hb2 : σ2.box b = some (tokV t) := by rw [h2]; exact put_box
    have ho2 : Over σ σ2 := by
      rw [h2]
      refine over_put ho ?_
      cases hbb : σ.box b with
      | none => rfl
      | some cs => rw [ho.box b cs hbb] at hb; cases hb
    have hm3 : Mine σ σ2 tag' := by rw [h2]; exact hm2
    have happ : ∀ (x : List UInt8) (K : V → St → Prop), (∀ (t' : Nat) (σ4 : St), Over σ σ4 → Mine σ σ4 (.tip t') → K (.slice (.tip t') 1 (strEls (ws ++ [x]))) σ4) → App 1 16 tag' z (strEls ws) 1 [[V.str x]] σ2 K := by
      intro x K hk
      refine App.mk' ho2 hm3 hz rfl (by simp [hwl]; omega) (by simp [hwl]; omega) (by simp) (fun t' σ4 h4 h5 _ _ => ?_)
      have := hk t' σ4 h4 h5
      simpa [strEls] using this
    refine Load.mk' hb2 (by simp [tokV]) ?_
    have hsome : ∀ x, wordT t = some x → ws ++ [x] = ws ++ (wordT t).toList := fun x hx => by rw [hx]; rfl
    refine Test.split (fun h1 => ?_) (fun h1 => ?_)
    · refine Load.mk' hb2 (by simp [tokV]) ?_
      refine happ t.s _ (fun t' σ4 h4 h5 => ?_)
      refine Arith.i64 ((i + 1 : Nat) : Int) (by simp) (by omega) ?_
      exact hnext b σ4 h4 (.tip t') 1 _ h5 (.inr rfl) (hsome _ (by unfold wordT; rw [if_pos (.inl h1)]))
    · refine Test.split (fun h4 => ?_) (fun h4 => ?_)
      · refine Load.mk' hb2 (by simp [tokV]) ?_
        refine happ t.s _ (fun t' σ4 h5 h6 => ?_)
        refine Arith.i64 ((i + 1 : Nat) : Int) (by simp) (by omega) ?_
        exact hnext b σ4 h5 (.tip t') 1 _ h6 (.inr rfl) (hsome _ (by unfold wordT; rw [if_pos (.inr h4)]))
      · refine Test.split (fun h2' => ?_) (fun h2' => ?_)
        · refine Load.mk' hb2 (by simp [tokV]) ?_
          refine CallK.pure (itoa_ret _ (hn t htm)) ?_
          refine happ (Lib.itoa t.n) _ (fun t' σ4 h5 h6 => ?_)
          refine Arith.i64 ((i + 1 : Nat) : Int) (by simp) (by omega) ?_
          exact hnext b σ4 h5 (.tip t') 1 _ h6 (.inr rfl) (hsome _ (by unfold wordT; rw [if_neg (by omega), if_pos h2']))
        · refine Test.split (fun h4' => ?_) (fun h4' => ?_)
          · have h3t := h3 t htm
            have hql : (quoteB t.s).length ≤ 2000000 := by
              have := quoteB_length t.s
              have : t.s.countP isSp ≤ t.s.length := List.countP_le_length
              omega
            refine Sure.mk' rfl ?_
            refine Load.mk' hb2 (by simp [tokV]) ?_
            refine CallK.mk' (newReplacer_call σ2) ?_
            rintro e σ3 ⟨b', t', rfl, o3, hn', g3⟩
            refine Kept1.mk' (fun cs h => o3.box _ cs h) ?_
            refine CallK.mk' (replace_call t.s h3t o3 hn' g3) ?_
            rintro e σ4 ⟨rfl, o4⟩
            refine Sure.mk' (by simp; omega) ?_
            refine Sure.mk' (by simp; omega) ?_
            refine App.mk' (over_trans ho2 o4) (hm3.over o4) hz rfl (by simp [hwl]; omega) (by simp [hwl]; omega) (by simp) (fun t' σ5 h5 h6 _ _ => ?_)
            refine Arith.i64 ((i + 1 : Nat) : Int) (by simp) (by omega) ?_
            have e1 : strEls ws ++ [[V.str ([34] ++ quoteB t.s ++ [34])]] = strEls (ws ++ [[34] ++ quoteB t.s ++ [34]]) := by simp [strEls]
            have := hnext b σ5 h5 (.tip t') 1 _ h6 (.inr rfl) (hsome ([34] ++ quoteB t.s ++ [34]) (by unfold wordT; rw [if_neg (by omega), if_neg h2', if_pos h4']))
            rw [← e1] at this
            exact this
          · refine Arith.i64 ((i + 1 : Nat) : Int) (by simp) (by omega) ?_
            exact hnext b σ2 ho2 tag' z ws hm3 hz (by unfold wordT; rw [if_neg (by omega), if_neg h2', if_neg h4']; simp)
  · rw [hlen] at h
    have hd : ts.drop i = [] := List.drop_eq_nil_of_le (by omega)
    rw [hd] at heq
    simp only [List.filterMap_nil, List.append_nil] at heq
    rw [← heq] at hj ⊢
    refine CallK.mk' (join_call tag' ws [32] (by omega) hj z σ') ?_
    rintro e σ4 ⟨rfl, rfl⟩
    exact Ret.weak (.refl _) ho ⟨rfl, rfl⟩
end Go.Shadow.Lex

/- Proved: what PrintExpr returns. Conditions: sizes, as the theorem says. -/
namespace Go.Shadow.Lex
open Go Go.RowKit Go.Proofs

/-- The text of printed tokens. -/
def prText (ts : List Tok) : List UInt8 := Lib.join (ts.filterMap wordT) [32]
/-- What is printed can be given to Text and to the parser. -/
structure PrOK (ts : List Tok) : Prop where
  ne : ts ≠ []
  str : ∀ t ∈ ts, t.s.length ≤ 1000000
  num : ∀ t ∈ ts, -9223372036854775808 ≤ t.n ∧ t.n ≤ 9223372036854775807
  len : ts.length ≤ 100000
  text : (prText ts).length ≤ 70000
def printR (s : List UInt8) (k : Int) : V := .tup [.str s, .int .i64 k]
/-- What PrintExpr returns. -/
def PrintIs (x : Ex) (v : V) : Prop :=
  ((prE x).2 = true ∧ v = printR [] 1) ∨ ((prE x).2 = false ∧ ∃ y a E, ExprIs (prText (prE x).1) y a E ∧ ((E ≠ 0 ∧ v = printR [] 2) ∨ (E = 0 ∧ v = printR (prText (prE x).1) 0)))

theorem over_kp {σ0 σ σ' : St} {p : Nat} {toks : List Tok} {bad : Bool} (o : Over σ0 σ) (hp : PrI σ0 σ' p toks bad) (k : Kp p σ σ') (f : σ0.box p = none) : Over σ0 σ' :=
  ⟨fun b cs hb => k b cs (by rintro rfl; rw [f] at hb; cases hb) (o.box b cs hb), hp.over.live, hp.over.map⟩

set_option maxHeartbeats 1000000 in
theorem printExpr_call {x : Ex} (hS : exS x) (hl : 8 * exN x ≤ 1000000) (hK : (prE x).2 = false → PrOK (prE x).1) (σ : St) :
    SCall Tryz.prog LG 21 [.agg (exV x)] σ fun e σ' => σ' = σ ∧ ∃ v, e = .ret v ∧ PrintIs x v := by
  have hcall := fun (σ0 σ : St) (p : Nat) (h : PrI σ0 σ p [] false) => exprPr_call hS h (by simp only [List.length_nil]; omega)
  have hP : ∀ v, PrintIs x v = PrintIs x v := fun _ => rfl
  unfold PrintIs at hP ⊢
  clear hP
  generalize prE x = P at hK hcall ⊢
  obtain ⟨ts, bad⟩ := P
  simp only [List.nil_append, Bool.false_or] at hcall hK ⊢
  obtain ⟨op, n, s, kids, aa⟩ := x
  refine code21.call hm (by simp) ?_
  refine ⟨rfl, ?_⟩
  intro b1 f1
  have o1 : Over σ (σ.put b1 (exV (.mk op n s kids aa))) := over_put (.refl _) f1
  have h1 : (σ.put b1 (exV (.mk op n s kids aa))).box b1 = some (exV (.mk op n s kids aa)) := put_box
  refine ⟨rfl, ?_⟩
  intro p hp
  have n1 := box_ne h1 hp
  have fp : σ.box p = none := put_none hp
  have o2 := over_put (cs := [.slice .nil 0 [], .bool false]) o1 fp
  have hpp : ((σ.put b1 (exV (.mk op n s kids aa))).put p [.slice .nil 0 [], .bool false]).box p = some [.slice .nil 0 [], .bool false] := put_box
  have h12 : ((σ.put b1 (exV (.mk op n s kids aa))).put p [.slice .nil 0 [], .bool false]).box b1 = some (exV (.mk op n s kids aa)) := by rw [put_ne n1]; exact h1
  generalize hσ : (σ.put b1 (exV (.mk op n s kids aa))).put p [.slice .nil 0 [], .bool false] = σ2 at o2 hpp h12
  have hgoal : ∀ {G : St → Prop}, G σ2 → G ((σ.put b1 (exV (.mk op n s kids aa))).put p [.slice .nil 0 [], .bool false]) := fun h => by rw [hσ]; exact h
  refine hgoal ?_
  clear hgoal hσ
  have hI : PrI σ σ2 p [] false := ⟨⟨.nil, 0, hpp, True.intro, .inl rfl, .inr rfl⟩, ⟨fun _ _ h => (by cases h), o2.live, o2.map⟩⟩
  refine Load.mk' h12 (by simp [exV]) ?_
  refine CallK.mk' (hcall _ _ _ hI) ?_
  rintro e σ3 ⟨rfl, hI3, k3⟩
  have o3 := over_kp o2 hI3 k3 fp
  obtain ⟨⟨tag, z, hb, hmine, htz, hz⟩, _⟩ := hI3
  refine Load.mk' hb (by simp) ?_
  cases bad with
  | true =>
    exact Ret.weak (r := printR [] 1) (.refl _) (σ' := σ) o3 ⟨rfl, _, rfl, .inl ⟨rfl, rfl⟩⟩
  | false =>
    have K := hK rfl
    refine Load.mk' hb (by simp) ?_
    have hz4 : z = 4 := by
      rcases hz with h | h
      · exact h
      · exact absurd (by simpa using h) K.ne
    subst hz4
    refine CallK.pure (text_ret tag ts K.str K.num K.len (by have := K.text; unfold prText at this; omega)) ?_
    refine CallK.mk' (exprP_call (prText ts) K.text _) ?_
    rintro e σ4 ⟨rfl, y, a, E, hE, rfl⟩
    obtain ⟨op', n', s', kids', aa'⟩ := y
    intro b6 f6
    intro b7 f7
    have o6 := over_put (cs := [.int .i64 0, .int .i64 0, .str [], .slice .nil 0 [], .int .i64 0]) o3 (over_none o3 f6)
    have n67 := box_ne put_box f7
    have o7 := over_put (cs := [.int .i64 0, .int .i64 0]) o6 (over_none o3 (put_none f7))
    refine Sure.mk' rfl ?_
    refine Store.mk' (exV (.mk op' n' s' kids' aa')) (by rw [put_ne n67]; exact put_box) (by simp [exV, V.cells]) rfl (fun σ5 e5 => ?_)
    refine Sure.mk' rfl ?_
    refine Store.mk' [.int .i64 a, .int .i64 E] (by rw [e5, put_ne (Ne.symm n67)]; exact put_box) (by simp [V.cells]) rfl (fun σ6 e6 => ?_)
    have oF : Over σ σ6 := by rw [e6, e5]; exact over_put (over_put o7 (over_none o3 f6)) (over_none o3 (put_none f7))
    refine Load.mk' (by rw [e6]; exact put_box) (by simp) ?_
    refine Test.split (fun hk => ?_) (fun hk => ?_)
    · exact Ret.weak (r := printR [] 2) (.refl _) (σ' := σ) oF ⟨rfl, _, rfl, .inr ⟨rfl, _, _, _, hE, .inl ⟨hk, rfl⟩⟩⟩
    · have hk : E = 0 := Classical.byContradiction fun h => hk h
      exact Ret.weak (r := printR (prText ts) 0) (.refl _) (σ' := σ) oF ⟨rfl, _, rfl, .inr ⟨rfl, _, _, _, hE, .inr ⟨hk, rfl⟩⟩⟩
end Go.Shadow.Lex

/- The sources of the laws' sanity, by the grammar. -/
namespace Go.Shadow.Lex

def nmX (b : UInt8) (a : Int) : Ex := .mk 3 0 [b] [] a
def sanA : List UInt8 := [108, 105, 102, 116, 32, 108, 49, 32, 45, 53, 32, 34, 97, 34, 32, 45, 62, 32, 40, 120, 32, 43, 32, 49, 41, 32, 123, 32, 100, 111, 103, 59, 32, 125]
def foA : Fo := .mk [108, 105, 102, 116] [⟨1, 0, [108, 49], .none, 5⟩, ⟨2, -5, [], .none, 8⟩, ⟨3, 0, [97], .none, 11⟩, ⟨4, 0, [], .none, 15⟩, ⟨5, 0, [], .mk 10 0 [] [nmX 120 19, .mk 1 1 [] [] 23] 19, 18⟩] [.mk [100, 111, 103] [] [] 28] 0
theorem srcA : formsF 60 sanA = some ([foA], 0, 0) := rfl
theorem srcB : exprF 30 [97, 32, 60, 32, 98, 32, 60, 32, 99] = some (.none, 6, 5) := rfl
theorem srcC : exprF 30 [97, 32, 98] = some (.none, 2, 5) := rfl
theorem srcD : exprF 30 [120, 32, 40] = some (.none, 3, 5) := rfl
theorem srcE : formsF 30 [120, 32, 45, 32, 121, 59] = some ([], 4, 5) := rfl
def exF : Ex := .mk 11 0 [] [.mk 11 0 [] [nmX 97 0, nmX 98 4] 0, .mk 7 0 [] [nmX 99 8, .mk 6 0 [] [nmX 100 13] 12] 8] 0
theorem srcF : exprF 30 [97, 32, 45, 32, 98, 32, 45, 32, 99, 32, 42, 32, 45, 100] = some (exF, 0, 0) := rfl
def exG (a : List Int) : Ex := .mk 20 0 [] [.mk 5 0 [] [.mk 12 0 [] [nmX 97 (a.getD 1 0), nmX 98 (a.getD 2 0)] (a.getD 1 0)] (a.getD 0 0), .mk 4 0 [102] [.mk 1 1 [] [] (a.getD 4 0), .mk 1 2 [] [] (a.getD 5 0)] (a.getD 3 0), .mk 12 0 [] [.mk 14 0 [] [nmX 97 (a.getD 6 0), nmX 98 (a.getD 7 0)] (a.getD 6 0), nmX 99 (a.getD 8 0)] (a.getD 6 0)] (a.getD 0 0)
def sanG : List UInt8 := [33, 97, 32, 61, 61, 32, 98, 32, 63, 32, 102, 40, 49, 44, 32, 50, 41, 32, 58, 32, 40, 97, 32, 60, 32, 98, 41, 32, 61, 61, 32, 99]
theorem srcG : exprF 60 sanG = some (exG [0, 1, 6, 10, 12, 15, 21, 25, 31], 0, 0) := rfl
def sanH : List UInt8 := [33, 32, 97, 32, 61, 61, 32, 98, 32, 63, 32, 102, 32, 40, 32, 49, 32, 44, 32, 50, 32, 41, 32, 58, 32, 40, 32, 97, 32, 60, 32, 98, 32, 41, 32, 61, 61, 32, 99]
theorem srcH : exprF 60 sanH = some (exG [0, 2, 7, 11, 15, 19, 27, 31, 38], 0, 0) := rfl
theorem prG : prText (prE (exG [0, 1, 6, 10, 12, 15, 21, 25, 31])).1 = sanH := by decide +kernel
theorem prG2 : (prE (exG [0, 1, 6, 10, 12, 15, 21, 25, 31])).2 = false := rfl
end Go.Shadow.Lex

/- Proved: the laws' function sanity returns true. Conditions: none. -/
namespace Go.Shadow.Lex
open Go Go.RowKit Go.Proofs

theorem formsC {src : List UInt8} {x : List Fo} {a E : Int} (f : Nat) (h : formsF f src = some (x, a, E)) (hs : src.length ≤ 70000) : SRet Tryz.prog LG 8 [.str src] (formsR x a E) := by
  intro σ
  refine (formsP_call src hs σ).mono ?_
  rintro e σ' ⟨rfl, y, b, F, hy, rfl⟩
  obtain ⟨rfl, rfl, rfl⟩ := hy.det (formsF_is h)
  exact ⟨rfl, rfl⟩
theorem exprC {src : List UInt8} {x : Ex} {a E : Int} (f : Nat) (h : exprF f src = some (x, a, E)) (hs : src.length ≤ 70000) : SRet Tryz.prog LG 9 [.str src] (exprR x a E) := by
  intro σ
  refine (exprP_call src hs σ).mono ?_
  rintro e σ' ⟨rfl, y, b, F, hy, rfl⟩
  obtain ⟨rfl, rfl, rfl⟩ := hy.det (exprF_is h)
  exact ⟨rfl, rfl⟩
def gG : Ex := exG [0, 1, 6, 10, 12, 15, 21, 25, 31]
theorem prOKG : PrOK (prE gG).1 := ⟨by unfold gG; decide, by unfold gG; decide, by unfold gG; decide, by unfold gG; decide, by unfold gG; rw [prG]; decide⟩
theorem printG : SRet Tryz.prog LG 21 [.agg (exV gG)] (printR sanH 0) := by
  intro σ
  refine (printExpr_call (x := gG) (by simp [gG, exG, nmX, exS, exSs]) (by simp [gG, exG, nmX, exN, exNs]) (fun _ => prOKG) σ).mono ?_
  rintro e σ' ⟨rfl, v, rfl, ⟨h, _⟩ | ⟨_, y, a, E, hy, hv⟩⟩
  · exact absurd h (by unfold gG; rw [prG2]; simp)
  · unfold gG at hy hv
    rw [prG] at hy hv
    obtain ⟨rfl, rfl, rfl⟩ := hy.det (exprF_is srcH)
    rcases hv with ⟨h, _⟩ | ⟨_, rfl⟩
    · exact absurd rfl h
    · exact ⟨rfl, rfl⟩

set_option maxHeartbeats 4000000 in
set_option maxRecDepth 100000 in
theorem sanity_ret : SRet Tryz.prog LG 7 [] (.bool true) := by
  intro σ0
  refine code7.call hm (by simp) ?_
  refine CallK.pure (formsC 60 srcA (by decide)) ?_
  intro b1 fb1
  refine Sure.mk' rfl ?_
  refine Store.mk' ([.int .i64 0, .int .i64 0]) put_box (Nat.le_of_ble_eq_true rfl) rfl (fun σ1 e => ?_)
  rw [put_put] at e; obtain ⟨ob1, gb1⟩ := new_box fb1 ([.int .i64 0, .int .i64 0]); rw [← e] at ob1 gb1; clear e fb1
  refine Load.mk' gb1 (Nat.le_of_ble_eq_true rfl) ?_
  refine BTest.no rfl ?_
  first | refine BTest.no rfl ?_ | refine Test.no (by decide) ?_
  refine Sure.mk' (.inl rfl) ?_
  refine IdxE.mk' 0 _ rfl rfl ?_
  refine ⟨⟨Nat.le_of_ble_eq_true rfl, ?_⟩⟩
  first | refine BTest.no rfl ?_ | refine Test.no (by decide) ?_
  refine Sure.mk' (.inl rfl) ?_
  refine IdxE.mk' 0 _ rfl rfl ?_
  refine ⟨⟨Nat.le_of_ble_eq_true rfl, ?_⟩⟩
  first | refine BTest.no rfl ?_ | refine Test.no (by decide) ?_
  refine Sure.mk' (.inl rfl) ?_
  refine IdxE.mk' 0 _ rfl rfl ?_
  refine ⟨⟨Nat.le_of_ble_eq_true rfl, ?_⟩⟩
  first | refine BTest.no rfl ?_ | refine Test.no (by decide) ?_
  refine Sure.mk' (.inl rfl) ?_
  refine IdxE.mk' 0 _ rfl rfl ?_
  refine ⟨⟨Nat.le_of_ble_eq_true rfl, ?_⟩⟩
  refine Sure.mk' (.inl rfl) ?_
  refine IdxE.mk' 1 _ rfl rfl ?_
  refine ⟨⟨Nat.le_of_ble_eq_true rfl, ?_⟩⟩
  first | refine BTest.no rfl ?_ | refine Test.no (by decide) ?_
  refine Sure.mk' (.inl rfl) ?_
  refine IdxE.mk' 0 _ rfl rfl ?_
  refine ⟨⟨Nat.le_of_ble_eq_true rfl, ?_⟩⟩
  refine Sure.mk' (.inl rfl) ?_
  refine IdxE.mk' 3 _ rfl rfl ?_
  refine ⟨⟨Nat.le_of_ble_eq_true rfl, ?_⟩⟩
  first | refine BTest.no rfl ?_ | refine Test.no (by decide) ?_
  refine Sure.mk' (.inl rfl) ?_
  refine IdxE.mk' 0 _ rfl rfl ?_
  refine ⟨⟨Nat.le_of_ble_eq_true rfl, ?_⟩⟩
  refine Sure.mk' (.inl rfl) ?_
  refine IdxE.mk' 4 _ rfl rfl ?_
  refine ⟨⟨Nat.le_of_ble_eq_true rfl, ?_⟩⟩
  first | refine BTest.no rfl ?_ | refine Test.no (by decide) ?_
  refine CallK.pure (name22_ret [97]) ?_
  intro b5 fb5
  refine Sure.mk' rfl ?_
  refine Store.mk' (exV (nmX 97 0)) put_box (Nat.le_of_ble_eq_true rfl) rfl (fun σ2 e => ?_)
  rw [put_put] at e; obtain ⟨ob5, gb5⟩ := new_box fb5 (exV (nmX 97 0)); rw [← e] at ob5 gb5; clear e fb5
  have gb1 := ob5.box _ _ gb1
  refine CallK.pure (name22_ret [98]) ?_
  intro b6 fb6
  refine Sure.mk' rfl ?_
  refine Store.mk' (exV (nmX 98 0)) put_box (Nat.le_of_ble_eq_true rfl) rfl (fun σ3 e => ?_)
  rw [put_put] at e; obtain ⟨ob6, gb6⟩ := new_box fb6 (exV (nmX 98 0)); rw [← e] at ob6 gb6; clear e fb6
  have gb1 := ob6.box _ _ gb1
  have gb5 := ob6.box _ _ gb5
  refine CallK.pure (name22_ret [99]) ?_
  intro b7 fb7
  refine Sure.mk' rfl ?_
  refine Store.mk' (exV (nmX 99 0)) put_box (Nat.le_of_ble_eq_true rfl) rfl (fun σ4 e => ?_)
  rw [put_put] at e; obtain ⟨ob7, gb7⟩ := new_box fb7 (exV (nmX 99 0)); rw [← e] at ob7 gb7; clear e fb7
  have gb1 := ob7.box _ _ gb1
  have gb5 := ob7.box _ _ gb5
  have gb6 := ob7.box _ _ gb6
  refine CallK.pure (exprC 30 srcF (by decide)) ?_
  intro b8 fb8
  intro b9 fb9
  have nb8 := box_ne put_box fb9
  refine Sure.mk' rfl ?_
  refine Store.mk' (exV exF) (by rw [put_ne nb8]; exact put_box) (Nat.le_of_ble_eq_true rfl) rfl (fun σx ex => ?_)
  refine Sure.mk' rfl ?_
  refine Store.mk' ([.int .i64 0, .int .i64 0]) (by rw [ex, put_ne (Ne.symm nb8)]; exact put_box) (Nat.le_of_ble_eq_true rfl) rfl (fun σ5 e => ?_)
  have ob8 : Over σ4 σ5 := by rw [e, ex]; exact over_put (over_put (over_put (over_put (.refl _) fb8) (put_none fb9)) fb8) (put_none fb9)
  have gb8 : (σ5).box b8 = some (exV exF) := by rw [e, put_ne nb8, ex]; exact put_box
  have gb9 : (σ5).box b9 = some ([.int .i64 0, .int .i64 0]) := by rw [e]; exact put_box
  clear e ex fb8 fb9
  have gb1 := ob8.box _ _ gb1
  have gb5 := ob8.box _ _ gb5
  have gb6 := ob8.box _ _ gb6
  have gb7 := ob8.box _ _ gb7
  refine CallK.pure (exprC 60 srcG (by decide)) ?_
  intro b10 fb10
  intro b11 fb11
  have nb10 := box_ne put_box fb11
  refine Sure.mk' rfl ?_
  refine Store.mk' (exV gG) (by rw [put_ne nb10]; exact put_box) (Nat.le_of_ble_eq_true rfl) rfl (fun σx ex => ?_)
  refine Sure.mk' rfl ?_
  refine Store.mk' ([.int .i64 0, .int .i64 0]) (by rw [ex, put_ne (Ne.symm nb10)]; exact put_box) (Nat.le_of_ble_eq_true rfl) rfl (fun σ6 e => ?_)
  have ob10 : Over σ5 σ6 := by rw [e, ex]; exact over_put (over_put (over_put (over_put (.refl _) fb10) (put_none fb11)) fb10) (put_none fb11)
  have gb10 : (σ6).box b10 = some (exV gG) := by rw [e, put_ne nb10, ex]; exact put_box
  have gb11 : (σ6).box b11 = some ([.int .i64 0, .int .i64 0]) := by rw [e]; exact put_box
  clear e ex fb10 fb11
  have gb1 := ob10.box _ _ gb1
  have gb5 := ob10.box _ _ gb5
  have gb6 := ob10.box _ _ gb6
  have gb7 := ob10.box _ _ gb7
  have gb8 := ob10.box _ _ gb8
  have gb9 := ob10.box _ _ gb9
  refine CallK.pure (name22_ret [100]) ?_
  intro b12 fb12
  refine Sure.mk' rfl ?_
  refine Store.mk' ([.int .i64 6, .int .i64 0, .str [], .slice .full 5 [exV (nmX 100 0)], .int .i64 0]) put_box (Nat.le_of_ble_eq_true rfl) rfl (fun σ7 e => ?_)
  rw [put_put] at e; obtain ⟨ob12, gb12⟩ := new_box fb12 ([.int .i64 6, .int .i64 0, .str [], .slice .full 5 [exV (nmX 100 0)], .int .i64 0]); rw [← e] at ob12 gb12; clear e fb12
  have gb1 := ob12.box _ _ gb1
  have gb5 := ob12.box _ _ gb5
  have gb6 := ob12.box _ _ gb6
  have gb7 := ob12.box _ _ gb7
  have gb8 := ob12.box _ _ gb8
  have gb9 := ob12.box _ _ gb9
  have gb10 := ob12.box _ _ gb10
  have gb11 := ob12.box _ _ gb11
  refine Load.mk' gb5 (Nat.le_of_ble_eq_true rfl) ?_
  refine Load.mk' gb6 (Nat.le_of_ble_eq_true rfl) ?_
  refine CallK.pure (node23_ret 12 (nmX 97 0) (nmX 98 0)) ?_
  intro b13 fb13
  refine Sure.mk' rfl ?_
  refine Store.mk' ([.int .i64 5, .int .i64 0, .str [], .slice .full 5 [exV (.mk 12 0 [] [nmX 97 0, nmX 98 0] 0)], .int .i64 0]) put_box (Nat.le_of_ble_eq_true rfl) rfl (fun σ8 e => ?_)
  rw [put_put] at e; obtain ⟨ob13, gb13⟩ := new_box fb13 ([.int .i64 5, .int .i64 0, .str [], .slice .full 5 [exV (.mk 12 0 [] [nmX 97 0, nmX 98 0] 0)], .int .i64 0]); rw [← e] at ob13 gb13; clear e fb13
  have gb1 := ob13.box _ _ gb1
  have gb5 := ob13.box _ _ gb5
  have gb6 := ob13.box _ _ gb6
  have gb7 := ob13.box _ _ gb7
  have gb8 := ob13.box _ _ gb8
  have gb9 := ob13.box _ _ gb9
  have gb10 := ob13.box _ _ gb10
  have gb11 := ob13.box _ _ gb11
  have gb12 := ob13.box _ _ gb12
  intro b14 fb14
  refine Sure.mk' rfl ?_
  refine Store.mk' ([.int .i64 4, .int .i64 0, .str [102], .slice .full 5 [[.int .i64 1, .int .i64 1, .str [], .slice .nil 0 [], .int .i64 0], [.int .i64 1, .int .i64 2, .str [], .slice .nil 0 [], .int .i64 0]], .int .i64 0]) put_box (Nat.le_of_ble_eq_true rfl) rfl (fun σ9 e => ?_)
  rw [put_put] at e; obtain ⟨ob14, gb14⟩ := new_box fb14 ([.int .i64 4, .int .i64 0, .str [102], .slice .full 5 [[.int .i64 1, .int .i64 1, .str [], .slice .nil 0 [], .int .i64 0], [.int .i64 1, .int .i64 2, .str [], .slice .nil 0 [], .int .i64 0]], .int .i64 0]); rw [← e] at ob14 gb14; clear e fb14
  have gb1 := ob14.box _ _ gb1
  have gb5 := ob14.box _ _ gb5
  have gb6 := ob14.box _ _ gb6
  have gb7 := ob14.box _ _ gb7
  have gb8 := ob14.box _ _ gb8
  have gb9 := ob14.box _ _ gb9
  have gb10 := ob14.box _ _ gb10
  have gb11 := ob14.box _ _ gb11
  have gb12 := ob14.box _ _ gb12
  have gb13 := ob14.box _ _ gb13
  refine Load.mk' gb9 (Nat.le_of_ble_eq_true rfl) ?_
  first | refine BTest.no rfl ?_ | refine Test.no (by decide) ?_
  refine Load.mk' gb11 (Nat.le_of_ble_eq_true rfl) ?_
  first | refine BTest.no rfl ?_ | refine Test.no (by decide) ?_
  refine Sure.mk' rfl ?_
  refine Load.mk' gb8 (Nat.le_of_ble_eq_true rfl) ?_
  refine Load.mk' gb5 (Nat.le_of_ble_eq_true rfl) ?_
  refine Load.mk' gb6 (Nat.le_of_ble_eq_true rfl) ?_
  refine Sure.mk' rfl ?_
  refine Load.mk' gb7 (Nat.le_of_ble_eq_true rfl) ?_
  refine Sure.mk' rfl ?_
  refine Load.mk' gb12 (Nat.le_of_ble_eq_true rfl) ?_
  refine CallK.pure (node23_ret 11 (nmX 97 0) (nmX 98 0)) ?_
  refine Kept1.mk' (fun cs h => h) ?_
  refine Kept1.mk' (fun cs h => h) ?_
  refine Kept1.mk' (fun cs h => h) ?_
  refine CallK.pure (fun σ => SCall.weak3 (.refl _) (.refl _) (WeakL.agg (weak_exL (kids := [nmX 100 0]) (.cons (wx_refl (nmX 100 0)) .nil) (.inl rfl))) (node23_ret 7 (nmX 99 0) (.mk 6 0 [] [nmX 100 0] 0) σ)) ?_
  refine Kept1.mk' (fun cs h => h) ?_
  refine CallK.pure (node23_ret 11 _ _) ?_
  refine Kept1.mk' (fun cs h => h) ?_
  refine CallK.pure (show SRet Tryz.prog LG 15 [.agg (exV exF), .agg (exV (.mk 11 0 [] [.mk 11 0 [] [nmX 97 0, nmX 98 0] 0, .mk 7 0 [] [nmX 99 0, .mk 6 0 [] [nmX 100 0] 0] 0] 0))] (.bool true) from sameExpr_ret 1000000 _ _ (by decide) (Nat.le_refl _)) ?_
  refine Sure.mk' rfl ?_
  refine Load.mk' gb10 (Nat.le_of_ble_eq_true rfl) ?_
  refine Sure.mk' rfl ?_
  refine Load.mk' gb13 (Nat.le_of_ble_eq_true rfl) ?_
  refine Sure.mk' rfl ?_
  refine Load.mk' gb14 (Nat.le_of_ble_eq_true rfl) ?_
  refine Load.mk' gb5 (Nat.le_of_ble_eq_true rfl) ?_
  refine Load.mk' gb6 (Nat.le_of_ble_eq_true rfl) ?_
  refine Sure.mk' rfl ?_
  refine Load.mk' gb7 (Nat.le_of_ble_eq_true rfl) ?_
  refine CallK.pure (node23_ret 14 (nmX 97 0) (nmX 98 0)) ?_
  refine Kept1.mk' (fun cs h => h) ?_
  refine Kept1.mk' (fun cs h => h) ?_
  refine Kept1.mk' (fun cs h => h) ?_
  refine Kept1.mk' (fun cs h => h) ?_
  refine CallK.pure (node23_ret 12 _ (nmX 99 0)) ?_
  refine Kept1.mk' (fun cs h => h) ?_
  refine Kept1.mk' (fun cs h => h) ?_
  refine Kept1.mk' (fun cs h => h) ?_
  refine CallK.pure (show SRet Tryz.prog LG 15 [.agg (exV gG), .agg _] (.bool true) from sameExprW (wx_refl gG) (weak_exL (op := 20) (n := 0) (s := []) (a := 0) (kids := [.mk 5 0 [] [.mk 12 0 [] [nmX 97 0, nmX 98 0] 0] 0, .mk 4 0 [102] [.mk 1 1 [] [] 0, .mk 1 2 [] [] 0] 0, .mk 12 0 [] [.mk 14 0 [] [nmX 97 0, nmX 98 0] 0, nmX 99 0] 0]) (.cons (weak_exL (.cons (wx_refl _) .nil) (.inl rfl)) (.cons (weak_exL (.cons (weak_exL .nil (.inr rfl)) (.cons (weak_exL .nil (.inr rfl)) .nil)) (.inl rfl)) (.cons (wx_refl _) .nil))) (.inl rfl)) (by unfold gG; decide)) ?_
  refine Load.mk' gb10 (Nat.le_of_ble_eq_true rfl) ?_
  refine CallK.pure printG ?_
  refine CallK.pure (exprC 30 srcB (by decide)) ?_
  intro b17 fb17
  intro b18 fb18
  have nb17 := box_ne put_box fb18
  refine Sure.mk' rfl ?_
  refine Store.mk' (exV .none) (by rw [put_ne nb17]; exact put_box) (Nat.le_of_ble_eq_true rfl) rfl (fun σx ex => ?_)
  refine Sure.mk' rfl ?_
  refine Store.mk' ([.int .i64 6, .int .i64 5]) (by rw [ex, put_ne (Ne.symm nb17)]; exact put_box) (Nat.le_of_ble_eq_true rfl) rfl (fun σ10 e => ?_)
  have ob17 : Over σ9 σ10 := by rw [e, ex]; exact over_put (over_put (over_put (over_put (.refl _) fb17) (put_none fb18)) fb17) (put_none fb18)
  have gb17 : (σ10).box b17 = some (exV .none) := by rw [e, put_ne nb17, ex]; exact put_box
  have gb18 : (σ10).box b18 = some ([.int .i64 6, .int .i64 5]) := by rw [e]; exact put_box
  clear e ex fb17 fb18
  have gb1 := ob17.box _ _ gb1
  have gb5 := ob17.box _ _ gb5
  have gb6 := ob17.box _ _ gb6
  have gb7 := ob17.box _ _ gb7
  have gb8 := ob17.box _ _ gb8
  have gb9 := ob17.box _ _ gb9
  have gb10 := ob17.box _ _ gb10
  have gb11 := ob17.box _ _ gb11
  have gb12 := ob17.box _ _ gb12
  have gb13 := ob17.box _ _ gb13
  have gb14 := ob17.box _ _ gb14
  refine CallK.pure (exprC 30 srcC (by decide)) ?_
  intro b19 fb19
  intro b20 fb20
  have nb19 := box_ne put_box fb20
  refine Sure.mk' rfl ?_
  refine Store.mk' (exV .none) (by rw [put_ne nb19]; exact put_box) (Nat.le_of_ble_eq_true rfl) rfl (fun σx ex => ?_)
  refine Sure.mk' rfl ?_
  refine Store.mk' ([.int .i64 2, .int .i64 5]) (by rw [ex, put_ne (Ne.symm nb19)]; exact put_box) (Nat.le_of_ble_eq_true rfl) rfl (fun σ11 e => ?_)
  have ob19 : Over σ10 σ11 := by rw [e, ex]; exact over_put (over_put (over_put (over_put (.refl _) fb19) (put_none fb20)) fb19) (put_none fb20)
  have gb19 : (σ11).box b19 = some (exV .none) := by rw [e, put_ne nb19, ex]; exact put_box
  have gb20 : (σ11).box b20 = some ([.int .i64 2, .int .i64 5]) := by rw [e]; exact put_box
  clear e ex fb19 fb20
  have gb1 := ob19.box _ _ gb1
  have gb5 := ob19.box _ _ gb5
  have gb6 := ob19.box _ _ gb6
  have gb7 := ob19.box _ _ gb7
  have gb8 := ob19.box _ _ gb8
  have gb9 := ob19.box _ _ gb9
  have gb10 := ob19.box _ _ gb10
  have gb11 := ob19.box _ _ gb11
  have gb12 := ob19.box _ _ gb12
  have gb13 := ob19.box _ _ gb13
  have gb14 := ob19.box _ _ gb14
  have gb17 := ob19.box _ _ gb17
  have gb18 := ob19.box _ _ gb18
  refine CallK.pure (exprC 30 srcD (by decide)) ?_
  intro b21 fb21
  intro b22 fb22
  have nb21 := box_ne put_box fb22
  refine Sure.mk' rfl ?_
  refine Store.mk' (exV .none) (by rw [put_ne nb21]; exact put_box) (Nat.le_of_ble_eq_true rfl) rfl (fun σx ex => ?_)
  refine Sure.mk' rfl ?_
  refine Store.mk' ([.int .i64 3, .int .i64 5]) (by rw [ex, put_ne (Ne.symm nb21)]; exact put_box) (Nat.le_of_ble_eq_true rfl) rfl (fun σ12 e => ?_)
  have ob21 : Over σ11 σ12 := by rw [e, ex]; exact over_put (over_put (over_put (over_put (.refl _) fb21) (put_none fb22)) fb21) (put_none fb22)
  have gb21 : (σ12).box b21 = some (exV .none) := by rw [e, put_ne nb21, ex]; exact put_box
  have gb22 : (σ12).box b22 = some ([.int .i64 3, .int .i64 5]) := by rw [e]; exact put_box
  clear e ex fb21 fb22
  have gb1 := ob21.box _ _ gb1
  have gb5 := ob21.box _ _ gb5
  have gb6 := ob21.box _ _ gb6
  have gb7 := ob21.box _ _ gb7
  have gb8 := ob21.box _ _ gb8
  have gb9 := ob21.box _ _ gb9
  have gb10 := ob21.box _ _ gb10
  have gb11 := ob21.box _ _ gb11
  have gb12 := ob21.box _ _ gb12
  have gb13 := ob21.box _ _ gb13
  have gb14 := ob21.box _ _ gb14
  have gb17 := ob21.box _ _ gb17
  have gb18 := ob21.box _ _ gb18
  have gb19 := ob21.box _ _ gb19
  have gb20 := ob21.box _ _ gb20
  refine CallK.pure (formsC 30 srcE (by decide)) ?_
  intro b24 fb24
  refine Sure.mk' rfl ?_
  refine Store.mk' ([.int .i64 4, .int .i64 5]) put_box (Nat.le_of_ble_eq_true rfl) rfl (fun σ13 e => ?_)
  rw [put_put] at e; obtain ⟨ob24, gb24⟩ := new_box fb24 ([.int .i64 4, .int .i64 5]); rw [← e] at ob24 gb24; clear e fb24
  have gb1 := ob24.box _ _ gb1
  have gb5 := ob24.box _ _ gb5
  have gb6 := ob24.box _ _ gb6
  have gb7 := ob24.box _ _ gb7
  have gb8 := ob24.box _ _ gb8
  have gb9 := ob24.box _ _ gb9
  have gb10 := ob24.box _ _ gb10
  have gb11 := ob24.box _ _ gb11
  have gb12 := ob24.box _ _ gb12
  have gb13 := ob24.box _ _ gb13
  have gb14 := ob24.box _ _ gb14
  have gb17 := ob24.box _ _ gb17
  have gb18 := ob24.box _ _ gb18
  have gb19 := ob24.box _ _ gb19
  have gb20 := ob24.box _ _ gb20
  have gb21 := ob24.box _ _ gb21
  have gb22 := ob24.box _ _ gb22
  first | refine BTest.yes rfl ?_ | refine Test.yes rfl ?_ | refine Test.yes (by decide) ?_
  first | refine BTest.yes rfl ?_ | refine Test.yes rfl ?_ | refine Test.yes (by decide) ?_
  refine Load.mk' gb18 (Nat.le_of_ble_eq_true rfl) ?_
  first | refine BTest.yes rfl ?_ | refine Test.yes rfl ?_ | refine Test.yes (by decide) ?_
  refine Load.mk' gb20 (Nat.le_of_ble_eq_true rfl) ?_
  first | refine BTest.yes rfl ?_ | refine Test.yes rfl ?_ | refine Test.yes (by decide) ?_
  refine Load.mk' gb22 (Nat.le_of_ble_eq_true rfl) ?_
  first | refine BTest.yes rfl ?_ | refine Test.yes rfl ?_ | refine Test.yes (by decide) ?_
  refine Load.mk' gb24 (Nat.le_of_ble_eq_true rfl) ?_
  first | refine BTest.yes rfl ?_ | refine Test.yes rfl ?_ | refine Test.yes (by decide) ?_
  refine CallK.pure (show SRet Tryz.prog LG 20 [.slice .foreign 4 ([foA].map foV), .slice .foreign 4 ([foA].map foV)] (.bool true) from same_ret 1000000 [foA] [foA] _ _ (by decide) (Nat.le_refl _)) ?_
  refine Load.mk' gb5 (Nat.le_of_ble_eq_true rfl) ?_
  refine Load.mk' gb6 (Nat.le_of_ble_eq_true rfl) ?_
  refine CallK.pure (show SRet Tryz.prog LG 15 [.agg (exV (nmX 97 0)), .agg (exV (nmX 98 0))] (.bool false) from sameExpr_ret 1000000 _ _ (by decide) (Nat.le_refl _)) ?_
  exact Ret.weak (.refl _) (over_tr (over_tr (over_tr (over_tr (over_tr (over_tr (over_tr (over_tr (over_tr (over_tr (over_tr (over_tr (ob1) ob5) ob6) ob7) ob8) ob10) ob12) ob13) ob14) ob17) ob19) ob21) ob24) ⟨rfl, rfl⟩
end Go.Shadow.Lex

/- How large the results of the parser are. -/
namespace Go.Shadow.Lex

theorem exNs_snoc : ∀ (l : List Ex) (e : Ex), exNs (l ++ [e]) = exNs l + exN e
  | [], e => by simp [exNs]
  | x :: l, e => by simp [exNs, exNs_snoc l e]; omega
theorem arNs_snoc : ∀ (l : List Ar) (e : Ar), arNs (l ++ [e]) = arNs l + 1 + exN e.e
  | [], e => by simp [arNs]
  | x :: l, e => by simp [arNs, arNs_snoc l e]; omega
theorem foNs_snoc : ∀ (l : List Fo) (e : Fo), foNs (l ++ [e]) = foNs l + foN e
  | [], e => by simp [foNs]
  | x :: l, e => by simp [foNs, foNs_snoc l e]; omega
theorem isS_tail {s : List UInt8} {l : List Tok} (h : isS s l = true) : l.tail.length + 1 = l.length := by
  cases l with
  | nil => cases h
  | cons t r => simp
theorem hd_tail {l : List Tok} (h : (hd l).kind ≠ 0) : l.tail.length + 1 = l.length := by
  cases l with
  | nil => exact absurd rfl h
  | cons t r => simp
theorem opOf_tail {l : List Tok} {x : Int × Nat} (h : opOf l = some x) : l.tail.length + 1 = l.length := by
  cases l with
  | nil => cases (show (none : Option (Int × Nat)) = some x from h)
  | cons t r => simp
def baseE : NT → Nat
  | .more _ e => exN e
  | .args _ _ kids => exNs kids
  | _ => 0
theorem PE.size {nt : NT} {d : Int} {l : List Tok} {x : Res} (h : PE nt d l x) : ∀ {e r}, x = .ok e r → exN e + r.length ≤ baseE nt + l.length := by
  have htl : ∀ l : List Tok, l.tail.length ≤ l.length := fun l => by simp
  induction h with
  | expr_one h h1 h2 ih => intro e r he; injection he with e1 e2; subst e1; subst e2; simpa [baseE] using ih rfl
  | if_ok h h1 h2 h3 h4 h5 ih1 ih3 ih5 =>
    intro e r he; injection he with e1 e2; subst e1; subst e2
    have := ih1 rfl; have := ih3 rfl; have := ih5 rfl
    have := isS_tail h2; have := isS_tail h4
    simp only [exN, exNs, baseE] at *; omega
  | lvl7 h ih => intro e r he; simpa [baseE] using ih he
  | lvl3 h h1 ih => intro e r he; simpa [baseE] using ih he
  | bang_ok h h1 h2 ih =>
    intro e r he; injection he with e1 e2; subst e1; subst e2
    have := ih rfl; have := isS_tail h
    simp only [exN, exNs, baseE] at *; omega
  | lvl_ok h h1 h2 ih1 ih2 =>
    intro e r he
    have := ih1 rfl; have := ih2 he
    simp only [exN, exNs, baseE] at *; omega
  | more_end h => intro e r he; injection he with e1 e2; subst e1; subst e2; simp [baseE]
  | more_last h h1 ih =>
    intro e r he; injection he with e1 e2; subst e1; subst e2
    have := ih rfl; have := opOf_tail h
    simp only [exN, exNs, baseE] at *; omega
  | more_go hn h h1 h2 ih1 ih2 =>
    intro e r he
    have := ih1 rfl; have := ih2 he; have := opOf_tail h
    simp only [exN, exNs, baseE] at *; omega
  | neg_no h h1 ih => intro e r he; simpa [baseE] using ih he
  | neg_ok h h1 h2 ih =>
    intro e r he; injection he with e1 e2; subst e1; subst e2
    have := ih rfl; have := isS_tail h
    simp only [exN, exNs, baseE] at *; omega
  | atom_num h => intro e r he; injection he with e1 e2; subst e1; subst e2; have := hd_tail (show _ ≠ 0 from by rw [h]; decide); simp only [exN, exNs, baseE]; omega
  | atom_text h => intro e r he; injection he with e1 e2; subst e1; subst e2; have := hd_tail (show _ ≠ 0 from by rw [h]; decide); simp only [exN, exNs, baseE]; omega
  | atom_name h h1 => intro e r he; injection he with e1 e2; subst e1; subst e2; have := hd_tail (show _ ≠ 0 from by rw [h]; decide); simp only [exN, exNs, baseE]; omega
  | @atom_call d l x h h1 h2 ih =>
    intro e r he
    have := ih he; have := htl l; have := htl l.tail
    simp only [exNs, baseE] at *; omega
  | @paren_ok d l e r h h1 h2 ih =>
    intro e' r' he; injection he with e1 e2; subst e1; subst e2
    have := ih rfl; have := isS_tail h; have := htl r
    simp only [baseE] at *; omega
  | args_end h => intro e r he; injection he with e1 e2; subst e1; subst e2; have := isS_tail h; simp only [exN, baseE]; omega
  | @args_go s a kids d l e r x h h1 h2 h3 h4 ih3 ih4 =>
    intro e' r' he
    have := ih3 rfl; have := ih4 he; have := htl l
    have hA : (argL kids l).length ≤ l.length := by unfold argL; split <;> simp
    simp only [baseE, exNs_snoc] at *; omega
  | _ => intro e r he; cases he
theorem PA.size {l : List Tok} {b : Ar} {r : List Tok} (h : PA l (.ok b r)) : 1 + exN b.e + 3 * r.length ≤ 3 * l.length := by
  have htl : ∀ l : List Tok, l.tail.length ≤ l.length := fun l => by simp
  cases h with
  | tok h =>
    have := hd_tail (show (hd l).kind ≠ 0 from by omega)
    simp only [Ex.none, exN, exNs]; omega
  | neg_ok h h1 =>
    have := isS_tail h; have := htl l.tail
    simp only [Ex.none, exN, exNs]; omega
  | arrow h =>
    have := isS_tail h
    simp only [Ex.none, exN, exNs]; omega
  | paren_ok h h1 h2 =>
    have := h1.size rfl; have := isS_tail h; have := isS_tail h2
    simp only [baseE] at *; omega
def baseF : NF → Nat
  | .form => 0
  | .args _ _ u => 1 + arNs u
  | .body _ _ u b => 1 + arNs u + foNs b
theorem PF.size {nt : NF} {d n : Int} {l : List Tok} {x : ResF} (h : PF nt d n l x) : ∀ {g m r}, x = .ok g m r → foN g + 3 * r.length ≤ baseF nt + 3 * l.length := by
  induction h with
  | form_go h h1 h2 ih =>
    intro g m r e
    have := ih e; have := hd_tail (show _ ≠ 0 from by rw [h]; decide)
    simp only [baseF, arNs] at *; omega
  | args_end h => intro g m r e; injection e with e1 e2 e3; subst e1; subst e3; have := isS_tail h; simp only [baseF, foN, foNs]; omega
  | args_body h h1 ih =>
    intro g m r e
    have := ih e; have := isS_tail h
    simp only [baseF, foNs] at *; omega
  | args_go h h1 h2 h3 h4 h5 ih =>
    intro g m r e
    have := ih e; have := h4.size
    simp only [baseF, arNs_snoc] at *; omega
  | body_end h => intro g m r e; injection e with e1 e2 e3; subst e1; subst e3; have := isS_tail h; simp only [baseF, foN]; omega
  | body_go h h1 h2 ih1 ih2 =>
    intro g m r e
    have := ih1 rfl; have := ih2 e
    simp only [baseF, foNs_snoc] at *; omega
  | _ => intro g m r e; cases e
theorem PL.size {n : Int} {out : List Fo} {l : List Tok} {x : ResL} (h : PL n out l x) : ∀ {o}, x = .ok o → foNs o ≤ foNs out + 3 * l.length := by
  induction h with
  | done h => intro o e; injection e with e; subst e; omega
  | err => intro o e; cases e
  | go h h1 h2 ih =>
    intro o e
    have := ih e; have := h1.size rfl
    simp only [baseF, foNs_snoc] at *; omega
theorem ExprIs.size {src : List UInt8} {x : Ex} {a E : Int} (h : ExprIs src x a E) : exN x ≤ src.length + 1 := by
  cases h with
  | ok h h1 h2 => have := h1.size rfl; have := (lex_ended h).2; simp only [baseE] at *; omega
  | _ => simp [Ex.none, exN, exNs]
theorem FormsIs.size {src : List UInt8} {x : List Fo} {a E : Int} (h : FormsIs src x a E) : foNs x ≤ 3 * src.length + 3 := by
  cases h with
  | ok h h1 => have := h1.size rfl; have := (lex_ended h).2; simp only [foNs] at *; omega
  | _ => simp [foNs]
end Go.Shadow.Lex

/- The specification's small functions: signs, beginnings, levels, first errors, as shadow contracts. Conditions: as each theorem says. -/
namespace Go.Shadow.Lex
open Go Go.RowKit Go.Proofs

/-- Tokens as the specification is given them. -/
abbrev TS (ts : List Tok) : V := .slice .foreign 4 (ts.map tokV)
end Go.Shadow.Lex

/- The specification's readers of expressions, as shadow contracts. Conditions: as each theorem says. -/
namespace Go.Shadow.Lex
open Go Go.RowKit Go.Proofs

/-- What is got: an expression, the index behind it, an error. -/
def gotV (x : Ex) (tq E : Int) : List V := exV x ++ [.int .i64 tq, .int .i64 E]
def GotP (nt : NT) (d : Int) (ts : List Tok) (k : Nat) (σ : St) (e : SEnd) (σ' : St) : Prop := σ' = σ ∧ ∃ (x : Ex) (tq : Nat) (E : Int), e = .ret (.agg (gotV x tq E)) ∧ tq < ts.length ∧ k ≤ tq ∧
  ((E = 0 ∧ k < tq ∧ PE nt d (ts.drop k) (.ok x (ts.drop tq))) ∨ (E ≠ 0 ∧ x = .none ∧ PE nt d (ts.drop k) (.err E (ts.drop tq))))

/-- Readers of smaller rank. -/
structure GotTo (ts : List Tok) (m : Nat) : Prop where
  expr : ∀ (σ : St) (k : Nat) (d : Int), k < ts.length → 0 ≤ d → d ≤ 31 → (ts.length - k) * 40 + 20 ≤ m → SCall Tryz.prog LG 31 [TS ts, .int .i64 k, .int .i64 d] σ (GotP .expr d ts k σ)
  lvl : ∀ (σ : St) (k n : Nat) (d : Int), k < ts.length → 0 ≤ d → d ≤ 30 → 1 ≤ n → n ≤ 7 → (ts.length - k) * 40 + 2 * (9 - n) ≤ m → SCall Tryz.prog LG 59 [TS ts, .int .i64 k, .int .i64 n, .int .i64 d] σ (GotP (.lvl n) d ts k σ)
  bang : ∀ (σ : St) (k : Nat) (d : Int), k < ts.length → 0 ≤ d → d ≤ 30 → (ts.length - k) * 40 + 11 ≤ m → SCall Tryz.prog LG 85 [TS ts, .int .i64 k, .int .i64 d] σ (GotP (.lvl 3) d ts k σ)
  neg : ∀ (σ : St) (k : Nat) (d : Int), k < ts.length → 0 ≤ d → d ≤ 30 → (ts.length - k) * 40 + 3 ≤ m → SCall Tryz.prog LG 84 [TS ts, .int .i64 k, .int .i64 d] σ (GotP .neg d ts k σ)
  atom : ∀ (σ : St) (k : Nat) (d : Int), k < ts.length → 0 ≤ d → d ≤ 30 → isS [45] (ts.drop k) = false → (ts.length - k) * 40 + 2 ≤ m → SCall Tryz.prog LG 104 [TS ts, .int .i64 k, .int .i64 d] σ (GotP .atom d ts k σ)
  args : ∀ (σ : St) (k : Nat) (d : Int), k < ts.length → 0 ≤ d → d ≤ 30 → (hd (ts.drop k)).kind = 1 → isS [40] (ts.drop (k + 1)) = true → (ts.length - k) * 40 + 1 ≤ m → SCall Tryz.prog LG 117 [TS ts, .int .i64 k, .int .i64 d] σ (GotP .atom d ts k σ)

section
variable {ts : List Tok} (he : Ended ts) (hlen : ts.length ≤ 1000000) {m : Nat} (ih : ∀ k, k < m → GotTo ts k)
include he hlen ih

end

end Go.Shadow.Lex

/- The specification's readers of arguments and forms, as shadow contracts. Conditions: as each theorem says. -/
namespace Go.Shadow.Lex
open Go Go.RowKit Go.Proofs

def Ar.none : Ar := ⟨0, 0, [], .none, 0⟩
/-! ### forms -/
def Fo.none : Fo := .mk [] [] [] 0
def gfoV (g : Fo) (tq n E : Int) : List V := foV g ++ [.int .i64 tq, .int .i64 n, .int .i64 E]
def FormP (d n : Int) (ts : List Tok) (k : Nat) (σ : St) (e : SEnd) (σ' : St) : Prop := σ' = σ ∧ ∃ (g : Fo) (tq : Nat) (n' E : Int), e = .ret (.agg (gfoV g tq n' E)) ∧ tq < ts.length ∧ k ≤ tq ∧
  ((E = 0 ∧ k < tq ∧ 0 ≤ n' ∧ n' ≤ 2000 ∧ PF .form d n (ts.drop k) (.ok g n' (ts.drop tq))) ∨ (E ≠ 0 ∧ g = .none ∧ n' = 0 ∧ PF .form d n (ts.drop k) (.err E (ts.drop tq))))
def FormsR (ts : List Tok) (m : Nat) : Prop := ∀ (σ : St) (k : Nat) (d n : Int), k < ts.length → 0 ≤ d → d ≤ 31 → 0 ≤ n → n ≤ 2000 → ts.length - k ≤ m → SCall Tryz.prog LG 30 [TS ts, .int .i64 k, .int .i64 d, .int .i64 n] σ (FormP d n ts k σ)

section
variable {ts : List Tok} (he : Ended ts) (hlen : ts.length ≤ 1000000) {m : Nat} (ih : ∀ k, k < m → FormsR ts k)
include he hlen ih

end

end Go.Shadow.Lex

/- The functions of the lexer's specification, as shadow contracts: letter, digit, Blank, pair, name, number. No condition but the sources' lengths. -/
namespace Go.Shadow.Lex
open Go Go.RowKit Go.Proofs

end Go.Shadow.Lex

/- The specification's 'number', 'text' and 'Sign', as shadow contracts. No condition but the sources' lengths. -/
namespace Go.Shadow.Lex
open Go Go.RowKit Go.Proofs

end Go.Shadow.Lex

/- The specification's text, Sign and token, as shadow contracts. Conditions: sources of at most 70000 bytes. -/
namespace Go.Shadow.Lex
open Go Go.RowKit Go.Proofs

end Go.Shadow.Lex

/- The specification's Tokens, and the law LexerReadsAsSpecified, as shadow contracts. Conditions: sources of at most 70000 bytes; the law's: none. -/
namespace Go.Shadow.Lex
open Go Go.RowKit Go.Proofs

end Go.Shadow.Lex

/- Proved: the specification's Expr and Forms return what the grammar says of the source. Conditions: sources of at most 70000 bytes. -/
namespace Go.Shadow.Lex
open Go Go.RowKit Go.Proofs

end Go.Shadow.Lex

/- Proved: law 3 (ParseMatchesSpec) as a contract. Conditions: none but the source's own length in memory. -/
namespace Go.Shadow.Lex
open Go Go.RowKit Go.Proofs

end Go.Shadow.Lex

/- Pure laws of the lexer: sources joined, blanks put in, a source cut off at its first problem. -/
namespace Go.Shadow.Lex

theorem stops_lf (w : List UInt8) : Stops (10 :: w) := .inr ⟨_, _, rfl, by decide⟩
theorem skip_lf {a w : List UInt8} {k : Nat} (hk : k ≤ a.length) (h : skipTo a k = a.length) : skipTo (a ++ 10 :: w) k = skipTo (a ++ 10 :: w) (a.length + 1) := by
  have h1 : skipTo (a ++ 10 :: w) (a.length + 1) = a.length + 1 + sk false w := by
    rw [skip_shift a (10 :: w) 1]
    simp [skipTo]; omega
  rw [h1]
  simp only [skipTo] at h ⊢
  rw [drop_app hk, sk_lf _ _ (by simp only [List.length_drop]; omega)]
  simp only [List.length_drop]; omega
theorem pre_cons (a : List UInt8) (b : List UInt8) : a ++ 10 :: b = (a ++ [10]) ++ b := by simp
theorem joins_ok {a b : List UInt8} {ts : List Tok} (hl : a.length + b.length < 65536) (h : lex a = .inr ts) : ∃ ts', ts = ts' ++ [⟨5, a.length, [], 0⟩] ∧ lex (a ++ 10 :: b) = addAll ts' (shJ (a.length + 1) (lex b)) := by
  rw [lex_J (by omega)] at h
  have hne : 0 < ts.length := List.length_pos_iff.2 fun e => by subst e; exact J_ne h
  obtain ⟨k, t, hr, ht, hk, hat, hrest, hlast, _⟩ := J_ok _ 0 ts (Nat.le_refl _) (by omega) h (ts.length - 1) (by omega)
  obtain ⟨h1, h2⟩ := hlast (by omega)
  refine ⟨_, h1, ?_⟩
  rw [lex_J (by simp; omega), lex_J (l := b) (by omega)]
  rw [← List.append_nil a] at hr
  rw [(hr.tail (stops_lf b) hk).J]
  congr 1
  have := J_shift (a ++ [10]) b 0
  rw [← pre_cons] at this
  simp only [List.length_append, List.length_cons, List.length_nil, Nat.zero_add, Nat.add_zero] at this
  rw [← this]
  unfold J
  rw [skip_lf hk h2]
/-- What is skipped whole. -/
def Gap (bl : List UInt8) : Prop := (∀ v, sk false (bl ++ v) = bl.length + sk false v) ∧ ∃ c r, bl = c :: r ∧ (isBlank c = true ∨ c.toNat = 35)
theorem Gap.J {bl : List UInt8} (h : Gap bl) (v : List UInt8) : J (bl ++ v) 0 = shJ bl.length (J v 0) := by
  rw [← J_shift]
  unfold Lex.J
  congr 1
  rw [skip_shift]
  simp only [skipTo, List.drop_zero, h.1]; omega
end Go.Shadow.Lex

/- The grammar: a shift of all offsets; what follows does not matter; counts. -/
namespace Go.Shadow.Lex

/-! ### rests -/
def restE : Res → List Tok
  | .ok _ r => r
  | .err _ r => r
theorem ended_kind1 {l : List Tok} (h : Ended l) {k : Int} (hk : (hd l).kind = k) (h5 : k ≠ 5) : Ended l.tail := (h.tail (by rw [hk]; exact h5)).1
theorem ended_opOf {l : List Tok} (h : Ended l) {x : Int × Nat} (ho : opOf l = some x) : Ended l.tail := by
  obtain ⟨s, _, hs⟩ := of_opOf ho
  exact (h.tail_sign hs).1
theorem ended_argL {l : List Tok} (h : Ended l) {kids : List Ex} (hc : kids ≠ [] → isS [44] l = true) : Ended (argL kids l) := by
  unfold argL
  split
  · exact h
  · rename_i hk; exact (h.tail_sign (hc hk)).1
theorem argL_suf (kids : List Ex) (l : List Tok) : argL kids l <:+ l := by
  unfold argL; split
  · exact List.suffix_refl _
  · exact List.tail_suffix _
/-- The rest is an end of the tokens; it has the end token. -/
theorem PE.rest {nt : NT} {d : Int} {l : List Tok} {x : Res} (h : PE nt d l x) : restE x <:+ l ∧ (Ended l → Ended (restE x)) := by
  have tl : ∀ l : List Tok, l.tail <:+ l := List.tail_suffix
  induction h with
  | expr_first => exact ⟨List.suffix_refl _, id⟩
  | expr_err h h1 ih => exact ih
  | expr_one h h1 h2 ih => exact ih
  | if_err1 h h1 h2 h3 ih1 ih3 => exact ⟨ih3.1.trans ((tl _).trans ih1.1), fun e => ih3.2 ((ih1.2 e).tail_sign h2).1⟩
  | if_colon h h1 h2 h3 h4 ih1 ih3 => exact ⟨ih3.1.trans ((tl _).trans ih1.1), fun e => ih3.2 ((ih1.2 e).tail_sign h2).1⟩
  | if_err2 h h1 h2 h3 h4 h5 ih1 ih3 ih5 => exact ⟨ih5.1.trans ((tl _).trans (ih3.1.trans ((tl _).trans ih1.1))), fun e => ih5.2 ((ih3.2 ((ih1.2 e).tail_sign h2).1).tail_sign h4).1⟩
  | if_ok h h1 h2 h3 h4 h5 ih1 ih3 ih5 => exact ⟨ih5.1.trans ((tl _).trans (ih3.1.trans ((tl _).trans ih1.1))), fun e => ih5.2 ((ih3.2 ((ih1.2 e).tail_sign h2).1).tail_sign h4).1⟩
  | lvl7 h ih => exact ih
  | lvl3 h h1 ih => exact ih
  | bang_first h h1 => exact ⟨tl _, fun e => (e.tail_sign h).1⟩
  | bang_err h h1 h2 ih => exact ⟨ih.1.trans (tl _), fun e => ih.2 (e.tail_sign h).1⟩
  | bang_ok h h1 h2 ih => exact ⟨ih.1.trans (tl _), fun e => ih.2 (e.tail_sign h).1⟩
  | lvl_err h h1 ih => exact ih
  | lvl_ok h h1 h2 ih1 ih2 => exact ⟨ih2.1.trans ih1.1, fun e => ih2.2 (ih1.2 e)⟩
  | more_end h => exact ⟨List.suffix_refl _, id⟩
  | more_err h h1 ih => exact ⟨ih.1.trans (tl _), fun e => ih.2 (ended_opOf e h)⟩
  | @more_last e0 d l op b r h h1 ih => exact ⟨ih.1.trans (tl _), fun e => ih.2 (ended_opOf e h)⟩
  | more_go hn h h1 h2 ih1 ih2 => exact ⟨ih2.1.trans (ih1.1.trans (tl _)), fun e => ih2.2 (ih1.2 (ended_opOf e h))⟩
  | neg_no h h1 ih => exact ih
  | neg_first h h1 => exact ⟨tl _, fun e => (e.tail_sign h).1⟩
  | neg_err h h1 h2 ih => exact ⟨ih.1.trans (tl _), fun e => ih.2 (e.tail_sign h).1⟩
  | neg_ok h h1 h2 ih => exact ⟨ih.1.trans (tl _), fun e => ih.2 (e.tail_sign h).1⟩
  | atom_bad h => exact ⟨List.suffix_refl _, id⟩
  | atom_num h => exact ⟨tl _, fun e => ended_kind1 e h (by decide)⟩
  | atom_text h => exact ⟨tl _, fun e => ended_kind1 e h (by decide)⟩
  | atom_name h h1 => exact ⟨tl _, fun e => ended_kind1 e h (by decide)⟩
  | atom_call h h1 h2 ih => exact ⟨ih.1.trans ((tl _).trans (tl _)), fun e => ih.2 ((ended_kind1 e h (by decide)).tail_sign h1).1⟩
  | paren_err h h1 ih => exact ⟨ih.1.trans (tl _), fun e => ih.2 (e.tail_sign h).1⟩
  | paren_bad h h1 h2 ih => exact ⟨ih.1.trans (tl _), fun e => ih.2 (e.tail_sign h).1⟩
  | paren_ok h h1 h2 ih => exact ⟨(tl _).trans (ih.1.trans (tl _)), fun e => ((ih.2 (e.tail_sign h).1).tail_sign h2).1⟩
  | args_end h => exact ⟨tl _, fun e => (e.tail_sign h).1⟩
  | args_comma h h1 h2 => exact ⟨List.suffix_refl _, id⟩
  | args_full h h1 h2 => exact ⟨argL_suf _ _, fun e => ended_argL e h1⟩
  | args_err h h1 h2 h3 ih => exact ⟨ih.1.trans (argL_suf _ _), fun e => ih.2 (ended_argL e h1)⟩
  | args_go h h1 h2 h3 h4 ih3 ih4 => exact ⟨ih4.1.trans (ih3.1.trans (argL_suf _ _)), fun e => ih4.2 (ih3.2 (ended_argL e h1))⟩
def restA : ResA → List Tok
  | .ok _ r => r
  | .err _ r => r
theorem PA.rest {l : List Tok} {x : ResA} (h : PA l x) : restA x <:+ l ∧ (Ended l → Ended (restA x)) := by
  have tl : ∀ l : List Tok, l.tail <:+ l := List.tail_suffix
  cases h with
  | tok h => exact ⟨tl _, fun e => (e.tail (by omega)).1⟩
  | neg_bad h h1 => exact ⟨tl _, fun e => (e.tail_sign h).1⟩
  | neg_ok h h1 => exact ⟨(tl _).trans (tl _), fun e => ended_kind1 (e.tail_sign h).1 h1 (by decide)⟩
  | arrow h => exact ⟨tl _, fun e => (e.tail_sign h).1⟩
  | paren_err h h1 => have := h1.rest; exact ⟨this.1.trans (tl _), fun e => this.2 (e.tail_sign h).1⟩
  | paren_bad h h1 h2 => have := h1.rest; exact ⟨this.1.trans (tl _), fun e => this.2 (e.tail_sign h).1⟩
  | paren_ok h h1 h2 => have := h1.rest; exact ⟨(tl _).trans (this.1.trans (tl _)), fun e => ((this.2 (e.tail_sign h).1).tail_sign h2).1⟩
def restF : ResF → List Tok
  | .ok _ _ r => r
  | .err _ r => r
theorem PF.rest {nt : NF} {d n : Int} {l : List Tok} {x : ResF} (h : PF nt d n l x) : restF x <:+ l ∧ (Ended l → Ended (restF x)) := by
  have tl : ∀ l : List Tok, l.tail <:+ l := List.tail_suffix
  induction h with
  | form_bad h => exact ⟨List.suffix_refl _, id⟩
  | form_limit h h1 => exact ⟨List.suffix_refl _, id⟩
  | form_go h h1 h2 ih => exact ⟨ih.1.trans (tl _), fun e => ih.2 (ended_kind1 e h (by decide))⟩
  | args_end h => exact ⟨tl _, fun e => (e.tail_sign h).1⟩
  | args_body h h1 ih => exact ⟨ih.1.trans (tl _), fun e => ih.2 (e.tail_sign h).1⟩
  | args_bad h h1 h2 h3 => exact ⟨List.suffix_refl _, id⟩
  | args_limit h h1 h2 h3 => exact ⟨List.suffix_refl _, id⟩
  | args_err h h1 h2 h3 h4 => exact h4.rest
  | args_go h h1 h2 h3 h4 h5 ih => have := h4.rest; exact ⟨ih.1.trans this.1, fun e => ih.2 (this.2 e)⟩
  | body_end h => exact ⟨tl _, fun e => (e.tail_sign h).1⟩
  | body_err h h1 ih => exact ih
  | body_go h h1 h2 ih1 ih2 => exact ⟨ih2.1.trans ih1.1, fun e => ih2.2 (ih1.2 e)⟩
theorem PL.rest {n : Int} {out : List Fo} {l : List Tok} {x : ResL} (h : PL n out l x) : ∀ {E r}, x = .err E r → r <:+ l ∧ (Ended l → Ended r) := by
  induction h with
  | done => intro E r e; cases e
  | err h h1 => intro E r e; injection e with e1 e2; subst e2; exact h1.rest
  | go h h1 h2 ih =>
    intro E r e
    have a1 := h1.rest
    have a2 := ih e
    exact ⟨a2.1.trans a1.1, fun e => a2.2 (a1.2 e)⟩

/-! ### a shift of all offsets -/
mutual
def shE (n : Int) : Ex → Ex
  | .mk op m s kids a => .mk op m s (shEs n kids) (a + n)
def shEs (n : Int) : List Ex → List Ex
  | [] => []
  | e :: r => shE n e :: shEs n r
end
theorem shEs_map (n : Int) : ∀ l : List Ex, shEs n l = l.map (shE n)
  | [] => rfl
  | e :: r => by simp [shEs, shEs_map n r]
theorem shE_off (n : Int) (e : Ex) : (shE n e).off = e.off + n := by cases e; rfl
theorem sh_isS (n : Nat) (s : List UInt8) (l : List Tok) : isS s (l.map (shTok n)) = isS s l := by cases l <;> rfl
theorem sh_begins (n : Nat) (l : List Tok) : begins (l.map (shTok n)) = begins l := by
  cases l with
  | nil => rfl
  | cons t r => simp [begins, shTok, isS]
theorem sh_first (n : Nat) (l : List Tok) (d : Int) (no : Bool) : first (l.map (shTok n)) d no = first l d no := by
  unfold first; rw [sh_begins, sh_isS]
theorem sh_opOf (n : Nat) (l : List Tok) : opOf (l.map (shTok n)) = opOf l := by
  unfold opOf; simp only [sh_isS]
theorem sh_kind (n : Nat) (l : List Tok) : (hd (l.map (shTok n))).kind = (hd l).kind ∧ (hd (l.map (shTok n))).s = (hd l).s ∧ (hd (l.map (shTok n))).n = (hd l).n := by cases l <;> exact ⟨rfl, rfl, rfl⟩
theorem sh_at (n : Nat) {l : List Tok} (h : l ≠ []) : (hd (l.map (shTok n))).at_ = (hd l).at_ + n := by
  cases l with
  | nil => exact absurd rfl h
  | cons t r => rfl
theorem ne_isS {s : List UInt8} {l : List Tok} (h : isS s l = true) : l ≠ [] := by rintro rfl; cases h
theorem ne_kind {l : List Tok} {k : Int} (h : (hd l).kind = k) (h0 : k ≠ 0) : l ≠ [] := by rintro rfl; exact h0 h.symm
def shNT (n : Nat) : NT → NT
  | .more k e => .more k (shE n e)
  | .args s a kids => .args s (a + n) (shEs n kids)
  | x => x
def shRes (n : Nat) : Res → Res
  | .ok e r => .ok (shE n e) (r.map (shTok n))
  | .err E r => .err E (r.map (shTok n))
theorem sh_argL (n : Nat) (kids : List Ex) (l : List Tok) : argL (shEs n kids) (l.map (shTok n)) = (argL kids l).map (shTok n) := by
  unfold argL
  cases kids with
  | nil => rfl
  | cons k r => simp [shEs]
theorem shEs_nil (n : Int) (kids : List Ex) : shEs n kids = [] ↔ kids = [] := by cases kids <;> simp [shEs]
theorem shEs_snoc (n : Int) (kids : List Ex) (e : Ex) : shEs n (kids ++ [e]) = shEs n kids ++ [shE n e] := by simp [shEs_map]
theorem PE.shift (n : Nat) {nt : NT} {d : Int} {l : List Tok} {x : Res} (h : PE nt d l x) : PE (shNT n nt) d (l.map (shTok n)) (shRes n x) := by
  induction h with
  | expr_first h => exact .expr_first (by rw [sh_first]; exact h)
  | expr_err h h1 ih => exact .expr_err (by rw [sh_first]; exact h) ih
  | expr_one h h1 h2 ih => exact .expr_one (by rw [sh_first]; exact h) ih (by rw [sh_isS]; exact h2)
  | if_err1 h h1 h2 h3 ih1 ih3 => exact .if_err1 (by rw [sh_first]; exact h) ih1 (by rw [sh_isS]; exact h2) (by rw [← List.map_tail]; exact ih3)
  | if_colon h h1 h2 h3 h4 ih1 ih3 => exact .if_colon (by rw [sh_first]; exact h) ih1 (by rw [sh_isS]; exact h2) (by rw [← List.map_tail]; exact ih3) (by rw [sh_isS]; exact h4)
  | if_err2 h h1 h2 h3 h4 h5 ih1 ih3 ih5 => exact .if_err2 (by rw [sh_first]; exact h) ih1 (by rw [sh_isS]; exact h2) (by rw [← List.map_tail]; exact ih3) (by rw [sh_isS]; exact h4) (by rw [← List.map_tail]; exact ih5)
  | @if_ok d l e r a r2 b r3 h h1 h2 h3 h4 h5 ih1 ih3 ih5 =>
    have := PE.if_ok (by rw [sh_first]; exact h) ih1 (by rw [sh_isS]; exact h2) (by rw [← List.map_tail]; exact ih3) (by rw [sh_isS]; exact h4) (by rw [← List.map_tail]; exact ih5)
    simpa [shNT, shRes, shE, shEs, shE_off] using this
  | lvl7 h ih => exact .lvl7 ih
  | lvl3 h h1 ih => exact .lvl3 (by rw [sh_isS]; exact h) ih
  | bang_first h h1 =>
    have := PE.bang_first (l := List.map (shTok n) _) (by rw [sh_isS]; exact h) (by rw [← List.map_tail, sh_first]; exact h1)
    rw [← List.map_tail] at this; exact this
  | bang_err h h1 h2 ih => exact .bang_err (by rw [sh_isS]; exact h) (by rw [← List.map_tail, sh_first]; exact h1) (by rw [← List.map_tail]; exact ih)
  | bang_ok h h1 h2 ih =>
    have := PE.bang_ok (l := List.map (shTok n) _) (by rw [sh_isS]; exact h) (by rw [← List.map_tail, sh_first]; exact h1) (by rw [← List.map_tail]; exact ih)
    rw [sh_at n (ne_isS h)] at this; exact this
  | lvl_err h h1 ih => exact .lvl_err h ih
  | lvl_ok h h1 h2 ih1 ih2 => exact .lvl_ok h ih1 ih2
  | more_end h => exact .more_end (by rw [sh_opOf]; exact h)
  | more_err h h1 ih => exact .more_err (by rw [sh_opOf]; exact h) (by rw [← List.map_tail]; exact ih)
  | @more_last e0 d l op b r h h1 ih =>
    have := PE.more_last (e := shE n e0) (l := List.map (shTok n) l) (by rw [sh_opOf]; exact h) (by rw [← List.map_tail]; exact ih)
    simpa [shNT, shRes, shE, shEs, shE_off] using this
  | more_go hn h h1 h2 ih1 ih2 =>
    refine .more_go hn (l := List.map (shTok n) _) (by rw [sh_opOf]; exact h) (by rw [← List.map_tail]; exact ih1) ?_
    simpa [shNT, shE, shEs, shE_off] using ih2
  | neg_no h h1 ih => exact .neg_no (by rw [sh_isS]; exact h) ih
  | neg_first h h1 =>
    have := PE.neg_first (l := List.map (shTok n) _) (by rw [sh_isS]; exact h) (by rw [← List.map_tail, sh_first]; exact h1)
    rw [← List.map_tail] at this; exact this
  | neg_err h h1 h2 ih => exact .neg_err (by rw [sh_isS]; exact h) (by rw [← List.map_tail, sh_first]; exact h1) (by rw [← List.map_tail]; exact ih)
  | neg_ok h h1 h2 ih =>
    have := PE.neg_ok (l := List.map (shTok n) _) (by rw [sh_isS]; exact h) (by rw [← List.map_tail, sh_first]; exact h1) (by rw [← List.map_tail]; exact ih)
    rw [sh_at n (ne_isS h)] at this; exact this
  | atom_bad h => exact .atom_bad (by rw [sh_begins]; exact h)
  | @atom_num d l h =>
    have := PE.atom_num (d := d) (l := l.map (shTok n)) (by rw [(sh_kind n l).1]; exact h)
    rw [sh_at n (ne_kind h (by decide)), (sh_kind n l).2.2, ← List.map_tail] at this; exact this
  | @atom_text d l h =>
    have := PE.atom_text (d := d) (l := l.map (shTok n)) (by rw [(sh_kind n l).1]; exact h)
    rw [sh_at n (ne_kind h (by decide)), (sh_kind n l).2.1, ← List.map_tail] at this; exact this
  | @atom_name d l h h1 =>
    have := PE.atom_name (d := d) (l := l.map (shTok n)) (by rw [(sh_kind n l).1]; exact h) (by rw [← List.map_tail, sh_isS]; exact h1)
    rw [sh_at n (ne_kind h (by decide)), (sh_kind n l).2.1, ← List.map_tail] at this; exact this
  | @atom_call d l x h h1 h2 ih =>
    refine PE.atom_call (d := d) (l := l.map (shTok n)) (by rw [(sh_kind n l).1]; exact h) (by rw [← List.map_tail, sh_isS]; exact h1) ?_
    rw [sh_at n (ne_kind h (by decide)), (sh_kind n l).2.1, ← List.map_tail, ← List.map_tail]; exact ih
  | paren_err h h1 ih => exact .paren_err (by rw [sh_isS]; exact h) (by rw [← List.map_tail]; exact ih)
  | paren_bad h h1 h2 ih => exact .paren_bad (by rw [sh_isS]; exact h) (by rw [← List.map_tail]; exact ih) (by rw [sh_isS]; exact h2)
  | paren_ok h h1 h2 ih =>
    have := PE.paren_ok (l := List.map (shTok n) _) (by rw [sh_isS]; exact h) (by rw [← List.map_tail]; exact ih) (by rw [sh_isS]; exact h2)
    rw [← List.map_tail] at this; exact this
  | @args_end s a kids d l h =>
    have := PE.args_end (s := s) (a := a + n) (kids := shEs n kids) (d := d) (l := l.map (shTok n)) (by rw [sh_isS]; exact h)
    rw [← List.map_tail] at this; exact this
  | @args_comma s a kids d l h h1 h2 => exact .args_comma (by rw [sh_isS]; exact h) (fun e => h1 ((shEs_nil n kids).1 e)) (by rw [sh_isS]; exact h2)
  | @args_full s a kids d l h h1 h2 =>
    have := PE.args_full (s := s) (a := a + n) (kids := shEs n kids) (d := d) (l := l.map (shTok n)) (by rw [sh_isS]; exact h) (fun e => by rw [sh_isS]; exact h1 (fun e2 => e ((shEs_nil n kids).2 e2))) (by rw [shEs_map, List.length_map]; exact h2)
    rw [sh_argL, sh_first] at this; exact this
  | @args_err s a kids d l E r h h1 h2 h3 ih =>
    exact .args_err (by rw [sh_isS]; exact h) (fun e => by rw [sh_isS]; exact h1 (fun e2 => e ((shEs_nil n kids).2 e2))) (by rw [shEs_map, List.length_map]; exact h2) (by rw [sh_argL]; exact ih)
  | @args_go s a kids d l e r x h h1 h2 h3 h4 ih3 ih4 =>
    refine .args_go (by rw [sh_isS]; exact h) (fun e => by rw [sh_isS]; exact h1 (fun e2 => e ((shEs_nil n kids).2 e2))) (by rw [shEs_map, List.length_map]; exact h2) (by rw [sh_argL]; exact ih3) ?_
    rw [← shEs_snoc]; exact ih4
end Go.Shadow.Lex

/- The grammar: a shift of all offsets, for forms; what follows does not matter; counts; sources joined. -/
namespace Go.Shadow.Lex

/-! ### operations are not 0 -/
mutual
def opsOK : Ex → Prop
  | .mk op _ _ kids _ => op ≠ 0 ∧ opsOKs kids
def opsOKs : List Ex → Prop
  | [] => True
  | e :: r => opsOK e ∧ opsOKs r
end
mutual
/-- The laws' shift: what has no operation stays as it is. -/
def shX (n : Int) : Ex → Ex
  | .mk op m s kids a => if op = 0 then .mk op m s kids a else .mk op m s (shXs n kids) (a + n)
def shXs (n : Int) : List Ex → List Ex
  | [] => []
  | e :: r => shX n e :: shXs n r
end
mutual
theorem shX_eq (n : Int) : ∀ e : Ex, opsOK e → shX n e = shE n e
  | .mk op m s kids a, h => by
    simp only [opsOK] at h
    simp only [shX, shE]
    rw [if_neg h.1, shXs_eq n kids h.2]
theorem shXs_eq (n : Int) : ∀ l : List Ex, opsOKs l → shXs n l = shEs n l
  | [], _ => rfl
  | e :: r, h => by
    simp only [opsOKs] at h
    simp only [shXs, shEs]
    rw [shX_eq n e h.1, shXs_eq n r h.2]
end
theorem opsOKs_snoc : ∀ (l : List Ex) (e : Ex), opsOKs l → opsOK e → opsOKs (l ++ [e])
  | [], e, _, h => ⟨h, trivial⟩
  | x :: l, e, h1, h => by simp only [opsOKs] at h1; exact ⟨h1.1, opsOKs_snoc l e h1.2 h⟩
theorem opOf_ne {l : List Tok} {x : Int × Nat} (h : opOf l = some x) : x.1 ≠ 0 := by
  obtain ⟨s, hm, _⟩ := of_opOf h
  have : ∀ o ∈ opsT, o.2.1 ≠ 0 := by decide
  exact this _ hm
def baseOps : NT → Prop
  | .more _ e => opsOK e
  | .args _ _ kids => opsOKs kids
  | _ => True
theorem PE.ops {nt : NT} {d : Int} {l : List Tok} {x : Res} (h : PE nt d l x) : baseOps nt → ∀ {e r}, x = .ok e r → opsOK e := by
  induction h with
  | expr_one h h1 h2 ih => exact ih
  | if_ok h h1 h2 h3 h4 h5 ih1 ih3 ih5 => intro b e r he; injection he with e1 e2; subst e1; exact ⟨by decide, ih1 trivial rfl, ih3 trivial rfl, ih5 trivial rfl, trivial⟩
  | lvl7 h ih => exact ih
  | lvl3 h h1 ih => exact ih
  | bang_ok h h1 h2 ih => intro b e r he; injection he with e1 e2; subst e1; exact ⟨by decide, ih trivial rfl, trivial⟩
  | lvl_ok h h1 h2 ih1 ih2 => intro b e r he; exact ih2 (ih1 trivial rfl) he
  | more_end h => intro b e r he; injection he with e1 e2; subst e1; exact b
  | more_last h h1 ih => intro b e r he; injection he with e1 e2; subst e1; exact ⟨opOf_ne h, b, ih trivial rfl, trivial⟩
  | more_go hn h h1 h2 ih1 ih2 => intro b e r he; exact ih2 ⟨opOf_ne h, b, ih1 trivial rfl, trivial⟩ he
  | neg_no h h1 ih => exact ih
  | neg_ok h h1 h2 ih => intro b e r he; injection he with e1 e2; subst e1; exact ⟨by decide, ih trivial rfl, trivial⟩
  | atom_num h => intro b e r he; injection he with e1 e2; subst e1; exact ⟨by decide, trivial⟩
  | atom_text h => intro b e r he; injection he with e1 e2; subst e1; exact ⟨by decide, trivial⟩
  | atom_name h h1 => intro b e r he; injection he with e1 e2; subst e1; exact ⟨by decide, trivial⟩
  | atom_call h h1 h2 ih => intro b e r he; exact ih trivial he
  | paren_ok h h1 h2 ih => intro b e r he; injection he with e1 e2; subst e1; exact ih trivial rfl
  | args_end h => intro b e r he; injection he with e1 e2; subst e1; exact ⟨by decide, b⟩
  | args_go h h1 h2 h3 h4 ih3 ih4 => intro b e r he; exact ih4 (opsOKs_snoc _ _ b (ih3 trivial rfl)) he
  | _ => intro b e r he; cases he

/-! ### the shift, for forms -/
def shA (n : Int) (a : Ar) : Ar := ⟨a.kind, a.n, a.s, shX n a.e, a.at_ + n⟩
mutual
def shF (n : Int) : Fo → Fo
  | .mk w args body a => .mk w (args.map (shA n)) (shFs n body) (a + n)
def shFs (n : Int) : List Fo → List Fo
  | [] => []
  | e :: r => shF n e :: shFs n r
end
theorem shFs_map (n : Int) : ∀ l : List Fo, shFs n l = l.map (shF n)
  | [] => rfl
  | e :: r => by simp [shFs, shFs_map n r]
def shResA (n : Nat) : ResA → ResA
  | .ok b r => .ok (shA n b) (r.map (shTok n))
  | .err E r => .err E (r.map (shTok n))
theorem PA.shift (n : Nat) {l : List Tok} {x : ResA} (h : PA l x) : PA (l.map (shTok n)) (shResA n x) := by
  cases h with
  | tok h =>
    have := PA.tok (l := l.map (shTok n)) (by rw [(sh_kind n l).1]; exact h)
    rw [sh_at n (by rintro rfl; simp [hd] at h), (sh_kind n l).1, (sh_kind n l).2.1, (sh_kind n l).2.2, ← List.map_tail] at this; exact this
  | neg_bad h h1 =>
    have := PA.neg_bad (l := l.map (shTok n)) (by rw [sh_isS]; exact h) (by rw [← List.map_tail, (sh_kind n _).1]; exact h1)
    rw [← List.map_tail] at this; exact this
  | neg_ok h h1 =>
    have := PA.neg_ok (l := l.map (shTok n)) (by rw [sh_isS]; exact h) (by rw [← List.map_tail, (sh_kind n _).1]; exact h1)
    rw [sh_at n (ne_isS h), ← List.map_tail, (sh_kind n _).2.2, ← List.map_tail] at this; exact this
  | arrow h =>
    have := PA.arrow (l := l.map (shTok n)) (by rw [sh_isS]; exact h)
    rw [sh_at n (ne_isS h), ← List.map_tail] at this; exact this
  | paren_err h h1 => exact .paren_err (by rw [sh_isS]; exact h) (by rw [← List.map_tail]; exact h1.shift n)
  | paren_bad h h1 h2 => exact .paren_bad (by rw [sh_isS]; exact h) (by rw [← List.map_tail]; exact h1.shift n) (by rw [sh_isS]; exact h2)
  | paren_ok h h1 h2 =>
    have := PA.paren_ok (l := l.map (shTok n)) (by rw [sh_isS]; exact h) (by rw [← List.map_tail]; exact h1.shift n) (by rw [sh_isS]; exact h2)
    rw [sh_at n (ne_isS h), ← List.map_tail, ← shX_eq n _ (h1.ops trivial rfl)] at this; exact this
def shNF (n : Nat) : NF → NF
  | .form => .form
  | .args w a u => .args w (a + n) (u.map (shA n))
  | .body w a u b => .body w (a + n) (u.map (shA n)) (shFs n b)
def shResF (n : Nat) (k : Int) : ResF → ResF
  | .ok g m r => .ok (shF n g) (m + k) (r.map (shTok n))
  | .err E r => .err E (r.map (shTok n))
theorem PF.cnt {nt : NF} {d n : Int} {l : List Tok} {x : ResF} (h : PF nt d n l x) : ∀ {g m r}, x = .ok g m r → m + r.length ≤ n + l.length := by
  induction h with
  | form_go h h1 h2 ih =>
    intro g m r e
    have := ih e; have := hd_tail (show _ ≠ 0 from by rw [h]; decide)
    omega
  | args_end h => intro g m r e; injection e with e1 e2 e3; subst e2; subst e3; have := isS_tail h; omega
  | args_body h h1 ih => intro g m r e; have := ih e; have := isS_tail h; omega
  | args_go h h1 h2 h3 h4 h5 ih =>
    intro g m r e
    have := ih e; have := h4.rest.1.length_le
    simp only [restA] at this; omega
  | body_end h => intro g m r e; injection e with e1 e2 e3; subst e2; subst e3; have := isS_tail h; omega
  | body_go h h1 h2 ih1 ih2 => intro g m r e; have := ih1 rfl; have := ih2 e; omega
  | _ => intro g m r e; cases e
/-- All moved, and more forms ahead. -/
theorem PF.shift (n : Nat) {k : Int} (hk : 0 ≤ k) {nt : NF} {d c : Int} {l : List Tok} {x : ResF} (h : PF nt d c l x) : c + l.length + k < 2000 → PF (shNF n nt) d (c + k) (l.map (shTok n)) (shResF n k x) := by
  induction h with
  | form_bad h => intro hc; exact .form_bad (by rw [(sh_kind n _).1]; exact h)
  | form_limit h h1 => intro hc; exact .form_limit (by rw [(sh_kind n _).1]; exact h) (by omega)
  | @form_go d c l x h h1 h2 ih =>
    intro hc
    refine .form_go (by rw [(sh_kind n _).1]; exact h) (by omega) ?_
    have hl := hd_tail (show (hd l).kind ≠ 0 from by rw [h]; decide)
    have := ih (by omega)
    rw [sh_at n (ne_kind h (by decide)), (sh_kind n l).2.1, ← List.map_tail, show c + k + 1 = c + 1 + k by omega]
    exact this
  | @args_end w a u d c l h =>
    intro hc
    have := @PF.args_end w (a + n) (u.map (shA n)) d (c + k) (l.map (shTok n)) (by rw [sh_isS]; exact h)
    rw [← List.map_tail] at this; exact this
  | args_body h h1 ih =>
    intro hc
    have hl := isS_tail h
    exact .args_body (by rw [sh_isS]; exact h) (by rw [← List.map_tail]; exact ih (by omega))
  | args_bad h h1 h2 h3 => intro hc; exact .args_bad (by rw [sh_isS]; exact h) (by rw [sh_isS]; exact h1) (by rw [sh_begins]; exact h2) (by rw [sh_isS]; exact h3)
  | args_limit h h1 h2 h3 => intro hc; exact .args_limit (by rw [sh_isS]; exact h) (by rw [sh_isS]; exact h1) (by rw [sh_begins, sh_isS]; exact h2) (by rw [List.length_map]; exact h3)
  | args_err h h1 h2 h3 h4 => intro hc; exact .args_err (by rw [sh_isS]; exact h) (by rw [sh_isS]; exact h1) (by rw [sh_begins, sh_isS]; exact h2) (by rw [List.length_map]; exact h3) (h4.shift n)
  | args_go h h1 h2 h3 h4 h5 ih =>
    intro hc
    have hl := h4.rest.1.length_le
    simp only [restA] at hl
    refine .args_go (by rw [sh_isS]; exact h) (by rw [sh_isS]; exact h1) (by rw [sh_begins, sh_isS]; exact h2) (by rw [List.length_map]; exact h3) (h4.shift n) ?_
    have := ih (by omega)
    simpa [shNF] using this
  | @body_end w a u b d c l h =>
    intro hc
    have := @PF.body_end w (a + n) (u.map (shA n)) (shFs n b) d (c + k) (l.map (shTok n)) (by rw [sh_isS]; exact h)
    rw [← List.map_tail] at this; exact this
  | body_err h h1 ih => intro hc; exact .body_err (by rw [sh_isS]; exact h) (ih hc)
  | body_go h h1 h2 ih1 ih2 =>
    intro hc
    have hl := h1.cnt rfl
    refine .body_go (by rw [sh_isS]; exact h) (ih1 hc) ?_
    have := ih2 (by omega)
    simpa [shNF, shFs_map] using this
def shResL (n : Nat) (o : List Fo) : ResL → ResL
  | .ok out => .ok (o ++ shFs n out)
  | .err E r => .err E (r.map (shTok n))
theorem PL.shift (n : Nat) {k : Int} (hk : 0 ≤ k) (o : List Fo) {c : Int} {out : List Fo} {l : List Tok} {x : ResL} (h : PL c out l x) : c + l.length + k < 2000 → PL (c + k) (o ++ shFs n out) (l.map (shTok n)) (shResL n o x) := by
  induction h with
  | done h => intro hc; exact .done (by rw [(sh_kind n _).1]; exact h)
  | err h h1 => intro hc; exact .err (by rw [(sh_kind n _).1]; exact h) (h1.shift n hk hc)
  | go h h1 h2 ih =>
    intro hc
    have hl := h1.cnt rfl
    refine .go (by rw [(sh_kind n _).1]; exact h) (h1.shift n hk hc) ?_
    have := ih (by omega)
    simpa [shFs_map] using this
end Go.Shadow.Lex

/- The grammar: what follows does not matter; sources joined. -/
namespace Go.Shadow.Lex

/-- Other tokens in place of the last one. -/
def sw (m l : List Tok) : List Tok := l.dropLast ++ m
theorem sw_cons (m : List Tok) (t u : Tok) (r : List Tok) : sw m (t :: u :: r) = t :: sw m (u :: r) := by simp [sw]
theorem sw_two {l : List Tok} (h : 2 ≤ l.length) : ∃ t u r, l = t :: u :: r := by
  match l, h with
  | t :: u :: r, _ => exact ⟨t, u, r, rfl⟩
theorem sw_facts (m : List Tok) {l : List Tok} (h : 2 ≤ l.length) : hd (sw m l) = hd l ∧ (∀ s, isS s (sw m l) = isS s l) ∧ begins (sw m l) = begins l ∧ (sw m l).tail = sw m l.tail := by
  obtain ⟨t, u, r, rfl⟩ := sw_two h
  rw [sw_cons]
  exact ⟨rfl, fun _ => rfl, rfl, rfl⟩
theorem sw_hd (m : List Tok) {l : List Tok} (h : 2 ≤ l.length) : hd (sw m l) = hd l := (sw_facts m h).1
theorem sw_isS (m : List Tok) {l : List Tok} (h : 2 ≤ l.length) (s : List UInt8) : isS s (sw m l) = isS s l := (sw_facts m h).2.1 s
theorem sw_begins (m : List Tok) {l : List Tok} (h : 2 ≤ l.length) : begins (sw m l) = begins l := (sw_facts m h).2.2.1
theorem sw_tail (m : List Tok) {l : List Tok} (h : 2 ≤ l.length) : (sw m l).tail = sw m l.tail := (sw_facts m h).2.2.2
theorem sw_first (m : List Tok) {l : List Tok} (h : 2 ≤ l.length) (d : Int) (no : Bool) : first (sw m l) d no = first l d no := by
  unfold first; rw [sw_begins m h, sw_isS m h]
theorem sw_opOf (m : List Tok) {l : List Tok} (h : 2 ≤ l.length) : opOf (sw m l) = opOf l := by
  unfold opOf; simp only [sw_isS m h]
theorem sw_argL (m : List Tok) {l : List Tok} (h : 2 ≤ l.length) (kids : List Ex) : argL kids (sw m l) = sw m (argL kids l) := by
  unfold argL; split
  · rfl
  · exact sw_tail m h
theorem PE.le {nt : NT} {d : Int} {l : List Tok} {x : Res} (h : PE nt d l x) : (restE x).length ≤ l.length := h.rest.1.length_le
theorem tail_le (l : List Tok) : l.tail.length ≤ l.length := by simp

theorem PE.sw (m : List Tok) {nt : NT} {d : Int} {l : List Tok} {x : Res} (h : PE nt d l x) : ∀ {e r}, x = .ok e r → 2 ≤ r.length → PE nt d (sw m l) (.ok e (Lex.sw m r)) := by
  induction h with
  | expr_one h h1 h2 ih =>
    intro e r he hr; injection he with e1 e2; subst e1; subst e2
    have := h1.le; simp only [restE] at this
    exact .expr_one (by rw [sw_first m (by omega)]; exact h) (ih rfl hr) (by rw [sw_isS m hr]; exact h2)
  | @if_ok d l e r a r2 b r3 h h1 h2 h3 h4 h5 ih1 ih3 ih5 =>
    intro e' r' he hr; injection he with e1 e2; subst e1; subst e2
    have a1 := h1.le; have a3 := h3.le; have a5 := h5.le; simp only [restE] at a1 a3 a5
    have b1 := isS_tail h2; have b2 := isS_tail h4
    exact .if_ok (by rw [sw_first m (by omega)]; exact h) (ih1 rfl (by omega)) (by rw [sw_isS m (by omega)]; exact h2) (by rw [sw_tail m (by omega)]; exact ih3 rfl (by omega)) (by rw [sw_isS m (by omega)]; exact h4) (by rw [sw_tail m (by omega)]; exact ih5 rfl hr)
  | lvl7 h ih => intro e r he hr; exact .lvl7 (ih he hr)
  | lvl3 h h1 ih =>
    intro e r he hr; subst he
    have := h1.le; simp only [restE] at this
    exact .lvl3 (by rw [sw_isS m (by omega)]; exact h) (ih rfl hr)
  | @bang_ok d l e r h h1 h2 ih =>
    intro e' r' he hr; injection he with e1 e2; subst e1; subst e2
    have a1 := h2.le; simp only [restE] at a1
    have b1 := isS_tail h
    have := PE.bang_ok (d := d) (l := Lex.sw m l) (by rw [sw_isS m (by omega)]; exact h) (by rw [sw_tail m (by omega), sw_first m (by omega)]; exact h1) (by rw [sw_tail m (by omega)]; exact ih rfl hr)
    rw [sw_hd m (by omega)] at this; exact this
  | lvl_ok h h1 h2 ih1 ih2 =>
    intro e r he hr; subst he
    have a2 := h2.le; simp only [restE] at a2
    exact .lvl_ok h (ih1 rfl (by omega)) (ih2 rfl hr)
  | more_end h =>
    intro e r he hr; injection he with e1 e2; subst e1; subst e2
    exact .more_end (by rw [sw_opOf m hr]; exact h)
  | more_last h h1 ih =>
    intro e r he hr; injection he with e1 e2; subst e1; subst e2
    have a1 := h1.le; simp only [restE] at a1
    have b1 := opOf_tail h
    exact .more_last (by rw [sw_opOf m (by omega)]; exact h) (by rw [sw_tail m (by omega)]; exact ih rfl hr)
  | more_go hn h h1 h2 ih1 ih2 =>
    intro e r he hr; subst he
    have a1 := h1.le; have a2 := h2.le; simp only [restE] at a1 a2
    have b1 := opOf_tail h
    exact .more_go hn (by rw [sw_opOf m (by omega)]; exact h) (by rw [sw_tail m (by omega)]; exact ih1 rfl (by omega)) (ih2 rfl hr)
  | neg_no h h1 ih =>
    intro e r he hr; subst he
    have := h1.le; simp only [restE] at this
    exact .neg_no (by rw [sw_isS m (by omega)]; exact h) (ih rfl hr)
  | @neg_ok d l e r h h1 h2 ih =>
    intro e' r' he hr; injection he with e1 e2; subst e1; subst e2
    have a1 := h2.le; simp only [restE] at a1
    have b1 := isS_tail h
    have := PE.neg_ok (d := d) (l := Lex.sw m l) (by rw [sw_isS m (by omega)]; exact h) (by rw [sw_tail m (by omega), sw_first m (by omega)]; exact h1) (by rw [sw_tail m (by omega)]; exact ih rfl hr)
    rw [sw_hd m (by omega)] at this; exact this
  | @atom_num d l h =>
    intro e r he hr; injection he with e1 e2; subst e1; subst e2
    have b1 := hd_tail (show (hd l).kind ≠ 0 from by rw [h]; decide)
    have := PE.atom_num (d := d) (l := Lex.sw m l) (by rw [sw_hd m (by omega)]; exact h)
    rw [sw_hd m (by omega), sw_tail m (by omega)] at this; exact this
  | @atom_text d l h =>
    intro e r he hr; injection he with e1 e2; subst e1; subst e2
    have b1 := hd_tail (show (hd l).kind ≠ 0 from by rw [h]; decide)
    have := PE.atom_text (d := d) (l := Lex.sw m l) (by rw [sw_hd m (by omega)]; exact h)
    rw [sw_hd m (by omega), sw_tail m (by omega)] at this; exact this
  | @atom_name d l h h1 =>
    intro e r he hr; injection he with e1 e2; subst e1; subst e2
    have b1 := hd_tail (show (hd l).kind ≠ 0 from by rw [h]; decide)
    have := PE.atom_name (d := d) (l := Lex.sw m l) (by rw [sw_hd m (by omega)]; exact h) (by rw [sw_tail m (by omega), sw_isS m hr]; exact h1)
    rw [sw_hd m (by omega), sw_tail m (by omega)] at this; exact this
  | @atom_call d l x h h1 h2 ih =>
    intro e r he hr; subst he
    have a2 := h2.le; simp only [restE] at a2
    have b1 := hd_tail (show (hd l).kind ≠ 0 from by rw [h]; decide)
    have b2 := isS_tail h1
    refine .atom_call (by rw [sw_hd m (by omega)]; exact h) (by rw [sw_tail m (by omega), sw_isS m (by omega)]; exact h1) ?_
    rw [sw_hd m (by omega), sw_tail m (by omega), sw_tail m (by omega)]
    exact ih rfl hr
  | @paren_ok d l e r h h1 h2 ih =>
    intro e' r' he hr; injection he with e1 e2; subst e1; subst e2
    have a1 := h1.le; simp only [restE] at a1
    have b1 := isS_tail h; have b2 := isS_tail h2
    have := PE.paren_ok (d := d) (l := Lex.sw m l) (by rw [sw_isS m (by omega)]; exact h) (by rw [sw_tail m (by omega)]; exact ih rfl (by omega)) (by rw [sw_isS m (by omega)]; exact h2)
    rw [sw_tail m (by omega)] at this; exact this
  | @args_end s a kids d l h =>
    intro e r he hr; injection he with e1 e2; subst e1; subst e2
    have b1 := isS_tail h
    have := PE.args_end (s := s) (a := a) (kids := kids) (d := d) (l := Lex.sw m l) (by rw [sw_isS m (by omega)]; exact h)
    rw [sw_tail m (by omega)] at this; exact this
  | @args_go s a kids d l e r x h h1 h2 h3 h4 ih3 ih4 =>
    intro e' r' he hr; subst he
    have a3 := h3.le; have a4 := h4.le; simp only [restE] at a3 a4
    have b1 := (argL_suf kids l).length_le
    exact .args_go (by rw [sw_isS m (by omega)]; exact h) (fun hk => by rw [sw_isS m (by omega)]; exact h1 hk) h2 (by rw [sw_argL m (by omega)]; exact ih3 rfl (by omega)) (ih4 rfl hr)
  | _ => intro e r he; cases he
theorem PA.sw (m : List Tok) {l : List Tok} {b : Ar} {r : List Tok} (h : PA l (.ok b r)) (hr : 2 ≤ r.length) : PA (Lex.sw m l) (.ok b (Lex.sw m r)) := by
  have hl := h.rest.1.length_le
  simp only [restA] at hl
  cases h with
  | tok h =>
    have := PA.tok (l := Lex.sw m l) (by rw [sw_hd m (by omega)]; exact h)
    rw [sw_hd m (by omega), sw_tail m (by omega)] at this; exact this
  | neg_ok h h1 =>
    have b1 := isS_tail h
    have b2 := hd_tail (show (hd l.tail).kind ≠ 0 from by rw [h1]; decide)
    have := PA.neg_ok (l := Lex.sw m l) (by rw [sw_isS m (by omega)]; exact h) (by rw [sw_tail m (by omega), sw_hd m (by omega)]; exact h1)
    rw [sw_hd m (by omega), sw_tail m (by omega), sw_hd m (by omega), sw_tail m (by omega)] at this; exact this
  | arrow h =>
    have := PA.arrow (l := Lex.sw m l) (by rw [sw_isS m (by omega)]; exact h)
    rw [sw_hd m (by omega), sw_tail m (by omega)] at this; exact this
  | paren_ok h h1 h2 =>
    have a1 := h1.le; simp only [restE] at a1
    have b1 := isS_tail h; have b2 := isS_tail h2
    have := PA.paren_ok (l := Lex.sw m l) (by rw [sw_isS m (by omega)]; exact h) (by rw [sw_tail m (by omega)]; exact h1.sw m rfl (by omega)) (by rw [sw_isS m (by omega)]; exact h2)
    rw [sw_hd m (by omega), sw_tail m (by omega)] at this; exact this
theorem PF.lt {nt : NF} {d n : Int} {l : List Tok} {x : ResF} (h : PF nt d n l x) : ∀ {g c r}, x = .ok g c r → r.length + 1 ≤ l.length := by
  induction h with
  | @form_go d n l x h h1 h2 ih => intro g c r e; have := ih e; have := tail_le l; omega
  | args_end h => intro g c r e; injection e with e1 e2 e3; subst e3; have := isS_tail h; omega
  | args_body h h1 ih => intro g c r e; have := ih e; have := isS_tail h; omega
  | args_go h h1 h2 h3 h4 h5 ih =>
    intro g c r e
    have := ih e; have := h4.rest.1.length_le
    simp only [restA] at this; omega
  | body_end h => intro g c r e; injection e with e1 e2 e3; subst e3; have := isS_tail h; omega
  | body_go h h1 h2 ih1 ih2 => intro g c r e; have := ih1 rfl; have := ih2 e; omega
  | _ => intro g c r e; cases e
theorem PF.sw (m : List Tok) {nt : NF} {d n : Int} {l : List Tok} {x : ResF} (h : PF nt d n l x) : ∀ {g c r}, x = .ok g c r → 1 ≤ r.length → PF nt d n (Lex.sw m l) (.ok g c (Lex.sw m r)) := by
  induction h with
  | @form_go d n l x h h1 h2 ih =>
    intro g c r e hr; subst e
    have a2 := h2.lt rfl
    have b1 := hd_tail (show (hd l).kind ≠ 0 from by rw [h]; decide)
    refine .form_go (by rw [sw_hd m (by omega)]; exact h) h1 ?_
    rw [sw_hd m (by omega), sw_tail m (by omega)]
    exact ih rfl hr
  | @args_end w a u d n l h =>
    intro g c r e hr; injection e with e1 e2 e3; subst e1; subst e2; subst e3
    have b1 := isS_tail h
    have := @PF.args_end w a u d n (Lex.sw m l) (by rw [sw_isS m (by omega)]; exact h)
    rw [sw_tail m (by omega)] at this; exact this
  | args_body h h1 ih =>
    intro g c r e hr; subst e
    have a1 := h1.lt rfl
    have b1 := isS_tail h
    exact .args_body (by rw [sw_isS m (by omega)]; exact h) (by rw [sw_tail m (by omega)]; exact ih rfl hr)
  | args_go h h1 h2 h3 h4 h5 ih =>
    intro g c r e hr; subst e
    have a4 := h4.rest.1.length_le; have a5 := h5.lt rfl
    simp only [restA] at a4
    exact .args_go (by rw [sw_isS m (by omega)]; exact h) (by rw [sw_isS m (by omega)]; exact h1) (by rw [sw_begins m (by omega), sw_isS m (by omega)]; exact h2) h3 (h4.sw m (by omega)) (ih rfl hr)
  | @body_end w a u b d n l h =>
    intro g c r e hr; injection e with e1 e2 e3; subst e1; subst e2; subst e3
    have b1 := isS_tail h
    have := @PF.body_end w a u b d n (Lex.sw m l) (by rw [sw_isS m (by omega)]; exact h)
    rw [sw_tail m (by omega)] at this; exact this
  | body_go h h1 h2 ih1 ih2 =>
    intro g c r e hr; subst e
    have a1 := h1.lt rfl; have a2 := h2.lt rfl
    exact .body_go (by rw [sw_isS m (by omega)]; exact h) (ih1 rfl (by omega)) (ih2 rfl hr)
  | _ => intro g c r e; cases e
theorem PF.ge {nt : NF} {d n : Int} {l : List Tok} {x : ResF} (h : PF nt d n l x) : ∀ {g c r}, x = .ok g c r → n ≤ c := by
  induction h with
  | form_go h h1 h2 ih => intro g c r e; have := ih e; omega
  | args_end h => intro g c r e; injection e with e1 e2 e3; omega
  | args_body h h1 ih => exact ih
  | args_go h h1 h2 h3 h4 h5 ih => exact ih
  | body_end h => intro g c r e; injection e with e1 e2 e3; omega
  | body_go h h1 h2 ih1 ih2 => intro g c r e; have := ih1 rfl; have := ih2 e; omega
  | _ => intro g c r e; cases e
/-- Tokens joined: the forms of the first go ahead. -/
theorem PL.join {m : List Tok} {y : ResL} {n : Int} {o : List Fo} {l : List Tok} {x : ResL} (h : PL n o l x) : ∀ {out}, x = .ok out → Ended l → (∀ c, c ≤ n + l.length → n ≤ c → PL c out m y) → PL n o (Lex.sw m l) y := by
  induction h with
  | @done n out l h =>
    intro out' e he hm; injection e with e; subst e
    obtain ⟨i, e, rfl, h5, hi, _⟩ := he
    cases i with
    | nil => simpa [Lex.sw] using hm n (by omega) (by omega)
    | cons t r => exact absurd h (hi t (by simp))
  | err => intro out e; cases e
  | @go n out l g n' r x h h1 h2 ih =>
    intro out' e he hm
    have her := h1.rest.2 he
    have hrl : 1 ≤ r.length := by
      obtain ⟨t, u, hr⟩ := her.cons
      have : restF (.ok g n' r) = r := rfl
      rw [this] at hr; rw [hr]; simp
    have hlt := h1.lt rfl
    have hc := h1.cnt rfl
    have hge := h1.ge rfl
    exact .go (by rw [sw_hd m (by omega)]; exact h) (h1.sw m rfl hrl) (ih e her (fun c hc1 hc2 => hm c (by omega) (by omega)))
end Go.Shadow.Lex

/- Sources joined, as forms; where problems and parts lie. -/
namespace Go.Shadow.Lex

theorem lex_at {l : List UInt8} {ts : List Tok} (h : lex l = .inr ts) : ∀ t ∈ ts, 0 ≤ t.at_ ∧ t.at_ ≤ l.length := by
  intro t ht
  have h65 : l.length ≤ 65536 := by
    unfold lex at h
    split at h
    · cases h
    · omega
  rw [lex_J h65] at h
  obtain ⟨i, hi, hti⟩ := List.getElem_of_mem ht
  obtain ⟨k, t', _, h1, h2, h3, _⟩ := J_ok _ 0 ts (Nat.le_refl _) (Nat.zero_le _) h i hi
  rw [List.getElem?_eq_getElem hi, hti] at h1
  injection h1 with h1; subst h1
  have := skipTo_le l k h2
  omega
theorem suf_hd {r ts : List Tok} (h : r <:+ ts) (hr : r ≠ []) : hd r ∈ ts := by
  cases r with
  | nil => exact absurd rfl hr
  | cons t u => exact h.subset (by simp [hd])
theorem FormsIs.at_ {src : List UInt8} {x : List Fo} {a E : Int} (h : FormsIs src x a E) : 0 ≤ a ∧ a ≤ src.length ∧ (E ≠ 0 → x = []) ∧ (E = 0 → a = 0) := by
  cases h with
  | lex h =>
    have := lex_err h
    exact ⟨by omega, by omega, fun _ => rfl, fun h => absurd h (by omega)⟩
  | bad h h1 =>
    have e := (lex_ended h).1
    obtain ⟨s, e2⟩ := h1.rest rfl
    have := lex_at h _ (suf_hd s (e2 e).ne)
    have hE := h1.errno rfl
    exact ⟨this.1, this.2, fun _ => rfl, fun h => absurd h (by omega)⟩
  | ok => exact ⟨by omega, by omega, fun h => absurd rfl h, fun _ => rfl⟩
theorem ExprIs.at_ {src : List UInt8} {x : Ex} {a E : Int} (h : ExprIs src x a E) : 0 ≤ a ∧ a ≤ src.length ∧ (E ≠ 0 → x = .none) ∧ (E = 0 → a = 0) := by
  cases h with
  | lex h =>
    have := lex_err h
    exact ⟨by omega, by omega, fun _ => rfl, fun h => absurd h (by omega)⟩
  | bad h h1 =>
    have e := (lex_ended h).1
    obtain ⟨s, e2⟩ := h1.rest
    have := lex_at h _ (suf_hd s (e2 e).ne)
    have hE := h1.errno rfl
    exact ⟨this.1, this.2, fun _ => rfl, fun h => absurd h (by omega)⟩
  | more h h1 h2 =>
    have e := (lex_ended h).1
    obtain ⟨s, e2⟩ := h1.rest
    have := lex_at h _ (suf_hd s (e2 e).ne)
    exact ⟨this.1, this.2, fun _ => rfl, fun h => absurd h (by omega)⟩
  | ok => exact ⟨by omega, by omega, fun h => absurd rfl h, fun _ => rfl⟩

theorem FormsIs.join {a b : List UInt8} {out out2 : List Fo} {ka k2 E2 : Int} (hl : a.length + b.length ≤ 1900) (ha : FormsIs a out ka 0) (hb : FormsIs b out2 k2 E2) :
    FormsIs (a ++ 10 :: b) (if E2 = 0 then out ++ shFs ((a.length + 1 : Nat) : Int) out2 else []) (if E2 = 0 then 0 else k2 + a.length + 1) E2 := by
  generalize hz : (0 : Int) = Z at ha
  cases ha with
  | lex h => exact absurd (lex_err h).1 (by omega)
  | bad h h1 => exact absurd (h1.errno rfl) (by omega)
  | @ok ts _ h h1 =>
  clear hz
  obtain ⟨ts', rfl, hj⟩ := joins_ok (b := b) (by omega) h
  have hsw : ∀ m, sw m (ts' ++ [⟨5, a.length, [], 0⟩]) = ts' ++ m := fun m => by simp [sw]
  obtain ⟨hea, hla⟩ := lex_ended h
  have key : ∀ {tb : List Tok} {x : ResL}, Lex.lex b = .inr tb → PL 0 [] tb x → PL 0 [] (ts' ++ tb.map (shTok (a.length + 1))) (shResL (a.length + 1) out x) := by
    intro tb x hb hx
    rw [← hsw]
    have hlb := (lex_ended hb).2
    refine h1.join rfl hea fun c hc1 hc2 => ?_
    have := hx.shift (a.length + 1) hc2 out (by omega)
    rw [Int.zero_add] at this
    simpa [shFs] using this
  cases hb with
  | @lex k e hb =>
    have he := (lex_err hb).1
    rw [if_neg (by omega), if_neg (by omega)]
    have := FormsIs.lex (src := a ++ 10 :: b) (k := a.length + 1 + k) (e := e) (by rw [hj, hb]; rfl)
    rw [show ((a.length + 1 + k : Nat) : Int) = k + a.length + 1 by omega] at this
    exact this
  | @bad tb E r hb hx =>
    have hE := hx.errno rfl
    rw [if_neg (by omega), if_neg (by omega)]
    have hr : r ≠ [] := ((hx.rest rfl).2 (lex_ended hb).1).ne
    have := FormsIs.bad (src := a ++ 10 :: b) (by rw [hj, hb]; rfl) (key hb hx)
    rw [sh_at _ hr] at this
    rw [show (hd r).at_ + ((a.length + 1 : Nat) : Int) = (hd r).at_ + a.length + 1 by omega] at this
    exact this
  | ok hb hx =>
    rw [if_pos rfl, if_pos rfl]
    exact FormsIs.ok (src := a ++ 10 :: b) (by rw [hj, hb]; rfl) (key hb hx)

/-! ### offsets lie in the source -/
mutual
def exO (M : Int) : Ex → Prop
  | .mk _ _ _ kids a => 0 ≤ a ∧ a ≤ M ∧ exOs M kids
def exOs (M : Int) : List Ex → Prop
  | [] => True
  | e :: r => exO M e ∧ exOs M r
end
theorem exOs_snoc {M : Int} : ∀ (l : List Ex) (e : Ex), exOs M l → exO M e → exOs M (l ++ [e])
  | [], e, _, h => ⟨h, trivial⟩
  | x :: l, e, h1, h => by simp only [exOs] at h1; exact ⟨h1.1, exOs_snoc l e h1.2 h⟩
theorem exOs_mem {M : Int} : ∀ {l : List Ex} {x : Ex}, exOs M l → x ∈ l → exO M x
  | e :: r, x, h, hm => by
    simp only [exOs] at h
    rcases List.mem_cons.1 hm with rfl | hm
    · exact h.1
    · exact exOs_mem h.2 hm
def Within (M : Int) (l : List Tok) : Prop := ∀ t ∈ l, 0 ≤ t.at_ ∧ t.at_ ≤ M
theorem Within.suf {M : Int} {r l : List Tok} (h : Within M l) (s : r <:+ l) : Within M r := fun t ht => h t (s.subset ht)
theorem Within.hd {M : Int} {l : List Tok} (h : Within M l) (hl : l ≠ []) : 0 ≤ (hd l).at_ ∧ (Lex.hd l).at_ ≤ M := h _ (suf_hd (List.suffix_refl l) hl)
theorem exO_off {M : Int} {e : Ex} (h : exO M e) : 0 ≤ e.off ∧ e.off ≤ M := by
  cases e; simp only [exO] at h; exact ⟨h.1, h.2.1⟩
def baseO (M : Int) : NT → Prop
  | .more _ e => exO M e
  | .args _ a kids => 0 ≤ a ∧ a ≤ M ∧ exOs M kids
  | _ => True
theorem PE.offs {M : Int} {nt : NT} {d : Int} {l : List Tok} {x : Res} (h : PE nt d l x) : baseO M nt → Within M l → ∀ {e r}, x = .ok e r → exO M e := by
  induction h with
  | expr_one h h1 h2 ih => exact ih
  | if_ok h h1 h2 h3 h4 h5 ih1 ih3 ih5 =>
    intro b w e r he; injection he with e1 e2; subst e1
    have w1 := w.suf h1.rest.1
    have w2 := (w1.suf (List.tail_suffix _)).suf h3.rest.1
    have q := ih1 trivial w rfl
    exact ⟨(exO_off q).1, (exO_off q).2, q, ih3 trivial (w1.suf (List.tail_suffix _)) rfl, ih5 trivial (w2.suf (List.tail_suffix _)) rfl, trivial⟩
  | lvl7 h ih => exact ih
  | lvl3 h h1 ih => exact ih
  | bang_ok h h1 h2 ih =>
    intro b w e r he; injection he with e1 e2; subst e1
    have q := w.hd (ne_isS h)
    exact ⟨q.1, q.2, ih trivial (w.suf (List.tail_suffix _)) rfl, trivial⟩
  | lvl_ok h h1 h2 ih1 ih2 => intro b w e r he; exact ih2 (ih1 trivial w rfl) (w.suf h1.rest.1) he
  | more_end h => intro b w e r he; injection he with e1 e2; subst e1; exact b
  | more_last h h1 ih =>
    intro b w e r he; injection he with e1 e2; subst e1
    exact ⟨(exO_off b).1, (exO_off b).2, b, ih trivial (w.suf (List.tail_suffix _)) rfl, trivial⟩
  | more_go hn h h1 h2 ih1 ih2 =>
    intro b w e r he
    have w1 := (w.suf (List.tail_suffix _)).suf h1.rest.1
    exact ih2 ⟨(exO_off b).1, (exO_off b).2, b, ih1 trivial (w.suf (List.tail_suffix _)) rfl, trivial⟩ w1 he
  | neg_no h h1 ih => exact ih
  | neg_ok h h1 h2 ih =>
    intro b w e r he; injection he with e1 e2; subst e1
    have q := w.hd (ne_isS h)
    exact ⟨q.1, q.2, ih trivial (w.suf (List.tail_suffix _)) rfl, trivial⟩
  | atom_num h => intro b w e r he; injection he with e1 e2; subst e1; have q := w.hd (ne_kind h (by decide)); exact ⟨q.1, q.2, trivial⟩
  | atom_text h => intro b w e r he; injection he with e1 e2; subst e1; have q := w.hd (ne_kind h (by decide)); exact ⟨q.1, q.2, trivial⟩
  | atom_name h h1 => intro b w e r he; injection he with e1 e2; subst e1; have q := w.hd (ne_kind h (by decide)); exact ⟨q.1, q.2, trivial⟩
  | atom_call h h1 h2 ih =>
    intro b w e r he
    have q := w.hd (ne_kind h (by decide))
    exact ih ⟨q.1, q.2, trivial⟩ ((w.suf (List.tail_suffix _)).suf (List.tail_suffix _)) he
  | paren_ok h h1 h2 ih => intro b w e r he; injection he with e1 e2; subst e1; exact ih trivial (w.suf (List.tail_suffix _)) rfl
  | args_end h => intro b w e r he; injection he with e1 e2; subst e1; exact b
  | @args_go s a kids d l e0 r0 x h h1 h2 h3 h4 ih3 ih4 =>
    intro b w e r he
    have w1 := w.suf (argL_suf kids l)
    exact ih4 ⟨b.1, b.2.1, exOs_snoc _ _ b.2.2 (ih3 trivial w1 rfl)⟩ (w1.suf h3.rest.1) he
  | _ => intro b w e r he; cases he
def arO (M : Int) (a : Ar) : Prop := 0 ≤ a.at_ ∧ a.at_ ≤ M ∧ exO M a.e
theorem PA.offs {M : Int} (hM : 0 ≤ M) {l : List Tok} {b : Ar} {r : List Tok} (h : PA l (.ok b r)) (w : Within M l) : arO M b := by
  have z : exO M .none := ⟨Int.le_refl _, hM, trivial⟩
  cases h with
  | tok h => have q := w.hd (by rintro rfl; simp [hd] at h); exact ⟨q.1, q.2, z⟩
  | neg_ok h h1 => have q := w.hd (ne_isS h); exact ⟨q.1, q.2, z⟩
  | arrow h => have q := w.hd (ne_isS h); exact ⟨q.1, q.2, z⟩
  | paren_ok h h1 h2 => have q := w.hd (ne_isS h); exact ⟨q.1, q.2, h1.offs trivial (w.suf (List.tail_suffix _)) rfl⟩
mutual
def foO (M : Int) : Fo → Prop
  | .mk _ args body a => 0 ≤ a ∧ a ≤ M ∧ (∀ b ∈ args, arO M b) ∧ foOs M body
def foOs (M : Int) : List Fo → Prop
  | [] => True
  | e :: r => foO M e ∧ foOs M r
end
theorem foOs_snoc {M : Int} : ∀ (l : List Fo) (e : Fo), foOs M l → foO M e → foOs M (l ++ [e])
  | [], e, _, h => ⟨h, trivial⟩
  | x :: l, e, h1, h => by simp only [foOs] at h1; exact ⟨h1.1, foOs_snoc l e h1.2 h⟩
theorem foOs_mem {M : Int} : ∀ {l : List Fo} {x : Fo}, foOs M l → x ∈ l → foO M x
  | e :: r, x, h, hm => by
    simp only [foOs] at h
    rcases List.mem_cons.1 hm with rfl | hm
    · exact h.1
    · exact foOs_mem h.2 hm
def baseOF (M : Int) : NF → Prop
  | .form => True
  | .args _ a u => 0 ≤ a ∧ a ≤ M ∧ ∀ b ∈ u, arO M b
  | .body _ a u b => 0 ≤ a ∧ a ≤ M ∧ (∀ b ∈ u, arO M b) ∧ foOs M b
theorem PF.offs {M : Int} (hM : 0 ≤ M) {nt : NF} {d n : Int} {l : List Tok} {x : ResF} (h : PF nt d n l x) : baseOF M nt → Within M l → ∀ {g c r}, x = .ok g c r → foO M g := by
  induction h with
  | form_go h h1 h2 ih =>
    intro b w g c r e
    have q := w.hd (ne_kind h (by decide))
    exact ih ⟨q.1, q.2, by simp⟩ (w.suf (List.tail_suffix _)) e
  | args_end h => intro b w g c r e; injection e with e1 e2 e3; subst e1; exact ⟨b.1, b.2.1, b.2.2, trivial⟩
  | args_body h h1 ih => intro b w g c r e; exact ih ⟨b.1, b.2.1, b.2.2, trivial⟩ (w.suf (List.tail_suffix _)) e
  | args_go h h1 h2 h3 h4 h5 ih =>
    intro b w g c r e
    refine ih ⟨b.1, b.2.1, fun y hy => ?_⟩ (w.suf h4.rest.1) e
    rcases List.mem_append.1 hy with hy | hy
    · exact b.2.2 y hy
    · rw [List.mem_singleton.1 hy]; exact h4.offs hM w
  | body_end h => intro b w g c r e; injection e with e1 e2 e3; subst e1; exact b
  | body_go h h1 h2 ih1 ih2 =>
    intro b w g c r e
    exact ih2 ⟨b.1, b.2.1, b.2.2.1, foOs_snoc _ _ b.2.2.2 (ih1 trivial w rfl)⟩ (w.suf h1.rest.1) e
  | _ => intro b w g c r e; cases e
theorem PL.offs {M : Int} (hM : 0 ≤ M) {n : Int} {out : List Fo} {l : List Tok} {x : ResL} (h : PL n out l x) : foOs M out → Within M l → ∀ {o}, x = .ok o → foOs M o := by
  induction h with
  | done h => intro b w o e; injection e with e; subst e; exact b
  | err => intro b w o e; cases e
  | go h h1 h2 ih => intro b w o e; exact ih (foOs_snoc _ _ b (h1.offs hM trivial w rfl)) (w.suf h1.rest.1) e
theorem FormsIs.offs {src : List UInt8} {x : List Fo} {a E : Int} (h : FormsIs src x a E) : foOs src.length x := by
  cases h with
  | ok h h1 => exact h1.offs (by omega) trivial (lex_at h) rfl
  | _ => trivial
theorem ExprIs.offs {src : List UInt8} {x : Ex} {a E : Int} (h : ExprIs src x a E) : exO src.length x := by
  cases h with
  | ok h h1 h2 => exact h1.offs trivial (lex_at h) rfl
  | _ => exact ⟨Int.le_refl _, by omega, trivial⟩
end Go.Shadow.Lex

/- Proved: shiftedExpr and shifted move all offsets. Conditions: sizes and offsets, as the theorems say. -/
namespace Go.Shadow.Lex
open Go Go.RowKit Go.Proofs

theorem wr_refl : ∀ l : List Ex, WeakR (l.map exV) (l.map exV)
  | [] => .nil
  | e :: r => .cons (wx_refl e) (wr_refl r)
theorem shXs_map (n : Int) : ∀ l : List Ex, shXs n l = l.map (shX n)
  | [] => rfl
  | e :: r => by simp [shXs, shXs_map n r]
theorem exVs_len' (kids : List Ex) : (exVs kids).length = kids.length := by rw [exVs_map]; simp
theorem kid_get' {kids : List Ex} {i : Nat} {x : Ex} (h : kids[i]? = some x) : (exVs kids)[i]? = some (exV x) := by rw [exVs_map]; simp [h]
set_option maxHeartbeats 1000000 in
theorem shiftedExpr_ret {M k : Int} (hM : M ≤ 1000000) (hk0 : 0 ≤ k) (hk : k ≤ 1000000) : ∀ (m : Nat) (x : Ex), exN x ≤ m → m ≤ 1000000 → exO M x → SRet Tryz.prog LG 33 [.agg (exV x), .int .i64 k] (.agg (exV (shX k x))) := by
  intro m
  induction m with
  | zero => intro x h; have := exN_pos x; omega
  | succ m ih =>
    intro x hm1 hm2 hO σ
    obtain ⟨op, n, s, kids, a⟩ := x
    simp only [exN] at hm1
    simp only [exO] at hO
    have hkl := exNs_len kids
    refine code33.call hm (by simp) ?_
    refine ⟨rfl, ?_⟩
    intro b2 f2
    intro b4 hb4
    have n24 := box_ne put_box hb4
    have f4 : σ.box b4 = none := put_none hb4
    have o2 : Over σ ((σ.put b2 (exV (.mk op n s kids a))).put b4 noEx) := over_put (over_put (.refl _) f2) f4
    have h2 : ((σ.put b2 (exV (.mk op n s kids a))).put b4 noEx).box b2 = some (exV (.mk op n s kids a)) := by rw [put_ne n24]; exact put_box
    have h4 : ((σ.put b2 (exV (.mk op n s kids a))).put b4 noEx).box b4 = some noEx := put_box
    generalize hσ : (σ.put b2 (exV (.mk op n s kids a))).put b4 noEx = σ1 at o2 h2 h4
    have hgoal : ∀ {G : St → Prop}, G σ1 → G ((σ.put b2 (exV (.mk op n s kids a))).put b4 noEx) := fun h => by rw [hσ]; exact h
    refine hgoal ?_
    clear hgoal hσ hb4
    refine Load.mk' h2 (by simp [exV]) ?_
    refine Test.split (fun h0 => ?_) (fun h0 => ?_)
    · refine Load.mk' h2 (by simp [exV]) ?_
      refine Sure.mk' rfl ?_
      refine Store.mk' (exV (.mk op n s kids a)) h4 (Nat.le_of_ble_eq_true rfl) rfl (fun σ2 e2 => ?_)
      refine Load.mk' (by rw [e2]; exact put_box) (by simp [exV]) ?_
      have hx : shX k (.mk op n s kids a) = .mk op n s kids a := if_pos h0
      refine Ret.weak (r := .agg (exV (.mk op n s kids a))) (.refl _) (σ' := σ) ?_ ⟨rfl, by rw [hx]⟩
      rw [e2]; exact over_put o2 f4
    · have hx : shX k (.mk op n s kids a) = .mk op n s (shXs k kids) (a + k) := if_neg h0
      refine Load.mk' h2 (by simp [exV]) ?_
      refine Arith.i64 (a + k) rfl (by omega) ?_
      refine Sure.mk' rfl ?_
      refine Store.mk' (exV (.mk op n s kids (a + k))) h2 (Nat.le_of_ble_eq_true rfl) rfl (fun σ2 e2 => ?_)
      have o3 : Over σ σ2 := by rw [e2]; exact over_put o2 f2
      have h22 : σ2.box b2 = some (exV (.mk op n s kids (a + k))) := by rw [e2]; exact put_box
      have h42 : σ2.box b4 = some noEx := by rw [e2, put_ne (Ne.symm n24)]; exact h4
      clear e2 o2 h2 h4
      refine ⟨fun q sl σ' => ∃ (i : Nat) (tag : Tag) (z : Nat), sl = ofL [(1, some (.int .i64 k)), (2, some (.loc b2 0)), (4, some (.loc b4 0)), (5, some (.slice tag z ((kids.take i).map fun x => exV (shX k x)))), (6, some (.int .i64 i))] ∧
          Over σ σ' ∧ Mine σ σ' tag ∧ (tag = .nil ∨ z = 5) ∧ (z = 5 ∨ i = 0) ∧ σ'.box b2 = some (exV (.mk op n s kids (a + k))) ∧ σ'.box b4 = some noEx ∧ i ≤ kids.length ∧ q = kids.length - i,
        _, ⟨0, .nil, 0, rfl, o3, trivial, .inl rfl, .inr rfl, h22, h42, Nat.zero_le _, rfl⟩, ?_⟩
      clear o3 h22 h42
      rintro q sl σ' ⟨i, tag, z, rfl, o, hmine, htz, hz, h2, h4, hi, rfl⟩
      have hlen := exVs_len' kids
      refine Load.mk' h2 (by simp [exV]) ?_
      refine Test.split (fun hlt => ?_) (fun hlt => ?_)
      · have hlt : i < kids.length := by rw [hlen] at hlt; omega
        obtain ⟨x, hx⟩ : ∃ x, kids[i]? = some x := ⟨_, List.getElem?_eq_getElem hlt⟩
        have hxm := List.mem_of_getElem? hx
        have hih := ih x (by have := exNs_mem hxm; omega) (by omega) (exOs_mem hO.2.2 hxm)
        have htk : (kids.take (i + 1)).map (fun x => exV (shX k x)) = (kids.take i).map (fun x => exV (shX k x)) ++ [exV (shX k x)] := by rw [List.take_add_one, hx]; simp
        have hxV := kid_get' hx
        obtain ⟨op', n', s', kids', a'⟩ := x
        refine Load.mk' h2 (by simp [exV]) ?_
        refine Sure.mk' (.inl rfl) ?_
        refine IdxE.mk' i _ rfl hxV ?_
        refine ⟨by simp [exV], ?_⟩
        refine CallK.pure hih ?_
        generalize shX k (.mk op' n' s' kids' a') = y at htk
        obtain ⟨op2, n2, s2, kids2, a2⟩ := y
        refine App.mk' o hmine htz rfl (by simp only [List.length_map, List.length_take, List.length_cons, List.length_nil]; omega) (by simp only [List.length_map, List.length_take, List.length_cons, List.length_nil]; omega) (List.cons_ne_nil _ _) (fun t' σ3 o3 m3 e3 _ => ?_)
        refine Arith.i64 ((i + 1 : Nat) : Int) (by simp) (by omega) ?_
        refine ⟨_, _, ?_, Forget.refl _, i + 1, .tip t', 5, by rw [htk]; rfl, o3, m3, .inr rfl, .inl rfl, by rw [e3]; exact h2, by rw [e3]; exact h4, by omega, rfl⟩
        omega
      · have hik : i = kids.length := by rw [hlen] at hlt; omega
        subst hik
        rw [List.take_length]
        refine Sure.mk' rfl ?_
        refine Store.mk' [.int .i64 op, .int .i64 n, .str s, .slice tag z (kids.map fun x => exV (shX k x)), .int .i64 (a + k)] h2 (Nat.le_of_ble_eq_true rfl) rfl (fun σ3 e3 => ?_)
        refine Load.mk' (by rw [e3]; exact put_box) (Nat.le_refl _) ?_
        refine Sure.mk' rfl ?_
        refine Store.mk' [.int .i64 op, .int .i64 n, .str s, .slice tag z (kids.map fun x => exV (shX k x)), .int .i64 (a + k)] (by rw [e3, put_ne (Ne.symm n24)]; exact h4) (Nat.le_refl _) rfl (fun σ5 e5 => ?_)
        refine Load.mk' (by rw [e5]; exact put_box) (Nat.le_refl _) ?_
        refine Ret.weak (r := .agg (exV (.mk op n s (shXs k kids) (a + k)))) (WeakL.agg (weak_exL ?_ ?_)) (σ' := σ) ?_ ⟨rfl, by rw [hx]⟩
        · have := wr_refl (shXs k kids)
          rw [shXs_map] at this ⊢
          simpa [Function.comp_def] using this
        · rcases hz with h | h
          · exact .inl h
          · exact .inr (by rw [List.eq_nil_of_length_eq_zero h]; rfl)
        · rw [e5, e3]; exact over_put (over_put o f2) f4

theorem foV_len (e : Fo) : (foV e).length = 4 := by cases e; rfl
theorem arV_one {a : Ar} : ∀ (j : Nat) (y : V), (arV a)[j]? = some y → y.one = true := by
  obtain ⟨k, n, s, ⟨op, m, t, kids, b⟩, c⟩ := a
  intro j y hy
  match j, hy with
  | 0, hy | 1, hy | 2, hy | 3, hy | 4, hy | 5, hy | 6, hy | 7, hy | 8, hy => simp [arV, exV] at hy; subst hy; rfl
  | _ + 9, hy => simp [arV, exV] at hy
theorem arV_len (a : Ar) : (arV a).length = 9 := by obtain ⟨k, n, s, ⟨op, m, t, kids, b⟩, c⟩ := a; rfl
theorem war_refl : ∀ l : List Ar, WeakR (l.map arV) (l.map arV)
  | [] => .nil
  | e :: r => .cons (.refl arV_one) (war_refl r)
/-- A form's cells, out of a literal. -/
theorem weakL_fo {w : List UInt8} {t t2 : Tag} {z z2 : Nat} {as1 : List Ar} {es : List (List V)} {a : Int} {body : List Fo} (hz : z = 9 ∨ as1 = []) (h : WeakR es (body.map foV)) (hz2 : z2 = 4 ∨ es = []) : WeakL [.str w, .slice t z (as1.map arV), .slice t2 z2 es, .int .i64 a] (foV (.mk w as1 body a)) := by
  refine .cons rfl (.refl _) (.cons rfl ?_ (.cons rfl ?_ (.cons rfl (.refl _) .nil)))
  · refine weak_rows (war_refl as1) ?_ (fun f hf => by
      obtain ⟨e, _, rfl⟩ := List.mem_map.1 hf
      exact arV_len e)
    rcases hz with h | h
    · exact .inl h
    · exact .inr (by rw [h]; rfl)
  · rw [foVs_map]
    exact weak_rows h hz2 (fun f hf => by
      obtain ⟨e, _, rfl⟩ := List.mem_map.1 hf
      exact foV_len e)
theorem WeakR.snoc {es fs : List (List V)} {c d : List V} (h : WeakR es fs) (k : WeakL c d) : WeakR (es ++ [c]) (fs ++ [d]) := by
  induction h with
  | nil => exact .cons k .nil
  | cons h _ ih => exact .cons h ih
theorem weakR_refl_fo : ∀ l : List Fo, WeakR (l.map foV) (l.map foV)
  | [] => .nil
  | ⟨w, args, body, a⟩ :: r => .cons (by
      have := weakL_fo (w := w) (t := .foreign) (t2 := .foreign) (z := 9) (z2 := 4) (as1 := args) (es := body.map foV) (a := a) (body := body) (.inl rfl) (weakR_refl_fo body) (.inl rfl)
      rw [← foVs_map] at this; exact this) (weakR_refl_fo r)
end Go.Shadow.Lex

/- Proved: shifted moves all offsets. Conditions: sizes and offsets, as the theorem says. -/
namespace Go.Shadow.Lex
open Go Go.RowKit Go.Proofs

set_option maxHeartbeats 2000000 in
theorem shifted_ret {M k : Int} (hM : M ≤ 1000000) (hk0 : 0 ≤ k) (hk : k ≤ 1000000) : ∀ (m : Nat) (l : List Fo) (tg : Tag), foNs l ≤ m → m ≤ 1000000 → foOs M l → SRet Tryz.prog LG 14 [.slice tg 4 (l.map foV), .int .i64 k] (.slice .foreign 4 ((shFs k l).map foV)) := by
  intro m
  induction m using Nat.strongRecOn with
  | _ m ih =>
  intro l tg hm1 hm2 hO σ
  have hll := foNs_len l
  have hlen : (l.map foV).length = l.length := by simp
  refine code14.call hm (by simp) ?_
  refine ⟨fun q sl σ' => ∃ (i : Nat) (tag : Tag) (z : Nat) (es : List (List V)), sl = ofL [(0, some (.slice tg 4 (l.map foV))), (1, some (.int .i64 k)), (5, some (.slice tag z es)), (6, some (.int .i64 i))] ∧
      Over σ σ' ∧ Mine σ σ' tag ∧ (tag = .nil ∨ z = 4) ∧ (z = 4 ∨ es = []) ∧ WeakR es ((shFs k (l.take i)).map foV) ∧ i ≤ l.length ∧ q = l.length - i,
    _, ⟨0, .nil, 0, [], rfl, .refl _, trivial, .inl rfl, .inr rfl, .nil, Nat.zero_le _, rfl⟩, ?_⟩
  rintro q sl σ0 ⟨i, tag, z, es, rfl, o, hmine, htz, hz, hes, hi, rfl⟩
  refine Test.split (fun hlt => ?_) (fun hlt => ?_)
  · have hlt : i < l.length := by rw [hlen] at hlt; omega
    have hle : es.length = i := by rw [hes.len]; simp [shFs_map]; omega
    obtain ⟨x, hx⟩ : ∃ x, l[i]? = some x := ⟨_, List.getElem?_eq_getElem hlt⟩
    have hxm := List.mem_of_getElem? hx
    have hxN := foNs_mem hxm
    have hxO := foOs_mem hO hxm
    have htk : (shFs k (l.take (i + 1))).map foV = (shFs k (l.take i)).map foV ++ [foV (shF k x)] := by rw [shFs_map, shFs_map, List.take_add_one, hx]; simp
    have hxV : (l.map foV)[i]? = some (foV x) := by simp [hx]
    obtain ⟨w, args, body, a⟩ := x
    simp only [foN] at hxN
    simp only [foO] at hxO
    have hal := arNs_len args
    have halen : (args.map arV).length = args.length := by simp
    have hbl := foNs_len body
    refine Sure.mk' (.inl rfl) ?_
    refine IdxE.mk' i _ rfl hxV ?_
    refine ⟨by simp [foV], ?_⟩
    intro b7 f7
    refine Sure.mk' rfl ?_
    refine Store.mk' (foV (.mk w args body a)) put_box (Nat.le_of_ble_eq_true rfl) rfl (fun σ1 e1 => ?_)
    rw [put_put] at e1
    have o1 : Over σ0 σ1 := by rw [e1]; exact over_put (.refl _) f7
    have h7 : σ1.box b7 = some (foV (.mk w args body a)) := by rw [e1]; exact put_box
    clear e1
    refine Load.mk' h7 (by simp [foV]) ?_
    refine Arith.i64 (a + k) rfl (by omega) ?_
    refine Sure.mk' rfl ?_
    refine Store.mk' [.str w, .slice .foreign 9 (args.map arV), .slice .foreign 4 (foVs body), .int .i64 (a + k)] h7 (Nat.le_of_ble_eq_true rfl) rfl (fun σ2 e2 => ?_)
    have o2 : Over σ0 σ2 := by rw [e2]; exact over_put o1 f7
    have h72 : σ2.box b7 = some [.str w, .slice .foreign 9 (args.map arV), .slice .foreign 4 (foVs body), .int .i64 (a + k)] := by rw [e2]; exact put_box
    clear e2
    refine Sure.mk' rfl ?_
    refine Store.mk' [.str w, .slice .nil 0 [], .slice .foreign 4 (foVs body), .int .i64 (a + k)] h72 (Nat.le_of_ble_eq_true rfl) rfl (fun σ3 e3 => ?_)
    have o3 : Over σ0 σ3 := by rw [e3]; exact over_put o2 f7
    have h73 : σ3.box b7 = some [.str w, .slice .nil 0 [], .slice .foreign 4 (foVs body), .int .i64 (a + k)] := by rw [e3]; exact put_box
    clear e3 o1 o2 h7 h72
    refine ⟨fun q sl σ' => ∃ (j : Nat) (tag2 : Tag) (z2 : Nat), sl = ofL [(0, some (.slice tg 4 (l.map foV))), (1, some (.int .i64 k)), (5, some (.slice tag z es)), (6, some (.int .i64 i)), (7, some (.loc b7 0)), (8, some (.int .i64 j))] ∧
        Over σ0 σ' ∧ Mine σ0 σ' tag2 ∧ (tag2 = .nil ∨ z2 = 9) ∧ (z2 = 9 ∨ j = 0) ∧ σ'.box b7 = some [.str w, .slice tag2 z2 (((args.take j).map (shA k)).map arV), .slice .foreign 4 (foVs body), .int .i64 (a + k)] ∧ j ≤ args.length ∧ q = args.length - j,
      _, ⟨0, .nil, 0, rfl, o3, trivial, .inl rfl, .inr rfl, h73, Nat.zero_le _, rfl⟩, ?_⟩
    clear o3 h73
    rintro q sl σ4 ⟨j, tag2, z2, rfl, o4, m4, tz4, z4, h74, hj, rfl⟩
    refine Sure.mk' (.inl rfl) ?_
    refine IdxE.mk' i _ rfl hxV ?_
    refine ⟨by simp [foV], ?_⟩
    refine Test.split (fun hlt2 => ?_) (fun hlt2 => ?_)
    · have hlt2 : j < args.length := by rw [halen] at hlt2; omega
      obtain ⟨y, hy⟩ : ∃ y, args[j]? = some y := ⟨_, List.getElem?_eq_getElem hlt2⟩
      have hym := List.mem_of_getElem? hy
      have hyN := arNs_mem hym
      have hyO := hxO.2.2.1 y hym
      have htk2 : ((args.take (j + 1)).map (shA k)).map arV = ((args.take j).map (shA k)).map arV ++ [arV (shA k y)] := by rw [List.take_add_one, hy]; simp
      have hyV : (args.map arV)[j]? = some (arV y) := by simp [hy]
      have hih := shiftedExpr_ret (M := M) (k := k) hM hk0 hk 1000000 y.e (by omega) (Nat.le_refl _) hyO.2.2
      obtain ⟨ak, an, as0, ⟨op, en, et, kids, ea⟩, aat⟩ := y
      simp only [arO] at hyO
      refine Sure.mk' (.inl rfl) ?_
      refine IdxE.mk' i _ rfl hxV ?_
      refine ⟨by simp [foV], ?_⟩
      refine Sure.mk' (.inl rfl) ?_
      refine IdxE.mk' j _ rfl hyV ?_
      refine ⟨by simp [arV, exV], ?_⟩
      intro b9 f9
      have n79 := box_ne h74 f9
      refine Sure.mk' rfl ?_
      refine Store.mk' (arV ⟨ak, an, as0, .mk op en et kids ea, aat⟩) put_box (Nat.le_of_ble_eq_true rfl) rfl (fun σ5 e5 => ?_)
      rw [put_put] at e5
      have f9' := over_none o4 f9
      have o5 : Over σ0 σ5 := by rw [e5]; exact over_put o4 f9'
      have h75 : σ5.box b7 = some [.str w, .slice tag2 z2 (((args.take j).map (shA k)).map arV), .slice .foreign 4 (foVs body), .int .i64 (a + k)] := by rw [e5, put_ne n79]; exact h74
      have h95 : σ5.box b9 = some (arV ⟨ak, an, as0, .mk op en et kids ea, aat⟩) := by rw [e5]; exact put_box
      have m5 : Mine σ0 σ5 tag2 := by rw [e5]; exact m4
      clear e5 f9
      refine Load.mk' h95 (by simp [arV, exV]) ?_
      refine Arith.i64 (aat + k) rfl (by omega) ?_
      refine Sure.mk' rfl ?_
      refine Store.mk' (arV ⟨ak, an, as0, .mk op en et kids ea, aat + k⟩) h95 (Nat.le_of_ble_eq_true rfl) rfl (fun σ6 e6 => ?_)
      have o6 : Over σ0 σ6 := by rw [e6]; exact over_put o5 f9'
      have h76 : σ6.box b7 = some [.str w, .slice tag2 z2 (((args.take j).map (shA k)).map arV), .slice .foreign 4 (foVs body), .int .i64 (a + k)] := by rw [e6, put_ne n79]; exact h75
      have h96 : σ6.box b9 = some (arV ⟨ak, an, as0, .mk op en et kids ea, aat + k⟩) := by rw [e6]; exact put_box
      have m6 : Mine σ0 σ6 tag2 := by rw [e6]; exact m5
      clear e6 o5 h75 h95 m5
      refine Load.mk' h96 (by simp [arV, exV]) ?_
      refine CallK.pure hih ?_
      have hsh : shA k ⟨ak, an, as0, .mk op en et kids ea, aat⟩ = ⟨ak, an, as0, shX k (.mk op en et kids ea), aat + k⟩ := rfl
      rw [hsh] at htk2
      simp only [show (Ar.mk ak an as0 (.mk op en et kids ea) aat).e = Ex.mk op en et kids ea from rfl]
      generalize shX k (.mk op en et kids ea) = y2 at htk2
      obtain ⟨op2, n2, s2, kids2, a2⟩ := y2
      refine Sure.mk' rfl ?_
      refine Store.mk' (arV ⟨ak, an, as0, .mk op2 n2 s2 kids2 a2, aat + k⟩) h96 (Nat.le_of_ble_eq_true rfl) rfl (fun σ7 e7 => ?_)
      have o7 : Over σ0 σ7 := by rw [e7]; exact over_put o6 f9'
      have h77 : σ7.box b7 = some [.str w, .slice tag2 z2 (((args.take j).map (shA k)).map arV), .slice .foreign 4 (foVs body), .int .i64 (a + k)] := by rw [e7, put_ne n79]; exact h76
      have h97 : σ7.box b9 = some (arV ⟨ak, an, as0, .mk op2 n2 s2 kids2 a2, aat + k⟩) := by rw [e7]; exact put_box
      have m7 : Mine σ0 σ7 tag2 := by rw [e7]; exact m6
      clear e7 o6 h76 h96 m6
      refine Load.mk' h77 (by simp) ?_
      refine Load.mk' h97 (by simp [arV, exV]) ?_
      refine App.mk' o7 m7 tz4 rfl (by simp only [List.length_map, List.length_take, List.length_cons, List.length_nil]; omega) (by simp only [List.length_map, List.length_take, List.length_cons, List.length_nil]; omega) (List.cons_ne_nil _ _) (fun t' σ8 o8 m8 e8 _ => ?_)
      refine Sure.mk' rfl ?_
      refine Store.mk' [.str w, .slice (.tip t') 9 (((args.take (j + 1)).map (shA k)).map arV), .slice .foreign 4 (foVs body), .int .i64 (a + k)] (by rw [e8]; exact h77) (Nat.le_of_ble_eq_true rfl) (by rw [htk2]; rfl) (fun σ9 e9 => ?_)
      refine Arith.i64 ((j + 1 : Nat) : Int) (by simp) (by omega) ?_
      refine ⟨_, _, ?_, Forget.refl _, j + 1, .tip t', 9, rfl, by rw [e9]; exact over_put o8 f7, by rw [e9]; exact m8, .inr rfl, .inl rfl, by rw [e9]; exact put_box, by omega, rfl⟩
      omega
    · have hjk : j = args.length := by rw [halen] at hlt2; omega
      subst hjk
      rw [List.take_length] at h74
      refine Load.mk' h74 (by simp) ?_
      have hih := ih (m - 1) (by omega) body .foreign (by omega) (by omega) hxO.2.2.2
      rw [← foVs_map] at hih
      refine CallK.pure hih ?_
      refine Sure.mk' rfl ?_
      refine Store.mk' [.str w, .slice tag2 z2 ((args.map (shA k)).map arV), .slice .foreign 4 ((shFs k body).map foV), .int .i64 (a + k)] h74 (Nat.le_of_ble_eq_true rfl) rfl (fun σ5 e5 => ?_)
      have o5 : Over σ0 σ5 := by rw [e5]; exact over_put o4 f7
      have h75 : σ5.box b7 = some [.str w, .slice tag2 z2 ((args.map (shA k)).map arV), .slice .foreign 4 ((shFs k body).map foV), .int .i64 (a + k)] := by rw [e5]; exact put_box
      clear e5 o4 h74
      refine Load.mk' h75 (by simp) ?_
      refine App.mk' (over_tr o o5) (hmine.over o5) htz rfl (show (es.length + 1) * 72 ≤ 140737488355328 from by omega) (show es.length + 1 ≤ 9223372036854775807 from by omega) (List.cons_ne_nil _ _) (fun t' σ8 o8 m8 e8 _ => ?_)
      refine Arith.i64 ((i + 1 : Nat) : Int) (by simp) (by omega) ?_
      refine ⟨_, _, ?_, Forget.refl _, i + 1, .tip t', 4, _, rfl, o8, m8, .inr rfl, .inl rfl, ?_, by omega, rfl⟩
      · omega
      · rw [htk]
        refine hes.snoc ?_
        simp only [shF]
        refine weakL_fo ?_ (weakR_refl_fo _) (.inl rfl)
        rcases z4 with h | h
        · exact .inl h
        · exact .inr (by rw [List.eq_nil_of_length_eq_zero h]; rfl)
  · have hik : i = l.length := by rw [hlen] at hlt; omega
    subst hik
    rw [List.take_length] at hes
    refine Ret.weak (r := .slice .foreign 4 ((shFs k l).map foV)) (weak_rows hes hz (fun f hf => by
      obtain ⟨e, _, rfl⟩ := List.mem_map.1 hf
      exact foV_len e)) (σ' := σ) o ⟨rfl, rfl⟩
end Go.Shadow.Lex

/- Proved: law 4 (ParseJoins) as a contract. Conditions: none. -/
namespace Go.Shadow.Lex
open Go Go.RowKit Go.Proofs

theorem _root_.Go.Shadow.App.any {s bytes : Nat} {tag : Tag} {es ns : List (List V)} {σ σ1 : St} {K : V → St → Prop} (o : Over σ1 σ) (m : Mine σ1 σ tag) (hb : (es.length + ns.length) * bytes ≤ 140737488355328) (hb0 : es.length + ns.length ≤ 9223372036854775807)
    (k : ∀ tag' σ', Over σ1 σ' → Mine σ1 σ' tag' → σ'.box = σ.box → K (.slice tag' s (es ++ ns)) σ') : App s bytes tag s es s ns σ K := by
  cases ns with
  | nil => exact ⟨.inr rfl, .inl rfl, hb, hb0, by have := k tag σ o m rfl; rw [List.append_nil] at this; exact this⟩
  | cons n ns => exact App.mk' o m (.inr rfl) rfl hb hb0 (by simp) fun t' σ' o' m' e' _ => k _ _ o' m' e'
set_option maxHeartbeats 1000000 in
theorem law4 (a b : List UInt8) : SRet Tryz.prog LG 4 [.str a, .str b] (.bool true) := by
  intro σ0
  refine code4.call hm (by simp) ?_
  refine Test.split (fun h => ?_) (fun h => ?_)
  · refine CallK.pure sanity_ret ?_
    exact Ret.mk' ⟨rfl, rfl⟩
  refine Test.split (fun h2 => ?_) (fun h2 => ?_)
  · refine CallK.pure sanity_ret ?_
    exact Ret.mk' ⟨rfl, rfl⟩
  have ha : a.length ≤ 300 := by omega
  have hb : b.length ≤ 300 := by omega
  clear h h2
  refine CallK.mk' (formsP_call a (by omega) _) ?_
  rintro e σ1 ⟨rfl, out, ka, Ea, hA, rfl⟩
  have hAt := hA.at_
  have hAn := hA.size
  intro b6 fb6
  refine Sure.mk' rfl ?_
  refine Store.mk' ([.int .i64 ka, .int .i64 Ea]) put_box (Nat.le_of_ble_eq_true rfl) rfl (fun σ2 e => ?_)
  rw [put_put] at e; obtain ⟨ob6, gb6⟩ := new_box fb6 ([.int .i64 ka, .int .i64 Ea]); rw [← e] at ob6 gb6; clear e fb6
  refine Load.mk' gb6 (Nat.le_of_ble_eq_true rfl) ?_
  refine Test.split (fun hE => ?_) (fun hE => ?_)
  · refine CallK.pure sanity_ret ?_
    refine Load.mk' gb6 (Nat.le_of_ble_eq_true rfl) ?_
    refine Test.yes hAt.1 ?_
    refine Load.mk' gb6 (Nat.le_of_ble_eq_true rfl) ?_
    refine Test.yes hAt.2.1 ?_
    refine Test.yes (by rw [hAt.2.2.1 hE]; rfl) ?_
    exact Ret.weak (.refl _) ob6 ⟨rfl, rfl⟩
  have hE : Ea = 0 := Classical.byContradiction fun h => hE h
  subst hE
  refine CallK.mk' (formsP_call b (by omega) _) ?_
  rintro e σ3 ⟨rfl, out2, k2, E2, hB, rfl⟩
  have hBn := hB.size
  have hBt := hB.at_
  intro b8 fb8
  refine Sure.mk' rfl ?_
  refine Store.mk' ([.int .i64 k2, .int .i64 E2]) put_box (Nat.le_of_ble_eq_true rfl) rfl (fun σ4 e => ?_)
  rw [put_put] at e; obtain ⟨ob8, gb8⟩ := new_box fb8 ([.int .i64 k2, .int .i64 E2]); rw [← e] at ob8 gb8; clear e fb8
  have gb6 := ob8.box _ _ gb6
  have hJ := hA.join (by omega) hB
  rw [pre_cons] at hJ
  refine Sure.mk' (by simp; omega) ?_
  refine Sure.mk' (by simp; omega) ?_
  refine CallK.mk' (formsP_call ((a ++ [10]) ++ b) (by simp; omega) _) ?_
  rintro e σ5 ⟨rfl, out3, k3, E3, hC, rfl⟩
  have hCn := hC.size
  obtain ⟨e1, e2, rfl⟩ := hC.det hJ
  intro b10 fb10
  refine Sure.mk' rfl ?_
  refine Store.mk' ([.int .i64 k3, .int .i64 E3]) put_box (Nat.le_of_ble_eq_true rfl) rfl (fun σ6 e => ?_)
  rw [put_put] at e; obtain ⟨ob10, gb10⟩ := new_box fb10 ([.int .i64 k3, .int .i64 E3]); rw [← e] at ob10 gb10; clear e fb10
  have gb8 := ob10.box _ _ gb8
  have oall := over_tr (over_tr ob6 ob8) ob10
  refine Load.mk' gb8 (Nat.le_of_ble_eq_true rfl) ?_
  refine Test.split (fun hE => ?_) (fun hE => ?_)
  · have hE : ¬ E3 = 0 := hE
    rw [if_neg hE] at e1 e2
    subst e1; subst e2
    refine CallK.pure sanity_ret ?_
    refine Load.mk' gb10 (Nat.le_of_ble_eq_true rfl) ?_
    refine Load.mk' gb8 (Nat.le_of_ble_eq_true rfl) ?_
    refine Arith.i64 (k2 + a.length) rfl (by omega) ?_
    refine Arith.i64 (k2 + a.length + 1) rfl (by omega) ?_
    refine Load.mk' gb8 (Nat.le_of_ble_eq_true rfl) ?_
    refine BTest.yes (by simp) ?_
    refine Test.yes rfl ?_
    exact Ret.weak (.refl _) oall ⟨rfl, rfl⟩
  have hE : E3 = 0 := Classical.byContradiction fun h => hE h
  subst hE
  rw [if_pos rfl] at e1 e2
  subst e1; subst e2
  have hol := foNs_len out
  have hol2 := foNs_len out2
  have hmap : (out ++ shFs ((a.length + 1 : Nat) : Int) out2).map foV = out.map foV ++ (shFs ((a.length + 1 : Nat) : Int) out2).map foV := List.map_append
  have hsame : ∀ t : Tag, SRet Tryz.prog LG 12 [.slice .foreign 4 ((out ++ shFs ((a.length + 1 : Nat) : Int) out2).map foV), .slice t 4 (out.map foV ++ (shFs ((a.length + 1 : Nat) : Int) out2).map foV), .bool true] (.bool true) := fun t => by
    rw [← hmap]
    exact sameFRef_refl 1000000 (out ++ shFs ((a.length + 1 : Nat) : Int) out2) .foreign t (by simp only [List.length_append, List.length_cons, List.length_nil] at hCn; omega) (Nat.le_refl _)
  have hshift := shifted_ret (M := b.length) (k := ((a.length + 1 : Nat) : Int)) (by omega) (by omega) (by omega) 1000000 out2 .foreign (by omega) (Nat.le_refl _) hB.offs
  have hrl : ((shFs ((a.length + 1 : Nat) : Int) out2).map foV).length = out2.length := by simp [shFs_map]
  refine App.any (Over.refl σ6) trivial (by simp; omega) (by simp; omega) (fun tag' σ7 o7 m7 e7 => ?_)
  refine Arith.i64 ((a.length + 1 : Nat) : Int) (by simp) (by omega) ?_
  refine CallK.pure hshift ?_
  refine App.any o7 m7 (by rw [hrl]; simp; omega) (by rw [hrl]; simp; omega) (fun tag8 σ8 o8 m8 e8 => ?_)
  refine CallK.pure sanity_ret ?_
  refine Load.mk' (o8.box _ _ gb10) (Nat.le_of_ble_eq_true rfl) ?_
  refine BTest.yes rfl ?_
  refine CallK.pure (hsame tag8) ?_
  exact Ret.weak (.refl _) (over_tr oall o8) ⟨rfl, rfl⟩
end Go.Shadow.Lex

/- What the rows' cell 'laid' gives the walks; and a start that meets it. -/
namespace Go.Shadow.Lex
open Go Go.RowKit Go.Proofs Go.Proofs.YtaefelmojpkpaaaGreatDoor

def laidAll : List (String × DataW Unit) := [("math/bits.deBruijn32tab", Rows.laid_math_bits_deBruijn32tab), ("math/bits.deBruijn64tab", Rows.laid_math_bits_deBruijn64tab), ("internal/strconv.uint64pow10", Rows.laid_internal_strconv_uint64pow10), ("strconv.ErrRange", Rows.laid_strconv_ErrRange), ("strconv.ErrSyntax", Rows.laid_strconv_ErrSyntax), ("unicode.White_Space", Rows.laid_unicode_White_Space), ("strings.asciiSpace", Rows.laid_strings_asciiSpace)]

theorem own : ownKnob Tryz.prog.godebug = none := by kernel_rfl
theorem gA : Tryz.prog.globalNamed "strings.asciiSpace" = some 0 := by kernel_rfl
theorem gP : Tryz.prog.globalNamed "internal/strconv.uint64pow10" = some 1 := by kernel_rfl
theorem gS : Tryz.prog.globalNamed "strconv.ErrSyntax" = some 4 := by kernel_rfl
theorem gR : Tryz.prog.globalNamed "strconv.ErrRange" = some 5 := by kernel_rfl
theorem tA : (Tryz.prog.globals[0]?).map (·.type) = some 195 := by kernel_rfl
theorem tP : (Tryz.prog.globals[1]?).map (·.type) = some 210 := by kernel_rfl
theorem tS : (Tryz.prog.globals[4]?).map (·.type) = some 161 := by kernel_rfl
theorem tR : (Tryz.prog.globals[5]?).map (·.type) = some 161 := by kernel_rfl
theorem star : "*" ++ "errors.errorString" = "*errors.errorString" := by decide
theorem row270 (u : TypeId) (h : Tryz.prog.typeName? 3 u = some "*errors.errorString") : u = 270 :=
  typeName_ptr_named (nm := "errors.errorString") (by rw [star]; kernel_rfl) (by kernel_rfl) (by decide) u (by rw [star]; exact h)
theorem cells272 : Tryz.prog.cellsOf 272 = 1 := by kernel_rfl
theorem cells9 : Tryz.prog.cellsOf 9 = 1 := by kernel_rfl
theorem dataA : (Rows.laid_strings_asciiSpace : DataW Unit) = Lib.tabData .u8 Lib.asciiSpaceTab := by kernel_rfl
theorem dataP : (Rows.laid_internal_strconv_uint64pow10 : DataW Unit) = Lib.tabData .u64 Lib.pow10Tab := by kernel_rfl

theorem tab_of {W : World} {n : String} {k : IntKind} {zs : List Int} {d : DataW Unit} {g : Nat} {t e : TypeId} {m : Nat} (h : Lib.VarReads Tryz.prog W n d) (hd : d = Lib.tabData k zs)
    (hg : Tryz.prog.globalNamed n = some g) (hty : (Tryz.prog.globals[g]?).map (·.type) = some t) (ht : Tryz.prog.underlying t = some (.array m e)) (he : Tryz.prog.underlying e = some (.int k)) (hce : Tryz.prog.cellsOf e = 1) (hct : Tryz.prog.cellsOf t = m) : Lib.TabIs Tryz.prog W n k zs := by
  obtain ⟨g', t', cs, fuel, p, hg', hty', hv, htr⟩ := h
  obtain rfl := Option.some.inj (hg.symm.trans hg')
  obtain rfl := Option.some.inj (hty.symm.trans hty')
  subst hd
  have := Lib.cells_of_tab ht he hce hct htr
  unfold Lib.TabIs
  rw [hv, ← this]

theorem lexPre_of {W : World} (h0 : laidMetH Tryz.prog laidAll W) : lexPre W := by
  have h : laidMet Tryz.prog laidAll W := by
    rw [MakeChecks.laidMetH_plain _ _ _ (by kernel_rfl)] at h0; exact h0
  refine ⟨?_, ?_, ?_, ?_⟩
  · exact tab_of (Lib.laidMet.reads h (n := "strings.asciiSpace") (d := Rows.laid_strings_asciiSpace) (by simp [laidAll])) dataA gA tA Tryz.underlying195 Tryz.underlying5 (by kernel_rfl) (by kernel_rfl)
  · exact tab_of (Lib.laidMet.reads h (n := "internal/strconv.uint64pow10") (d := Rows.laid_internal_strconv_uint64pow10) (by simp [laidAll])) dataP gP tP Tryz.underlying210 Tryz.underlying182 (by kernel_rfl) (by kernel_rfl)
  · obtain ⟨a, s, hv, _⟩ := laid_sentinel (h.tail.tail.tail.tail) gS tS Tryz.underlying161 row270 Tryz.underlying270 Tryz.underlying272 rfl rfl Tryz.underlying9 cells272 cells9
    have := World.var?_cell gS hv 0
    exact ⟨270, _, by simpa using this⟩
  · obtain ⟨a, s, hv, _⟩ := laid_sentinel (h.tail.tail.tail) gR tR Tryz.underlying161 row270 Tryz.underlying270 Tryz.underlying272 rfl rfl Tryz.underlying9 cells272 cells9
    have := World.var?_cell gR hv 0
    exact ⟨270, _, by simpa using this⟩

/-- The door's own heap meets the condition. -/
theorem door_met (os : Os) (args : Array Value) : laidMetH Tryz.prog laidAll ((World.doorLaid Tryz.prog 400 os).forCall (fun _ _ => 0) ⟨#[], args, []⟩).memory :=
  laidMetH_of_parts3 (fuel := 8) (laidMet_of_run' 8 (by kernel_rfl) (by kernel_rfl)) (by kernel_rfl) (by kernel_rfl)
end Go.Shadow.Lex

/- THE SHADOW LOGIC, part 18: out of it: a contract as 'Calls', for a row. -/
namespace Go.Shadow
open Go Go.RowKit Go.Proofs

def Gh.zero : Gh := { row := fun _ => none, tip := fun _ => none, nt := 0 }
def St.zero : St := { box := fun _ => none, live := fun _ => false, map := fun _ => none }
theorem Inv.zero {G : Globs} {W : World} (hp : G.pre W) (hg : ∀ g cs, G g = some cs → R W.heap.size Gh.zero W (.ref cs) (.pointer (some ⟨g, 0, none⟩))) : Inv G W Gh.zero St.zero W :=
  ⟨.refl _ _, fun b cs h => (by cases h), fun t h => (by cases h), fun t g h => (by cases h), fun t t' g h => (by cases h), fun b u h => (by cases h), hg, hp, fun r m h => (by cases h)⟩
theorem SRet.run {P : Program} {G : Globs} {f : FuncId} {args : List V} {r : V} {W : World} {xs : Array Value} {v : Value} (h : SRet P G f args r) (he : ∀ args w, (callFunc f args).run P w = .ok (.enter f args) w) (hp : G.pre W)
    (hg : ∀ g cs, G g = some cs → R W.heap.size Gh.zero W (.ref cs) (.pointer (some ⟨g, 0, none⟩))) (hx : RL W.heap.size Gh.zero W args xs.toList) (hv : ∀ B γ w x, R B γ w r x → x = v) :
    Calls P f xs W fun e W' => e = .returned v ∧ Below W.heap.size W W' := by
  rcases h St.zero W Gh.zero W xs (.zero hp hg) hx with ⟨_, hc⟩ | ⟨x, w', h1, _⟩
  · refine hc.mono ?_
    rintro e w' ⟨γ', σ', _, hI, r', x, hR, ⟨rfl, _, hr⟩ | ⟨_, _, hr⟩⟩
    · injection hr with hr; subst hr
      exact ⟨by rw [hv _ _ _ _ hR], hI.bel⟩
    · cases hr
  · rw [he] at h1; cases h1
theorem R.bool_eq {B : Nat} {γ : Gh} {w : World} {b : Bool} {x : Value} (h : R B γ w (.bool b) x) : x = .bool b := by cases h; rfl
end Go.Shadow

/- Proved: the row of ParseJoins: for every input the call returns true, and each argument reads as it did. Conditions: those of the row (laid). -/
set_option linter.unusedVariables false
namespace Go.Shadow.Lex.R4
open Go Go.ChangeShapes Go.WideShapes Go.ChangeAt Go.RowKit Go.Proofs Go.Proofs.YtaefelmojpkpaaaGreatDoor
open Go.ChangeMaps (open_string shut_string)

theorem walk (a0 : ByteArray) (y0 : a0.size ≤ maxLen) (a1 : ByteArray) (y1 : a1.size ≤ maxLen) (W : World) (hL : laidMetH Tryz.prog laidAll W) :
    Calls Tryz.prog 4 #[.string a0, .string a1] W fun e W' => e = .returned (.bool true) ∧ Below W.heap.size W W' := by
  refine (law4 a0.data.toList a1.data.toList).run (enters_of Tryz.func4 (by kernel_rfl) rfl) (lexPre_of hL) (fun g cs h => by cases h) ?_ (fun B γ w x h => h.bool_eq)
  exact (.cons (.str _ _ rfl) (.cons (.str _ _ rfl) .nil))

set_option maxRecDepth 100000 in
theorem lifted (os : Os) (started : os.Started) (H : Type) (enc : TypeId × Value → H) :
    ReturnsInHanded {} Tryz.checked os 4 .any (fun w args => (Rows.parseJoinsSpec.pre enc Tryz.prog Tryz.f4 [] false w args ∧ laidMetH Tryz.prog laidAll w) ∧ sizedMet enc Tryz.prog Tryz.f4 (OpenSpec.ofChange Rows.parseJoinsSpec) false w args)
      (Rows.parseJoinsSpec.post enc Tryz.prog Tryz.f4 false true false false) := by
  refine returnsInHanded_of_change_and (C := Tryz.checked) (X := fun w _ => laidMetH Tryz.prog laidAll w) (fun _ _ _ hh h => h.of_heap hh) own started (by kernel_rfl) Tryz.func4
    (ChangeSpec.witness_shaped (enc := enc) (C := Tryz.checked) (os := os) (X := fun w _ => laidMetH Tryz.prog laidAll w) false (World.doorLaid Tryz.prog 400 os) #[.string ByteArray.empty, .string ByteArray.empty] 8 rfl (World.shaped_of_RefB (by kernel_rfl) (by kernel_rfl)) (by kernel_rfl) (by kernel_rfl) (by kernel_rfl) (door_met os _)) ?_
  intro W base args ds gs before hval0 hW _ _ hL _
  have hval : ∀ (j : Nat) t v, Tryz.f4.params[j]? = some t → args[j]? = some v → Value.okWide Tryz.prog W .any base t v := hval0
  have hW' := hW
  obtain ⟨p, q, hA0, hV, rfl, hfz, hnd⟩ := hW
  have hA : DataW.TrodAll enc Tryz.prog W 0 (fun _ => true) true Tryz.f4.params.toList args.toList ds p := hA0
  rw [Tryz.params4] at hA hval
  obtain ⟨v0, vs0, d0, ds0, p0, q0, hargs, rfl, rfl, h0, r0⟩ := trodAll_cons hA
  obtain ⟨v1, vs1, d1, ds1, p1, q1, rfl, rfl, rfl, h1, r1⟩ := trodAll_cons r0
  obtain ⟨rfl, rfl, rfl⟩ := trodAll_nil r1
  obtain rfl : args = #[v0, v1] := by cases args; simp_all
  obtain ⟨rfl, rfl⟩ := trodVars_none hV
  obtain ⟨a0, rfl, rfl, rfl, y0⟩ := open_string Tryz.underlying9 (hval 0 9 v0 rfl rfl) h0
  obtain ⟨a1, rfl, rfl, rfl, y1⟩ := open_string Tryz.underlying9 (hval 1 9 v1 rfl rfl) h1
  clear hA0 hval0
  refine (walk a0 y0 a1 y1 W hL).mono fun e W' ⟨he, bel⟩ => ?_
  subst he
  exact ⟨_, rfl, _, _, _, [], _, [], hW', trodAll_mk1 (shut_bool Tryz.underlying4 _), (trodAll_cons_mk (shut_string Tryz.underlying9 y0) (trodAll_cons_mk (shut_string Tryz.underlying9 y1) trodAll_mk0)), rfl, bel.frame _, fun h => by cases h⟩

theorem over : Rows.parseJoinsRow.holds Tryz.pinned (OpenSpec.ofChange Rows.parseJoinsSpec) :=
  OpenClaim.holds_of_wide 4 Tryz.f4 rfl rfl rfl rfl rfl rfl rfl ⟨rfl, rfl, rfl, rfl, rfl⟩ rfl rfl rfl rfl rfl (by kernel_rfl) Tryz.func4 (by kernel_rfl)
    (of_decide_eq_true (by kernel_rfl)) (by unfold Func.isWrapper; first | (rw [if_pos (by decide +kernel)]; kernel_rfl) | (rw [if_neg (by decide +kernel)]; exact ⟨rfl, rfl⟩))
    (fun os started H enc _ => lifted os started H enc)
end Go.Shadow.Lex.R4

/- Proved: the tied card of ParseJoins. Conditions: none beyond the card's own. -/
namespace Go.Proofs.YtaefelmojpkpaaaGreatDoor
open Go

theorem parseJoins_card : Rows.ParseJoinsCardSaid :=
  Claim7.holds_tied_plain_at .later [] [.data, .data, .data, .sentinel, .sentinel, .listed, .data] true (true, "f751065004fad875f083848156f3d5534ef23270d4923616642a5f92ee671458") true
    Go.Shadow.Lex.R4.over (fun _ h => by cases h) (by kernel_rfl) (fun _ h => by cases h) parseJoins_row_tie rfl ⟨rfl, rfl⟩ (by kernel_rfl) rfl
    (fun f fn hf hfn => by
      obtain rfl : f = 4 := Option.some.inj ((show Tryz.prog.funcNamed "quietus/quietuslaw32.ParseJoins" = some 4 by kernel_rfl).symm.trans hf) |>.symm
      obtain rfl : fn = Tryz.f4 := (Option.some.inj (Tryz.func4.symm.trans hfn)).symm
      exact ⟨by kernel_rfl, fun j t ht => by
        rw [Tryz.params4] at ht
        have h3 : t = 9 := by
          rcases j with _ | _ | j
          · simpa using ht.symm
          · simpa using ht.symm
          · simp at ht
        subst h3
        exact (show Tryz.prog.wantsStandIn 9 = false by kernel_rfl)⟩)
    (by kernel_rfl)
#print axioms parseJoins_card
end Go.Proofs.YtaefelmojpkpaaaGreatDoor
