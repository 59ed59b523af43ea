/- lexer.Position: walked with the kit's own tactics (it ranges over a string). -/
import Derived.Test.YtgebphnfnmeaaaaGreatDoorProg
import Derived.Shelf.RegionOpenPlain
import Derived.WalkKit
import Derived.Lib.Walk
import Derived.Lib.RuneCount
import Derived.Lib.TrimUEq
import Derived.Lib.TrimU
import Derived.Lib.SpaceUEq
import Derived.Laws.RangeString
import Derived.Laws.RangeAny
import Derived.LoopTactic
namespace Go.Shadow.Lex
open Go Go.RowKit Go.Proofs

def lineAt (l : List UInt8) : Nat → Nat
  | 0 => 0
  | k + 1 => lineAt l k + (if l[k]? = some 10 then 1 else 0)
def firstAt (l : List UInt8) : Nat → Nat
  | 0 => 0
  | k + 1 => if l[k]? = some 10 then k + 1 else firstAt l k
theorem lineAt_le (l : List UInt8) : ∀ k, lineAt l k ≤ k
  | 0 => Nat.le_refl _
  | k + 1 => by have := lineAt_le l k; simp only [lineAt]; split <;> omega
theorem firstAt_le (l : List UInt8) : ∀ k, firstAt l k ≤ k
  | 0 => Nat.le_refl _
  | k + 1 => by have := firstAt_le l k; simp only [firstAt]; split <;> omega
theorem skip_at {l : List UInt8} {p : Nat} : ∀ n, (∀ j, j < n → l[p + j]? ≠ some 10) → lineAt l (p + n) = lineAt l p ∧ firstAt l (p + n) = firstAt l p
  | 0, _ => ⟨rfl, rfl⟩
  | n + 1, h => by
    obtain ⟨h1, h2⟩ := skip_at n (fun j hj => h j (by omega))
    have h3 := h n (by omega)
    rw [← Nat.add_assoc]
    simp only [lineAt, firstAt, h3, if_false, h1, h2]
    exact ⟨rfl, trivial⟩
theorem take_at (l : List UInt8) (m : Nat) : ∀ k, k ≤ m → lineAt (l.take m) k = lineAt l k ∧ firstAt (l.take m) k = firstAt l k
  | 0, _ => ⟨rfl, rfl⟩
  | k + 1, h => by
    obtain ⟨h1, h2⟩ := take_at l m k (by omega)
    simp only [lineAt, firstAt, List.getElem?_take, if_pos (show k < m by omega), h1, h2]
    exact ⟨trivial, trivial⟩

theorem rune_step (s : ByteArray) (p : Nat) (h : p < s.size) : p + (Utf8.decode s p).2 ≤ s.size ∧ 1 ≤ (Utf8.decode s p).2 ∧
    lineAt s.data.toList (p + (Utf8.decode s p).2) = lineAt s.data.toList p + (if (Utf8.decode s p).1 = 10 then 1 else 0) ∧
    firstAt s.data.toList (p + (Utf8.decode s p).2) = if (Utf8.decode s p).1 = 10 then p + 1 else firstAt s.data.toList p := by
  have hl : s.data.toList.length = s.size := by rfl
  have hp : s.data.toList[p]? = some (s[p]'h) := by
    rw [List.getElem?_eq_getElem (by omega)]; rfl
  by_cases ha : (s[p]'h).toNat < 128
  · rw [decode_ascii s p h ha]
    have he : (s[p]'h).toNat = 10 ↔ s[p]'h = 10 := by rw [← UInt8.toNat_inj]; rfl
    simp only [lineAt, firstAt, hp, Option.some.injEq, he]
    exact ⟨by omega, by omega, trivial, trivial⟩
  · have hd := decode_high s p h (by omega)
    have hc := Lib.decodeN_conts (s.data.toList.length - p) (s.data.toList.getD p 0).toNat (s.data.toList.getD (p + 1) 0).toNat (s.data.toList.getD (p + 2) 0).toNat (s.data.toList.getD (p + 3) 0).toNat
    rw [← Lib.decode_N] at hc
    have hne : (Utf8.decode s p).1 ≠ 10 := by omega
    rw [if_neg hne, if_neg hne]
    have hw : ∀ j, j < (Utf8.decode s p).2 → s.data.toList[p + j]? ≠ some 10 := by
      intro j hj h10
      have hg : (s.data.toList.getD (p + j) 0).toNat = 10 := by rw [List.getD_eq_getElem?_getD, h10]; rfl
      match j with
      | 0 =>
        rw [Nat.add_zero, hp] at h10
        injection h10 with h10
        rw [h10] at ha; exact ha (by decide)
      | 1 => have := hc.1 (by omega); omega
      | 2 => have := hc.2.1 (by omega); omega
      | 3 => have := hc.2.2.1 (by omega); omega
      | j + 4 => have := hc.2.2.2; omega
    obtain ⟨h1, h2⟩ := skip_at _ hw
    refine ⟨?_, hd.2, by rw [h1]; rfl, h2⟩
    have hle : (Utf8.decode s p).2 ≤ 4 := hc.2.2.2
    by_cases h4 : 4 ≤ (Utf8.decode s p).2
    · have := hc.2.2.1 h4; omega
    · by_cases h3 : 3 ≤ (Utf8.decode s p).2
      · have := hc.2.1 h3; omega
      · by_cases h2 : 2 ≤ (Utf8.decode s p).2
        · have := hc.1 h2; omega
        · omega

set_option maxHeartbeats 4000000 in
set_option maxRecDepth 1000000 in
theorem position_walk (s : ByteArray) (k : Nat) (w : World) (hs : s.size ≤ 70000) (hk : k ≤ s.size) :
    Calls Tryz.prog 16 #[.string s, .int .i64 k] w fun e w' => e = .returned (.tuple #[.int .i64 ((lineAt s.data.toList k : Nat) + 1), .int .i64 ((k : Int) - (firstAt s.data.toList k : Nat) + 1)]) ∧ Below w.heap.size w w' := by
  go_enter Tryz.func16, Tryz.ntmps16
  go_wp2
  have hsz : (s.extract 0 k).size = k := by simp; omega
  have hdat : (s.extract 0 k).data.toList = s.data.toList.take k := by simp
  have hfin := take_at s.data.toList k k (Nat.le_refl _)
  rw [← hdat] at hfin
  clear hdat
  have HF : Hid (lineAt (s.extract 0 k).data.toList k = lineAt s.data.toList k ∧ firstAt (s.extract 0 k).data.toList k = firstAt s.data.toList k) := hfin
  clear hfin
  generalize hu : s.extract 0 k = u at *
  go_loopw [4, 6] (fun n m w' => ∃ (pos : Nat), w' = w.iter u pos ∧ n = .int .i64 (lineAt u.data.toList pos : Nat) ∧ m = .int .i64 (firstAt u.data.toList pos : Nat) ∧ pos ≤ u.size) (fun _ _ w' => u.size - w'.iterPos w.heap.size)
  case atStart => exact ⟨0, rfl, rfl, rfl, by omega⟩
  case round =>
    obtain ⟨pos, rfl, rfl, rfl, hpos⟩ := hrel
    have hl1 := lineAt_le u.data.toList pos
    have hl2 := firstAt_le u.data.toList pos
    by_cases hp : pos < u.size
    · have hnx : ∀ ty, (Instr.next (.pointer (some ⟨w.heap.size, 0, none⟩)) true ty).run Tryz.prog (w.iter u pos) = _ := fun ty => run_next_any w u pos ty hp
      have HS := (show Hid _ from rune_step u pos hp)
      go_wp2
      · rename_i h10
        have hst := HS.out
        have h10' : (Utf8.decode u pos).1 = 10 := by
          simp only [beq_iff_eq] at h10; omega
        rw [if_pos h10', if_pos h10'] at hst
        refine ⟨⟨_, rfl, ?_, ?_, hst.1⟩, ?_⟩
        · rw [hst.2.2.1]
          congr 1
        · rw [hst.2.2.2]
          congr 1
        · simp; omega
      · rename_i h10
        have hst := HS.out
        have h10' : ¬ (Utf8.decode u pos).1 = 10 := by
          simp only [beq_eq_false_iff_ne, ne_eq] at h10; omega
        rw [if_neg h10', if_neg h10'] at hst
        refine ⟨⟨_, rfl, ?_, ?_, hst.1⟩, ?_⟩
        · rw [hst.2.2.1]; rfl
        · rw [hst.2.2.2]
        · simp; omega
    · have hnx : ∀ ty, (Instr.next (.pointer (some ⟨w.heap.size, 0, none⟩)) true ty).run Tryz.prog (w.iter u pos) = _ := fun ty => run_next_end w u pos ty hp
      go_wp2
      go_ret2
      have hfin := HF.out
      have hpk : pos = k := by omega
      subst hpk
      rw [hfin.1, hfin.2]
      exact ⟨rfl, (Below.refl _ _).alloc (Nat.le_refl _) _⟩

set_option maxHeartbeats 4000000 in
set_option maxRecDepth 1000000 in
theorem position_out (s : ByteArray) (k : Int) (w : World) (hs : s.size ≤ 70000) (hk : k < 0 ∨ (s.size : Int) < k) :
    Calls Tryz.prog 16 #[.string s, .int .i64 k] w fun e w' => e = .returned (.tuple #[.int .i64 0, .int .i64 0]) ∧ Below w.heap.size w w' := by
  go_enter Tryz.func16, Tryz.ntmps16
  go_wp2
  all_goals (go_ret2; exact ⟨rfl, Below.refl _ _⟩)
end Go.Shadow.Lex
