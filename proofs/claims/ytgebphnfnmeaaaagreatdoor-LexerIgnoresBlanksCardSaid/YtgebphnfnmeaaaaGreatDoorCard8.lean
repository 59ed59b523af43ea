/- Proved: the tied card of LexerIgnoresBlanks. Conditions: none beyond the card's own. -/
import Derived.Test.YtgebphnfnmeaaaaGreatDoorRow8
import Derived.Test.YtgebphnfnmeaaaaGreatDoorCards
import Derived.Test.YtgebphnfnmeaaaaGreatDoorTie
import Derived.SevenTiedAt
namespace Go.Proofs.YtgebphnfnmeaaaaGreatDoor
open Go

theorem lexerIgnoresBlanks_card : Rows.LexerIgnoresBlanksCardSaid :=
  Claim7.holds_tied_plain_at .later [] [.data, .data, .data, .sentinel, .sentinel, .listed, .data] true (true, "ddb17e109f53d6eaaafb01bdedf637cfbe560ab146dd6fdd2ba16c71defaa5c1") true
    Go.Shadow.Lex.R8.over (fun _ h => by cases h) (by kernel_rfl) (fun _ h => by cases h) lexerIgnoresBlanks_row_tie rfl ⟨rfl, rfl⟩ (by kernel_rfl) rfl
    (fun f fn hf hfn => by
      obtain rfl : f = 8 := Option.some.inj ((show Tryz.prog.funcNamed "quietus/quietuslaw31.LexerIgnoresBlanks" = some 8 by kernel_rfl).symm.trans hf) |>.symm
      obtain rfl : fn = Tryz.f8 := (Option.some.inj (Tryz.func8.symm.trans hfn)).symm
      exact ⟨by kernel_rfl, fun j t ht => by
        rw [Tryz.params8] at ht
        have h3 : t = 45 ∨ t = 9 := by
          rcases j with _ | _ | _ | j
          · right; simpa using ht.symm
          · right; simpa using ht.symm
          · left; simpa using ht.symm
          · simp at ht
        rcases h3 with rfl | rfl
        · exact (show Tryz.prog.wantsStandIn 45 = false by kernel_rfl)
        · exact (show Tryz.prog.wantsStandIn 9 = false by kernel_rfl)⟩)
    (by kernel_rfl)
#print axioms lexerIgnoresBlanks_card
end Go.Proofs.YtgebphnfnmeaaaaGreatDoor
