/- The tied card of LexerFindsPositions. -/
import Derived.Test.YtgebphnfnmeaaaaGreatDoorLx5
import Derived.Test.YtgebphnfnmeaaaaGreatDoorCards
import Derived.Test.YtgebphnfnmeaaaaGreatDoorTie
import Derived.SevenTiedAt
namespace Go.Proofs.YtgebphnfnmeaaaaGreatDoor
open Go

theorem lexerFindsPositions_card : Rows.LexerFindsPositionsCardSaid :=
  Claim7.holds_tied_plain_at .later [] [.data, .data, .data, .sentinel, .sentinel, .listed, .data] true (true, "ddb17e109f53d6eaaafb01bdedf637cfbe560ab146dd6fdd2ba16c71defaa5c1") true
    Go.Shadow.Lex.R5.over (fun _ h => by cases h) (by kernel_rfl) (fun _ h => by cases h) lexerFindsPositions_row_tie rfl ⟨rfl, rfl⟩ (by kernel_rfl) rfl
    (fun f fn hf hfn => by
      obtain rfl : f = 5 := Option.some.inj ((show Tryz.prog.funcNamed "quietus/quietuslaw31.LexerFindsPositions" = some 5 by kernel_rfl).symm.trans hf) |>.symm
      obtain rfl : fn = Tryz.f5 := (Option.some.inj (Tryz.func5.symm.trans hfn)).symm
      exact ⟨by kernel_rfl, fun j t ht => by
        rw [Tryz.params5] at ht
        have h3 : t = 9 ∨ t = 3 := by
          rcases j with _ | _ | j
          · left; simpa using ht.symm
          · right; simpa using ht.symm
          · simp at ht
        rcases h3 with rfl | rfl
        · exact (show Tryz.prog.wantsStandIn 9 = false by kernel_rfl)
        · exact (show Tryz.prog.wantsStandIn 3 = false by kernel_rfl)⟩)
    (by kernel_rfl)
#print axioms lexerFindsPositions_card
end Go.Proofs.YtgebphnfnmeaaaaGreatDoor
