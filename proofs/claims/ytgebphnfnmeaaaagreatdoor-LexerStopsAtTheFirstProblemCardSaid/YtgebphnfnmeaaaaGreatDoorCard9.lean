/- Proved: the tied card of LexerStopsAtTheFirstProblem. Conditions: none beyond the card's own. -/
import Derived.Test.YtgebphnfnmeaaaaGreatDoorRow9
import Derived.Test.YtgebphnfnmeaaaaGreatDoorCards
import Derived.Test.YtgebphnfnmeaaaaGreatDoorTie
import Derived.SevenTiedAt
namespace Go.Proofs.YtgebphnfnmeaaaaGreatDoor
open Go

theorem lexerStopsAtTheFirstProblem_card : Rows.LexerStopsAtTheFirstProblemCardSaid :=
  Claim7.holds_tied_plain_at .later [] [.data, .data, .data, .sentinel, .sentinel, .listed, .data] true (true, "ddb17e109f53d6eaaafb01bdedf637cfbe560ab146dd6fdd2ba16c71defaa5c1") true
    Go.Shadow.Lex.R9.over (fun _ h => by cases h) (by kernel_rfl) (fun _ h => by cases h) lexerStopsAtTheFirstProblem_row_tie rfl ⟨rfl, rfl⟩ (by kernel_rfl) rfl
    (fun f fn hf hfn => by
      obtain rfl : f = 9 := Option.some.inj ((show Tryz.prog.funcNamed "quietus/quietuslaw31.LexerStopsAtTheFirstProblem" = some 9 by kernel_rfl).symm.trans hf) |>.symm
      obtain rfl : fn = Tryz.f9 := (Option.some.inj (Tryz.func9.symm.trans hfn)).symm
      exact ⟨by kernel_rfl, fun j t ht => by
        rw [Tryz.params9] at ht
        have h3 : t = 9 := by
          rcases j with _ | j
          · simpa using ht.symm
          · simp at ht
        subst h3
        exact (show Tryz.prog.wantsStandIn 9 = false by kernel_rfl)⟩)
    (by kernel_rfl)
#print axioms lexerStopsAtTheFirstProblem_card
end Go.Proofs.YtgebphnfnmeaaaaGreatDoor
