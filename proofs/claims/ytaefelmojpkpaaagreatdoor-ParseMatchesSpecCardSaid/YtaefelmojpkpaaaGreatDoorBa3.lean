/- Proved: parts of the proof: Shadow code of the lexer's specification and printer (printed by a program); Proved: what the lexer's Text does at lists without texts; Proved: what the parser's small methods do, as shadow contracts; Proved: what the parser's number and its search for an operator do, as shadow contracts; Proved: what the parser's expressions are as values; its reading of expressions, as shadow contracts (under way); The parser's reading of expressions, as shadow contracts (under way); The parser's expressions with a question, and its levels, as shadow contracts; The parser's operands, as shadow contracts; all. Conditions: as each theorem says. -/
import Derived.Test.YtaefelmojpkpaaaGreatDoorBa2
import Derived.Test.YtaefelmojpkpaaaGreatDoorProg

/- Shadow code of the lexer's specification and printer (printed by a program). -/
namespace Go.Shadow.Lex
open Go Go.RowKit Go.Proofs
/-- quietus/quietusref31.Tokens -/
def sc29 : SC := (.seq (.region [.q 2 (.alloc [(.slice .nil 0 []), (.int .i64 0), (.int .i64 0)])] (some [0, 2])) (.seq (.seq (.region [.q 6 (.mv (.t 0)), .q 7 (.len true (.t 6)), .q 8 (.bin .gtr (.t 7) (.c (.int .i64 65536)))] (some [0, 2, 8])) (.cond (.t 8) (some [0, 2]) (.seq (.region [.q 9 (.build [(.int .i64 0), (.int .i64 0)] [(1, (1, (.c (.int .i64 2))))]), .q 10 (.build [(.slice .nil 0 []), (.int .i64 0), (.int .i64 0)] [(1, (2, (.t 9)))]), .w (.store 3 (.t 2) (.t 10))] (some [2])) .ret) .skip)) (.seq (.region [.q 3 (.mv (.c (.slice .nil 0 [])))] (some [0, 2, 3])) (.seq (.region [.q 11 (.mv (.t 0)), .q 12 (.call 53 [(.t 11), (.c (.int .i64 0))]), .q 4 (.mv (.t 12))] (some [0, 2, 3, 4])) (.seq (.block 0 (.loop (.seq (.seq (.region [.q 13 (.mv (.t 4)), .q 14 (.mv (.t 0)), .q 15 (.len true (.t 14)), .q 16 (.bin .lss (.t 13) (.t 15))] (some [0, 2, 3, 4, 16])) (.cond (.t 16) (some [0, 2, 3, 4]) .skip (.exit 0))) (.block 1 (.seq (.region [.q 17 (.mv (.t 0)), .q 18 (.mv (.t 4)), .q 19 (.call 54 [(.t 17), (.t 18)]), .q 5 (.alloc [(.int .i64 0), (.int .i64 0), (.str []), (.int .i64 0), (.int .i64 0), (.int .i64 0)]), .w (.store 6 (.t 5) (.t 19))] (some [0, 2, 3, 4, 5])) (.seq (.seq (.region [.q 20 (.faddr 5 (.t 5)), .q 21 (.load false 1 (.t 20)), .q 22 (.bin .neq (.t 21) (.c (.int .i64 0)))] (some [0, 2, 3, 4, 5, 22])) (.cond (.t 22) (some [0, 2, 3, 4, 5]) (.seq (.region [.q 23 (.mv (.t 4)), .q 24 (.faddr 5 (.t 5)), .q 25 (.load false 1 (.t 24)), .q 26 (.build [(.int .i64 0), (.int .i64 0)] [(0, (1, (.t 23))), (1, (1, (.t 25)))]), .q 27 (.build [(.slice .nil 0 []), (.int .i64 0), (.int .i64 0)] [(1, (2, (.t 26)))]), .w (.store 3 (.t 2) (.t 27))] (some [2])) .ret) .skip)) (.seq (.region [.q 28 (.mv (.t 3)), .q 29 (.faddr 0 (.t 5)), .q 30 (.load true 4 (.t 29)), .q 31 (.mkslice 4 [(.t 30)]), .q 32 (.append 4 40 (.t 28) (.t 31)), .q 3 (.mv (.t 32))] (some [0, 2, 3, 5])) (.region [.q 33 (.mv (.t 0)), .q 34 (.faddr 4 (.t 5)), .q 35 (.load false 1 (.t 34)), .q 36 (.call 53 [(.t 33), (.t 35)]), .q 4 (.mv (.t 36))] (some [0, 2, 3, 4]))))))))) (.seq (.region [.q 37 (.mv (.t 3)), .q 38 (.mv (.t 0)), .q 39 (.len true (.t 38)), .q 40 (.build [(.int .i64 0), (.int .i64 0), (.str []), (.int .i64 0)] [(0, (1, (.c (.int .i64 5)))), (1, (1, (.t 39)))]), .q 41 (.mkslice 4 [(.t 40)]), .q 42 (.append 4 40 (.t 37) (.t 41)), .q 43 (.build [(.slice .nil 0 []), (.int .i64 0), (.int .i64 0)] [(0, (1, (.t 42)))]), .w (.store 3 (.t 2) (.t 43))] (some [2])) .ret))))))
theorem code29 : IsCode Tryz.prog 29 sc29 [(2, (some (true, 3)))] 44 := .mk' Tryz.func29 (by kernel_rfl) (by kernel_rfl) (by kernel_rfl) (by kernel_rfl)
/-- quietus/lexer.Text -/
def sc37 : SC := (.seq (.region [.q 2 (.mv (.c (.str [])))] (some [0])) (.seq (.region [.q 3 (.mv (.c (.slice .nil 0 [])))] (some [0, 3])) (.seq (.seq (.region [.q 6 (.mv (.t 0)), .q 7 (.len false (.t 6)), .q 8 (.mv (.c (.int .i64 0)))] (some [3, 6, 7, 8])) (.block 0 (.loop (.seq (.region [.q 9 (.bin .lss (.t 8) (.t 7))] (some [3, 6, 7, 8, 9])) (.seq (.cond (.t 9) (some [3, 6, 7, 8]) .skip (.exit 0)) (.seq (.block 1 (.seq (.region [.q 10 (.iaddr 4 (.t 6) (.t 8)), .q 11 (.load true 4 (.t 10)), .q 5 (.alloc [(.int .i64 0), (.int .i64 0), (.str []), (.int .i64 0)]), .w (.store 4 (.t 5) (.t 11))] (some [3, 5, 6, 7, 8])) (.seq (.region [.q 12 (.faddr 0 (.t 5)), .q 13 (.load false 1 (.t 12))] (some [3, 5, 6, 7, 8, 13])) (.block 2 (.seq (.seq (.region [.q 15 (.bin .eql (.t 13) (.c (.int .i64 1))), .q 14 (.mv (.t 15))] (some [3, 5, 6, 7, 8, 13, 14])) (.cond (.t 14) (some [3, 5, 6, 7, 8, 13, 14]) .skip (.region [.q 16 (.bin .eql (.t 13) (.c (.int .i64 4))), .q 14 (.mv (.t 16))] (some [3, 5, 6, 7, 8, 13, 14])))) (.cond (.t 14) (some [3, 5, 6, 7, 8, 13]) (.region [.q 17 (.mv (.t 3)), .q 18 (.faddr 2 (.t 5)), .q 19 (.load false 1 (.t 18)), .q 20 (.mkslice 1 [(.t 19)]), .q 21 (.append 1 16 (.t 17) (.t 20)), .q 3 (.mv (.t 21))] (some [3, 6, 7, 8])) (.seq (.region [.q 23 (.bin .eql (.t 13) (.c (.int .i64 2))), .q 22 (.mv (.t 23))] (some [3, 5, 6, 7, 8, 13, 22])) (.cond (.t 22) (some [3, 5, 6, 7, 8, 13]) (.region [.q 24 (.mv (.t 3)), .q 25 (.faddr 3 (.t 5)), .q 26 (.load false 1 (.t 25)), .q 27 (.call 64 [(.t 26)]), .q 28 (.mkslice 1 [(.t 27)]), .q 29 (.append 1 16 (.t 24) (.t 28)), .q 3 (.mv (.t 29))] (some [3, 6, 7, 8])) (.seq (.region [.q 31 (.bin .eql (.t 13) (.c (.int .i64 3))), .q 30 (.mv (.t 31))] (some [3, 5, 6, 7, 8, 30])) (.cond (.t 30) (some [3, 5, 6, 7, 8]) (.region [.q 32 (.mv (.t 3)), .q 33 (.mkslice 1 [(.c (.str [34])), (.c (.str [92, 34])), (.c (.str [92])), (.c (.str [92, 92])), (.c (.str [10])), (.c (.str [92, 110]))]), .q 35 (.faddr 2 (.t 5)), .q 36 (.loadr (some 5) false 1 (.t 35)), .q 34 (.callr [5] 65 [(.t 33)]), .q 37 (.call 66 [(.t 34), (.t 36)]), .q 38 (.bins .add (.c (.str [34])) (.t 37)), .q 39 (.bins .add (.t 38) (.c (.str [34]))), .q 40 (.mkslice 1 [(.t 39)]), .q 41 (.append 1 16 (.t 32) (.t 40)), .q 3 (.mv (.t 41))] (some [3, 6, 7, 8])) .skip)))))))))) (.region [.q 42 (.bin .add (.t 8) (.c (.int .i64 1))), .q 8 (.mv (.t 42))] (some [3, 6, 7, 8])))))))) (.seq (.region [.q 43 (.mv (.t 3)), .q 44 (.call 67 [(.t 43), (.c (.str [32]))]), .q 2 (.mv (.t 44))] (some [2])) .ret))))
theorem code37 : IsCode Tryz.prog 37 sc37 [(2, none)] 45 := .mk' Tryz.func37 (by kernel_rfl) (by kernel_rfl) (by kernel_rfl) (by kernel_rfl)
/-- quietus/quietusref31.Blank -/
def sc53 : SC := (.seq (.region [.q 4 (.mv (.c (.int .i64 0)))] (some [0, 1])) (.seq (.block 0 (.loop (.seq (.seq (.region [.q 5 (.mv (.t 1)), .q 6 (.mv (.t 0)), .q 7 (.len true (.t 6)), .q 8 (.bin .lss (.t 5) (.t 7))] (some [0, 1, 8])) (.cond (.t 8) (some [0, 1]) .skip (.exit 0))) (.block 1 (.block 2 (.seq (.region [.q 11 (.mv (.t 0)), .q 12 (.mv (.t 1)), .q 13 (.idxs (.t 11) (.t 12)), .q 14 (.bin .eql (.t 13) (.c (.int .u8 32))), .q 15 (.mv (.t 14)), ⟨(some 16), (.mv (.t 0)), (some (15, false))⟩, ⟨(some 17), (.mv (.t 1)), (some (15, false))⟩, ⟨(some 18), (.idxs (.t 16) (.t 17)), (some (15, false))⟩, ⟨(some 19), (.bin .eql (.t 18) (.c (.int .u8 9))), (some (15, false))⟩, .q 20 (.pick (.t 15) (.c (.bool true)) (.t 19)), .q 21 (.mv (.t 20)), ⟨(some 22), (.mv (.t 0)), (some (21, false))⟩, ⟨(some 23), (.mv (.t 1)), (some (21, false))⟩, ⟨(some 24), (.idxs (.t 22) (.t 23)), (some (21, false))⟩, ⟨(some 25), (.bin .eql (.t 24) (.c (.int .u8 10))), (some (21, false))⟩, .q 26 (.pick (.t 21) (.c (.bool true)) (.t 25)), .q 27 (.mv (.t 26)), ⟨(some 28), (.mv (.t 0)), (some (27, false))⟩, ⟨(some 29), (.mv (.t 1)), (some (27, false))⟩, ⟨(some 30), (.idxs (.t 28) (.t 29)), (some (27, false))⟩, ⟨(some 31), (.bin .eql (.t 30) (.c (.int .u8 13))), (some (27, false))⟩, .q 32 (.pick (.t 27) (.c (.bool true)) (.t 31)), .q 10 (.mv (.t 32))] (some [0, 1, 10])) (.cond (.t 10) (some [0, 1]) (.region [.q 33 (.mv (.t 1)), .q 34 (.bin .add (.t 33) (.c (.int .i64 1))), .q 1 (.mv (.t 34))] (some [0, 1])) (.seq (.region [.q 36 (.mv (.t 0)), .q 37 (.mv (.t 1)), .q 38 (.idxs (.t 36) (.t 37)), .q 39 (.bin .eql (.t 38) (.c (.int .u8 35))), .q 35 (.mv (.t 39))] (some [0, 1, 35])) (.cond (.t 35) (some [0, 1]) (.block 3 (.loop (.seq (.seq (.region [.q 40 (.mv (.t 1)), .q 41 (.mv (.t 0)), .q 42 (.len true (.t 41)), .q 43 (.bin .lss (.t 40) (.t 42)), .q 44 (.mv (.t 43)), ⟨(some 45), (.mv (.t 0)), (some (44, true))⟩, ⟨(some 46), (.mv (.t 1)), (some (44, true))⟩, ⟨(some 47), (.idxs (.t 45) (.t 46)), (some (44, true))⟩, ⟨(some 48), (.bin .neq (.t 47) (.c (.int .u8 10))), (some (44, true))⟩, .q 49 (.pick (.t 44) (.t 48) (.c (.bool false)))] (some [0, 1, 49])) (.cond (.t 49) (some [0, 1]) .skip (.exit 3))) (.block 4 (.region [.q 50 (.mv (.t 1)), .q 51 (.bin .add (.t 50) (.c (.int .i64 1))), .q 1 (.mv (.t 51))] (some [0, 1])))))) (.seq (.region [.q 9 (.mv (.t 1)), .q 4 (.mv (.t 9))] (some [4])) .ret)))))))))) (.seq (.region [.q 52 (.mv (.t 1)), .q 4 (.mv (.t 52))] (some [4])) .ret)))
theorem code53 : IsCode Tryz.prog 53 sc53 [(4, none)] 53 := .mk' Tryz.func53 (by kernel_rfl) (by kernel_rfl) (by kernel_rfl) (by kernel_rfl)
/-- quietus/quietusref31.token -/
def sc54 : SC := (.seq (.region [.q 4 (.alloc [(.int .i64 0), (.int .i64 0), (.str []), (.int .i64 0), (.int .i64 0), (.int .i64 0)])] (some [0, 1, 4])) (.seq (.block 0 (.seq (.region [.q 7 (.mv (.t 0)), .q 8 (.mv (.t 1)), .q 9 (.idxs (.t 7) (.t 8)), .q 10 (.call 78 [(.t 9)]), .q 6 (.mv (.t 10))] (some [0, 1, 4, 6])) (.cond (.t 6) (some [0, 1, 4]) (.seq (.region [.q 11 (.mv (.t 0)), .q 12 (.mv (.t 1)), .q 13 (.call 79 [(.t 11), (.t 12)]), .w (.store 6 (.t 4) (.t 13))] (some [4])) .ret) (.seq (.region [.q 15 (.mv (.t 0)), .q 16 (.mv (.t 1)), .q 17 (.idxs (.t 15) (.t 16)), .q 18 (.call 80 [(.t 17)]), .q 14 (.mv (.t 18))] (some [0, 1, 4, 14])) (.cond (.t 14) (some [0, 1, 4]) (.seq (.region [.q 19 (.mv (.t 0)), .q 20 (.mv (.t 1)), .q 21 (.call 81 [(.t 19), (.t 20)]), .w (.store 6 (.t 4) (.t 21))] (some [4])) .ret) (.seq (.region [.q 23 (.mv (.t 0)), .q 24 (.mv (.t 1)), .q 25 (.idxs (.t 23) (.t 24)), .q 26 (.bin .eql (.t 25) (.c (.int .u8 34))), .q 22 (.mv (.t 26))] (some [0, 1, 4, 22])) (.cond (.t 22) (some [0, 1, 4]) (.seq (.region [.q 27 (.mv (.t 0)), .q 28 (.mv (.t 1)), .q 29 (.call 82 [(.t 27), (.t 28)]), .w (.store 6 (.t 4) (.t 29))] (some [4])) .ret) .skip))))))) (.seq (.region [.q 30 (.mv (.t 0)), .q 31 (.mv (.t 1)), .q 32 (.cuts (.t 30) (some (.t 31)) none), .q 33 (.call 83 [(.t 32)]), .q 5 (.mv (.t 33))] (some [1, 4, 5])) (.seq (.seq (.region [.q 34 (.mv (.t 5)), .q 35 (.bins .eql (.t 34) (.c (.str [])))] (some [1, 4, 5, 35])) (.cond (.t 35) (some [1, 4, 5]) (.seq (.region [.q 36 (.build [(.int .i64 0), (.int .i64 0), (.str []), (.int .i64 0), (.int .i64 0), (.int .i64 0)] [(5, (1, (.c (.int .i64 26))))]), .w (.store 6 (.t 4) (.t 36))] (some [4])) .ret) .skip)) (.seq (.region [.q 37 (.mv (.t 1)), .q 38 (.mv (.t 5)), .q 39 (.build [(.int .i64 0), (.int .i64 0), (.str []), (.int .i64 0)] [(0, (1, (.c (.int .i64 4)))), (1, (1, (.t 37))), (2, (1, (.t 38)))]), .q 40 (.mv (.t 1)), .q 41 (.mv (.t 5)), .q 42 (.len true (.t 41)), .q 43 (.bin .add (.t 40) (.t 42)), .q 44 (.build [(.int .i64 0), (.int .i64 0), (.str []), (.int .i64 0), (.int .i64 0), (.int .i64 0)] [(0, (4, (.t 39))), (4, (1, (.t 43)))]), .w (.store 6 (.t 4) (.t 44))] (some [4])) .ret)))))
theorem code54 : IsCode Tryz.prog 54 sc54 [(4, (some (true, 6)))] 45 := .mk' Tryz.func54 (by kernel_rfl) (by kernel_rfl) (by kernel_rfl) (by kernel_rfl)
/-- quietus/quietusref31.letter -/
def sc78 : SC := (.seq (.region [.q 2 (.mv (.c (.bool false)))] (some [0])) (.seq (.region [.q 3 (.mv (.t 0)), .q 4 (.bin .geq (.t 3) (.c (.int .u8 97))), .q 5 (.mv (.t 4)), ⟨(some 6), (.mv (.t 0)), (some (5, true))⟩, ⟨(some 7), (.bin .leq (.t 6) (.c (.int .u8 122))), (some (5, true))⟩, .q 8 (.pick (.t 5) (.t 7) (.c (.bool false))), .q 9 (.mv (.t 8)), ⟨(some 10), (.mv (.t 0)), (some (9, false))⟩, ⟨(some 11), (.bin .geq (.t 10) (.c (.int .u8 65))), (some (9, false))⟩, ⟨(some 12), (.mv (.t 11)), (some (9, false))⟩, ⟨(some 13), (.mv (.t 0)), (some (12, true))⟩, ⟨(some 14), (.bin .leq (.t 13) (.c (.int .u8 90))), (some (12, true))⟩, ⟨(some 15), (.pick (.t 12) (.t 14) (.c (.bool false))), (some (9, false))⟩, .q 16 (.pick (.t 9) (.c (.bool true)) (.t 15)), .q 17 (.mv (.t 16)), ⟨(some 18), (.mv (.t 0)), (some (17, false))⟩, ⟨(some 19), (.bin .eql (.t 18) (.c (.int .u8 95))), (some (17, false))⟩, .q 20 (.pick (.t 17) (.c (.bool true)) (.t 19)), .q 2 (.mv (.t 20))] (some [2])) .ret))
theorem code78 : IsCode Tryz.prog 78 sc78 [(2, none)] 21 := .mk' Tryz.func78 (by kernel_rfl) (by kernel_rfl) (by kernel_rfl) (by kernel_rfl)
/-- quietus/quietusref31.name -/
def sc79 : SC := (.seq (.region [.q 4 (.alloc [(.int .i64 0), (.int .i64 0), (.str []), (.int .i64 0), (.int .i64 0), (.int .i64 0)])] (some [0, 1, 4])) (.seq (.region [.q 6 (.mv (.t 1)), .q 5 (.mv (.t 6))] (some [0, 1, 4, 5])) (.seq (.block 0 (.loop (.seq (.seq (.region [.q 7 (.mv (.t 5)), .q 8 (.mv (.t 0)), .q 9 (.len true (.t 8)), .q 10 (.bin .lss (.t 7) (.t 9)), .q 11 (.mv (.t 10)), ⟨(some 12), (.mv (.t 0)), (some (11, true))⟩, ⟨(some 13), (.mv (.t 5)), (some (11, true))⟩, ⟨(some 14), (.idxs (.t 12) (.t 13)), (some (11, true))⟩, ⟨(some 15), (.call 78 [(.t 14)]), (some (11, true))⟩, ⟨(some 16), (.mv (.t 15)), (some (11, true))⟩, ⟨(some 17), (.mv (.t 0)), (some (16, false))⟩, ⟨(some 18), (.mv (.t 5)), (some (16, false))⟩, ⟨(some 19), (.idxs (.t 17) (.t 18)), (some (16, false))⟩, ⟨(some 20), (.call 80 [(.t 19)]), (some (16, false))⟩, ⟨(some 21), (.pick (.t 16) (.c (.bool true)) (.t 20)), (some (11, true))⟩, .q 22 (.pick (.t 11) (.t 21) (.c (.bool false)))] (some [0, 1, 4, 5, 22])) (.cond (.t 22) (some [0, 1, 4, 5]) .skip (.exit 0))) (.block 1 (.region [.q 23 (.mv (.t 5)), .q 24 (.bin .add (.t 23) (.c (.int .i64 1))), .q 5 (.mv (.t 24))] (some [0, 1, 4, 5])))))) (.seq (.seq (.region [.q 25 (.mv (.t 5)), .q 26 (.mv (.t 1)), .q 27 (.bin .sub (.t 25) (.t 26)), .q 28 (.bin .gtr (.t 27) (.c (.int .i64 32)))] (some [0, 1, 4, 5, 28])) (.cond (.t 28) (some [0, 1, 4, 5]) (.seq (.region [.q 29 (.build [(.int .i64 0), (.int .i64 0), (.str []), (.int .i64 0), (.int .i64 0), (.int .i64 0)] [(5, (1, (.c (.int .i64 2))))]), .w (.store 6 (.t 4) (.t 29))] (some [4])) .ret) .skip)) (.seq (.region [.q 30 (.mv (.t 1)), .q 31 (.mv (.t 0)), .q 32 (.mv (.t 1)), .q 33 (.mv (.t 5)), .q 34 (.cuts (.t 31) (some (.t 32)) (some (.t 33))), .q 35 (.build [(.int .i64 0), (.int .i64 0), (.str []), (.int .i64 0)] [(0, (1, (.c (.int .i64 1)))), (1, (1, (.t 30))), (2, (1, (.t 34)))]), .q 36 (.mv (.t 5)), .q 37 (.build [(.int .i64 0), (.int .i64 0), (.str []), (.int .i64 0), (.int .i64 0), (.int .i64 0)] [(0, (4, (.t 35))), (4, (1, (.t 36)))]), .w (.store 6 (.t 4) (.t 37))] (some [4])) .ret)))))
theorem code79 : IsCode Tryz.prog 79 sc79 [(4, (some (true, 6)))] 38 := .mk' Tryz.func79 (by kernel_rfl) (by kernel_rfl) (by kernel_rfl) (by kernel_rfl)
/-- quietus/quietusref31.digit -/
def sc80 : SC := (.seq (.region [.q 2 (.mv (.c (.bool false)))] (some [0])) (.seq (.region [.q 3 (.mv (.t 0)), .q 4 (.bin .geq (.t 3) (.c (.int .u8 48))), .q 5 (.mv (.t 4)), ⟨(some 6), (.mv (.t 0)), (some (5, true))⟩, ⟨(some 7), (.bin .leq (.t 6) (.c (.int .u8 57))), (some (5, true))⟩, .q 8 (.pick (.t 5) (.t 7) (.c (.bool false))), .q 2 (.mv (.t 8))] (some [2])) .ret))
theorem code80 : IsCode Tryz.prog 80 sc80 [(2, none)] 9 := .mk' Tryz.func80 (by kernel_rfl) (by kernel_rfl) (by kernel_rfl) (by kernel_rfl)
/-- quietus/quietusref31.number -/
def sc81 : SC := (.seq (.region [.q 4 (.alloc [(.int .i64 0), (.int .i64 0), (.str []), (.int .i64 0), (.int .i64 0), (.int .i64 0)])] (some [0, 1, 4])) (.seq (.region [.q 8 (.mv (.t 1)), .q 5 (.mv (.t 8))] (some [0, 1, 4, 5])) (.seq (.block 0 (.loop (.seq (.seq (.region [.q 9 (.mv (.t 5)), .q 10 (.mv (.t 0)), .q 11 (.len true (.t 10)), .q 12 (.bin .lss (.t 9) (.t 11)), .q 13 (.mv (.t 12)), ⟨(some 14), (.mv (.t 0)), (some (13, true))⟩, ⟨(some 15), (.mv (.t 5)), (some (13, true))⟩, ⟨(some 16), (.idxs (.t 14) (.t 15)), (some (13, true))⟩, ⟨(some 17), (.call 80 [(.t 16)]), (some (13, true))⟩, .q 18 (.pick (.t 13) (.t 17) (.c (.bool false)))] (some [0, 1, 4, 5, 18])) (.cond (.t 18) (some [0, 1, 4, 5]) .skip (.exit 0))) (.block 1 (.region [.q 19 (.mv (.t 5)), .q 20 (.bin .add (.t 19) (.c (.int .i64 1))), .q 5 (.mv (.t 20))] (some [0, 1, 4, 5])))))) (.seq (.seq (.region [.q 21 (.mv (.t 5)), .q 22 (.mv (.t 1)), .q 23 (.bin .sub (.t 21) (.t 22)), .q 24 (.bin .gtr (.t 23) (.c (.int .i64 15))), .q 25 (.mv (.t 24)), ⟨(some 26), (.mv (.t 5)), (some (25, false))⟩, ⟨(some 27), (.mv (.t 1)), (some (25, false))⟩, ⟨(some 28), (.bin .sub (.t 26) (.t 27)), (some (25, false))⟩, ⟨(some 29), (.bin .gtr (.t 28) (.c (.int .i64 1))), (some (25, false))⟩, ⟨(some 30), (.mv (.t 29)), (some (25, false))⟩, ⟨(some 31), (.mv (.t 0)), (some (30, true))⟩, ⟨(some 32), (.mv (.t 1)), (some (30, true))⟩, ⟨(some 33), (.idxs (.t 31) (.t 32)), (some (30, true))⟩, ⟨(some 34), (.bin .eql (.t 33) (.c (.int .u8 48))), (some (30, true))⟩, ⟨(some 35), (.pick (.t 30) (.t 34) (.c (.bool false))), (some (25, false))⟩, .q 36 (.pick (.t 25) (.c (.bool true)) (.t 35)), .q 37 (.mv (.t 36)), ⟨(some 38), (.mv (.t 5)), (some (37, false))⟩, ⟨(some 39), (.mv (.t 0)), (some (37, false))⟩, ⟨(some 40), (.len true (.t 39)), (some (37, false))⟩, ⟨(some 41), (.bin .lss (.t 38) (.t 40)), (some (37, false))⟩, ⟨(some 42), (.mv (.t 41)), (some (37, false))⟩, ⟨(some 43), (.mv (.t 0)), (some (42, true))⟩, ⟨(some 44), (.mv (.t 5)), (some (42, true))⟩, ⟨(some 45), (.idxs (.t 43) (.t 44)), (some (42, true))⟩, ⟨(some 46), (.call 78 [(.t 45)]), (some (42, true))⟩, ⟨(some 47), (.pick (.t 42) (.t 46) (.c (.bool false))), (some (37, false))⟩, .q 48 (.pick (.t 37) (.c (.bool true)) (.t 47))] (some [0, 1, 4, 5, 48])) (.cond (.t 48) (some [0, 1, 4, 5]) (.seq (.region [.q 49 (.build [(.int .i64 0), (.int .i64 0), (.str []), (.int .i64 0), (.int .i64 0), (.int .i64 0)] [(5, (1, (.c (.int .i64 27))))]), .w (.store 6 (.t 4) (.t 49))] (some [4])) .ret) .skip)) (.seq (.region [.q 6 (.mv (.c (.int .i64 0)))] (some [0, 1, 4, 5, 6])) (.seq (.seq (.region [.q 50 (.mv (.t 1)), .q 7 (.mv (.t 50))] (some [0, 1, 4, 5, 6, 7])) (.block 2 (.loop (.seq (.seq (.region [.q 51 (.mv (.t 7)), .q 52 (.mv (.t 5)), .q 53 (.bin .lss (.t 51) (.t 52))] (some [0, 1, 4, 5, 6, 7, 53])) (.cond (.t 53) (some [0, 1, 4, 5, 6, 7]) .skip (.exit 2))) (.seq (.block 3 (.region [.q 56 (.mv (.t 6)), .q 57 (.bin .mul (.c (.int .i64 10)) (.t 56)), .q 58 (.mv (.t 0)), .q 59 (.mv (.t 7)), .q 60 (.idxs (.t 58) (.t 59)), .q 61 (.bin .sub (.t 60) (.c (.int .u8 48))), .q 62 (.i2i .i64 (.t 61)), .q 63 (.bin .add (.t 57) (.t 62)), .q 6 (.mv (.t 63))] (some [0, 1, 4, 5, 6, 7]))) (.region [.q 54 (.mv (.t 7)), .q 55 (.bin .add (.t 54) (.c (.int .i64 1))), .q 7 (.mv (.t 55))] (some [0, 1, 4, 5, 6, 7]))))))) (.seq (.region [.q 64 (.mv (.t 1)), .q 65 (.mv (.t 6)), .q 66 (.build [(.int .i64 0), (.int .i64 0), (.str []), (.int .i64 0)] [(0, (1, (.c (.int .i64 2)))), (1, (1, (.t 64))), (3, (1, (.t 65)))]), .q 67 (.mv (.t 5)), .q 68 (.build [(.int .i64 0), (.int .i64 0), (.str []), (.int .i64 0), (.int .i64 0), (.int .i64 0)] [(0, (4, (.t 66))), (4, (1, (.t 67)))]), .w (.store 6 (.t 4) (.t 68))] (some [4])) .ret)))))))
theorem code81 : IsCode Tryz.prog 81 sc81 [(4, (some (true, 6)))] 69 := .mk' Tryz.func81 (by kernel_rfl) (by kernel_rfl) (by kernel_rfl) (by kernel_rfl)
/-- quietus/quietusref31.text -/
def sc82 : SC := (.seq (.region [.q 4 (.alloc [(.int .i64 0), (.int .i64 0), (.str []), (.int .i64 0), (.int .i64 0), (.int .i64 0)])] (some [0, 1, 4])) (.seq (.region [.q 5 (.mv (.c (.slice .nil 0 [])))] (some [0, 1, 4, 5])) (.seq (.region [.q 7 (.mv (.t 1)), .q 8 (.bin .add (.t 7) (.c (.int .i64 1))), .q 6 (.mv (.t 8))] (some [0, 1, 4, 5, 6])) (.seq (.block 0 (.loop (.seq (.seq (.region [.q 9 (.mv (.t 6)), .q 10 (.mv (.t 0)), .q 11 (.len true (.t 10)), .q 12 (.bin .lss (.t 9) (.t 11))] (some [0, 1, 4, 5, 6, 12])) (.cond (.t 12) (some [0, 1, 4, 5, 6]) .skip (.exit 0))) (.block 1 (.seq (.seq (.region [.q 13 (.mv (.t 5)), .q 14 (.len false (.t 13)), .q 15 (.bin .gtr (.t 14) (.c (.int .i64 200)))] (some [0, 1, 4, 5, 6, 15])) (.cond (.t 15) (some [0, 1, 4, 5, 6]) (.seq (.region [.q 16 (.build [(.int .i64 0), (.int .i64 0), (.str []), (.int .i64 0), (.int .i64 0), (.int .i64 0)] [(5, (1, (.c (.int .i64 2))))]), .w (.store 6 (.t 4) (.t 16))] (some [4])) .ret) .skip)) (.block 2 (.seq (.region [.q 26 (.mv (.t 0)), .q 27 (.mv (.t 6)), .q 28 (.idxs (.t 26) (.t 27)), .q 29 (.bin .eql (.t 28) (.c (.int .u8 34))), .q 25 (.mv (.t 29))] (some [0, 1, 4, 5, 6, 25])) (.cond (.t 25) (some [0, 1, 4, 5, 6]) (.seq (.region [.q 30 (.mv (.t 1)), .q 31 (.mv (.t 5)), .q 32 (.b2s (.t 31)), .q 33 (.build [(.int .i64 0), (.int .i64 0), (.str []), (.int .i64 0)] [(0, (1, (.c (.int .i64 3)))), (1, (1, (.t 30))), (2, (1, (.t 32)))]), .q 34 (.mv (.t 6)), .q 35 (.bin .add (.t 34) (.c (.int .i64 1))), .q 36 (.build [(.int .i64 0), (.int .i64 0), (.str []), (.int .i64 0), (.int .i64 0), (.int .i64 0)] [(0, (4, (.t 33))), (4, (1, (.t 35)))]), .w (.store 6 (.t 4) (.t 36))] (some [4])) .ret) (.seq (.region [.q 38 (.mv (.t 0)), .q 39 (.mv (.t 6)), .q 40 (.idxs (.t 38) (.t 39)), .q 41 (.bin .eql (.t 40) (.c (.int .u8 92))), .q 42 (.mv (.t 41)), ⟨(some 43), (.mv (.t 6)), (some (42, true))⟩, ⟨(some 44), (.bin .add (.t 43) (.c (.int .i64 1))), (some (42, true))⟩, ⟨(some 45), (.mv (.t 0)), (some (42, true))⟩, ⟨(some 46), (.len true (.t 45)), (some (42, true))⟩, ⟨(some 47), (.bin .lss (.t 44) (.t 46)), (some (42, true))⟩, .q 48 (.pick (.t 42) (.t 47) (.c (.bool false))), .q 49 (.mv (.t 48)), ⟨(some 50), (.mv (.t 0)), (some (49, true))⟩, ⟨(some 51), (.mv (.t 6)), (some (49, true))⟩, ⟨(some 52), (.bin .add (.t 51) (.c (.int .i64 1))), (some (49, true))⟩, ⟨(some 53), (.idxs (.t 50) (.t 52)), (some (49, true))⟩, ⟨(some 54), (.call 102 [(.t 53)]), (some (49, true))⟩, ⟨(some 55), (.bin .neq (.t 54) (.c (.int .u8 0))), (some (49, true))⟩, .q 56 (.pick (.t 49) (.t 55) (.c (.bool false))), .q 37 (.mv (.t 56))] (some [0, 1, 4, 5, 6, 37])) (.cond (.t 37) (some [0, 1, 4, 5, 6]) (.seq (.region [.q 57 (.mv (.t 5)), .q 58 (.mv (.t 0)), .q 59 (.mv (.t 6)), .q 60 (.bin .add (.t 59) (.c (.int .i64 1))), .q 61 (.idxs (.t 58) (.t 60)), .q 62 (.call 102 [(.t 61)]), .q 63 (.mkslice 1 [(.t 62)]), .q 64 (.append 1 1 (.t 57) (.t 63)), .q 5 (.mv (.t 64))] (some [0, 1, 4, 5, 6])) (.region [.q 65 (.mv (.t 6)), .q 66 (.bin .add (.t 65) (.c (.int .i64 2))), .q 6 (.mv (.t 66))] (some [0, 1, 4, 5, 6]))) (.seq (.region [.q 68 (.mv (.t 0)), .q 69 (.mv (.t 6)), .q 70 (.idxs (.t 68) (.t 69)), .q 71 (.bin .eql (.t 70) (.c (.int .u8 92))), .q 72 (.mv (.t 71)), ⟨(some 73), (.mv (.t 0)), (some (72, false))⟩, ⟨(some 74), (.mv (.t 6)), (some (72, false))⟩, ⟨(some 75), (.idxs (.t 73) (.t 74)), (some (72, false))⟩, ⟨(some 76), (.bin .lss (.t 75) (.c (.int .u8 32))), (some (72, false))⟩, .q 77 (.pick (.t 72) (.c (.bool true)) (.t 76)), .q 78 (.mv (.t 77)), ⟨(some 79), (.mv (.t 0)), (some (78, false))⟩, ⟨(some 80), (.mv (.t 6)), (some (78, false))⟩, ⟨(some 81), (.idxs (.t 79) (.t 80)), (some (78, false))⟩, ⟨(some 82), (.bin .gtr (.t 81) (.c (.int .u8 126))), (some (78, false))⟩, .q 83 (.pick (.t 78) (.c (.bool true)) (.t 82)), .q 67 (.mv (.t 83))] (some [0, 1, 4, 5, 6, 67])) (.cond (.t 67) (some [0, 1, 4, 5, 6]) (.seq (.region [.q 84 (.build [(.int .i64 0), (.int .i64 0), (.str []), (.int .i64 0), (.int .i64 0), (.int .i64 0)] [(5, (1, (.c (.int .i64 28))))]), .w (.store 6 (.t 4) (.t 84))] (some [4])) .ret) (.seq (.region [.q 17 (.mv (.t 5)), .q 18 (.mv (.t 0)), .q 19 (.mv (.t 6)), .q 20 (.idxs (.t 18) (.t 19)), .q 21 (.mkslice 1 [(.t 20)]), .q 22 (.append 1 1 (.t 17) (.t 21)), .q 5 (.mv (.t 22))] (some [0, 1, 4, 5, 6])) (.region [.q 23 (.mv (.t 6)), .q 24 (.bin .add (.t 23) (.c (.int .i64 1))), .q 6 (.mv (.t 24))] (some [0, 1, 4, 5, 6]))))))))))))))) (.seq (.seq (.region [.q 85 (.mv (.t 5)), .q 86 (.len false (.t 85)), .q 87 (.bin .gtr (.t 86) (.c (.int .i64 200)))] (some [4, 87])) (.cond (.t 87) (some [4]) (.seq (.region [.q 88 (.build [(.int .i64 0), (.int .i64 0), (.str []), (.int .i64 0), (.int .i64 0), (.int .i64 0)] [(5, (1, (.c (.int .i64 2))))]), .w (.store 6 (.t 4) (.t 88))] (some [4])) .ret) .skip)) (.seq (.region [.q 89 (.build [(.int .i64 0), (.int .i64 0), (.str []), (.int .i64 0), (.int .i64 0), (.int .i64 0)] [(5, (1, (.c (.int .i64 28))))]), .w (.store 6 (.t 4) (.t 89))] (some [4])) .ret))))))
theorem code82 : IsCode Tryz.prog 82 sc82 [(4, (some (true, 6)))] 90 := .mk' Tryz.func82 (by kernel_rfl) (by kernel_rfl) (by kernel_rfl) (by kernel_rfl)
/-- quietus/quietusref31.Sign -/
def sc83 : SC := (.seq (.region [.q 2 (.mv (.c (.str [])))] (some [0])) (.seq (.region [.q 7 (.mkslice 1 [(.c (.str [45, 62])), (.c (.str [58, 61])), (.c (.str [61, 61])), (.c (.str [33, 61])), (.c (.str [60, 61])), (.c (.str [62, 61])), (.c (.str [38, 38])), (.c (.str [124, 124])), (.c (.str [46, 46]))]), .q 3 (.mv (.t 7))] (some [0, 3])) (.seq (.region [.q 8 (.mkslice 1 [(.c (.str [40])), (.c (.str [41])), (.c (.str [123])), (.c (.str [125])), (.c (.str [91])), (.c (.str [93])), (.c (.str [44])), (.c (.str [59])), (.c (.str [58])), (.c (.str [46])), (.c (.str [43])), (.c (.str [45])), (.c (.str [42])), (.c (.str [47])), (.c (.str [37])), (.c (.str [60])), (.c (.str [62])), (.c (.str [61])), (.c (.str [33])), (.c (.str [38])), (.c (.str [124])), (.c (.str [64])), (.c (.str [63])), (.c (.str [94])), (.c (.str [126]))]), .q 4 (.mv (.t 8))] (some [0, 3, 4])) (.seq (.seq (.region [.q 9 (.mv (.t 0)), .q 10 (.len true (.t 9)), .q 11 (.bin .geq (.t 10) (.c (.int .i64 2)))] (some [0, 3, 4, 11])) (.cond (.t 11) (some [0, 3, 4]) (.seq (.region [.q 12 (.mv (.t 3)), .q 13 (.mv (.t 0)), .q 14 (.cuts (.t 13) none (some (.c (.int .i64 2)))), .q 15 (.call 103 [(.t 12), (.t 14)]), .q 5 (.mv (.t 15))] (some [0, 4, 5])) (.seq (.region [.q 16 (.mv (.t 5))] (some [0, 4, 16])) (.cond (.t 16) (some [0, 4]) (.seq (.region [.q 17 (.mv (.t 0)), .q 18 (.cuts (.t 17) none (some (.c (.int .i64 2)))), .q 2 (.mv (.t 18))] (some [2])) .ret) .skip))) .skip)) (.seq (.seq (.region [.q 19 (.mv (.t 0)), .q 20 (.len true (.t 19)), .q 21 (.bin .geq (.t 20) (.c (.int .i64 1)))] (some [0, 4, 21])) (.cond (.t 21) (some [0, 4]) (.seq (.region [.q 22 (.mv (.t 4)), .q 23 (.mv (.t 0)), .q 24 (.cuts (.t 23) none (some (.c (.int .i64 1)))), .q 25 (.call 103 [(.t 22), (.t 24)]), .q 6 (.mv (.t 25))] (some [0, 6])) (.seq (.region [.q 26 (.mv (.t 6))] (some [0, 26])) (.cond (.t 26) (some [0]) (.seq (.region [.q 27 (.mv (.t 0)), .q 28 (.cuts (.t 27) none (some (.c (.int .i64 1)))), .q 2 (.mv (.t 28))] (some [2])) .ret) .skip))) .skip)) (.seq (.region [.q 2 (.mv (.c (.str [])))] (some [2])) .ret))))))
theorem code83 : IsCode Tryz.prog 83 sc83 [(2, none)] 29 := .mk' Tryz.func83 (by kernel_rfl) (by kernel_rfl) (by kernel_rfl) (by kernel_rfl)
/-- quietus/quietusref31.pair -/
def sc102 : SC := (.seq (.region [.q 2 (.mv (.c (.int .u8 0)))] (some [0])) (.seq (.seq (.region [.q 3 (.mv (.t 0))] (some [0, 3])) (.block 0 (.seq (.seq (.region [.q 5 (.bin .eql (.t 3) (.c (.int .u8 34))), .q 4 (.mv (.t 5))] (some [0, 3, 4])) (.cond (.t 4) (some [0, 3, 4]) .skip (.region [.q 6 (.bin .eql (.t 3) (.c (.int .u8 92))), .q 4 (.mv (.t 6))] (some [0, 3, 4])))) (.cond (.t 4) (some [0, 3]) (.seq (.region [.q 7 (.mv (.t 0)), .q 2 (.mv (.t 7))] (some [2])) .ret) (.seq (.region [.q 9 (.bin .eql (.t 3) (.c (.int .u8 110))), .q 8 (.mv (.t 9))] (some [8])) (.cond (.t 8) (some []) (.seq (.region [.q 2 (.mv (.c (.int .u8 10)))] (some [2])) .ret) .skip)))))) (.seq (.region [.q 2 (.mv (.c (.int .u8 0)))] (some [2])) .ret)))
theorem code102 : IsCode Tryz.prog 102 sc102 [(2, none)] 10 := .mk' Tryz.func102 (by kernel_rfl) (by kernel_rfl) (by kernel_rfl) (by kernel_rfl)
/-- quietus/quietusref31.has -/
def sc103 : SC := (.seq (.region [.q 4 (.mv (.c (.bool false)))] (some [0, 1])) (.seq (.seq (.region [.q 5 (.mv (.c (.int .i64 0)))] (some [0, 1, 5])) (.block 0 (.loop (.seq (.seq (.region [.q 6 (.mv (.t 5)), .q 7 (.mv (.t 0)), .q 8 (.len false (.t 7)), .q 9 (.bin .lss (.t 6) (.t 8))] (some [0, 1, 5, 9])) (.cond (.t 9) (some [0, 1, 5]) .skip (.exit 0))) (.seq (.block 1 (.seq (.region [.q 12 (.mv (.t 0)), .q 13 (.mv (.t 5)), .q 14 (.iaddr 1 (.t 12) (.t 13)), .q 15 (.load false 1 (.t 14)), .q 16 (.mv (.t 1)), .q 17 (.bins .eql (.t 15) (.t 16))] (some [0, 1, 5, 17])) (.cond (.t 17) (some [0, 1, 5]) (.seq (.region [.q 4 (.mv (.c (.bool true)))] (some [4])) .ret) .skip))) (.region [.q 10 (.mv (.t 5)), .q 11 (.bin .add (.t 10) (.c (.int .i64 1))), .q 5 (.mv (.t 11))] (some [0, 1, 5]))))))) (.seq (.region [.q 4 (.mv (.c (.bool false)))] (some [4])) .ret)))
theorem code103 : IsCode Tryz.prog 103 sc103 [(4, none)] 18 := .mk' Tryz.func103 (by kernel_rfl) (by kernel_rfl) (by kernel_rfl) (by kernel_rfl)
end Go.Shadow.Lex

/- Proved: what the lexer's Text does at lists without texts. Conditions: the lists' and sources' sizes, as each theorem says. -/
namespace Go.Shadow.Lex
open Go Go.RowKit Go.Proofs

theorem put_ne {σ : St} {b b' : Nat} {cs : List V} (h : b' ≠ b) : (σ.put b cs).box b' = σ.box b' := by simp [St.put, h]
theorem over_none {σ σ' : St} (h : Over σ σ') {b : Nat} (hb : σ'.box b = none) : σ.box b = none := by
  cases hbb : σ.box b with
  | none => rfl
  | some cs => rw [h.box b cs hbb] at hb; cases hb

theorem over_trans {a b c : St} (h : Over a b) (k : Over b c) : Over a c := ⟨fun x cs hx => k.box x cs (h.box x cs hx), fun t ht => k.live t (h.live t ht), fun r m hr => k.map r m (h.map r m hr)⟩
theorem new_box {σ : St} {b : Nat} (h : σ.box b = none) (cs : List V) : Over σ (σ.put b cs) ∧ (σ.put b cs).box b = some cs := ⟨over_put (.refl _) h, put_box⟩
end Go.Shadow.Lex

/- Proved: what the parser's small methods do, as shadow contracts. Conditions: as each theorem says. -/
namespace Go.Shadow.Lex
open Go Go.RowKit Go.Proofs

/-- The parser in its box: what is left of the tokens, and how many forms there are. -/
def Ps (σ : St) (p : Nat) (l : List Tok) (f : Int) : Prop := ∃ tag, σ.box p = some [.slice tag 4 (l.map tokV), .int .i64 f]

/-- All but the parser's box is as it was. -/
structure Fr (p : Nat) (σ σ' : St) : Prop where
  box : ∀ b cs, b ≠ p → σ.box b = some cs → σ'.box b = some cs
  live : ∀ t, σ.live t = true → σ'.live t = true
  map : ∀ r m, σ.map r = some m → σ'.map r = some m
theorem Fr.refl (p : Nat) (σ : St) : Fr p σ σ := ⟨fun _ _ _ h => h, fun _ h => h, fun _ _ h => h⟩
theorem Fr.trans {p : Nat} {a b c : St} (h : Fr p a b) (k : Fr p b c) : Fr p a c :=
  ⟨fun x cs hx hb => k.box x cs hx (h.box x cs hx hb), fun t ht => k.live t (h.live t ht), fun r m hr => k.map r m (h.map r m hr)⟩
theorem Fr.of_over {p : Nat} {a b : St} (h : Over a b) : Fr p a b := ⟨fun x cs _ hb => h.box x cs hb, h.live, h.map⟩
theorem Fr.put {p : Nat} {σ0 σ : St} {b : Nat} {cs : List V} (h : Fr p σ0 σ) (hb : σ0.box b = none ∨ b = p) : Fr p σ0 (σ.put b cs) := by
  refine ⟨fun x ds hx hxb => ?_, h.live, h.map⟩
  have : x ≠ b := by
    rintro rfl
    rcases hb with hb | hb
    · rw [hb] at hxb; cases hxb
    · exact hx hb
  rw [put_ne this]
  exact h.box x ds hx hxb
theorem put_none {σ : St} {b b' : Nat} {cs : List V} (h : (σ.put b cs).box b' = none) : σ.box b' = none := by
  by_cases e : b' = b
  · subst e; rw [put_box] at h; cases h
  · rwa [put_ne e] at h

theorem is_call {σ : St} {p : Nat} {l : List Tok} {f : Int} (hp : Ps σ p l f) (hl : l ≠ []) (s : List UInt8) :
    SCall Tryz.prog LG 47 [.loc p 0, .str s] σ fun e σ' => e = .ret (.bool (isS s l)) ∧ σ' = σ := by
  obtain ⟨tag, hb⟩ := hp
  obtain ⟨t, r, rfl⟩ : ∃ t r, l = t :: r := by cases l with
    | nil => exact absurd rfl hl
    | cons t r => exact ⟨t, r, rfl⟩
  refine code47.call hm (by simp) ?_
  refine Load.mk' hb (by simp) ?_
  refine Sure.mk' (.inl rfl) ?_
  refine IdxE.mk' 0 (tokV t) rfl rfl ?_
  refine ⟨by simp [tokV], ?_⟩
  refine Test.split (fun h => ?_) (fun h => ?_)
  · refine Load.mk' hb (by simp) ?_
    refine Sure.mk' (.inl rfl) ?_
    refine IdxE.mk' 0 (tokV t) rfl rfl ?_
    refine ⟨by simp [tokV], ?_⟩
    refine Test.split (fun h2 => ?_) (fun h2 => ?_)
    · refine Ret.mk' ⟨?_, rfl⟩
      simp [isS, h, h2]
    · refine Ret.mk' ⟨?_, rfl⟩
      simp [isS, h, h2]
  · refine Ret.mk' ⟨?_, rfl⟩
    simp [isS, h]

theorem begins_call {σ : St} {p : Nat} {l : List Tok} {f : Int} (hp : Ps σ p l f) (hl : l ≠ []) :
    SCall Tryz.prog LG 48 [.loc p 0] σ fun e σ' => e = .ret (.bool (begins l)) ∧ σ' = σ := by
  have h47 := fun s => is_call hp hl s
  obtain ⟨tag, hb⟩ := hp
  obtain ⟨t, r, rfl⟩ : ∃ t r, l = t :: r := by cases l with
    | nil => exact absurd rfl hl
    | cons t r => exact ⟨t, r, rfl⟩
  refine code48.call hm (by simp) ?_
  refine Load.mk' hb (by simp) ?_
  refine Sure.mk' (.inl rfl) ?_
  refine IdxE.mk' 0 (tokV t) rfl rfl ?_
  refine ⟨by simp [tokV], ?_⟩
  refine Test.split (fun h => ?_) (fun h => ?_)
  · refine Ret.mk' ⟨?_, rfl⟩
    simp [begins, h]
  · refine Test.split (fun h2 => ?_) (fun h2 => ?_)
    · refine Ret.mk' ⟨?_, rfl⟩
      simp [begins, h2]
    · refine Test.split (fun h3 => ?_) (fun h3 => ?_)
      · refine Ret.mk' ⟨?_, rfl⟩
        simp [begins, h3]
      · refine CallK.mk' (h47 _) ?_
        rintro e σ' ⟨rfl, rfl⟩
        cases hq : isS [40] (t :: r)
        · refine CallK.mk' (h47 _) ?_
          rintro e σ' ⟨rfl, rfl⟩
          refine Ret.mk' ⟨?_, rfl⟩
          simp [begins, h, h2, h3, hq]
        · refine Ret.mk' ⟨?_, rfl⟩
          simp [begins, hq]

/-- A problem with which parsing ends. -/
def stopV (E : Int) (l : List Tok) : V := .iface 95 (.agg [.int .i64 (hd l).at_, .int .i64 E])
theorem fail_call {σ : St} {p : Nat} {l : List Tok} {f : Int} (hp : Ps σ p l f) (hl : l ≠ []) (E : Int) :
    SCall Tryz.prog LG 45 [.loc p 0, .int .i64 E] σ fun e σ' => e = .pan (stopV E l) ∧ σ' = σ := by
  obtain ⟨tag, hb⟩ := hp
  obtain ⟨t, r, rfl⟩ : ∃ t r, l = t :: r := by cases l with
    | nil => exact absurd rfl hl
    | cons t r => exact ⟨t, r, rfl⟩
  refine code45.call hm (by simp) ?_
  refine Load.mk' hb (by simp) ?_
  refine Sure.mk' (.inl rfl) ?_
  refine IdxE.mk' 0 (tokV t) rfl rfl ?_
  refine ⟨by simp [tokV], ?_⟩
  exact ⟨_, _, Weak.refl _, Forget.refl _, rfl, rfl⟩

theorem nextTok_call {σ : St} {p : Nat} {t : Tok} {r : List Tok} {f : Int} (hp : Ps σ p (t :: r) f) :
    SCall Tryz.prog LG 46 [.loc p 0] σ fun e σ' => e = .ret (.agg (tokV t)) ∧ Ps σ' p r f ∧ Fr p σ σ' := by
  obtain ⟨tag, hb⟩ := hp
  refine code46.call hm (by simp) ?_
  intro b h2
  have n2 : p ≠ b := by rintro rfl; rw [hb] at h2; cases h2
  have hb2 : (σ.put b [.int .i64 0, .int .i64 0, .str [], .int .i64 0]).box p = some [.slice tag 4 ((t :: r).map tokV), .int .i64 f] := by rw [put_ne n2]; exact hb
  refine Load.mk' hb2 (by simp) ?_
  refine Sure.mk' (.inl rfl) ?_
  refine IdxE.mk' 0 (tokV t) rfl rfl ?_
  refine ⟨by simp [tokV], ?_⟩
  intro b3 h3
  have n3 : p ≠ b3 := by rintro rfl; rw [hb2] at h3; cases h3
  have n4 : b ≠ b3 := by rintro rfl; rw [put_box] at h3; cases h3
  refine Sure.mk' rfl ?_
  refine Store.mk' (tokV t) put_box (by simp [V.cells, tokV]) (by simp [setL, V.cells, tokV]) (fun σ1 e1 => ?_)
  rw [put_put] at e1
  have hb4 : σ1.box p = some [.slice tag 4 ((t :: r).map tokV), .int .i64 f] := by rw [e1, put_ne n3]; exact hb2
  have hb5 : σ1.box b3 = some (tokV t) := by rw [e1]; exact put_box
  refine Load.mk' hb4 (by simp) ?_
  refine Sure.mk' rfl ?_
  refine CutR.mk' 1 rfl (by simp) ?_
  refine Sure.mk' rfl ?_
  refine Store.mk' [.slice .foreign 4 (r.map tokV), .int .i64 f] hb4 (by simp [V.cells]) (by simp [setL, V.cells]) (fun σ2 e2 => ?_)
  have hb6 : σ2.box b3 = some (tokV t) := by rw [e2, put_ne (Ne.symm n3)]; exact hb5
  have hb7 : σ2.box b = some [.int .i64 0, .int .i64 0, .str [], .int .i64 0] := by rw [e2, put_ne (Ne.symm n2), e1, put_ne n4]; exact put_box
  refine Load.mk' hb6 (by simp [tokV]) ?_
  refine Sure.mk' rfl ?_
  refine Store.mk' (tokV t) hb7 (by simp [V.cells, tokV]) (by simp [setL, V.cells, tokV]) (fun σ3 e3 => ?_)
  have hb8 : σ3.box b = some (tokV t) := by rw [e3]; exact put_box
  refine Load.mk' hb8 (by simp [tokV]) ?_
  refine Ret.mk' ⟨rfl, ?_, ?_⟩
  · exact ⟨.foreign, by rw [e3, put_ne n2, e2]; exact put_box⟩
  · subst e3; subst e2; subst e1
    exact ((((Fr.refl p σ).put (.inl h2)).put (.inl (put_none h3))).put (.inr rfl)).put (.inl h2)

theorem need_call {σ : St} {p : Nat} {l : List Tok} {f : Int} (hp : Ps σ p l f) (hl : l ≠ []) (s : List UInt8) :
    SCall Tryz.prog LG 52 [.loc p 0, .str s] σ fun e σ' => (isS s l = true ∧ e = .ret (.tup []) ∧ Ps σ' p l.tail f ∧ Fr p σ σ') ∨ (isS s l = false ∧ e = .pan (stopV 5 l) ∧ Fr p σ σ') := by
  refine code52.call hm (by simp) ?_
  refine CallK.mk' (is_call hp hl s) ?_
  rintro e σ' ⟨rfl, rfl⟩
  cases hq : isS s l
  · refine CallK.mk' (fail_call hp hl 5) ?_
    rintro e σ' ⟨rfl, rfl⟩
    exact ⟨_, _, Weak.refl _, Forget.refl _, .inr ⟨rfl, rfl, .refl _ _⟩⟩
  · obtain ⟨t, r, rfl⟩ : ∃ t r, l = t :: r := by cases l with
      | nil => exact absurd rfl hl
      | cons t r => exact ⟨t, r, rfl⟩
    refine CallK.mk' (nextTok_call hp) ?_
    rintro e σ2 ⟨rfl, h1, h2⟩
    refine Ret.mk' (.inl ⟨rfl, rfl, h1, h2⟩)

theorem deep_call {σ : St} {p : Nat} {l : List Tok} {f : Int} (hp : Ps σ p l f) (hl : l ≠ []) (d : Int) (no : Bool) :
    SCall Tryz.prog LG 50 [.loc p 0, .int .i64 d, .bool no] σ fun e σ' => (first l d no = none ∧ e = .ret (.tup []) ∧ σ' = σ) ∨ (∃ E, first l d no = some E ∧ e = .pan (stopV E l) ∧ σ' = σ) := by
  refine code50.call hm (by simp) ?_
  refine CallK.mk' (begins_call hp hl) ?_
  rintro e σ' ⟨rfl, rfl⟩
  cases hb : begins l
  · cases no
    · refine CallK.mk' (fail_call hp hl 5) ?_
      rintro e σ' ⟨rfl, rfl⟩
      exact ⟨_, _, Weak.refl _, Forget.refl _, .inr ⟨5, by simp [first, hb], rfl, rfl⟩⟩
    · refine CallK.mk' (is_call hp hl _) ?_
      rintro e σ' ⟨rfl, rfl⟩
      cases hq : isS [33] l
      · refine CallK.mk' (fail_call hp hl 5) ?_
        rintro e σ' ⟨rfl, rfl⟩
        exact ⟨_, _, Weak.refl _, Forget.refl _, .inr ⟨5, by simp [first, hb, hq], rfl, rfl⟩⟩
      · refine Test.split (fun h => ?_) (fun h => ?_)
        · refine CallK.mk' (fail_call hp hl 2) ?_
          rintro e σ' ⟨rfl, rfl⟩
          exact ⟨_, _, Weak.refl _, Forget.refl _, .inr ⟨2, by simp [first, hb, hq]; omega, rfl, rfl⟩⟩
        · refine Ret.mk' (.inl ⟨by simp [first, hb, hq]; omega, rfl, rfl⟩)
  · refine Test.split (fun h => ?_) (fun h => ?_)
    · refine CallK.mk' (fail_call hp hl 2) ?_
      rintro e σ' ⟨rfl, rfl⟩
      exact ⟨_, _, Weak.refl _, Forget.refl _, .inr ⟨2, by simp [first, hb]; omega, rfl, rfl⟩⟩
    · refine Ret.mk' (.inl ⟨by simp [first, hb]; omega, rfl, rfl⟩)
end Go.Shadow.Lex

/- Proved: what the parser's number and its search for an operator do, as shadow contracts. Conditions: as each theorem says. -/
namespace Go.Shadow.Lex
open Go Go.RowKit Go.Proofs

theorem numberP_call {σ : St} {p : Nat} {l : List Tok} {f : Int} (hp : Ps σ p l f) (hl : l ≠ []) :
    SCall Tryz.prog LG 75 [.loc p 0] σ fun e σ' => ((hd l).kind = 2 ∧ e = .ret (.int .i64 (hd l).n) ∧ Ps σ' p l.tail f ∧ Fr p σ σ') ∨ ((hd l).kind ≠ 2 ∧ e = .pan (stopV 5 l) ∧ Fr p σ σ') := by
  obtain ⟨t, r, rfl⟩ : ∃ t r, l = t :: r := by cases l with
    | nil => exact absurd rfl hl
    | cons t r => exact ⟨t, r, rfl⟩
  obtain ⟨tag, hb⟩ := id hp
  refine code75.call hm (by simp) ?_
  refine Load.mk' hb (by simp) ?_
  refine Sure.mk' (.inl rfl) ?_
  refine IdxE.mk' 0 (tokV t) rfl rfl ?_
  refine ⟨by simp [tokV], ?_⟩
  refine Test.split (fun h => ?_) (fun h => ?_)
  · refine CallK.mk' (fail_call hp hl 5) ?_
    rintro e σ' ⟨rfl, rfl⟩
    exact ⟨_, _, Weak.refl _, Forget.refl _, .inr ⟨h, rfl, .refl _ _⟩⟩
  · refine CallK.mk' (nextTok_call hp) ?_
    rintro e σ2 ⟨rfl, h1, h2⟩
    refine ⟨by simp [tokV], ?_⟩
    refine Ret.mk' ?_
    exact .inl ⟨by simpa [hd] using h, rfl, h1, h2⟩

/-- An operator, as the parser keeps it. -/
def opV (o : List UInt8 × Int × Nat) : List V := [.str o.1, .int .i64 o.2.1, .int .i64 o.2.2]
theorem operators_ret : SRet Tryz.prog LG 70 [] (.slice .full 3 (opsT.map opV)) := by
  intro σ
  refine code70.call hm (by simp) ?_
  exact Ret.mk' ⟨rfl, rfl⟩

theorem signP_call {σ : St} {bn bp p : Nat} {l : List Tok} {f : Int} {n : Nat} (hn : σ.box bn = some [.int .i64 n]) (hbp : σ.box bp = some [.loc p 0]) (hp : Ps σ p l f) (hl : l ≠ []) (o : List UInt8 × Int × Nat) :
    SCall Tryz.prog LG 77 [.agg (opV o), .loc bn 0, .loc bp 0] σ fun e σ' => e = .ret (.bool (o.2.2 == n && isS o.1 l)) ∧ Over σ σ' := by
  refine code77.call hm (by simp) ?_
  refine ⟨rfl, ?_⟩
  intro b hb
  have nn : bn ≠ b := by rintro rfl; rw [hn] at hb; cases hb
  have np : bp ≠ b := by rintro rfl; rw [hbp] at hb; cases hb
  have npp : p ≠ b := by obtain ⟨_, h⟩ := hp; rintro rfl; rw [h] at hb; cases hb
  refine Load.mk' put_box (by simp [V.cells, opV]) ?_
  refine Load.mk' (by rw [put_ne nn]; exact hn) (by simp) ?_
  refine Test.split (fun h => ?_) (fun h => ?_)
  · refine Load.mk' (by rw [put_ne np]; exact hbp) (by simp) ?_
    refine Load.mk' put_box (by simp [V.cells, opV]) ?_
    refine CallK.mk' (is_call (l := l) (f := f) (by obtain ⟨tag, h⟩ := hp; exact ⟨tag, by rw [put_ne npp]; exact h⟩) hl _) ?_
    rintro e σ' ⟨rfl, rfl⟩
    refine Ret.mk' ⟨?_, over_put (.refl _) hb⟩
    have : o.2.2 = n := by exact_mod_cast h
    simp [this]
  · refine Ret.mk' ⟨?_, over_put (.refl _) hb⟩
    have : ¬ o.2.2 = n := fun e => h (by rw [e])
    simp [this]

/-- The place of the first operator that a test takes; -1: none. -/
def opIdx (g : List UInt8 × Int × Nat → Bool) : Int := match opsT.findIdx? g with
  | some k => k
  | none => -1
theorem opIdx_some {g : List UInt8 × Int × Nat → Bool} {i : Nat} {o : List UInt8 × Int × Nat} (hi : opsT[i]? = some o) (hg : g o = true) (hno : ∀ j, j < i → ∀ o, opsT[j]? = some o → g o = false) : opIdx g = i := by
  have hlt := (List.getElem?_eq_some_iff.1 hi).1
  have : opsT.findIdx? g = some i := by
    rw [List.findIdx?_eq_some_iff_getElem]
    refine ⟨hlt, by rw [(List.getElem?_eq_some_iff.1 hi).2]; exact hg, fun j hj => ?_⟩
    have := hno j hj _ (List.getElem?_eq_getElem (by omega))
    simp [this]
  simp [opIdx, this]
theorem opIdx_none {g : List UInt8 × Int × Nat → Bool} (hno : ∀ j : Nat, j < 13 → ∀ o, opsT[j]? = some o → g o = false) : opIdx g = -1 := by
  have : opsT.findIdx? g = none := by
    rw [List.findIdx?_eq_none_iff]
    intro o ho
    obtain ⟨j, hj⟩ := List.getElem?_of_mem ho
    exact hno j (List.getElem?_eq_some_iff.1 hj).1 o hj
  simp [opIdx, this]
theorem over_tr {a b c : St} (h : Over a b) (k : Over b c) : Over a c := ⟨fun x cs hx => k.box x cs (h.box x cs hx), fun t ht => k.live t (h.live t ht), fun r m hr => k.map r m (h.map r m hr)⟩
theorem index_call {σ : St} {k : FuncId} {caps : List V} (g : List UInt8 × Int × Nat → Bool)
    (hg : ∀ σ', Over σ σ' → ∀ o, SCall Tryz.prog LG k ([] ++ [.agg (opV o)] ++ caps) σ' fun e σ'' => e = .ret (.bool (g o)) ∧ Over σ' σ'') :
    SCall Tryz.prog LG 69 [.slice .full 3 (opsT.map opV), .func k [] caps] σ fun e σ' => e = .ret (.int .i64 (opIdx g)) ∧ Over σ σ' := by
  refine code69.call hm (by simp) ?_
  refine ⟨fun m sl σ' => ∃ i : Nat, sl = ofL [(0, some (.slice .full 3 (opsT.map opV))), (1, some (.func k [] caps)), (7, some (.int .i64 13)), (8, some (.int .i64 i))] ∧ Over σ σ' ∧ i ≤ 13 ∧ (∀ j, j < i → ∀ o, opsT[j]? = some o → g o = false) ∧ m = 13 - i,
    _, ⟨0, rfl, .refl _, by omega, fun j hj => by omega, rfl⟩, ?_⟩
  rintro m sl σ' ⟨i, rfl, ho, hi, hno, rfl⟩
  refine Test.split (fun h => ?_) (fun h => ?_)
  · obtain ⟨o, hoi⟩ : ∃ o, opsT[i]? = some o := ⟨_, List.getElem?_eq_getElem (by show i < 13; omega)⟩
    refine Sure.mk' (.inl rfl) ?_
    refine IdxE.mk' i (opV o) rfl (by simp [hoi]) ?_
    refine ⟨by simp [opV], ?_⟩
    refine CallK.mk' (hg σ' ho o) ?_
    rintro e σ2 ⟨rfl, ho2⟩
    cases hgo : g o
    · refine Arith.i64 ((i + 1 : Nat) : Int) (by omega) (by omega) ?_
      refine ⟨_, _, ?_, Forget.refl _, i + 1, rfl, over_tr ho ho2, by omega, fun j hj o' ho' => ?_, rfl⟩
      · omega
      · by_cases e : j = i
        · subst e; rw [hoi] at ho'; injection ho' with ho'; rw [← ho']; exact hgo
        · exact hno j (by omega) o' ho'
    · refine Ret.mk' ⟨?_, over_tr ho ho2⟩
      rw [opIdx_some hoi hgo hno]
  · refine Ret.mk' ⟨?_, ho⟩
    rw [opIdx_none fun j hj => hno j (by omega)]

theorem isS_eq {s s' : List UInt8} {l : List Tok} (h : isS s l = true) (h' : isS s' l = true) : s = s' := by
  rw [← (hd_sign h).2, ← (hd_sign h').2]
theorem ops_uniq : ∀ o ∈ opsT, ∀ o' ∈ opsT, o.1 = o'.1 → o = o' := by decide
theorem opOf_of {o : List UInt8 × Int × Nat} {l : List Tok} (ho : o ∈ opsT) (h : isS o.1 l = true) : opOf l = some o.2 := by
  unfold opOf
  cases hf : opsT.find? fun o => isS o.1 l with
  | none => exact absurd h (by simpa using List.find?_eq_none.1 hf o ho)
  | some o' =>
    have h1 := List.find?_some hf
    have h2 := List.mem_of_find?_eq_some hf
    rw [ops_uniq o' h2 o ho (isS_eq h1 h)]; rfl
theorem of_opOf {l : List Tok} {x : Int × Nat} (h : opOf l = some x) : ∃ s, (s, x) ∈ opsT ∧ isS s l = true := by
  unfold opOf at h
  rw [Option.map_eq_some_iff] at h
  obtain ⟨o, h1, rfl⟩ := h
  have h2 := List.find?_some h1
  exact ⟨o.1, List.mem_of_find?_eq_some h1, h2⟩
/-- What the parser finds is what the grammar says. -/
theorem opIdx_lvl (n : Nat) (l : List Tok) : (opIdx (fun o => o.2.2 == n && isS o.1 l) = -1 ∧ ∀ op, opOf l ≠ some (op, n)) ∨
    ∃ (k : Nat) (o : List UInt8 × Int × Nat), opIdx (fun o => o.2.2 == n && isS o.1 l) = k ∧ opsT[k]? = some o ∧ opOf l = some (o.2.1, n) ∧ k < 13 := by
  unfold opIdx
  cases hf : opsT.findIdx? fun o => o.2.2 == n && isS o.1 l with
  | none =>
    refine .inl ⟨rfl, fun op ho => ?_⟩
    obtain ⟨s, h1, h2⟩ := of_opOf ho
    have := List.findIdx?_eq_none_iff.1 hf _ h1
    simp [h2] at this
  | some k =>
    rw [List.findIdx?_eq_some_iff_getElem] at hf
    obtain ⟨hk, h1, _⟩ := hf
    simp only [Bool.and_eq_true, beq_iff_eq] at h1
    refine .inr ⟨k, opsT[k], rfl, List.getElem?_eq_getElem hk, ?_, hk⟩
    rw [opOf_of (List.getElem_mem hk) h1.2, ← h1.1]
end Go.Shadow.Lex

/- Proved: what the parser's expressions are as values; its reading of expressions, as shadow contracts (under way). -/
namespace Go.Shadow.Lex
open Go Go.RowKit Go.Proofs

mutual
/-- The cells of an expression. -/
def exV : Ex → List V
  | .mk op n s kids a => [.int .i64 op, .int .i64 n, .str s, .slice .foreign 5 (exVs kids), .int .i64 a]
def exVs : List Ex → List (List V)
  | [] => []
  | e :: r => exV e :: exVs r
end
theorem exVs_map : ∀ l : List Ex, exVs l = l.map exV
  | [] => rfl
  | e :: r => by simp [exVs, exVs_map r]
theorem weak_slice (t : Tag) (s : Nat) (es : List (List V)) : Weak (.slice t s es) (.slice .foreign s es) := by
  intro B γ w x h
  cases h with | slice _ _ _ a cap b o vs hs hl ha ht h1 hc hr => exact .slice .foreign s es a cap b o vs hs hl ha trivial h1 hc hr
theorem weak_nil (t : Tag) (s s' : Nat) : Weak (.slice t s []) (.slice .foreign s' []) := by
  intro B γ w x h
  cases h with | slice _ _ _ a cap b o vs hs hl ha ht h1 hc hr => exact .slice .foreign s' [] a cap b o vs (by simp) hl ha trivial h1 hc hr
theorem weak_agg {cs ds : List V} (hl : cs.length = ds.length) (h1 : ∀ (i : Nat) (y : V), ds[i]? = some y → y.one = true) (h : ∀ (i : Nat) (x y : V), cs[i]? = some x → ds[i]? = some y → Weak x y) : Weak (.agg cs) (.agg ds) := by
  intro B γ w x hx
  cases hx with | agg _ vs hv _ hr =>
  refine .agg ds vs (by omega) h1 (fun i y z hy hz => ?_)
  have hi : i < cs.length := by have := (List.getElem?_eq_some_iff.1 hy).1; omega
  exact h i cs[i] y (List.getElem?_eq_getElem hi) hy _ _ _ _ (hr i _ z (List.getElem?_eq_getElem hi) hz)
/-- An expression's value, out of a literal. -/
theorem weak_ex {op n a : Int} {s : List UInt8} {t : Tag} {kids : List Ex} {es : List (List V)} (h : es = kids.map exV) : Weak (.agg [.int .i64 op, .int .i64 n, .str s, .slice t 5 es, .int .i64 a]) (.agg (exV (.mk op n s kids a))) := by
  subst h
  refine weak_agg rfl (fun i y hy => ?_) (fun i x y hx hy => ?_)
  · match i, hy with
    | 0, hy | 1, hy | 2, hy | 3, hy | 4, hy => simp [exV] at hy; subst hy; rfl
    | _ + 5, hy => simp [exV] at hy
  · match i, hx, hy with
    | 0, hx, hy | 1, hx, hy | 2, hx, hy | 4, hx, hy => simp [exV] at hx hy; subst hx; subst hy; exact Weak.refl _
    | 3, hx, hy => simp [exV] at hx hy; subst hx; subst hy; rw [exVs_map]; exact weak_slice _ _ _
    | _ + 5, hx, hy => simp [exV] at hy

/-- What is left of a source's tokens: the end is the last, and the only end; numbers have no text, others no number. -/
def Ended (l : List Tok) : Prop := ∃ i e, l = i ++ [e] ∧ e.kind = 5 ∧ (∀ t ∈ i, t.kind ≠ 5) ∧ ∀ t ∈ l, ((t.kind = 2 → t.s = []) ∧ (t.kind ≠ 2 → t.n = 0)) ∧ 0 ≤ t.n ∧ t.n ≤ 999999999999999
theorem Ended.ne {l : List Tok} (h : Ended l) : l ≠ [] := by obtain ⟨i, e, rfl, _⟩ := h; simp
theorem Ended.cons {l : List Tok} (h : Ended l) : ∃ t r, l = t :: r := by
  cases l with
  | nil => exact absurd rfl h.ne
  | cons t r => exact ⟨t, r, rfl⟩
theorem Ended.tail {l : List Tok} (h : Ended l) (hk : (hd l).kind ≠ 5) : Ended l.tail ∧ l.tail.length < l.length := by
  obtain ⟨i, e, rfl, h1, h2, h3⟩ := h
  cases i with
  | nil => exact absurd h1 hk
  | cons t i => exact ⟨⟨i, e, rfl, h1, fun t ht => h2 t (by simp [ht]), fun t ht => h3 t (by simp at ht ⊢; exact .inr ht)⟩, by simp⟩
theorem Ended.tail_sign {l : List Tok} (h : Ended l) {s : List UInt8} (hs : isS s l = true) : Ended l.tail ∧ l.tail.length < l.length :=
  h.tail (by rw [(hd_sign hs).1]; decide)

/-- What a method of the parser that reads an expression does. -/
def Reads (nt : NT) (d : Int) (l : List Tok) (p : Nat) (f : Int) (σ : St) (e : SEnd) (σ' : St) : Prop := ∃ r, PE nt d l r ∧ Fr p σ σ' ∧ match r with
  | .ok x rest => e = .ret (.agg (exV x)) ∧ Ps σ' p rest f ∧ Ended rest ∧ rest.length < l.length
  | .err E rest => e = .pan (stopV E rest) ∧ Ended rest
/-- The rank of a reader: those of greater rank call those of smaller rank at the same place. -/
structure CallsTo (m : Nat) : Prop where
  expr : ∀ (σ : St) (p : Nat) (l : List Tok) (f d : Int), Ps σ p l f → Ended l → 0 ≤ d → d ≤ 31 → l.length * 20 + 10 ≤ m → SCall Tryz.prog LG 28 [.loc p 0, .int .i64 d] σ (Reads .expr d l p f σ)
  lvl : ∀ (σ : St) (p : Nat) (l : List Tok) (f d : Int) (n : Nat), Ps σ p l f → Ended l → 0 ≤ d → d ≤ 30 → 1 ≤ n → n ≤ 7 → l.length * 20 + (9 - n) ≤ m → SCall Tryz.prog LG 51 [.loc p 0, .int .i64 n, .int .i64 d] σ (Reads (.lvl n) d l p f σ)
  neg : ∀ (σ : St) (p : Nat) (l : List Tok) (f d : Int), Ps σ p l f → Ended l → 0 ≤ d → d ≤ 30 → l.length * 20 + 1 ≤ m → SCall Tryz.prog LG 76 [.loc p 0, .int .i64 d] σ (Reads .neg d l p f σ)
  atom : ∀ (σ : St) (p : Nat) (l : List Tok) (f d : Int), Ps σ p l f → Ended l → 0 ≤ d → d ≤ 30 → isS [45] l = false → l.length * 20 ≤ m → SCall Tryz.prog LG 101 [.loc p 0, .int .i64 d] σ (Reads .atom d l p f σ)

theorem first_le {l : List Tok} {d : Int} {no : Bool} (h : first l d no = none) : d ≤ 30 := by
  unfold first at h
  split at h
  · cases h
  · split at h
    · cases h
    · omega
end Go.Shadow.Lex

/- The parser's reading of expressions, as shadow contracts (under way). -/
namespace Go.Shadow.Lex
open Go Go.RowKit Go.Proofs

theorem neg_walk {m : Nat} (ih : ∀ k, k < m → CallsTo k) {σ : St} {p : Nat} {l : List Tok} {f d : Int} (hp : Ps σ p l f) (he : Ended l) (h0 : 0 ≤ d) (h1 : d ≤ 30) (hm' : l.length * 20 + 1 ≤ m) :
    SCall Tryz.prog LG 76 [.loc p 0, .int .i64 d] σ (Reads .neg d l p f σ) := by
  refine code76.call hm (by simp) ?_
  intro b hb
  have np : p ≠ b := by obtain ⟨_, h⟩ := hp; rintro rfl; rw [h] at hb; cases hb
  have hp1 : Ps (σ.put b [.int .i64 0, .int .i64 0, .str [], .slice .nil 0 [], .int .i64 0]) p l f := by obtain ⟨tag, h⟩ := hp; exact ⟨tag, by rw [put_ne np]; exact h⟩
  have hf1 : Fr p σ (σ.put b [.int .i64 0, .int .i64 0, .str [], .slice .nil 0 [], .int .i64 0]) := (Fr.refl p σ).put (.inl hb)
  have hb1 : (σ.put b [.int .i64 0, .int .i64 0, .str [], .slice .nil 0 [], .int .i64 0]).box b = some [.int .i64 0, .int .i64 0, .str [], .slice .nil 0 [], .int .i64 0] := put_box
  generalize σ.put b [.int .i64 0, .int .i64 0, .str [], .slice .nil 0 [], .int .i64 0] = σ1 at hp1 hf1 hb1
  refine CallK.mk' (is_call hp1 he.ne _) ?_
  rintro e σ' ⟨rfl, rfl⟩
  cases hq : isS [45] l
  · refine CallK.mk' ((ih (m - 1) (by omega)).atom _ p l f d hp1 he h0 h1 hq (by omega)) ?_
    rintro e σ2 ⟨r, hr, hfr, hres⟩
    cases r with
    | err E rest =>
      obtain ⟨rfl, h2⟩ := hres
      exact ⟨_, _, Weak.refl _, Forget.refl _, _, .neg_no hq hr, hf1.trans hfr, rfl, h2⟩
    | ok x rest =>
      obtain ⟨rfl, h2, h3, h4⟩ := hres
      have hb2 := hfr.box b _ (Ne.symm np) hb1
      obtain ⟨op, n, s, kids, a⟩ := x
      refine Sure.mk' rfl ?_
      refine Store.mk' (exV (.mk op n s kids a)) hb2 (Nat.le_refl _) rfl (fun σ3 e3 => ?_)
      refine Load.mk' (by rw [e3]; exact put_box) (Nat.le_refl _) ?_
      refine Ret.mk' ⟨_, .neg_no hq hr, ?_, rfl, ?_, h3, h4⟩
      · rw [e3]; exact (hf1.trans hfr).put (.inl hb)
      · obtain ⟨tag, h2⟩ := h2; exact ⟨tag, by rw [e3, put_ne np]; exact h2⟩
  · obtain ⟨t, r, rfl⟩ := he.cons
    obtain ⟨het, hlt⟩ := he.tail_sign hq
    refine CallK.mk' (nextTok_call hp1) ?_
    rintro e σ2 ⟨rfl, hp2, hf2⟩
    refine ⟨by simp [tokV], ?_⟩
    refine Arith.i64 (d + 1) (by omega) (by omega) ?_
    refine CallK.mk' (deep_call hp2 het.ne _ _) ?_
    rintro e σ3 (⟨h4, rfl, rfl⟩ | ⟨E, h4, rfl, rfl⟩)
    · refine Arith.i64 (d + 1) (by omega) (by omega) ?_
      refine CallK.mk' ((ih (m - 1) (by omega)).neg _ p r f (d + 1) hp2 het (by omega) (first_le h4) (by simp at hlt hm' ⊢; omega)) ?_
      rintro e σ4 ⟨rs, hr, hfr, hres⟩
      have hf4 := (hf1.trans hf2).trans hfr
      cases rs with
      | err E rest =>
        obtain ⟨rfl, h2⟩ := hres
        exact ⟨_, _, Weak.refl _, Forget.refl _, _, .neg_err hq h4 hr, hf4, rfl, h2⟩
      | ok x rest =>
        obtain ⟨rfl, h2, h3, h5⟩ := hres
        have hb4 := (hf2.trans hfr).box b _ (Ne.symm np) hb1
        obtain ⟨op, n, s, kids, a⟩ := x
        refine Sure.mk' rfl ?_
        refine Store.mk' [.int .i64 6, .int .i64 0, .str [], .slice .full 5 [exV (.mk op n s kids a)], .int .i64 t.at_] hb4 (Nat.le_refl _) rfl (fun σ5 e5 => ?_)
        refine Load.mk' (by rw [e5]; exact put_box) (Nat.le_refl _) ?_
        refine Ret.weak (weak_ex (kids := [.mk op n s kids a]) rfl) (.refl _) ⟨_, .neg_ok hq h4 hr, ?_, rfl, ?_, h3, ?_⟩
        · rw [e5]; exact hf4.put (.inl hb)
        · obtain ⟨tag, h2⟩ := h2; exact ⟨tag, by rw [e5, put_ne np]; exact h2⟩
        · simp at h5 ⊢; omega
    · exact ⟨_, _, Weak.refl _, Forget.refl _, _, .neg_first hq h4, hf1.trans hf2, rfl, het⟩
end Go.Shadow.Lex

/- The parser's expressions with a question, and its levels, as shadow contracts. Conditions: as each theorem says. -/
namespace Go.Shadow.Lex
open Go Go.RowKit Go.Proofs

theorem Ps.ne {σ : St} {p : Nat} {l : List Tok} {f : Int} (h : Ps σ p l f) {b : Nat} (hb : σ.box b = none) : p ≠ b := by
  obtain ⟨_, h⟩ := h; rintro rfl; rw [h] at hb; cases hb
theorem Ps.put {σ : St} {p : Nat} {l : List Tok} {f : Int} (h : Ps σ p l f) {b : Nat} {cs : List V} (hb : p ≠ b) : Ps (σ.put b cs) p l f := by
  obtain ⟨tag, h⟩ := h; exact ⟨tag, by rw [put_ne hb]; exact h⟩
theorem Ps.over {σ σ' : St} {p : Nat} {l : List Tok} {f : Int} (h : Ps σ p l f) (ho : Over σ σ') : Ps σ' p l f := by
  obtain ⟨tag, h⟩ := h; exact ⟨tag, ho.box _ _ h⟩
theorem box_ne {σ : St} {a b : Nat} {cs : List V} (ha : σ.box a = some cs) (hb : σ.box b = none) : a ≠ b := by
  rintro rfl; rw [ha] at hb; cases hb
theorem Fr.new {p : Nat} {σ0 σ : St} {b : Nat} {cs : List V} (h : Fr p σ0 σ) (hb : σ.box b = none) : Fr p σ0 (σ.put b cs) := h.trans ((Fr.refl p σ).put (.inl hb))
theorem Fr.fresh {p : Nat} {σ0 σ : St} (h : Fr p σ0 σ) {b : Nat} (hb : b ≠ p) (hf : σ.box b = none) : σ0.box b = none := by
  cases hc : σ0.box b with
  | none => rfl
  | some cs => rw [h.box b cs hb hc] at hf; cases hf
theorem weakL_ex {op n a : Int} {s : List UInt8} {t : Tag} {kids : List Ex} {es : List (List V)} (h : es = kids.map exV) : WeakL [.int .i64 op, .int .i64 n, .str s, .slice t 5 es, .int .i64 a] (exV (.mk op n s kids a)) := by
  subst h
  refine ⟨rfl, fun i y hy => ?_, fun i x y hx hy => ?_⟩
  · match i, hy with
    | 0, hy | 1, hy | 2, hy | 3, hy | 4, hy => simp [exV] at hy; subst hy; rfl
    | _ + 5, hy => simp [exV] at hy
  · match i, hx, hy with
    | 0, hx, hy | 1, hx, hy | 2, hx, hy | 4, hx, hy => simp [exV] at hx hy; subst hx; subst hy; exact Weak.refl _
    | 3, hx, hy => simp [exV] at hx hy; subst hx; subst hy; rw [exVs_map]; exact weak_slice _ _ _
    | _ + 5, hx, hy => simp [exV] at hy
/-- The cells of an expression that has nothing in it. -/
abbrev noEx : List V := [.int .i64 0, .int .i64 0, .str [], .slice .nil 0 [], .int .i64 0]

theorem expr_walk {m : Nat} (ih : ∀ k, k < m → CallsTo k) {σ : St} {p : Nat} {l : List Tok} {f d : Int} (hp : Ps σ p l f) (he : Ended l) (h0 : 0 ≤ d) (h1 : d ≤ 31) (hm' : l.length * 20 + 10 ≤ m) :
    SCall Tryz.prog LG 28 [.loc p 0, .int .i64 d] σ (Reads .expr d l p f σ) := by
  refine code28.call hm (by simp) ?_
  intro b hb
  have np := hp.ne hb
  have hp1 := hp.put (cs := noEx) np
  have hf1 : Fr p σ (σ.put b noEx) := (Fr.refl p σ).new hb
  have hb1 : (σ.put b noEx).box b = some noEx := put_box
  refine CallK.mk' (deep_call hp1 he.ne _ _) ?_
  rintro e σ' (⟨h4, rfl, rfl⟩ | ⟨E, h4, rfl, rfl⟩)
  rotate_left
  · exact ⟨_, _, Weak.refl _, Forget.refl _, _, .expr_first h4, hf1, rfl, he⟩
  have hd := first_le h4
  refine CallK.mk' ((ih (m - 1) (by omega)).lvl _ p l f d 1 hp1 he h0 hd (by omega) (by omega) (by omega)) ?_
  rintro e σ2 ⟨r, hr, hfr, hres⟩
  have hf2 := hf1.trans hfr
  cases r with
  | err E rest =>
    obtain ⟨rfl, h2⟩ := hres
    exact ⟨_, _, Weak.refl _, Forget.refl _, _, .expr_err h4 hr, hf2, rfl, h2⟩
  | ok x rest =>
    obtain ⟨rfl, hp2, he2, hlt⟩ := hres
    have hb2 := hfr.box b _ (Ne.symm np) hb1
    obtain ⟨op, n, s, kids, a⟩ := x
    intro b5 hb5
    have np5 := hp2.ne hb5
    have n45 := box_ne hb2 hb5
    refine Sure.mk' rfl ?_
    refine Store.mk' (exV (.mk op n s kids a)) put_box (Nat.le_refl _) rfl (fun σ3 e3 => ?_)
    rw [put_put] at e3
    have hp3 : Ps σ3 p rest f := by rw [e3]; exact hp2.put np5
    have hb3 : σ3.box b = some noEx := by rw [e3, put_ne n45]; exact hb2
    have h53 : σ3.box b5 = some (exV (.mk op n s kids a)) := by rw [e3]; exact put_box
    have hf3 : Fr p σ σ3 := by rw [e3]; exact hf2.new hb5
    clear e3 hb5
    refine CallK.mk' (is_call hp3 he2.ne _) ?_
    rintro e σ' ⟨rfl, rfl⟩
    cases hq : isS [63] rest
    · refine Load.mk' h53 (Nat.le_refl _) ?_
      refine Sure.mk' rfl ?_
      refine Store.mk' (exV (.mk op n s kids a)) hb3 (Nat.le_refl _) rfl (fun σ4 e4 => ?_)
      refine Load.mk' (by rw [e4]; exact put_box) (Nat.le_refl _) ?_
      refine Ret.mk' ⟨_, .expr_one h4 hr hq, ?_, rfl, ?_, he2, hlt⟩
      · rw [e4]; exact hf3.put (.inl hb)
      · rw [e4]; exact hp3.put np
    · obtain ⟨t, r, rfl⟩ := he2.cons
      obtain ⟨het, hltt⟩ := he2.tail_sign hq
      refine CallK.mk' (nextTok_call hp3) ?_
      rintro e σ4 ⟨rfl, hp4, hf4⟩
      refine Arith.i64 (d + 1) (by omega) (by omega) ?_
      simp only [List.tail_cons, List.length_cons] at het hltt hlt
      refine CallK.mk' ((ih (m - 1) (by omega)).expr _ p r f (d + 1) hp4 het (by omega) (by omega) (by omega)) ?_
      rintro e σ5 ⟨r5, hr5, hf5, hres⟩
      cases r5 with
      | err E rest5 =>
        obtain ⟨rfl, h2⟩ := hres
        exact ⟨_, _, Weak.refl _, Forget.refl _, _, .if_err1 h4 hr hq hr5, (hf3.trans hf4).trans hf5, rfl, h2⟩
      | ok x5 rest5 =>
        obtain ⟨rfl, hp5, he5, hlt5⟩ := hres
        have hf45 := hf4.trans hf5
        have hb5' := hf45.box b _ (Ne.symm np) hb3
        have h55 := hf45.box b5 _ (Ne.symm np5) h53
        obtain ⟨op5, n5, s5, kids5, a5⟩ := x5
        intro b6 hb6
        have np6 := hp5.ne hb6
        have n46 := box_ne hb5' hb6
        have n56 := box_ne h55 hb6
        refine Sure.mk' rfl ?_
        refine Store.mk' (exV (.mk op5 n5 s5 kids5 a5)) put_box (Nat.le_refl _) rfl (fun σ6 e6 => ?_)
        rw [put_put] at e6
        have hp6 : Ps σ6 p rest5 f := by rw [e6]; exact hp5.put np6
        have hb6' : σ6.box b = some noEx := by rw [e6, put_ne n46]; exact hb5'
        have h56 : σ6.box b5 = some (exV (.mk op n s kids a)) := by rw [e6, put_ne n56]; exact h55
        have h66 : σ6.box b6 = some (exV (.mk op5 n5 s5 kids5 a5)) := by rw [e6]; exact put_box
        have hf6 : Fr p σ σ6 := by rw [e6]; exact (hf3.trans hf45).new hb6
        clear e6 hb6
        refine CallK.mk' (need_call hp6 he5.ne _) ?_
        rintro e σ7 (⟨hcol, rfl, hp7, hf7⟩ | ⟨hcol, rfl, hf7⟩)
        rotate_left
        · exact ⟨_, _, Weak.refl _, Forget.refl _, _, .if_colon h4 hr hq hr5 hcol, hf6.trans hf7, rfl, he5⟩
        obtain ⟨he7, hlt7⟩ := he5.tail_sign hcol
        have h57 := hf7.box b5 _ (Ne.symm np5) h56
        have h67 := hf7.box b6 _ (Ne.symm np6) h66
        have hb7 := hf7.box b _ (Ne.symm np) hb6'
        refine Arith.i64 (d + 1) (by omega) (by omega) ?_
        refine Sure.mk' rfl ?_
        refine Load.mk' h57 (by simp [exV]) ?_
        refine Sure.mk' rfl ?_
        refine Load.mk' h57 (by simp [exV]) ?_
        refine Sure.mk' rfl ?_
        refine Load.mk' h67 (by simp [exV]) ?_
        refine CallK.mk' ((ih (m - 1) (by omega)).expr _ p rest5.tail f (d + 1) hp7 he7 (by omega) (by omega) (by omega)) ?_
        rintro e σ8 ⟨r8, hr8, hf8, hres⟩
        cases r8 with
        | err E rest8 =>
          obtain ⟨rfl, h2⟩ := hres
          exact ⟨_, _, Weak.refl _, Forget.refl _, _, .if_err2 h4 hr hq hr5 hcol hr8, (hf6.trans hf7).trans hf8, rfl, h2⟩
        | ok x8 rest8 =>
          obtain ⟨rfl, hp8, he8, hlt8⟩ := hres
          have hb8 := hf8.box b _ (Ne.symm np) hb7
          obtain ⟨op8, n8, s8, kids8, a8⟩ := x8
          refine Kept1.mk' (fun cs h => hf8.box _ _ (Ne.symm np5) h) ?_
          refine Kept1.mk' (fun cs h => hf8.box _ _ (Ne.symm np6) h) ?_
          refine Sure.mk' rfl ?_
          refine Store.mk' [.int .i64 20, .int .i64 0, .str [], .slice .full 5 [exV (.mk op n s kids a), exV (.mk op5 n5 s5 kids5 a5), exV (.mk op8 n8 s8 kids8 a8)], .int .i64 a] hb8 (Nat.le_refl _) rfl (fun σ9 e9 => ?_)
          refine Load.mk' (by rw [e9]; exact put_box) (Nat.le_refl _) ?_
          refine Ret.weak (weak_ex (kids := [.mk op n s kids a, .mk op5 n5 s5 kids5 a5, .mk op8 n8 s8 kids8 a8]) rfl) (.refl _) ⟨_, .if_ok h4 hr hq hr5 hcol hr8, ?_, rfl, ?_, he8, by omega⟩
          · rw [e9]; exact ((hf6.trans hf7).trans hf8).put (.inl hb)
          · rw [e9]; exact hp8.put np

/-- The slots in a level. -/
def lvS (d : Int) (b3 b4 b6 : Nat) : List (Nat × Option V) := [(2, some (.int .i64 d)), (3, some (.loc b3 0)), (4, some (.loc b4 0)), (6, some (.loc b6 0))]
/-- What holds in a level: the parser, its level and the result's place are in memory. -/
structure LvI (σ0 σ : St) (p : Nat) (l : List Tok) (f : Int) (n b3 b4 b6 : Nat) : Prop where
  ps : Ps σ p l f
  fr : Fr p σ0 σ
  h3 : σ.box b3 = some [.loc p 0]
  h4 : σ.box b4 = some [.int .i64 n]
  h6 : σ.box b6 = some noEx
  n3 : p ≠ b3
  n4 : p ≠ b4
  n6 : p ≠ b6
  f6 : σ0.box b6 = none
theorem LvI.fr' {σ0 σ σ' : St} {p : Nat} {l l' : List Tok} {f : Int} {n b3 b4 b6 : Nat} (h : LvI σ0 σ p l f n b3 b4 b6) (hf : Fr p σ σ') (hp : Ps σ' p l' f) : LvI σ0 σ' p l' f n b3 b4 b6 :=
  ⟨hp, h.fr.trans hf, hf.box _ _ (Ne.symm h.n3) h.h3, hf.box _ _ (Ne.symm h.n4) h.h4, hf.box _ _ (Ne.symm h.n6) h.h6, h.n3, h.n4, h.n6, h.f6⟩

def scLoop : SC := match sc51 with
  | .seq _ (.seq _ (.seq _ (.seq _ r))) => r
  | _ => .skip
def scRest : SC := match sc51 with
  | .seq _ (.seq _ r) => r
  | _ => .skip

theorem level_loop {m : Nat} (ih : ∀ k, k < m → CallsTo k) {σ0 σ : St} {p : Nat} {l0 l : List Tok} {f d : Int} {n n0 b3 b4 b6 b8 : Nat} (hI : LvI σ0 σ p l f n b3 b4 b6) (he : Ended l) (h0 : 0 ≤ d) (h1 : d ≤ 30) (hm' : l.length * 20 + 20 ≤ m) (hn : n ≠ 3 ∧ n < 7)
    (x : Ex) (h8 : σ.box b8 = some (exV x)) (n8 : p ≠ b8) (n38 : b3 ≠ b8) (n48 : b4 ≠ b8) (n68 : b6 ≠ b8) (f8 : σ0.box b8 = none) (hl : l.length < l0.length) (hPE : ∀ r, PE (.more n x) d l r → PE (.lvl n0) d l0 r) :
    swpE Tryz.prog LG scLoop (retE [(6, some (true, 5))] (Reads (.lvl n0) d l0 p f σ0)) (ofL (lvS d b3 b4 b6 ++ [(8, some (.loc b8 0))])) σ := by
  refine ⟨fun k sl σ' => ∃ (x : Ex) (l : List Tok), sl = ofL (lvS d b3 b4 b6 ++ [(8, some (.loc b8 0))]) ∧ LvI σ0 σ' p l f n b3 b4 b6 ∧ Ended l ∧ l.length * 20 + 20 ≤ m ∧ σ'.box b8 = some (exV x) ∧ l.length < l0.length ∧ (∀ r, PE (.more n x) d l r → PE (.lvl n0) d l0 r) ∧ k = l.length,
    _, ⟨x, l, rfl, hI, he, hm', h8, hl, hPE, rfl⟩, ?_⟩
  clear hI he hm' h8 hl hPE x
  rintro k sl σ' ⟨x, l, rfl, hI, he, hm', h8, hl, hPE, rfl⟩
  obtain ⟨op, nn, s, kids, a⟩ := x
  refine CallK.pure operators_ret ?_
  refine CallK.mk' (index_call (fun o => o.2.2 == n && isS o.1 l) (fun σ2 ho o => ?_)) ?_
  · refine (signP_call (n := n) (ho.box _ _ hI.h4) (ho.box _ _ hI.h3) (hI.ps.over ho) he.ne o)
  rintro e σ2 ⟨rfl, ho⟩
  have hI2 := hI.fr' (Fr.of_over ho) (hI.ps.over ho)
  have h82 := ho.box _ _ h8
  clear hI h8
  rcases opIdx_lvl n l with ⟨hi, hno⟩ | ⟨k, o, hi, hok, hop, hk⟩
  · rw [hi]
    refine Test.yes (by omega) ?_
    refine Load.mk' h82 (Nat.le_refl _) ?_
    refine Sure.mk' rfl ?_
    refine Store.mk' (exV (.mk op nn s kids a)) hI2.h6 (Nat.le_refl _) rfl (fun σ4 e4 => ?_)
    refine Load.mk' (by rw [e4]; exact put_box) (Nat.le_refl _) ?_
    refine Ret.mk' ⟨_, hPE _ (.more_end hno), ?_, rfl, ?_, he, hl⟩
    · rw [e4]; exact hI2.fr.put (.inl hI2.f6)
    · rw [e4]; exact hI2.ps.put hI2.n6
  · rw [hi]
    refine Test.no (by omega) ?_
    obtain ⟨sg, hsg, hsl⟩ := of_opOf hop
    obtain ⟨t, r, rfl⟩ := he.cons
    obtain ⟨het, hltt⟩ := he.tail_sign hsl
    simp only [List.tail_cons, List.length_cons] at het hltt hl hm'
    refine Load.mk' hI2.h3 (Nat.le_refl _) ?_
    refine CallK.mk' (nextTok_call hI2.ps) ?_
    rintro e σ3 ⟨rfl, hp3, hf3⟩
    have hI3 := hI2.fr' hf3 hp3
    have h83 := hf3.box _ _ (Ne.symm n8) h82
    refine Sure.mk' rfl ?_
    refine Load.mk' h83 (by simp [exV]) ?_
    refine Sure.mk' rfl ?_
    refine Load.mk' h83 (by simp [exV]) ?_
    refine Sure.mk' rfl ?_
    refine Load.mk' hI3.h3 (by simp) ?_
    refine Sure.mk' rfl ?_
    refine Load.mk' hI3.h4 (by simp) ?_
    refine Arith.i64 ((n + 1 : Nat) : Int) (by omega) (by omega) ?_
    refine CallK.pure operators_ret ?_
    refine Kept1.mk' (fun cs h => h) ?_
    refine Kept1.mk' (fun cs h => h) ?_
    refine Kept1.mk' (fun cs h => h) ?_
    refine Sure.mk' (.inl rfl) ?_
    refine IdxE.mk' k (opV o) rfl (by simp [hok]) ?_
    refine ⟨by simp [opV], ?_⟩
    refine CallK.mk' ((ih (m - 1) (by omega)).lvl _ p r f d (n + 1) hp3 het h0 h1 (by omega) (by omega) (by omega)) ?_
    rintro e σ4 ⟨r4, hr4, hf4, hres⟩
    cases r4 with
    | err E rest4 =>
      obtain ⟨rfl, h2⟩ := hres
      exact ⟨_, _, Weak.refl _, Forget.refl _, _, hPE _ (.more_err hop hr4), hI3.fr.trans hf4, rfl, h2⟩
    | ok x4 rest4 =>
      obtain ⟨rfl, hp4, he4, hlt4⟩ := hres
      obtain ⟨op4, n4, s4, kids4, a4⟩ := x4
      have hI4 := hI3.fr' hf4 hp4
      have h84 := hf4.box _ _ (Ne.symm n8) h83
      refine Kept1.mk' (fun cs h => hf4.box _ _ (Ne.symm n8) h) ?_
      refine Sure.mk' rfl ?_
      refine Store.mk' [.int .i64 o.2.1, .int .i64 0, .str [], .slice .full 5 [exV (.mk op nn s kids a), exV (.mk op4 n4 s4 kids4 a4)], .int .i64 a] h84 (Nat.le_refl _) rfl (fun σ5 e5 => ?_)
      have h85 : σ5.box b8 = some [.int .i64 o.2.1, .int .i64 0, .str [], .slice .full 5 [exV (.mk op nn s kids a), exV (.mk op4 n4 s4 kids4 a4)], .int .i64 a] := by rw [e5]; exact put_box
      have hfr5 : Fr b8 σ4 σ5 := by rw [e5]; exact (Fr.refl b8 σ4).put (.inr rfl)
      have hI5 : LvI σ0 σ5 p rest4 f n b3 b4 b6 := ⟨by rw [e5]; exact hI4.ps.put n8, by rw [e5]; exact hI4.fr.put (.inl f8), hfr5.box _ _ n38 hI4.h3, hfr5.box _ _ n48 hI4.h4, hfr5.box _ _ n68 hI4.h6, hI4.n3, hI4.n4, hI4.n6, hI4.f6⟩
      refine Load.mk' hI5.h4 (by simp) ?_
      refine Test.split (fun hn4 => ?_) (fun hn4 => ?_)
      · refine Load.mk' h85 (Nat.le_refl _) ?_
        refine Sure.mk' rfl ?_
        refine Store.mk' [.int .i64 o.2.1, .int .i64 0, .str [], .slice .full 5 [exV (.mk op nn s kids a), exV (.mk op4 n4 s4 kids4 a4)], .int .i64 a] hI5.h6 (Nat.le_refl _) rfl (fun σ6 e6 => ?_)
        refine Load.mk' (by rw [e6]; exact put_box) (Nat.le_refl _) ?_
        obtain rfl : n = 4 := by omega
        refine Ret.weak (weak_ex (kids := [.mk op nn s kids a, .mk op4 n4 s4 kids4 a4]) rfl) (.refl _) ⟨_, hPE _ (.more_last hop hr4), ?_, rfl, ?_, he4, by omega⟩
        · rw [e6]; exact hI5.fr.put (.inl hI5.f6)
        · rw [e6]; exact hI5.ps.put hI5.n6
      · refine ⟨_, σ5.put b8 (exV (.mk o.2.1 0 [] [.mk op nn s kids a, .mk op4 n4 s4 kids4 a4] a)), ?_, Forget.put h85 (weakL_ex (kids := [.mk op nn s kids a, .mk op4 n4 s4 kids4 a4]) rfl), _, rest4, rfl, ⟨hI5.ps.put n8, hI5.fr.put (.inl f8), ?_, ?_, ?_, hI5.n3, hI5.n4, hI5.n6, hI5.f6⟩, he4, ?_, put_box, ?_, fun r hr => hPE _ (.more_go (by omega) hop hr4 hr), rfl⟩
        · simp; omega
        · rw [put_ne n38]; exact hI5.h3
        · rw [put_ne n48]; exact hI5.h4
        · rw [put_ne n68]; exact hI5.h6
        · omega
        · omega

theorem level_rest {m : Nat} (ih : ∀ k, k < m → CallsTo k) {σ0 σ : St} {p : Nat} {l : List Tok} {f d : Int} {n n0 b3 b4 b6 : Nat} (hI : LvI σ0 σ p l f n b3 b4 b6) (he : Ended l) (h0 : 0 ≤ d) (h1 : d ≤ 30) (hm' : l.length * 20 + (9 - n) ≤ m) (hn : n ≠ 3 ∧ n ≤ 7)
    (hPE : ∀ r, PE (.lvl n) d l r → PE (.lvl n0) d l r) :
    swpE Tryz.prog LG scRest (retE [(6, some (true, 5))] (Reads (.lvl n0) d l p f σ0)) (ofL (lvS d b3 b4 b6)) σ := by
  refine Load.mk' hI.h4 (by simp) ?_
  refine Test.split (fun h7 => ?_) (fun h7 => ?_)
  · obtain rfl : n = 7 := by omega
    refine Load.mk' hI.h3 (by simp) ?_
    refine CallK.mk' ((ih (m - 1) (by omega)).neg _ p l f d hI.ps he h0 h1 (by omega)) ?_
    rintro e σ2 ⟨r, hr, hfr, hres⟩
    cases r with
    | err E rest =>
      obtain ⟨rfl, h2⟩ := hres
      exact ⟨_, _, Weak.refl _, Forget.refl _, _, hPE _ (.lvl7 hr), hI.fr.trans hfr, rfl, h2⟩
    | ok x rest =>
      obtain ⟨rfl, hp2, he2, hlt⟩ := hres
      have hI2 := hI.fr' hfr hp2
      obtain ⟨op, n, s, kids, a⟩ := x
      refine Sure.mk' rfl ?_
      refine Store.mk' (exV (.mk op n s kids a)) hI2.h6 (Nat.le_refl _) rfl (fun σ3 e3 => ?_)
      refine Load.mk' (by rw [e3]; exact put_box) (Nat.le_refl _) ?_
      refine Ret.mk' ⟨_, hPE _ (.lvl7 hr), ?_, rfl, ?_, he2, hlt⟩
      · rw [e3]; exact hI2.fr.put (.inl hI2.f6)
      · rw [e3]; exact hI2.ps.put hI2.n6
  · refine Load.mk' hI.h3 (by simp) ?_
    refine Load.mk' hI.h4 (by simp) ?_
    refine Arith.i64 ((n + 1 : Nat) : Int) (by omega) (by omega) ?_
    refine CallK.mk' ((ih (m - 1) (by omega)).lvl _ p l f d (n + 1) hI.ps he h0 h1 (by omega) (by omega) (by omega)) ?_
    rintro e σ2 ⟨r, hr, hfr, hres⟩
    cases r with
    | err E rest =>
      obtain ⟨rfl, h2⟩ := hres
      exact ⟨_, _, Weak.refl _, Forget.refl _, _, hPE _ (.lvl_err ⟨hn.1, by omega⟩ hr), hI.fr.trans hfr, rfl, h2⟩
    | ok x rest =>
      obtain ⟨rfl, hp2, he2, hlt⟩ := hres
      have hI2 := hI.fr' hfr hp2
      obtain ⟨op, nn, s, kids, a⟩ := x
      intro b8 hb8
      have n8 := hp2.ne hb8
      have n38 := box_ne hI2.h3 hb8
      have n48 := box_ne hI2.h4 hb8
      have n68 := box_ne hI2.h6 hb8
      refine Sure.mk' rfl ?_
      refine Store.mk' (exV (.mk op nn s kids a)) put_box (Nat.le_refl _) rfl (fun σ3 e3 => ?_)
      rw [put_put] at e3
      have hfr3 : Fr p σ2 σ3 := by rw [e3]; exact (Fr.refl p σ2).new hb8
      have hI3 := hI2.fr' hfr3 (by rw [e3]; exact hp2.put n8)
      exact level_loop ih hI3 he2 h0 h1 (by omega) ⟨hn.1, by omega⟩ (.mk op nn s kids a) (by rw [e3]; exact put_box) n8 n38 n48 n68 (hI2.fr.fresh (Ne.symm n8) hb8) hlt (fun r hr2 => hPE _ (.lvl_ok ⟨hn.1, by omega⟩ hr hr2))

theorem level_walk {m : Nat} (ih : ∀ k, k < m → CallsTo k) {σ : St} {p : Nat} {l : List Tok} {f d : Int} {n : Nat} (hp : Ps σ p l f) (he : Ended l) (h0 : 0 ≤ d) (h1 : d ≤ 30) (hn1 : 1 ≤ n) (hn7 : n ≤ 7) (hm' : l.length * 20 + (9 - n) ≤ m) :
    SCall Tryz.prog LG 51 [.loc p 0, .int .i64 n, .int .i64 d] σ (Reads (.lvl n) d l p f σ) := by
  refine code51.call hm (by simp) ?_
  refine ⟨rfl, ?_⟩
  intro b3 hb3
  have np3 := hp.ne hb3
  have hp1 := hp.put (cs := [.loc p 0]) np3
  have hf1 : Fr p σ (σ.put b3 [.loc p 0]) := (Fr.refl p σ).new hb3
  have h31 : (σ.put b3 [.loc p 0]).box b3 = some [.loc p 0] := put_box
  refine ⟨rfl, ?_⟩
  intro b4 hb4
  have np4 := hp1.ne hb4
  have n34 := box_ne h31 hb4
  have hp2 := hp1.put (cs := [.int .i64 n]) np4
  have hf2 := hf1.new (cs := [.int .i64 n]) hb4
  intro b6 hb6
  have np6 := hp2.ne hb6
  have n46 := box_ne put_box hb6
  have n36 : b3 ≠ b6 := box_ne (by rw [put_ne n34]; exact h31) hb6
  have hp3 := hp2.put (cs := noEx) np6
  have hf3 := hf2.new (cs := noEx) hb6
  have hI : LvI σ (((σ.put b3 [.loc p 0]).put b4 [.int .i64 n]).put b6 noEx) p l f n b3 b4 b6 :=
    ⟨hp3, hf3, by rw [put_ne n36, put_ne n34]; exact put_box, by rw [put_ne n46]; exact put_box, put_box, np3, np4, np6, hf2.fresh (Ne.symm np6) hb6⟩
  generalize hσ : ((σ.put b3 [.loc p 0]).put b4 [.int .i64 n]).put b6 noEx = σ1 at hI
  have hgoal : ∀ {G : St → Prop}, G σ1 → G (((σ.put b3 [.loc p 0]).put b4 [.int .i64 n]).put b6 noEx) := fun h => by rw [hσ]; exact h
  refine hgoal ?_
  refine Load.mk' hI.h4 (by simp) ?_
  refine Test.split (fun h3 => ?_) (fun h3 => ?_)
  · obtain rfl : n = 3 := by omega
    refine Load.mk' hI.h3 (by simp) ?_
    refine CallK.mk' (is_call hI.ps he.ne _) ?_
    rintro e σ' ⟨rfl, rfl⟩
    cases hq : isS [33] l
    · refine Load.mk' hI.h4 (by simp) ?_
      refine Arith.i64 ((4 : Nat) : Int) (by omega) (by omega) ?_
      refine Sure.mk' rfl ?_
      refine Store.mk' [.int .i64 ((4 : Nat) : Int)] hI.h4 (by simp [V.cells]) (by simp [setL, V.cells]) (fun σ2 e2 => ?_)
      have n36 : b3 ≠ b6 := n36
      exact level_rest ih (n := 4) ⟨by rw [e2]; exact hI.ps.put hI.n4, by rw [e2]; exact hI.fr.put (.inl (hf1.fresh (Ne.symm np4) hb4)), by rw [e2, put_ne n34]; exact hI.h3, by rw [e2]; exact put_box, by rw [e2, put_ne (Ne.symm n46)]; exact hI.h6, hI.n3, hI.n4, hI.n6, hI.f6⟩ he h0 h1 (by omega) ⟨by omega, by omega⟩ (fun r hr => .lvl3 hq hr)
    · obtain ⟨t, r, rfl⟩ := he.cons
      obtain ⟨het, hlt⟩ := he.tail_sign hq
      simp only [List.tail_cons, List.length_cons] at het hlt hm'
      refine Load.mk' hI.h3 (by simp) ?_
      refine CallK.mk' (nextTok_call hI.ps) ?_
      rintro e σ2 ⟨rfl, hp2', hf2'⟩
      have hI2 := hI.fr' hf2' hp2'
      refine ⟨by simp [tokV], ?_⟩
      refine Load.mk' hI2.h3 (by simp) ?_
      refine Arith.i64 (d + 1) (by omega) (by omega) ?_
      refine CallK.mk' (deep_call hp2' het.ne _ _) ?_
      rintro e σ3 (⟨h4, rfl, rfl⟩ | ⟨E, h4, rfl, rfl⟩)
      rotate_left
      · exact ⟨_, _, Weak.refl _, Forget.refl _, _, .bang_first hq h4, hI2.fr, rfl, het⟩
      refine Load.mk' hI2.h3 (by simp) ?_
      refine Arith.i64 (d + 1) (by omega) (by omega) ?_
      refine CallK.mk' ((ih (m - 1) (by omega)).lvl _ p r f (d + 1) 3 hp2' het (by omega) (first_le h4) (by omega) (by omega) (by omega)) ?_
      rintro e σ4 ⟨rs, hr, hfr, hres⟩
      cases rs with
      | err E rest =>
        obtain ⟨rfl, h2⟩ := hres
        exact ⟨_, _, Weak.refl _, Forget.refl _, _, .bang_err hq h4 hr, hI2.fr.trans hfr, rfl, h2⟩
      | ok x rest =>
        obtain ⟨rfl, h2, h3, h5⟩ := hres
        have hI4 := hI2.fr' hfr h2
        obtain ⟨op, n, s, kids, a⟩ := x
        refine Sure.mk' rfl ?_
        refine Store.mk' [.int .i64 5, .int .i64 0, .str [], .slice .full 5 [exV (.mk op n s kids a)], .int .i64 t.at_] hI4.h6 (Nat.le_refl _) rfl (fun σ5 e5 => ?_)
        refine Load.mk' (by rw [e5]; exact put_box) (Nat.le_refl _) ?_
        refine Ret.weak (weak_ex (kids := [.mk op n s kids a]) rfl) (.refl _) ⟨_, .bang_ok hq h4 hr, ?_, rfl, ?_, h3, by simp; omega⟩
        · rw [e5]; exact hI4.fr.put (.inl hI4.f6)
        · rw [e5]; exact h2.put hI4.n6
  · exact level_rest ih hI he h0 h1 hm' ⟨by omega, hn7⟩ (fun r hr => hr)
end Go.Shadow.Lex

/- The parser's operands, as shadow contracts; all readers of expressions together. Conditions: as each theorem says. -/
namespace Go.Shadow.Lex
open Go Go.RowKit Go.Proofs

/-- A state without what is known of variables. -/
def sans (σ : St) : St := ⟨fun _ => none, σ.live, σ.map⟩
theorem Fr.sans {p : Nat} {σ σ' : St} (h : Fr p σ σ') : Over (sans σ) σ' := ⟨fun _ _ h => (by cases h), h.live, h.map⟩
theorem Fr.app {p : Nat} {σ σ' σ2 : St} (h : Fr p σ σ') (hb : σ2.box = σ'.box) (ho : Over (Lex.sans σ) σ2) : Fr p σ σ2 := ⟨fun x cs hx hc => by rw [hb]; exact h.box x cs hx hc, ho.live, ho.map⟩
theorem Mine.fr {p : Nat} {σ1 σ σ' : St} {tag : Tag} (h : Mine σ1 σ tag) (hf : Fr p σ σ') : Mine σ1 σ' tag := by
  cases tag with
  | tip t => exact ⟨hf.live t h.1, h.2⟩
  | _ => exact h
theorem Mine.put {σ1 σ : St} {tag : Tag} (h : Mine σ1 σ tag) {b : Nat} {cs : List V} : Mine σ1 (σ.put b cs) tag := by
  cases tag with
  | tip t => exact h
  | _ => exact h
theorem Ps.box {σ σ' : St} {p : Nat} {l : List Tok} {f : Int} (h : Ps σ p l f) (hb : σ'.box = σ.box) : Ps σ' p l f := by
  obtain ⟨tag, h⟩ := h; exact ⟨tag, by rw [hb]; exact h⟩

def scEnd101 : SC := match sc101 with
  | .seq _ (.seq _ (.seq _ (.seq _ (.seq _ r)))) => r
  | _ => .skip

/-- What holds in an operand: the parser, the result's places. -/
structure AtI (σ0 σ : St) (p : Nat) (l : List Tok) (f : Int) (b4 b6 : Nat) : Prop where
  ps : Ps σ p l f
  fr : Fr p σ0 σ
  h4 : σ.box b4 = some noEx
  n4 : p ≠ b4
  n6 : p ≠ b6
  n46 : b4 ≠ b6
  f4 : σ0.box b4 = none
  f6 : σ0.box b6 = none
theorem AtI.fr' {σ0 σ σ' : St} {p : Nat} {l l' : List Tok} {f : Int} {b4 b6 : Nat} (h : AtI σ0 σ p l f b4 b6) (hf : Fr p σ σ') (hp : Ps σ' p l' f) : AtI σ0 σ' p l' f b4 b6 :=
  ⟨hp, h.fr.trans hf, hf.box _ _ (Ne.symm h.n4) h.h4, h.n4, h.n6, h.n46, h.f4, h.f6⟩
theorem AtI.put6 {σ0 σ : St} {p : Nat} {l : List Tok} {f : Int} {b4 b6 : Nat} (h : AtI σ0 σ p l f b4 b6) (cs : List V) : AtI σ0 (σ.put b6 cs) p l f b4 b6 :=
  ⟨h.ps.put h.n6, h.fr.put (.inl h.f6), by rw [put_ne h.n46]; exact h.h4, h.n4, h.n6, h.n46, h.f4, h.f6⟩
theorem AtI.app {σ0 σ σ' : St} {p : Nat} {l : List Tok} {f : Int} {b4 b6 : Nat} (h : AtI σ0 σ p l f b4 b6) (hb : σ'.box = σ.box) (ho : Over (sans σ0) σ') : AtI σ0 σ' p l f b4 b6 :=
  ⟨h.ps.box hb, h.fr.app hb ho, by rw [hb]; exact h.h4, h.n4, h.n6, h.n46, h.f4, h.f6⟩

theorem atom_end {σ0 σ : St} {p : Nat} {l l0 : List Tok} {f d : Int} {b4 b6 : Nat} (hI : AtI σ0 σ p l f b4 b6) (he : Ended l) (hl : l.length < l0.length) {op n a : Int} {s : List UInt8} {kids : List Ex} {es : List (List V)} {tag : Tag} {z : Nat}
    (h6 : σ.box b6 = some [.int .i64 op, .int .i64 n, .str s, .slice tag z es, .int .i64 a]) (hes : es = kids.map exV) (hz : z = 5 ∨ es = []) (hPE : PE .atom d l0 (.ok (.mk op n s kids a) l)) :
    swpE Tryz.prog LG scEnd101 (retE [(4, some (true, 5))] (Reads .atom d l0 p f σ0)) (ofL [(4, some (.loc b4 0)), (6, some (.loc b6 0))]) σ := by
  refine Load.mk' h6 (Nat.le_refl _) ?_
  refine Sure.mk' rfl ?_
  refine Store.mk' [.int .i64 op, .int .i64 n, .str s, .slice tag z es, .int .i64 a] hI.h4 (Nat.le_refl _) rfl (fun σ3 e3 => ?_)
  refine Load.mk' (by rw [e3]; exact put_box) (Nat.le_refl _) ?_
  refine Ret.weak (r := .agg (exV (.mk op n s kids a))) ?_ (.refl _) ⟨_, hPE, ?_, rfl, ?_, he, hl⟩
  · rcases hz with rfl | rfl
    · exact weak_ex hes
    · refine weak_agg rfl (fun i y hy => ?_) (fun i x y hx hy => ?_)
      · match i, hy with
        | 0, hy | 1, hy | 2, hy | 3, hy | 4, hy => simp [exV] at hy; subst hy; rfl
        | _ + 5, hy => simp [exV] at hy
      · have hk : kids = [] := by simpa using hes.symm
        subst hk
        match i, hx, hy with
        | 0, hx, hy | 1, hx, hy | 2, hx, hy | 4, hx, hy => simp [exV] at hx hy; subst hx; subst hy; exact Weak.refl _
        | 3, hx, hy => simp [exV, exVs] at hx hy; subst hx; subst hy; exact weak_nil _ _ _
        | _ + 5, hx, hy => simp [exV] at hy
  · rw [e3]; exact hI.fr.put (.inl hI.f4)
  · rw [e3]; exact hI.ps.put hI.n4

theorem small_app {n : Nat} (h : n ≤ 39) : (n + (0 + 1)) * 64 ≤ 140737488355328 ∧ n + (0 + 1) ≤ 9223372036854775807 := by omega
set_option maxHeartbeats 1000000 in
theorem atom_walk {m : Nat} (ih : ∀ k, k < m → CallsTo k) {σ : St} {p : Nat} {l : List Tok} {f d : Int} (hp : Ps σ p l f) (he : Ended l) (h0 : 0 ≤ d) (h1 : d ≤ 30) (hno : isS [45] l = false) (hm' : l.length * 20 ≤ m) :
    SCall Tryz.prog LG 101 [.loc p 0, .int .i64 d] σ (Reads .atom d l p f σ) := by
  refine code101.call hm (by simp) ?_
  intro b hb
  have np := hp.ne hb
  have hp1 := hp.put (cs := noEx) np
  have hf1 : Fr p σ (σ.put b noEx) := (Fr.refl p σ).new hb
  have hb1 : (σ.put b noEx).box b = some noEx := put_box
  refine CallK.mk' (begins_call hp1 he.ne) ?_
  rintro e σ' ⟨rfl, rfl⟩
  obtain ⟨t, r, rfl⟩ := he.cons
  cases hq : begins (t :: r)
  · refine CallK.mk' (fail_call hp1 he.ne 5) ?_
    rintro e σ' ⟨rfl, rfl⟩
    exact ⟨_, _, Weak.refl _, Forget.refl _, _, .atom_bad hq, hf1, rfl, he⟩
  have hk5 : (hd (t :: r)).kind ≠ 5 := by
    intro h5
    simp only [hd, List.headD_cons] at h5
    simp [begins, isS, h5] at hq
  obtain ⟨het, hlt⟩ := he.tail hk5
  have htok : (t.kind = 2 → t.s = []) ∧ (t.kind ≠ 2 → t.n = 0) := by
    obtain ⟨i, e, hl, _, _, h3⟩ := he
    exact (h3 t (by simp)).1
  simp only [List.tail_cons, List.length_cons] at het hlt hm'
  refine CallK.mk' (nextTok_call hp1) ?_
  rintro e σ2 ⟨rfl, hp2, hf2⟩
  have hb2 := hf2.box b _ (Ne.symm np) hb1
  intro b5 hb5
  have np5 := hp2.ne hb5
  have n45 := box_ne hb2 hb5
  refine Sure.mk' rfl ?_
  refine Store.mk' (tokV t) put_box (by simp [V.cells, tokV]) (by simp [setL, V.cells, tokV]) (fun σ3 e3 => ?_)
  rw [put_put] at e3
  have h53 : σ3.box b5 = some (tokV t) := by rw [e3]; exact put_box
  have hb3 : σ3.box b = some noEx := by rw [e3, put_ne n45]; exact hb2
  have hp3 : Ps σ3 p r f := by rw [e3]; exact hp2.put np5
  have hf3 : Fr p σ σ3 := by rw [e3]; exact (hf1.trans hf2).new hb5
  clear e3 hb5
  refine Load.mk' h53 (by simp [tokV]) ?_
  refine Load.mk' h53 (by simp [tokV]) ?_
  refine Load.mk' h53 (by simp [tokV]) ?_
  intro b6 hb6
  have np6 := hp3.ne hb6
  have n46 := box_ne hb3 hb6
  have n56 := box_ne h53 hb6
  refine Sure.mk' rfl ?_
  refine Store.mk' [.int .i64 0, .int .i64 t.n, .str t.s, .slice .nil 0 [], .int .i64 t.at_] put_box (Nat.le_refl _) rfl (fun σ4 e4 => ?_)
  rw [put_put] at e4
  have h54 : σ4.box b5 = some (tokV t) := by rw [e4, put_ne n56]; exact h53
  have h64 : σ4.box b6 = some [.int .i64 0, .int .i64 t.n, .str t.s, .slice .nil 0 [], .int .i64 t.at_] := by rw [e4]; exact put_box
  have hI : AtI σ σ4 p r f b b6 := ⟨by rw [e4]; exact hp3.put np6, by rw [e4]; exact hf3.new hb6, by rw [e4, put_ne n46]; exact hb3, np, np6, n46, hb, hf3.fresh (Ne.symm np6) hb6⟩
  clear e4 hb6 hp3 hf3 h53 hb3 hp2 hf2 hb2 hp1 hb1
  refine Load.mk' h54 (by simp [tokV]) ?_
  refine Test.split (fun k2 => ?_) (fun k2 => ?_)
  · refine Sure.mk' rfl ?_
    refine Store.mk' [.int .i64 1, .int .i64 t.n, .str t.s, .slice .nil 0 [], .int .i64 t.at_] h64 (by simp [V.cells]) rfl (fun σ5 e5 => ?_)
    have hPE : PE .atom d (t :: r) _ := .atom_num k2
    rw [htok.1 k2] at e5
    exact atom_end (by rw [e5]; exact hI.put6 _) het hlt (by rw [e5]; exact put_box) rfl (.inr rfl) hPE
  refine Test.split (fun k3 => ?_) (fun k3 => ?_)
  · refine Sure.mk' rfl ?_
    refine Store.mk' [.int .i64 2, .int .i64 t.n, .str t.s, .slice .nil 0 [], .int .i64 t.at_] h64 (by simp [V.cells]) rfl (fun σ5 e5 => ?_)
    have hPE : PE .atom d (t :: r) _ := .atom_text k3
    rw [htok.2 k2] at e5
    exact atom_end (by rw [e5]; exact hI.put6 _) het hlt (by rw [e5]; exact put_box) rfl (.inr rfl) hPE
  refine Test.split (fun k1 => ?_) (fun k1 => ?_)
  · refine Sure.mk' rfl ?_
    refine Store.mk' [.int .i64 3, .int .i64 t.n, .str t.s, .slice .nil 0 [], .int .i64 t.at_] h64 (by simp [V.cells]) rfl (fun σ5 e5 => ?_)
    rw [htok.2 k2] at e5
    have hI5 : AtI σ σ5 p r f b b6 := by rw [e5]; exact hI.put6 _
    have h65 : σ5.box b6 = some [.int .i64 3, .int .i64 0, .str t.s, .slice .nil 0 [], .int .i64 t.at_] := by rw [e5]; exact put_box
    clear e5 h64 h54 hI
    refine CallK.mk' (is_call hI5.ps het.ne _) ?_
    rintro e σ' ⟨rfl, rfl⟩
    cases ho : isS [40] r
    · have hPE : PE .atom d (t :: r) _ := .atom_name k1 ho
      exact atom_end hI5 het hlt h65 rfl (.inr rfl) hPE
    · refine Sure.mk' rfl ?_
      refine Store.mk' [.int .i64 4, .int .i64 0, .str t.s, .slice .nil 0 [], .int .i64 t.at_] h65 (by simp [V.cells]) rfl (fun σ6 e6 => ?_)
      have hI6 : AtI σ σ6 p r f b b6 := by rw [e6]; exact hI5.put6 _
      have h66 : σ6.box b6 = some [.int .i64 4, .int .i64 0, .str t.s, .slice .nil 0 [], .int .i64 t.at_] := by rw [e6]; exact put_box
      clear e6 h65 hI5
      obtain ⟨t2, r2, rfl⟩ := het.cons
      obtain ⟨het2, hlt2⟩ := het.tail_sign ho
      simp only [List.tail_cons, List.length_cons] at het2 hlt2 hlt hm'
      refine CallK.mk' (nextTok_call hI6.ps) ?_
      rintro e σ7 ⟨rfl, hp7, hf7⟩
      have hI7 := hI6.fr' hf7 hp7
      have h67 := hf7.box _ _ (Ne.symm np6) h66
      clear hI6 h66
      refine ⟨fun k sl σ' => ∃ (kids : List Ex) (lc : List Tok) (tag : Tag) (z : Nat), sl = ofL [(0, some (.loc p 0)), (1, some (.int .i64 d)), (4, some (.loc b 0)), (6, some (.loc b6 0))] ∧ AtI σ σ' p lc f b b6 ∧ Ended lc ∧ lc.length ≤ r2.length ∧
          σ'.box b6 = some [.int .i64 4, .int .i64 0, .str t.s, .slice tag z (kids.map exV), .int .i64 t.at_] ∧ Mine (sans σ) σ' tag ∧ (tag = .nil ∨ z = 5) ∧ (z = 5 ∨ kids.map exV = []) ∧ kids.length ≤ 40 ∧ (∀ x, PE (.args t.s t.at_ kids) d lc x → PE .atom d (t :: t2 :: r2) x) ∧ k = lc.length,
        _, ⟨[], r2, .nil, 0, rfl, hI7, het2, Nat.le_refl _, h67, trivial, .inl rfl, .inr rfl, by simp, fun x hx => .atom_call k1 ho hx, rfl⟩, ?_⟩
      clear hI7 h67 hp7 hf7
      rintro k sl σ' ⟨kids, lc, tag, z, rfl, hI, he, hlc, h6, hM, hz, hz5, hk40, hPE, rfl⟩
      refine CallK.mk' (is_call hI.ps he.ne _) ?_
      rintro e σ' ⟨rfl, rfl⟩
      cases hc : isS [41] lc
      rotate_left
      · obtain ⟨t3, r3, rfl⟩ := he.cons
        obtain ⟨het3, hlt3⟩ := he.tail_sign hc
        simp only [List.tail_cons, List.length_cons] at het3 hlt3 hlc
        refine CallK.mk' (nextTok_call hI.ps) ?_
        rintro e σ8 ⟨rfl, hp8, hf8⟩
        exact atom_end (hI.fr' hf8 hp8) het3 (by simp; omega) (hf8.box _ _ (Ne.symm np6) h6) rfl hz5 (hPE _ (.args_end hc))
      refine Load.mk' h6 (by simp) ?_
      have hcomma : ∀ {G : Prop}, (kids ≠ [] → isS [44] lc = false → G) → ((kids ≠ [] → isS [44] lc = true) → G) → G := by
        intro G h1 h2
        cases hx : isS [44] lc
        · by_cases hkk : kids = []
          · exact h2 (fun h => absurd hkk h)
          · exact h1 hkk hx
        · exact h2 (fun _ => hx)
      refine hcomma (fun hk1 hk2 => ?_) (fun hk1 => ?_)
      · refine Test.yes ?_ ?_
        · have : kids.length ≠ 0 := fun h => hk1 (List.eq_nil_of_length_eq_zero h)
          simp; omega
        refine CallK.mk' (need_call hI.ps he.ne _) ?_
        rintro e σ8 (⟨h, _⟩ | ⟨_, rfl, hf8⟩)
        · rw [hk2] at h; cases h
        · exact ⟨_, _, Weak.refl _, Forget.refl _, _, hPE _ (.args_comma hc hk1 hk2), hI.fr.trans hf8, rfl, he⟩
      have hstep : ∃ lc2, lc2 = argL kids lc ∧ Ended lc2 ∧ lc2.length ≤ lc.length := by
        refine ⟨_, rfl, ?_⟩
        unfold argL
        split
        · exact ⟨he, Nat.le_refl _⟩
        · rename_i hkk
          have := he.tail_sign (hk1 hkk)
          exact ⟨this.1, by omega⟩
      obtain ⟨lc2, hlc2, he2, hl2⟩ := hstep
      refine Test.split (fun hk => ?_) (fun hk => ?_)
      · refine CallK.mk' (need_call hI.ps he.ne _) ?_
        have hkk : kids ≠ [] := by rintro rfl; simp at hk
        rintro e σ8 (⟨_, rfl, hp8, hf8⟩ | ⟨h, _⟩)
        rotate_left
        · rw [hk1 hkk] at h; cases h
        have hlc2' : lc2 = lc.tail := by rw [hlc2]; unfold argL; rw [if_neg hkk]
        rw [← hlc2'] at hp8
        have hI8 := hI.fr' hf8 hp8
        have h68 := hf8.box _ _ (Ne.symm np6) h6
        have hM8 := Mine.fr hM hf8
        clear hI h6 hM
        refine Load.mk' h68 (by simp) ?_
        refine Test.split (fun h40 => ?_) (fun h40 => ?_)
        · refine CallK.mk' (deep_call hI8.ps he2.ne _ _) ?_
          rintro e σ9 (⟨h4, rfl, rfl⟩ | ⟨E, h4, rfl, rfl⟩)
          · refine CallK.mk' (fail_call hI8.ps he2.ne 2) ?_
            rintro e σ9 ⟨rfl, rfl⟩
            have hx := hPE _ (.args_full hc hk1 (by simp at h40; omega))
            rw [← hlc2, h4] at hx
            exact ⟨_, _, Weak.refl _, Forget.refl _, _, hx, hI8.fr, rfl, he2⟩
          · have hx := hPE _ (.args_full hc hk1 (by simp at h40; omega))
            rw [← hlc2, h4] at hx
            exact ⟨_, _, Weak.refl _, Forget.refl _, _, hx, hI8.fr, rfl, he2⟩
        · refine Arith.i64 (d + 1) (by omega) (by omega) ?_
          refine Sure.mk' rfl ?_
          refine Load.mk' h68 (by simp) ?_
          refine CallK.mk' ((ih (m - 1) (by omega)).expr _ p lc2 f (d + 1) hI8.ps he2 (by omega) (by omega) (by omega)) ?_
          rintro e σ9 ⟨r9, hr9, hf9, hres⟩
          rw [hlc2] at hr9
          have hn40 : kids.length ≠ 40 := by simp at h40; omega
          have hk39 : kids.length ≤ 39 := by omega
          cases r9 with
          | err E rest =>
            obtain ⟨rfl, h2⟩ := hres
            exact ⟨_, _, Weak.refl _, Forget.refl _, _, hPE _ (.args_err hc hk1 hn40 hr9), hI8.fr.trans hf9, rfl, h2⟩
          | ok x rest =>
            obtain ⟨rfl, hp9, he9, hlt9⟩ := hres
            have hI9 := hI8.fr' hf9 hp9
            have h69 := hf9.box _ _ (Ne.symm np6) h68
            have hM9 := Mine.fr hM8 hf9
            obtain ⟨op, nn, s, kk, a⟩ := x
            refine Kept1.mk' (fun cs h => hf9.box _ _ (Ne.symm np6) h) ?_
            refine App.mk' hI9.fr.sans hM9 hz rfl (by simp only [List.length_map, List.length_cons, List.length_nil]; exact (small_app hk39).1) (by simp only [List.length_map, List.length_cons, List.length_nil]; exact (small_app hk39).2) (List.cons_ne_nil _ _) (fun t' σ10 o10 m10 b10 _ => ?_)
            have hI10 := hI9.app b10 o10
            refine Sure.mk' rfl ?_
            refine Store.mk' [.int .i64 4, .int .i64 0, .str t.s, .slice (.tip t') 5 (kids.map exV ++ [exV (.mk op nn s kk a)]), .int .i64 t.at_] (by rw [b10]; exact h69) (by simp [V.cells]) rfl (fun σ11 e11 => ?_)
            refine ⟨_, _, ?_, Forget.refl _, kids ++ [.mk op nn s kk a], rest, .tip t', 5, rfl, by rw [e11]; exact hI10.put6 _, he9, by omega, by rw [e11, List.map_append]; exact put_box, by rw [e11]; exact Mine.put m10, .inr rfl, .inl rfl, by simp; omega, fun x hx => hPE _ (.args_go hc hk1 hn40 hr9 hx), rfl⟩
            omega
      · have hkk : kids = [] := by
          cases kids with
          | nil => rfl
          | cons a b => simp at hk
        have hlc2' : lc2 = lc := by rw [hlc2]; unfold argL; rw [if_pos hkk]
        have hI8 : AtI σ σ' p lc2 f b b6 := by rw [hlc2']; exact hI
        have h68 := h6
        have hM8 := hM
        clear hI h6 hM
        refine Load.mk' h68 (by simp) ?_
        refine Test.split (fun h40 => ?_) (fun h40 => ?_)
        · refine CallK.mk' (deep_call hI8.ps he2.ne _ _) ?_
          rintro e σ9 (⟨h4, rfl, rfl⟩ | ⟨E, h4, rfl, rfl⟩)
          · refine CallK.mk' (fail_call hI8.ps he2.ne 2) ?_
            rintro e σ9 ⟨rfl, rfl⟩
            have hx := hPE _ (.args_full hc hk1 (by simp at h40; omega))
            rw [← hlc2, h4] at hx
            exact ⟨_, _, Weak.refl _, Forget.refl _, _, hx, hI8.fr, rfl, he2⟩
          · have hx := hPE _ (.args_full hc hk1 (by simp at h40; omega))
            rw [← hlc2, h4] at hx
            exact ⟨_, _, Weak.refl _, Forget.refl _, _, hx, hI8.fr, rfl, he2⟩
        · refine Arith.i64 (d + 1) (by omega) (by omega) ?_
          refine Sure.mk' rfl ?_
          refine Load.mk' h68 (by simp) ?_
          refine CallK.mk' ((ih (m - 1) (by omega)).expr _ p lc2 f (d + 1) hI8.ps he2 (by omega) (by omega) (by omega)) ?_
          rintro e σ9 ⟨r9, hr9, hf9, hres⟩
          rw [hlc2] at hr9
          have hn40 : kids.length ≠ 40 := by simp at h40; omega
          have hk39 : kids.length ≤ 39 := by omega
          cases r9 with
          | err E rest =>
            obtain ⟨rfl, h2⟩ := hres
            exact ⟨_, _, Weak.refl _, Forget.refl _, _, hPE _ (.args_err hc hk1 hn40 hr9), hI8.fr.trans hf9, rfl, h2⟩
          | ok x rest =>
            obtain ⟨rfl, hp9, he9, hlt9⟩ := hres
            have hI9 := hI8.fr' hf9 hp9
            have h69 := hf9.box _ _ (Ne.symm np6) h68
            have hM9 := Mine.fr hM8 hf9
            obtain ⟨op, nn, s, kk, a⟩ := x
            refine Kept1.mk' (fun cs h => hf9.box _ _ (Ne.symm np6) h) ?_
            refine App.mk' hI9.fr.sans hM9 hz rfl (by simp only [List.length_map, List.length_cons, List.length_nil]; exact (small_app hk39).1) (by simp only [List.length_map, List.length_cons, List.length_nil]; exact (small_app hk39).2) (List.cons_ne_nil _ _) (fun t' σ10 o10 m10 b10 _ => ?_)
            have hI10 := hI9.app b10 o10
            refine Sure.mk' rfl ?_
            refine Store.mk' [.int .i64 4, .int .i64 0, .str t.s, .slice (.tip t') 5 (kids.map exV ++ [exV (.mk op nn s kk a)]), .int .i64 t.at_] (by rw [b10]; exact h69) (by simp [V.cells]) rfl (fun σ11 e11 => ?_)
            refine ⟨_, _, ?_, Forget.refl _, kids ++ [.mk op nn s kk a], rest, .tip t', 5, rfl, by rw [e11]; exact hI10.put6 _, he9, by omega, by rw [e11, List.map_append]; exact put_box, by rw [e11]; exact Mine.put m10, .inr rfl, .inl rfl, by simp; omega, fun x hx => hPE _ (.args_go hc hk1 hn40 hr9 hx), rfl⟩
            omega
  · have hop : isS [40] (t :: r) = true := by
      simp only [begins, hno, Bool.or_eq_true, beq_iff_eq, Bool.or_false] at hq
      rcases hq with ((h | h) | h) | h
      · exact absurd (by exact_mod_cast h) k1
      · exact absurd (by exact_mod_cast h) k2
      · exact absurd (by exact_mod_cast h) k3
      · exact h
    refine Arith.i64 (d + 1) (by omega) (by omega) ?_
    refine CallK.mk' ((ih (m - 1) (by omega)).expr _ p r f (d + 1) hI.ps het (by omega) (by omega) (by omega)) ?_
    rintro e σ5 ⟨r5, hr5, hf5, hres⟩
    cases r5 with
    | err E rest =>
      obtain ⟨rfl, h2⟩ := hres
      exact ⟨_, _, Weak.refl _, Forget.refl _, _, .paren_err hop hr5, hI.fr.trans hf5, rfl, h2⟩
    | ok x rest =>
      obtain ⟨rfl, hp5, he5, hlt5⟩ := hres
      have hI5 := hI.fr' hf5 hp5
      have h65 := hf5.box _ _ (Ne.symm np6) h64
      obtain ⟨op, nn, s, kk, a⟩ := x
      refine Sure.mk' rfl ?_
      refine Store.mk' (exV (.mk op nn s kk a)) h65 (by simp [V.cells, exV]) rfl (fun σ6 e6 => ?_)
      have hI6 : AtI σ σ6 p rest f b b6 := by rw [e6]; exact hI5.put6 _
      have h66 : σ6.box b6 = some (exV (.mk op nn s kk a)) := by rw [e6]; exact put_box
      refine CallK.mk' (need_call hI6.ps he5.ne _) ?_
      rintro e σ7 (⟨hc, rfl, hp7, hf7⟩ | ⟨hc, rfl, hf7⟩)
      · have := he5.tail_sign hc
        exact atom_end (hI6.fr' hf7 hp7) this.1 (by simp; omega) (by have := hf7.box _ _ (Ne.symm np6) h66; exact this) (exVs_map _) (.inl rfl) (.paren_ok hop hr5 hc)
      · exact ⟨_, _, Weak.refl _, Forget.refl _, _, .paren_bad hop hr5 hc, hI6.fr.trans hf7, rfl, he5⟩

/-- All readers of expressions. -/
theorem callsTo : ∀ m, CallsTo m := by
  intro m
  induction m using Nat.strongRecOn with
  | _ m ih =>
    exact ⟨fun σ p l f d hp he h0 h1 hm => expr_walk ih hp he h0 h1 hm, fun σ p l f d n hp he h0 h1 hn1 hn7 hm => level_walk ih hp he h0 h1 hn1 hn7 hm,
      fun σ p l f d hp he h0 h1 hm => neg_walk ih hp he h0 h1 hm, fun σ p l f d hp he h0 h1 hno hm => atom_walk ih hp he h0 h1 hno hm⟩
theorem expr_call {σ : St} {p : Nat} {l : List Tok} {f d : Int} (hp : Ps σ p l f) (he : Ended l) (h0 : 0 ≤ d) (h1 : d ≤ 31) : SCall Tryz.prog LG 28 [.loc p 0, .int .i64 d] σ (Reads .expr d l p f σ) :=
  (callsTo _).expr σ p l f d hp he h0 h1 (Nat.le_refl _)
end Go.Shadow.Lex

/- The plain grammar of arguments and forms, as relations. -/
namespace Go.Shadow.Lex

/-- An argument of a form: kind, number, text, expression, offset. -/
structure Ar where
  kind : Int
  n : Int
  s : List UInt8
  e : Ex
  at_ : Int
def Ex.none : Ex := .mk 0 0 [] [] 0
/-- A form. -/
inductive Fo where
  | mk (word : List UInt8) (args : List Ar) (body : List Fo) (at_ : Int)

inductive ResA where
  | ok (a : Ar) (r : List Tok)
  | err (E : Int) (r : List Tok)
inductive PA : List Tok → ResA → Prop
  | tok {l} (h : (hd l).kind = 1 ∨ (hd l).kind = 2 ∨ (hd l).kind = 3) : PA l (.ok ⟨(hd l).kind, (hd l).n, (hd l).s, .none, (hd l).at_⟩ l.tail)
  | neg_bad {l} (h : isS [45] l = true) (h1 : (hd l.tail).kind ≠ 2) : PA l (.err 5 l.tail)
  | neg_ok {l} (h : isS [45] l = true) (h1 : (hd l.tail).kind = 2) : PA l (.ok ⟨2, -(hd l.tail).n, [], .none, (hd l).at_⟩ l.tail.tail)
  | arrow {l} (h : isS [45, 62] l = true) : PA l (.ok ⟨4, 0, [], .none, (hd l).at_⟩ l.tail)
  | paren_err {l E r} (h : isS [40] l = true) (h1 : PE .expr 1 l.tail (.err E r)) : PA l (.err E r)
  | paren_bad {l e r} (h : isS [40] l = true) (h1 : PE .expr 1 l.tail (.ok e r)) (h2 : isS [41] r = false) : PA l (.err 5 r)
  | paren_ok {l e r} (h : isS [40] l = true) (h1 : PE .expr 1 l.tail (.ok e r)) (h2 : isS [41] r = true) : PA l (.ok ⟨5, 0, [], e, (hd l).at_⟩ r.tail)

theorem PA.det {l : List Tok} {x y : ResA} (hx : PA l x) (hy : PA l y) : x = y := by
  cases hx <;> cases hy <;> grind [→ hd_sign, PE.det]

inductive NF where
  | form
  | args (w : List UInt8) (at_ : Int) (us : List Ar)
  | body (w : List UInt8) (at_ : Int) (us : List Ar) (b : List Fo)
inductive ResF where
  | ok (g : Fo) (n : Int) (r : List Tok)
  | err (E : Int) (r : List Tok)
/-- Depth, how many forms there are so far, tokens. -/
inductive PF : NF → Int → Int → List Tok → ResF → Prop
  | form_bad {d n l} (h : (hd l).kind ≠ 1) : PF .form d n l (.err 5 l)
  | form_limit {d n l} (h : (hd l).kind = 1) (h1 : d > 30 ∨ n ≥ 2000) : PF .form d n l (.err 2 l)
  | form_go {d n l x} (h : (hd l).kind = 1) (h1 : ¬ (d > 30 ∨ n ≥ 2000)) (h2 : PF (.args (hd l).s (hd l).at_ []) d (n + 1) l.tail x) : PF .form d n l x
  | args_end {w a us d n l} (h : isS [59] l = true) : PF (.args w a us) d n l (.ok (.mk w us [] a) n l.tail)
  | args_body {w a us d n l x} (h : isS [123] l = true) (h1 : PF (.body w a us []) d n l.tail x) : PF (.args w a us) d n l x
  | args_bad {w a us d n l} (h : isS [59] l = false) (h1 : isS [123] l = false) (h2 : begins l = false) (h3 : isS [45, 62] l = false) : PF (.args w a us) d n l (.err 5 l)
  | args_limit {w a us d n l} (h : isS [59] l = false) (h1 : isS [123] l = false) (h2 : begins l = true ∨ isS [45, 62] l = true) (h3 : us.length = 40) : PF (.args w a us) d n l (.err 2 l)
  | args_err {w a us d n l E r} (h : isS [59] l = false) (h1 : isS [123] l = false) (h2 : begins l = true ∨ isS [45, 62] l = true) (h3 : us.length ≠ 40) (h4 : PA l (.err E r)) : PF (.args w a us) d n l (.err E r)
  | args_go {w a us d n l b r x} (h : isS [59] l = false) (h1 : isS [123] l = false) (h2 : begins l = true ∨ isS [45, 62] l = true) (h3 : us.length ≠ 40) (h4 : PA l (.ok b r)) (h5 : PF (.args w a (us ++ [b])) d n r x) : PF (.args w a us) d n l x
  | body_end {w a us b d n l} (h : isS [125] l = true) : PF (.body w a us b) d n l (.ok (.mk w us b a) n l.tail)
  | body_err {w a us b d n l E r} (h : isS [125] l = false) (h1 : PF .form (d + 1) n l (.err E r)) : PF (.body w a us b) d n l (.err E r)
  | body_go {w a us b d n l g n' r x} (h : isS [125] l = false) (h1 : PF .form (d + 1) n l (.ok g n' r)) (h2 : PF (.body w a us (b ++ [g])) d n' r x) : PF (.body w a us b) d n l x

theorem PF.det {nt : NF} {d n : Int} {l : List Tok} {x y : ResF} (hx : PF nt d n l x) (hy : PF nt d n l y) : x = y := by
  induction hx generalizing y <;> cases hy <;> first
    | rfl
    | grind [→ hd_sign, PA.det, → begins_kind]

inductive ResL where
  | ok (out : List Fo)
  | err (E : Int) (r : List Tok)
/-- All forms of a source. -/
inductive PL : Int → List Fo → List Tok → ResL → Prop
  | done {n out l} (h : (hd l).kind = 5) : PL n out l (.ok out)
  | err {n out l E r} (h : (hd l).kind ≠ 5) (h1 : PF .form 1 n l (.err E r)) : PL n out l (.err E r)
  | go {n out l g n' r x} (h : (hd l).kind ≠ 5) (h1 : PF .form 1 n l (.ok g n' r)) (h2 : PL n' (out ++ [g]) r x) : PL n out l x
theorem PL.det {n : Int} {out : List Fo} {l : List Tok} {x y : ResL} (hx : PL n out l x) (hy : PL n out l y) : x = y := by
  induction hx generalizing y <;> cases hy <;> first
    | rfl
    | grind [PF.det]
end Go.Shadow.Lex

/- The parser's arguments and forms, as shadow contracts. Conditions: as each theorem says. -/
namespace Go.Shadow.Lex
open Go Go.RowKit Go.Proofs

/-- The cells of an argument. -/
def arV (a : Ar) : List V := [.int .i64 a.kind, .int .i64 a.n, .str a.s] ++ exV a.e ++ [.int .i64 a.at_]
mutual
/-- The cells of a form. -/
def foV : Fo → List V
  | .mk w args b a => [.str w, .slice .foreign 9 (args.map arV), .slice .foreign 4 (foVs b), .int .i64 a]
def foVs : List Fo → List (List V)
  | [] => []
  | e :: r => foV e :: foVs r
end
theorem foVs_map : ∀ l : List Fo, foVs l = l.map foV
  | [] => rfl
  | e :: r => by simp [foVs, foVs_map r]
abbrev noAr : List V := [.int .i64 0, .int .i64 0, .str [], .int .i64 0, .int .i64 0, .str [], .slice .nil 0 [], .int .i64 0, .int .i64 0]
abbrev noFo : List V := [.str [], .slice .nil 0 [], .slice .nil 0 [], .int .i64 0]

def ReadsA (l : List Tok) (p : Nat) (f : Int) (σ : St) (e : SEnd) (σ' : St) : Prop := ∃ r, PA l r ∧ Fr p σ σ' ∧ match r with
  | .ok x rest => e = .ret (.agg (arV x)) ∧ Ps σ' p rest f ∧ Ended rest ∧ rest.length < l.length
  | .err E rest => e = .pan (stopV E rest) ∧ Ended rest
def ReadsF (d n : Int) (l : List Tok) (p : Nat) (σ : St) (e : SEnd) (σ' : St) : Prop := ∃ r, PF .form d n l r ∧ Fr p σ σ' ∧ match r with
  | .ok x n' rest => e = .ret (.agg (foV x)) ∧ Ps σ' p rest n' ∧ Ended rest ∧ rest.length < l.length ∧ 0 ≤ n' ∧ n' ≤ 2000
  | .err E rest => e = .pan (stopV E rest) ∧ Ended rest

def scEnd49 : SC := match sc49 with
  | .seq _ (.seq _ (.seq _ (.seq _ r))) => r
  | _ => .skip
theorem weak_nil5 {tag : Tag} {z : Nat} {es : List (List V)} {kids : List Ex} (hes : es = kids.map exV) (hz : z = 5 ∨ es = []) : Weak (.slice tag z es) (.slice .foreign 5 (exVs kids)) := by
  rw [exVs_map, ← hes]
  rcases hz with rfl | rfl
  · exact weak_slice _ _ _
  · exact weak_nil _ _ _

theorem arg_end {σ0 σ : St} {p : Nat} {l l0 : List Tok} {f : Int} {b2 b4 : Nat} (hp : Ps σ p l f) (hf : Fr p σ0 σ) (h2 : σ.box b2 = some noAr) (f2 : σ0.box b2 = none) (n2 : p ≠ b2) (he : Ended l) (hl : l.length < l0.length) {k n a : Int} {s : List UInt8} {op en ea : Int} {es : List UInt8} {kids : List Ex} {xs : List (List V)} {tag : Tag} {z : Nat}
    (h4 : σ.box b4 = some [.int .i64 k, .int .i64 n, .str s, .int .i64 op, .int .i64 en, .str es, .slice tag z xs, .int .i64 ea, .int .i64 a]) (hes : xs = kids.map exV) (hz : z = 5 ∨ xs = []) (hPE : PA l0 (.ok ⟨k, n, s, .mk op en es kids ea, a⟩ l)) :
    swpE Tryz.prog LG scEnd49 (retE [(2, some (true, 9))] (ReadsA l0 p f σ0)) (ofL [(2, some (.loc b2 0)), (4, some (.loc b4 0))]) σ := by
  refine Load.mk' h4 (Nat.le_refl _) ?_
  refine Sure.mk' rfl ?_
  refine Store.mk' [.int .i64 k, .int .i64 n, .str s, .int .i64 op, .int .i64 en, .str es, .slice tag z xs, .int .i64 ea, .int .i64 a] h2 (Nat.le_refl _) rfl (fun σ3 e3 => ?_)
  refine Load.mk' (by rw [e3]; exact put_box) (Nat.le_refl _) ?_
  refine Ret.weak (r := .agg (arV ⟨k, n, s, .mk op en es kids ea, a⟩)) ?_ (.refl _) ⟨_, hPE, by rw [e3]; exact hf.put (.inl f2), rfl, by rw [e3]; exact hp.put n2, he, hl⟩
  refine weak_agg rfl (fun i y hy => ?_) (fun i x y hx hy => ?_)
  · match i, hy with
    | 0, hy | 1, hy | 2, hy | 3, hy | 4, hy | 5, hy | 6, hy | 7, hy | 8, hy => simp [arV, exV] at hy; subst hy; rfl
    | _ + 9, hy => simp [arV, exV] at hy
  · match i, hx, hy with
    | 0, hx, hy | 1, hx, hy | 2, hx, hy | 3, hx, hy | 4, hx, hy | 5, hx, hy | 7, hx, hy | 8, hx, hy => simp [arV, exV] at hx hy; subst hx; subst hy; exact Weak.refl _
    | 6, hx, hy => simp [arV, exV] at hx hy; subst hx; subst hy; exact weak_nil5 hes hz
    | _ + 9, hx, hy => simp [arV, exV] at hy

/-- The sign that an argument begins with. -/
def argStart (l : List Tok) : Prop := begins l = true ∨ isS [45, 62] l = true
theorem argStart_cases {l : List Tok} (h : argStart l) : (hd l).kind = 1 ∨ (hd l).kind = 2 ∨ (hd l).kind = 3 ∨ isS [45] l = true ∨ isS [45, 62] l = true ∨ isS [40] l = true := by
  cases l with
  | nil => simp [argStart, begins, isS] at h
  | cons t r =>
    simp only [argStart, begins, Bool.or_eq_true, beq_iff_eq] at h
    simp only [hd, List.headD_cons]
    rcases h with (((h | h) | h) | h) | h
    · rcases h with h | h
      · exact .inl h
      · exact .inr (.inl h)
    all_goals grind

theorem arg_call {σ : St} {p : Nat} {l : List Tok} {f : Int} (hp : Ps σ p l f) (he : Ended l) (hs : argStart l) :
    SCall Tryz.prog LG 49 [.loc p 0] σ (ReadsA l p f σ) := by
  have hk5 : (hd l).kind ≠ 5 := by
    rcases argStart_cases hs with h | h | h | h | h | h
    · rw [h]; decide
    · rw [h]; decide
    · rw [h]; decide
    all_goals rw [(hd_sign h).1]; decide
  obtain ⟨t, r, rfl⟩ := he.cons
  obtain ⟨het, hlt⟩ := he.tail hk5
  have htok : (t.kind = 2 → t.s = []) ∧ (t.kind ≠ 2 → t.n = 0) := by
    obtain ⟨i, e, hl, _, _, h3⟩ := he
    exact (h3 t (by simp)).1
  simp only [List.tail_cons, List.length_cons] at het hlt
  refine code49.call hm (by simp) ?_
  intro b2 hb2
  have np2 := hp.ne hb2
  have hp1 := hp.put (cs := noAr) np2
  have hf1 : Fr p σ (σ.put b2 noAr) := (Fr.refl p σ).new hb2
  have h21 : (σ.put b2 noAr).box b2 = some noAr := put_box
  refine CallK.mk' (nextTok_call hp1) ?_
  rintro e σ2 ⟨rfl, hp2, hf2⟩
  have h22 := hf2.box b2 _ (Ne.symm np2) h21
  intro b3 hb3
  have np3 := hp2.ne hb3
  have n23 := box_ne h22 hb3
  refine Sure.mk' rfl ?_
  refine Store.mk' (tokV t) put_box (by simp [V.cells, tokV]) (by simp [setL, V.cells, tokV]) (fun σ3 e3 => ?_)
  rw [put_put] at e3
  have h33 : σ3.box b3 = some (tokV t) := by rw [e3]; exact put_box
  have h23 : σ3.box b2 = some noAr := by rw [e3, put_ne n23]; exact h22
  have hp3 : Ps σ3 p r f := by rw [e3]; exact hp2.put np3
  have hf3 : Fr p σ σ3 := by rw [e3]; exact (hf1.trans hf2).new hb3
  clear e3 hb3
  refine Load.mk' h33 (by simp [tokV]) ?_
  refine Load.mk' h33 (by simp [tokV]) ?_
  refine Load.mk' h33 (by simp [tokV]) ?_
  intro b4 hb4
  have np4 := hp3.ne hb4
  have n24 := box_ne h23 hb4
  have n34 := box_ne h33 hb4
  refine Sure.mk' rfl ?_
  refine Store.mk' [.int .i64 0, .int .i64 t.n, .str t.s, .int .i64 0, .int .i64 0, .str [], .slice .nil 0 [], .int .i64 0, .int .i64 t.at_] put_box (Nat.le_refl _) rfl (fun σ4 e4 => ?_)
  rw [put_put] at e4
  have h34 : σ4.box b3 = some (tokV t) := by rw [e4, put_ne n34]; exact h33
  have h44 : σ4.box b4 = some [.int .i64 0, .int .i64 t.n, .str t.s, .int .i64 0, .int .i64 0, .str [], .slice .nil 0 [], .int .i64 0, .int .i64 t.at_] := by rw [e4]; exact put_box
  have h24 : σ4.box b2 = some noAr := by rw [e4, put_ne n24]; exact h23
  have hp4 : Ps σ4 p r f := by rw [e4]; exact hp3.put np4
  have hf4 : Fr p σ σ4 := by rw [e4]; exact hf3.new hb4
  have f4 := hf3.fresh (Ne.symm np4) hb4
  clear e4 hb4 hp3 hf3 h33 h23 hp2 hf2 h22 hp1 h21
  refine Load.mk' h34 (by simp [tokV]) ?_
  -- stores into the result's place
  have st : ∀ {σ5 : St} {cs : List V}, σ5 = σ4.put b4 cs → Ps σ5 p r f ∧ Fr p σ σ5 ∧ σ5.box b2 = some noAr ∧ σ5.box b4 = some cs ∧ σ5.box b3 = some (tokV t) := fun e => by
    subst e
    exact ⟨hp4.put np4, hf4.put (.inl f4), by rw [put_ne n24]; exact h24, put_box, by rw [put_ne n34]; exact h34⟩
  refine Test.split (fun k1 => ?_) (fun k1 => ?_)
  · refine Sure.mk' rfl ?_
    refine Store.mk' [.int .i64 1, .int .i64 t.n, .str t.s, .int .i64 0, .int .i64 0, .str [], .slice .nil 0 [], .int .i64 0, .int .i64 t.at_] h44 (by simp [V.cells]) rfl (fun σ5 e5 => ?_)
    obtain ⟨a1, a2, a3, a4, -⟩ := st e5
    have hx : PA (t :: r) _ := .tok (.inl k1)
    simp only [hd, List.headD_cons, List.tail_cons] at hx
    rw [show t.kind = 1 from k1] at hx
    exact arg_end a1 a2 a3 hb2 np2 het hlt a4 rfl (.inr rfl) hx
  refine Test.split (fun k2 => ?_) (fun k2 => ?_)
  · refine Sure.mk' rfl ?_
    refine Store.mk' [.int .i64 2, .int .i64 t.n, .str t.s, .int .i64 0, .int .i64 0, .str [], .slice .nil 0 [], .int .i64 0, .int .i64 t.at_] h44 (by simp [V.cells]) rfl (fun σ5 e5 => ?_)
    obtain ⟨a1, a2, a3, a4, -⟩ := st e5
    have hx : PA (t :: r) _ := .tok (.inr (.inl k2))
    simp only [hd, List.headD_cons, List.tail_cons] at hx
    rw [show t.kind = 2 from k2] at hx
    exact arg_end a1 a2 a3 hb2 np2 het hlt a4 rfl (.inr rfl) hx
  refine Test.split (fun k3 => ?_) (fun k3 => ?_)
  · refine Sure.mk' rfl ?_
    refine Store.mk' [.int .i64 3, .int .i64 t.n, .str t.s, .int .i64 0, .int .i64 0, .str [], .slice .nil 0 [], .int .i64 0, .int .i64 t.at_] h44 (by simp [V.cells]) rfl (fun σ5 e5 => ?_)
    obtain ⟨a1, a2, a3, a4, -⟩ := st e5
    have hx : PA (t :: r) _ := .tok (.inr (.inr k3))
    simp only [hd, List.headD_cons, List.tail_cons] at hx
    rw [show t.kind = 3 from k3] at hx
    exact arg_end a1 a2 a3 hb2 np2 het hlt a4 rfl (.inr rfl) hx
  rw [htok.2 k2] at h44
  refine Sure.mk' rfl ?_
  refine Store.mk' [.int .i64 0, .int .i64 0, .str [], .int .i64 0, .int .i64 0, .str [], .slice .nil 0 [], .int .i64 0, .int .i64 t.at_] h44 (by simp [V.cells]) rfl (fun σ5 e5 => ?_)
  obtain ⟨hp5, hf5, h25, h45, h35⟩ := st e5
  clear st e5 h44 hp4 hf4 h24 h34
  have st : ∀ {σ5 σ6 : St} {l' : List Tok} {cs : List V}, Ps σ5 p l' f → Fr p σ σ5 → σ5.box b2 = some noAr → σ6 = σ5.put b4 cs → Ps σ6 p l' f ∧ Fr p σ σ6 ∧ σ6.box b2 = some noAr ∧ σ6.box b4 = some cs := fun h1 h2 h3 e => by
    subst e
    exact ⟨h1.put np4, h2.put (.inl f4), by rw [put_ne n24]; exact h3, put_box⟩
  refine Load.mk' h35 (by simp [tokV]) ?_
  have h6 : isS [45] (t :: r) = true ∨ isS [45, 62] (t :: r) = true ∨ isS [40] (t :: r) = true := by
    rcases argStart_cases hs with h | h | h | h
    · exact absurd h k1
    · exact absurd h k2
    · exact absurd h k3
    · exact h
  refine Test.split (fun s1 => ?_) (fun s1 => ?_)
  · have hneg : isS [45] (t :: r) = true := by
      rcases h6 with h | h | h
      · exact h
      · rw [show t.s = _ from (hd_sign h).2] at s1; cases s1
      · rw [show t.s = _ from (hd_sign h).2] at s1; cases s1
    refine CallK.mk' (numberP_call hp5 het.ne) ?_
    rintro e σ6 (⟨kn, rfl, hp6, hf6⟩ | ⟨kn, rfl, hf6⟩)
    rotate_left
    · exact ⟨_, _, Weak.refl _, Forget.refl _, _, .neg_bad hneg kn, hf5.trans hf6, rfl, het⟩
    obtain ⟨t2, r2, rfl⟩ := het.cons
    simp only [List.tail_cons] at hp6
    have h26 := hf6.box _ _ (Ne.symm np2) h25
    have h46 := hf6.box _ _ (Ne.symm np4) h45
    have hrange : 0 ≤ t2.n ∧ t2.n ≤ 999999999999999 := by
      obtain ⟨i, e, hl, _, _, h3⟩ := het
      exact (h3 t2 (by simp)).2
    refine Arith.i64 (-t2.n) (by simp [hd]) (by omega) ?_
    refine Sure.mk' rfl ?_
    refine Store.mk' [.int .i64 2, .int .i64 0, .str [], .int .i64 0, .int .i64 0, .str [], .slice .nil 0 [], .int .i64 0, .int .i64 t.at_] h46 (by simp [V.cells]) rfl (fun σ7 e7 => ?_)
    obtain ⟨a1, a2, a3, a4⟩ := st hp6 (hf5.trans hf6) h26 e7
    refine Sure.mk' rfl ?_
    refine Store.mk' [.int .i64 2, .int .i64 (-t2.n), .str [], .int .i64 0, .int .i64 0, .str [], .slice .nil 0 [], .int .i64 0, .int .i64 t.at_] a4 (by simp [V.cells]) rfl (fun σ8 e8 => ?_)
    obtain ⟨c1, c2, c3, c4⟩ := st a1 a2 a3 e8
    have he2 := het.tail (by rw [show (hd (t2 :: r2)).kind = 2 from kn]; decide)
    simp only [List.tail_cons, List.length_cons] at he2 hlt
    exact arg_end c1 c2 c3 hb2 np2 he2.1 (by simp only [List.length_cons]; omega) c4 rfl (.inr rfl) (.neg_ok hneg kn)
  refine Test.split (fun s2 => ?_) (fun s2 => ?_)
  · have harr : isS [45, 62] (t :: r) = true := by
      rcases h6 with h | h | h
      · exact absurd (hd_sign h).2 s1
      · exact h
      · rw [show t.s = _ from (hd_sign h).2] at s2; cases s2
    refine Sure.mk' rfl ?_
    refine Store.mk' [.int .i64 4, .int .i64 0, .str [], .int .i64 0, .int .i64 0, .str [], .slice .nil 0 [], .int .i64 0, .int .i64 t.at_] h45 (by simp [V.cells]) rfl (fun σ7 e7 => ?_)
    obtain ⟨a1, a2, a3, a4⟩ := st hp5 hf5 h25 e7
    exact arg_end a1 a2 a3 hb2 np2 het hlt a4 rfl (.inr rfl) (.arrow harr)
  have hop : isS [40] (t :: r) = true := by
    rcases h6 with h | h | h
    · exact absurd (hd_sign h).2 s1
    · exact absurd (hd_sign h).2 s2
    · exact h
  refine Test.yes (hd_sign hop).2 ?_
  refine CallK.mk' (expr_call hp5 het (by omega) (by omega)) ?_
  rintro e σ6 ⟨r6, hr6, hf6, hres⟩
  cases r6 with
  | err E rest =>
    obtain ⟨rfl, h2⟩ := hres
    exact ⟨_, _, Weak.refl _, Forget.refl _, _, .paren_err hop hr6, hf5.trans hf6, rfl, h2⟩
  | ok x rest =>
    obtain ⟨rfl, hp6, he6, hlt6⟩ := hres
    have h26 := hf6.box _ _ (Ne.symm np2) h25
    have h46 := hf6.box _ _ (Ne.symm np4) h45
    obtain ⟨op, nn, s, kk, a⟩ := x
    refine Sure.mk' rfl ?_
    refine Store.mk' [.int .i64 5, .int .i64 0, .str [], .int .i64 0, .int .i64 0, .str [], .slice .nil 0 [], .int .i64 0, .int .i64 t.at_] h46 (by simp [V.cells]) rfl (fun σ7 e7 => ?_)
    obtain ⟨a1, a2, a3, a4⟩ := st hp6 (hf5.trans hf6) h26 e7
    refine Sure.mk' rfl ?_
    refine Store.mk' [.int .i64 5, .int .i64 0, .str [], .int .i64 op, .int .i64 nn, .str s, .slice .foreign 5 (exVs kk), .int .i64 a, .int .i64 t.at_] a4 (by simp [V.cells, exV]) rfl (fun σ8 e8 => ?_)
    obtain ⟨c1, c2, c3, c4⟩ := st a1 a2 a3 e8
    refine CallK.mk' (need_call c1 he6.ne _) ?_
    rintro e σ9 (⟨hc, rfl, hp9, hf9⟩ | ⟨hc, rfl, hf9⟩)
    · have h7 := he6.tail_sign hc
      exact arg_end hp9 (c2.trans hf9) (hf9.box _ _ (Ne.symm np2) c3) hb2 np2 h7.1 (by simp only [List.length_cons]; omega) (hf9.box _ _ (Ne.symm np4) c4) (exVs_map _) (.inl rfl) (.paren_ok hop hr6 hc)
    · exact ⟨_, _, Weak.refl _, Forget.refl _, _, .paren_bad hop hr6 hc, c2.trans hf9, rfl, he6⟩
end Go.Shadow.Lex

/- Shadow code of the printer and the comparisons (printed by a program). -/
namespace Go.Shadow.Lex
open Go Go.RowKit Go.Proofs
/-- quietus/parse.SameExpr -/
def sc15 : SC := (.seq (.region [.q 2 (.box (.t 0)), .q 3 (.box (.t 1)), .q 4 (.mv (.c (.bool false)))] (some [2, 3])) (.seq (.seq (.region [.q 5 (.faddr 0 (.t 2)), .q 6 (.load false 1 (.t 5)), .q 7 (.faddr 0 (.t 3)), .q 8 (.load false 1 (.t 7)), .q 9 (.bin .neq (.t 6) (.t 8))] (some [2, 3, 9])) (.cond (.t 9) (some [2, 3]) (.seq (.region [.q 4 (.mv (.c (.bool false)))] (some [4])) .ret) .skip)) (.seq (.seq (.region [.q 10 (.faddr 0 (.t 2)), .q 11 (.load false 1 (.t 10))] (some [2, 3, 11])) (.block 0 (.seq (.region [.q 13 (.bin .eql (.t 11) (.c (.int .i64 1))), .q 12 (.mv (.t 13))] (some [2, 3, 11, 12])) (.cond (.t 12) (some [2, 3, 11]) (.seq (.region [.q 14 (.faddr 1 (.t 2)), .q 15 (.load false 1 (.t 14)), .q 16 (.faddr 1 (.t 3)), .q 17 (.load false 1 (.t 16)), .q 18 (.bin .eql (.t 15) (.t 17)), .q 4 (.mv (.t 18))] (some [4])) .ret) (.seq (.seq (.region [.q 20 (.bin .eql (.t 11) (.c (.int .i64 2))), .q 19 (.mv (.t 20))] (some [2, 3, 11, 19])) (.cond (.t 19) (some [2, 3, 11, 19]) .skip (.region [.q 21 (.bin .eql (.t 11) (.c (.int .i64 3))), .q 19 (.mv (.t 21))] (some [2, 3, 11, 19])))) (.cond (.t 19) (some [2, 3, 11]) (.seq (.region [.q 22 (.faddr 2 (.t 2)), .q 23 (.load false 1 (.t 22)), .q 24 (.faddr 2 (.t 3)), .q 25 (.load false 1 (.t 24)), .q 26 (.bins .eql (.t 23) (.t 25)), .q 4 (.mv (.t 26))] (some [4])) .ret) (.seq (.region [.q 28 (.bin .eql (.t 11) (.c (.int .i64 4))), .q 27 (.mv (.t 28))] (some [2, 3, 27])) (.cond (.t 27) (some [2, 3]) (.seq (.region [.q 29 (.faddr 2 (.t 2)), .q 30 (.load false 1 (.t 29)), .q 31 (.faddr 2 (.t 3)), .q 32 (.load false 1 (.t 31)), .q 33 (.bins .neq (.t 30) (.t 32))] (some [2, 3, 33])) (.cond (.t 33) (some [2, 3]) (.seq (.region [.q 4 (.mv (.c (.bool false)))] (some [4])) .ret) .skip)) .skip)))))))) (.seq (.region [.q 34 (.faddr 3 (.t 2)), .q 35 (.load false 1 (.t 34)), .q 36 (.faddr 3 (.t 3)), .q 37 (.load false 1 (.t 36)), .q 38 (.call 34 [(.t 35), (.t 37), (.f 15)]), .q 4 (.mv (.t 38))] (some [4])) .ret))))
theorem code15 : IsCode Tryz.prog 15 sc15 [(4, none)] 39 := .mk' Tryz.func15 (by kernel_rfl) (by kernel_rfl) (by kernel_rfl) (by kernel_rfl)
/-- quietus/parse.Same -/
def sc20 : SC := (.seq (.region [.q 4 (.mv (.c (.bool false)))] (some [0, 1])) (.seq (.region [.q 5 (.mv (.t 0)), .q 6 (.mv (.t 1)), .q 7 (.call 38 [(.t 5), (.t 6), (.f 39)]), .q 4 (.mv (.t 7))] (some [4])) .ret))
theorem code20 : IsCode Tryz.prog 20 sc20 [(4, none)] 8 := .mk' Tryz.func20 (by kernel_rfl) (by kernel_rfl) (by kernel_rfl) (by kernel_rfl)
/-- quietus/parse.PrintExpr -/
def sc21 : SC := (.seq (.region [.q 1 (.box (.t 0)), .q 2 (.mv (.c (.str []))), .q 3 (.mv (.c (.int .i64 0)))] (some [1])) (.seq (.region [.q 8 (.build [(.slice .nil 0 []), (.bool false)] []), .q 9 (.box (.t 8)), .q 4 (.mv (.t 9))] (some [1, 4])) (.seq (.region [.q 10 (.mv (.t 4)), .q 11 (.load true 5 (.t 1)), .q 12 (.call 42 [(.t 10), (.t 11)])] (some [4])) (.seq (.seq (.region [.q 13 (.mv (.t 4)), .q 14 (.nilchk (.t 13)), .q 15 (.faddr 1 (.t 14)), .q 16 (.load false 1 (.t 15))] (some [4, 16])) (.cond (.t 16) (some [4]) (.seq (.region [.q 2 (.mv (.c (.str []))), .q 3 (.mv (.c (.int .i64 1)))] (some [2, 3])) .ret) .skip)) (.seq (.region [.q 17 (.mv (.t 4)), .q 18 (.nilchk (.t 17)), .q 19 (.faddr 0 (.t 18)), .q 20 (.load false 1 (.t 19)), .q 21 (.call 37 [(.t 20)]), .q 5 (.mv (.t 21))] (some [5])) (.seq (.seq (.region [.q 23 (.mv (.t 5)), .q 24 (.call 9 [(.t 23)]), .q 22 (.mv (.t 24)), .q 25 (.extract 0 (.t 22)), .q 26 (.extract 1 (.t 22)), .q 6 (.alloc [(.int .i64 0), (.int .i64 0), (.str []), (.slice .nil 0 []), (.int .i64 0)]), .q 7 (.alloc [(.int .i64 0), (.int .i64 0)]), .w (.store 5 (.t 6) (.t 25)), .w (.store 2 (.t 7) (.t 26))] (some [5, 7])) (.seq (.region [.q 27 (.faddr 1 (.t 7)), .q 28 (.load false 1 (.t 27)), .q 29 (.bin .neq (.t 28) (.c (.int .i64 0)))] (some [5, 29])) (.cond (.t 29) (some [5]) (.seq (.region [.q 2 (.mv (.c (.str []))), .q 3 (.mv (.c (.int .i64 2)))] (some [2, 3])) .ret) .skip))) (.seq (.region [.q 30 (.mv (.t 5)), .q 2 (.mv (.t 30)), .q 3 (.mv (.c (.int .i64 0)))] (some [2, 3])) .ret)))))))
theorem code21 : IsCode Tryz.prog 21 sc21 [(2, none), (3, none)] 31 := .mk' Tryz.func21 (by kernel_rfl) (by kernel_rfl) (by kernel_rfl) (by kernel_rfl)
/-- slices.EqualFunc[[]quietus/api.Expr,[]quietus/api.Expr,quietus/api.Expr,quietus/api.Expr] -/
def sc34 : SC := (.seq (.region [.q 6 (.mv (.c (.bool false)))] (some [0, 1, 2])) (.seq (.seq (.region [.q 10 (.mv (.t 0)), .q 11 (.len false (.t 10)), .q 12 (.mv (.t 1)), .q 13 (.len false (.t 12)), .q 14 (.bin .neq (.t 11) (.t 13))] (some [0, 1, 2, 14])) (.cond (.t 14) (some [0, 1, 2]) (.seq (.region [.q 6 (.mv (.c (.bool false)))] (some [6])) .ret) .skip)) (.seq (.seq (.region [.q 15 (.mv (.t 0)), .q 16 (.len false (.t 15)), .q 17 (.mv (.c (.int .i64 0)))] (some [1, 2, 15, 16, 17])) (.block 0 (.loop (.seq (.region [.q 18 (.bin .lss (.t 17) (.t 16))] (some [1, 2, 15, 16, 17, 18])) (.seq (.cond (.t 18) (some [1, 2, 15, 16, 17]) .skip (.exit 0)) (.seq (.block 1 (.seq (.region [.q 19 (.mv (.t 17)), .q 20 (.iaddr 5 (.t 15) (.t 17)), .q 21 (.load true 5 (.t 20)), .q 8 (.alloc [(.int .i64 0), (.int .i64 0), (.str []), (.slice .nil 0 []), (.int .i64 0)]), .q 7 (.mv (.t 19)), .w (.store 5 (.t 8) (.t 21))] (some [1, 2, 7, 8, 15, 16, 17])) (.seq (.region [.q 22 (.mv (.t 1)), .q 23 (.mv (.t 7)), .q 24 (.iaddr 5 (.t 22) (.t 23)), .q 25 (.load true 5 (.t 24)), .q 9 (.alloc [(.int .i64 0), (.int .i64 0), (.str []), (.slice .nil 0 []), (.int .i64 0)]), .w (.store 5 (.t 9) (.t 25))] (some [1, 2, 8, 9, 15, 16, 17])) (.seq (.region [.q 26 (.mv (.t 2)), .q 27 (.load true 5 (.t 8)), .q 28 (.load true 5 (.t 9)), .q 29 (.callv (.t 26) [(.t 27), (.t 28)]), .q 30 (.un .not (.t 29))] (some [1, 2, 15, 16, 17, 30])) (.cond (.t 30) (some [1, 2, 15, 16, 17]) (.seq (.region [.q 6 (.mv (.c (.bool false)))] (some [6])) .ret) .skip))))) (.region [.q 31 (.bin .add (.t 17) (.c (.int .i64 1))), .q 17 (.mv (.t 31))] (some [1, 2, 15, 16, 17])))))))) (.seq (.region [.q 6 (.mv (.c (.bool true)))] (some [6])) .ret))))
theorem code34 : IsCode Tryz.prog 34 sc34 [(6, none)] 32 := .mk' Tryz.func34 (by kernel_rfl) (by kernel_rfl) (by kernel_rfl) (by kernel_rfl)
/-- slices.EqualFunc[[]quietus/api.Form,[]quietus/api.Form,quietus/api.Form,quietus/api.Form] -/
def sc38 : SC := (.seq (.region [.q 6 (.mv (.c (.bool false)))] (some [0, 1, 2])) (.seq (.seq (.region [.q 10 (.mv (.t 0)), .q 11 (.len false (.t 10)), .q 12 (.mv (.t 1)), .q 13 (.len false (.t 12)), .q 14 (.bin .neq (.t 11) (.t 13))] (some [0, 1, 2, 14])) (.cond (.t 14) (some [0, 1, 2]) (.seq (.region [.q 6 (.mv (.c (.bool false)))] (some [6])) .ret) .skip)) (.seq (.seq (.region [.q 15 (.mv (.t 0)), .q 16 (.len false (.t 15)), .q 17 (.mv (.c (.int .i64 0)))] (some [1, 2, 15, 16, 17])) (.block 0 (.loop (.seq (.region [.q 18 (.bin .lss (.t 17) (.t 16))] (some [1, 2, 15, 16, 17, 18])) (.seq (.cond (.t 18) (some [1, 2, 15, 16, 17]) .skip (.exit 0)) (.seq (.block 1 (.seq (.region [.q 19 (.mv (.t 17)), .q 20 (.iaddr 4 (.t 15) (.t 17)), .q 21 (.load true 4 (.t 20)), .q 8 (.alloc [(.str []), (.slice .nil 0 []), (.slice .nil 0 []), (.int .i64 0)]), .q 7 (.mv (.t 19)), .w (.store 4 (.t 8) (.t 21))] (some [1, 2, 7, 8, 15, 16, 17])) (.seq (.region [.q 22 (.mv (.t 1)), .q 23 (.mv (.t 7)), .q 24 (.iaddr 4 (.t 22) (.t 23)), .q 25 (.load true 4 (.t 24)), .q 9 (.alloc [(.str []), (.slice .nil 0 []), (.slice .nil 0 []), (.int .i64 0)]), .w (.store 4 (.t 9) (.t 25))] (some [1, 2, 8, 9, 15, 16, 17])) (.seq (.region [.q 26 (.mv (.t 2)), .q 27 (.load true 4 (.t 8)), .q 28 (.load true 4 (.t 9)), .q 29 (.callv (.t 26) [(.t 27), (.t 28)]), .q 30 (.un .not (.t 29))] (some [1, 2, 15, 16, 17, 30])) (.cond (.t 30) (some [1, 2, 15, 16, 17]) (.seq (.region [.q 6 (.mv (.c (.bool false)))] (some [6])) .ret) .skip))))) (.region [.q 31 (.bin .add (.t 17) (.c (.int .i64 1))), .q 17 (.mv (.t 31))] (some [1, 2, 15, 16, 17])))))))) (.seq (.region [.q 6 (.mv (.c (.bool true)))] (some [6])) .ret))))
theorem code38 : IsCode Tryz.prog 38 sc38 [(6, none)] 32 := .mk' Tryz.func38 (by kernel_rfl) (by kernel_rfl) (by kernel_rfl) (by kernel_rfl)
/-- quietus/parse.Same$1 -/
def sc39 : SC := (.seq (.region [.q 2 (.box (.t 0)), .q 3 (.box (.t 1)), .q 4 (.mv (.c (.bool false)))] (some [2, 3])) (.seq (.region [.q 5 (.faddr 0 (.t 2)), .q 6 (.load false 1 (.t 5)), .q 7 (.faddr 0 (.t 3)), .q 8 (.load false 1 (.t 7)), .q 9 (.bins .eql (.t 6) (.t 8)), .q 10 (.mv (.t 9)), ⟨(some 11), (.faddr 1 (.t 2)), (some (10, true))⟩, ⟨(some 12), (.load false 1 (.t 11)), (some (10, true))⟩, ⟨(some 13), (.faddr 1 (.t 3)), (some (10, true))⟩, ⟨(some 14), (.load false 1 (.t 13)), (some (10, true))⟩, ⟨(some 15), (.call 40 [(.t 12), (.t 14), (.f 41)]), (some (10, true))⟩, .q 16 (.pick (.t 10) (.t 15) (.c (.bool false))), .q 17 (.mv (.t 16)), ⟨(some 18), (.faddr 2 (.t 2)), (some (17, true))⟩, ⟨(some 19), (.load false 1 (.t 18)), (some (17, true))⟩, ⟨(some 20), (.faddr 2 (.t 3)), (some (17, true))⟩, ⟨(some 21), (.load false 1 (.t 20)), (some (17, true))⟩, ⟨(some 22), (.call 20 [(.t 19), (.t 21)]), (some (17, true))⟩, .q 23 (.pick (.t 17) (.t 22) (.c (.bool false))), .q 4 (.mv (.t 23))] (some [4])) .ret))
theorem code39 : IsCode Tryz.prog 39 sc39 [(4, none)] 24 := .mk' Tryz.func39 (by kernel_rfl) (by kernel_rfl) (by kernel_rfl) (by kernel_rfl)
/-- slices.EqualFunc[[]quietus/api.Arg,[]quietus/api.Arg,quietus/api.Arg,quietus/api.Arg] -/
def sc40 : SC := (.seq (.region [.q 6 (.mv (.c (.bool false)))] (some [0, 1, 2])) (.seq (.seq (.region [.q 10 (.mv (.t 0)), .q 11 (.len false (.t 10)), .q 12 (.mv (.t 1)), .q 13 (.len false (.t 12)), .q 14 (.bin .neq (.t 11) (.t 13))] (some [0, 1, 2, 14])) (.cond (.t 14) (some [0, 1, 2]) (.seq (.region [.q 6 (.mv (.c (.bool false)))] (some [6])) .ret) .skip)) (.seq (.seq (.region [.q 15 (.mv (.t 0)), .q 16 (.len false (.t 15)), .q 17 (.mv (.c (.int .i64 0)))] (some [1, 2, 15, 16, 17])) (.block 0 (.loop (.seq (.region [.q 18 (.bin .lss (.t 17) (.t 16))] (some [1, 2, 15, 16, 17, 18])) (.seq (.cond (.t 18) (some [1, 2, 15, 16, 17]) .skip (.exit 0)) (.seq (.block 1 (.seq (.region [.q 19 (.mv (.t 17)), .q 20 (.iaddr 9 (.t 15) (.t 17)), .q 21 (.load true 9 (.t 20)), .q 8 (.alloc [(.int .i64 0), (.int .i64 0), (.str []), (.int .i64 0), (.int .i64 0), (.str []), (.slice .nil 0 []), (.int .i64 0), (.int .i64 0)]), .q 7 (.mv (.t 19)), .w (.store 9 (.t 8) (.t 21))] (some [1, 2, 7, 8, 15, 16, 17])) (.seq (.region [.q 22 (.mv (.t 1)), .q 23 (.mv (.t 7)), .q 24 (.iaddr 9 (.t 22) (.t 23)), .q 25 (.load true 9 (.t 24)), .q 9 (.alloc [(.int .i64 0), (.int .i64 0), (.str []), (.int .i64 0), (.int .i64 0), (.str []), (.slice .nil 0 []), (.int .i64 0), (.int .i64 0)]), .w (.store 9 (.t 9) (.t 25))] (some [1, 2, 8, 9, 15, 16, 17])) (.seq (.region [.q 26 (.mv (.t 2)), .q 27 (.load true 9 (.t 8)), .q 28 (.load true 9 (.t 9)), .q 29 (.callv (.t 26) [(.t 27), (.t 28)]), .q 30 (.un .not (.t 29))] (some [1, 2, 15, 16, 17, 30])) (.cond (.t 30) (some [1, 2, 15, 16, 17]) (.seq (.region [.q 6 (.mv (.c (.bool false)))] (some [6])) .ret) .skip))))) (.region [.q 31 (.bin .add (.t 17) (.c (.int .i64 1))), .q 17 (.mv (.t 31))] (some [1, 2, 15, 16, 17])))))))) (.seq (.region [.q 6 (.mv (.c (.bool true)))] (some [6])) .ret))))
theorem code40 : IsCode Tryz.prog 40 sc40 [(6, none)] 32 := .mk' Tryz.func40 (by kernel_rfl) (by kernel_rfl) (by kernel_rfl) (by kernel_rfl)
/-- quietus/parse.sameArg -/
def sc41 : SC := (.seq (.region [.q 2 (.box (.t 0)), .q 3 (.box (.t 1)), .q 4 (.mv (.c (.bool false)))] (some [2, 3])) (.seq (.seq (.region [.q 5 (.faddr 0 (.t 2)), .q 6 (.load false 1 (.t 5)), .q 7 (.faddr 0 (.t 3)), .q 8 (.load false 1 (.t 7)), .q 9 (.bin .neq (.t 6) (.t 8))] (some [2, 3, 9])) (.cond (.t 9) (some [2, 3]) (.seq (.region [.q 4 (.mv (.c (.bool false)))] (some [4])) .ret) .skip)) (.seq (.seq (.region [.q 10 (.faddr 0 (.t 2)), .q 11 (.load false 1 (.t 10))] (some [2, 3, 11])) (.block 0 (.seq (.seq (.region [.q 13 (.bin .eql (.t 11) (.c (.int .i64 1))), .q 12 (.mv (.t 13))] (some [2, 3, 11, 12])) (.cond (.t 12) (some [2, 3, 11, 12]) .skip (.region [.q 14 (.bin .eql (.t 11) (.c (.int .i64 3))), .q 12 (.mv (.t 14))] (some [2, 3, 11, 12])))) (.cond (.t 12) (some [2, 3, 11]) (.seq (.region [.q 15 (.faddr 2 (.t 2)), .q 16 (.load false 1 (.t 15)), .q 17 (.faddr 2 (.t 3)), .q 18 (.load false 1 (.t 17)), .q 19 (.bins .eql (.t 16) (.t 18)), .q 4 (.mv (.t 19))] (some [4])) .ret) (.seq (.region [.q 21 (.bin .eql (.t 11) (.c (.int .i64 2))), .q 20 (.mv (.t 21))] (some [2, 3, 11, 20])) (.cond (.t 20) (some [2, 3, 11]) (.seq (.region [.q 22 (.faddr 1 (.t 2)), .q 23 (.load false 1 (.t 22)), .q 24 (.faddr 1 (.t 3)), .q 25 (.load false 1 (.t 24)), .q 26 (.bin .eql (.t 23) (.t 25)), .q 4 (.mv (.t 26))] (some [4])) .ret) (.seq (.region [.q 28 (.bin .eql (.t 11) (.c (.int .i64 5))), .q 27 (.mv (.t 28))] (some [2, 3, 27])) (.cond (.t 27) (some [2, 3]) (.seq (.region [.q 29 (.faddr 3 (.t 2)), .q 30 (.load true 5 (.t 29)), .q 31 (.faddr 3 (.t 3)), .q 32 (.load true 5 (.t 31)), .q 33 (.call 15 [(.t 30), (.t 32)]), .q 4 (.mv (.t 33))] (some [4])) .ret) .skip)))))))) (.seq (.region [.q 4 (.mv (.c (.bool true)))] (some [4])) .ret))))
theorem code41 : IsCode Tryz.prog 41 sc41 [(4, none)] 34 := .mk' Tryz.func41 (by kernel_rfl) (by kernel_rfl) (by kernel_rfl) (by kernel_rfl)
/-- (*quietus/parse.printer).expr -/
def sc42 : SC := (.seq (.region [.q 3 (.box (.t 1))] (some [0, 3])) (.seq (.region [⟨(some 10), .mkmap, none⟩, .w (.minsert 0 (.t 10) (.c (.int .i64 5)) (.c (.int .i64 1))), .w (.minsert 0 (.t 10) (.c (.int .i64 6)) (.c (.int .i64 1))), .w (.minsert 0 (.t 10) (.c (.int .i64 20)) (.c (.int .i64 3))), .q 11 (.mv (.t 10)), .q 4 (.mv (.t 11))] (some [0, 3, 4])) (.seq (.region [.q 12 (.faddr 0 (.t 3)), .q 13 (.load false 1 (.t 12))] (some [0, 3, 4, 13])) (.block 0 (.seq (.region [.q 60 (.bin .eql (.t 13) (.c (.int .i64 1))), .q 59 (.mv (.t 60))] (some [0, 3, 4, 13, 59])) (.cond (.t 59) (some [0, 3, 4, 13]) (.region [.q 61 (.mv (.t 0)), .q 62 (.faddr 1 (.t 3)), .q 63 (.load false 1 (.t 62)), .q 64 (.call 62 [(.t 61), (.t 63)])] (some [])) (.seq (.region [.q 66 (.bin .eql (.t 13) (.c (.int .i64 2))), .q 65 (.mv (.t 66))] (some [0, 3, 4, 13, 65])) (.cond (.t 65) (some [0, 3, 4, 13]) (.region [.q 67 (.mv (.t 0)), .q 68 (.faddr 2 (.t 3)), .q 69 (.load false 1 (.t 68)), .q 70 (.call 63 [(.t 67), (.t 69)])] (some [])) (.seq (.region [.q 72 (.bin .eql (.t 13) (.c (.int .i64 3))), .q 71 (.mv (.t 72))] (some [0, 3, 4, 13, 71])) (.cond (.t 71) (some [0, 3, 4, 13]) (.region [.q 73 (.mv (.t 0)), .q 74 (.faddr 2 (.t 3)), .q 75 (.load false 1 (.t 74)), .q 76 (.call 60 [(.t 73), (.t 75)])] (some [])) (.seq (.region [.q 78 (.bin .eql (.t 13) (.c (.int .i64 4))), .q 77 (.mv (.t 78))] (some [0, 3, 4, 13, 77])) (.cond (.t 77) (some [0, 3, 4, 13]) (.seq (.region [.q 79 (.mv (.t 0)), .q 80 (.faddr 2 (.t 3)), .q 81 (.load false 1 (.t 80)), .q 82 (.call 60 [(.t 79), (.t 81)])] (some [0, 3])) (.seq (.region [.q 83 (.mv (.t 0)), .q 84 (.mkslice 1 [(.c (.str [40]))]), .q 85 (.call 61 [(.t 83), (.t 84)])] (some [0, 3])) (.seq (.seq (.region [.q 86 (.faddr 3 (.t 3)), .q 87 (.load false 1 (.t 86)), .q 88 (.len false (.t 87)), .q 89 (.mv (.c (.int .i64 0)))] (some [0, 87, 88, 89])) (.block 1 (.loop (.seq (.region [.q 90 (.bin .lss (.t 89) (.t 88))] (some [0, 87, 88, 89, 90])) (.seq (.cond (.t 90) (some [0, 87, 88, 89]) .skip (.exit 1)) (.seq (.block 2 (.seq (.region [.q 91 (.mv (.t 89)), .q 92 (.iaddr 5 (.t 87) (.t 89)), .q 93 (.load true 5 (.t 92)), .q 6 (.alloc [(.int .i64 0), (.int .i64 0), (.str []), (.slice .nil 0 []), (.int .i64 0)]), .q 5 (.mv (.t 91)), .w (.store 5 (.t 6) (.t 93))] (some [0, 5, 6, 87, 88, 89])) (.seq (.seq (.region [.q 94 (.mv (.t 5)), .q 95 (.bin .gtr (.t 94) (.c (.int .i64 0)))] (some [0, 6, 87, 88, 89, 95])) (.cond (.t 95) (some [0, 6, 87, 88, 89]) (.region [.q 96 (.mv (.t 0)), .q 97 (.mkslice 1 [(.c (.str [44]))]), .q 98 (.call 61 [(.t 96), (.t 97)])] (some [0, 6, 87, 88, 89])) .skip)) (.region [.q 99 (.mv (.t 0)), .q 100 (.load true 5 (.t 6)), .q 101 (.call 68 [(.t 99), (.t 100), (.c (.int .i64 0))])] (some [0, 87, 88, 89]))))) (.region [.q 102 (.bin .add (.t 89) (.c (.int .i64 1))), .q 89 (.mv (.t 102))] (some [0, 87, 88, 89])))))))) (.region [.q 103 (.mv (.t 0)), .q 104 (.mkslice 1 [(.c (.str [41]))]), .q 105 (.call 61 [(.t 103), (.t 104)])] (some []))))) (.seq (.seq (.region [.q 107 (.bin .eql (.t 13) (.c (.int .i64 5))), .q 106 (.mv (.t 107))] (some [0, 3, 4, 13, 106])) (.cond (.t 106) (some [0, 3, 4, 13, 106]) .skip (.seq (.region [.q 108 (.bin .eql (.t 13) (.c (.int .i64 6))), .q 106 (.mv (.t 108))] (some [0, 3, 4, 13, 106])) (.cond (.t 106) (some [0, 3, 4, 13, 106]) .skip (.region [.q 109 (.bin .eql (.t 13) (.c (.int .i64 20))), .q 106 (.mv (.t 109))] (some [0, 3, 4, 106])))))) (.cond (.t 106) (some [0, 3, 4]) (.seq (.seq (.region [.q 110 (.faddr 3 (.t 3)), .q 111 (.load false 1 (.t 110)), .q 112 (.len false (.t 111)), .q 113 (.mv (.t 4)), .q 114 (.faddr 0 (.t 3)), .q 115 (.load false 1 (.t 114)), .q 116 (.mlook 0 [(.int .i64 0)] false false (.t 113) (.t 115)), .q 117 (.bin .neq (.t 112) (.t 116))] (some [0, 3, 117])) (.cond (.t 117) (some [0, 3]) (.seq (.region [.q 118 (.mv (.t 0)), .q 119 (.nilchk (.t 118)), .q 120 (.faddr 1 (.t 119)), .w (.store 1 (.t 120) (.c (.bool true)))] (some [])) .ret) .skip)) (.seq (.region [.q 121 (.faddr 0 (.t 3)), .q 122 (.load false 1 (.t 121))] (some [0, 3, 122])) (.block 3 (.seq (.region [.q 148 (.bin .eql (.t 122) (.c (.int .i64 5))), .q 147 (.mv (.t 148))] (some [0, 3, 122, 147])) (.cond (.t 147) (some [0, 3, 122]) (.seq (.region [.q 149 (.mv (.t 0)), .q 150 (.mkslice 1 [(.c (.str [33]))]), .q 151 (.call 61 [(.t 149), (.t 150)])] (some [0, 3])) (.region [.q 152 (.mv (.t 0)), .q 153 (.faddr 3 (.t 3)), .q 154 (.load false 1 (.t 153)), .q 155 (.iaddr 5 (.t 154) (.c (.int .i64 0))), .q 156 (.load true 5 (.t 155)), .q 157 (.call 68 [(.t 152), (.t 156), (.c (.int .i64 3))])] (some []))) (.seq (.region [.q 159 (.bin .eql (.t 122) (.c (.int .i64 6))), .q 158 (.mv (.t 159))] (some [0, 3, 158])) (.cond (.t 158) (some [0, 3]) (.seq (.region [.q 160 (.mv (.t 0)), .q 161 (.mkslice 1 [(.c (.str [45]))]), .q 162 (.call 61 [(.t 160), (.t 161)])] (some [0, 3])) (.region [.q 163 (.mv (.t 0)), .q 164 (.faddr 3 (.t 3)), .q 165 (.load false 1 (.t 164)), .q 166 (.iaddr 5 (.t 165) (.c (.int .i64 0))), .q 167 (.load true 5 (.t 166)), .q 168 (.call 68 [(.t 163), (.t 167), (.c (.int .i64 7))])] (some []))) (.seq (.region [.q 123 (.mv (.t 0)), .q 124 (.faddr 3 (.t 3)), .q 125 (.load false 1 (.t 124)), .q 126 (.iaddr 5 (.t 125) (.c (.int .i64 0))), .q 127 (.load true 5 (.t 126)), .q 128 (.call 68 [(.t 123), (.t 127), (.c (.int .i64 1))])] (some [0, 3])) (.seq (.region [.q 129 (.mv (.t 0)), .q 130 (.mkslice 1 [(.c (.str [63]))]), .q 131 (.call 61 [(.t 129), (.t 130)])] (some [0, 3])) (.seq (.region [.q 132 (.mv (.t 0)), .q 133 (.faddr 3 (.t 3)), .q 134 (.load false 1 (.t 133)), .q 135 (.iaddr 5 (.t 134) (.c (.int .i64 1))), .q 136 (.load true 5 (.t 135)), .q 137 (.call 68 [(.t 132), (.t 136), (.c (.int .i64 0))])] (some [0, 3])) (.seq (.region [.q 138 (.mv (.t 0)), .q 139 (.mkslice 1 [(.c (.str [58]))]), .q 140 (.call 61 [(.t 138), (.t 139)])] (some [0, 3])) (.region [.q 141 (.mv (.t 0)), .q 142 (.faddr 3 (.t 3)), .q 143 (.load false 1 (.t 142)), .q 144 (.iaddr 5 (.t 143) (.c (.int .i64 2))), .q 145 (.load true 5 (.t 144)), .q 146 (.call 68 [(.t 141), (.t 145), (.c (.int .i64 0))])] (some []))))))))))))) (.seq (.region [.q 14 (.call 70 []), .q 15 (.mkfn 71 [] [(.t 3)]), .q 16 (.call 69 [(.t 14), (.t 15)]), .q 7 (.mv (.t 16))] (some [0, 3, 7])) (.seq (.seq (.region [.q 17 (.mv (.t 7)), .q 18 (.bin .lss (.t 17) (.c (.int .i64 0))), .q 19 (.mv (.t 18)), ⟨(some 20), (.faddr 3 (.t 3)), (some (19, false))⟩, ⟨(some 21), (.load false 1 (.t 20)), (some (19, false))⟩, ⟨(some 22), (.len false (.t 21)), (some (19, false))⟩, ⟨(some 23), (.bin .neq (.t 22) (.c (.int .i64 2))), (some (19, false))⟩, .q 24 (.pick (.t 19) (.c (.bool true)) (.t 23))] (some [0, 3, 7, 24])) (.cond (.t 24) (some [0, 3, 7]) (.seq (.region [.q 25 (.mv (.t 0)), .q 26 (.nilchk (.t 25)), .q 27 (.faddr 1 (.t 26)), .w (.store 1 (.t 27) (.c (.bool true)))] (some [])) .ret) .skip)) (.seq (.region [.q 28 (.call 70 []), .q 29 (.mv (.t 7)), .q 30 (.iaddr 3 (.t 28) (.t 29)), .q 31 (.load true 3 (.t 30)), .q 8 (.alloc [(.str []), (.int .i64 0), (.int .i64 0)]), .w (.store 3 (.t 8) (.t 31))] (some [0, 3, 8])) (.seq (.region [.q 32 (.faddr 2 (.t 8)), .q 33 (.load false 1 (.t 32)), .q 9 (.mv (.t 33))] (some [0, 3, 8, 9])) (.seq (.seq (.region [.q 34 (.mv (.t 9)), .q 35 (.bin .eql (.t 34) (.c (.int .i64 4)))] (some [0, 3, 8, 9, 35])) (.cond (.t 35) (some [0, 3, 8, 9]) (.region [.q 9 (.mv (.c (.int .i64 5)))] (some [0, 3, 8, 9])) .skip)) (.seq (.region [.q 36 (.mv (.t 0)), .q 37 (.faddr 3 (.t 3)), .q 38 (.load false 1 (.t 37)), .q 39 (.iaddr 5 (.t 38) (.c (.int .i64 0))), .q 40 (.load true 5 (.t 39)), .q 41 (.mv (.t 9)), .q 42 (.call 68 [(.t 36), (.t 40), (.t 41)])] (some [0, 3, 8, 9])) (.seq (.region [.q 43 (.mv (.t 0)), .q 44 (.faddr 0 (.t 8)), .q 45 (.load false 1 (.t 44)), .q 46 (.mkslice 1 [(.t 45)]), .q 47 (.call 61 [(.t 43), (.t 46)])] (some [0, 3, 8, 9])) (.region [.q 48 (.mv (.t 0)), .q 49 (.faddr 3 (.t 3)), .q 50 (.load false 1 (.t 49)), .q 51 (.iaddr 5 (.t 50) (.c (.int .i64 1))), .q 52 (.load true 5 (.t 51)), .q 53 (.mv (.t 9)), .q 54 (.faddr 2 (.t 8)), .q 55 (.load false 1 (.t 54)), .q 56 (.bin .add (.t 55) (.c (.int .i64 1))), .q 57 (.mm true [(.t 53), (.t 56)]), .q 58 (.call 68 [(.t 48), (.t 52), (.t 57)])] (some [])))))))))))))))))))))))
theorem code42 : IsCode Tryz.prog 42 sc42 [] 169 := .mk' Tryz.func42 (by kernel_rfl) (by kernel_rfl) (by kernel_rfl) (by kernel_rfl)
/-- (*quietus/parse.printer).name -/
def sc60 : SC := (.seq (.region [.q 4 (.mv (.f 87))] (some [0, 1, 4])) (.seq (.region [.q 7 (.mv (.t 1)), .q 8 (.len true (.t 7)), .q 9 (.bin .gtr (.t 8) (.c (.int .i64 0))), .q 10 (.mv (.t 9)), ⟨(some 11), (.mv (.t 1)), (some (10, true))⟩, ⟨(some 12), (.len true (.t 11)), (some (10, true))⟩, ⟨(some 13), (.bin .leq (.t 12) (.c (.int .i64 32))), (some (10, true))⟩, .q 14 (.pick (.t 10) (.t 13) (.c (.bool false))), .q 5 (.mv (.t 14))] (some [0, 1, 4, 5])) (.seq (.seq (.region [.q 15 (.mv (.t 1)), .q 16 (.len true (.t 15)), .q 17 (.mv (.c (.int .i64 0)))] (some [0, 1, 4, 5, 16, 17])) (.block 0 (.loop (.seq (.region [.q 18 (.bin .lss (.t 17) (.t 16))] (some [0, 1, 4, 5, 16, 17, 18])) (.seq (.cond (.t 18) (some [0, 1, 4, 5, 16, 17]) .skip (.exit 0)) (.seq (.block 1 (.seq (.region [.q 19 (.mv (.t 17)), .q 6 (.mv (.t 19))] (some [0, 1, 4, 5, 6, 16, 17])) (.region [.q 20 (.mv (.t 5)), .q 21 (.mv (.t 20)), ⟨(some 22), (.mv (.t 4)), (some (21, true))⟩, ⟨(some 23), (.mv (.t 1)), (some (21, true))⟩, ⟨(some 24), (.mv (.t 6)), (some (21, true))⟩, ⟨(some 25), (.idxs (.t 23) (.t 24)), (some (21, true))⟩, ⟨(some 26), (.callv (.t 22) [(.t 25)]), (some (21, true))⟩, ⟨(some 27), (.mv (.t 26)), (some (21, true))⟩, ⟨(some 28), (.mv (.t 6)), (some (27, false))⟩, ⟨(some 29), (.bin .gtr (.t 28) (.c (.int .i64 0))), (some (27, false))⟩, ⟨(some 30), (.mv (.t 29)), (some (27, false))⟩, ⟨(some 31), (.mv (.t 1)), (some (30, true))⟩, ⟨(some 32), (.mv (.t 6)), (some (30, true))⟩, ⟨(some 33), (.idxs (.t 31) (.t 32)), (some (30, true))⟩, ⟨(some 34), (.bin .geq (.t 33) (.c (.int .u8 48))), (some (30, true))⟩, ⟨(some 35), (.pick (.t 30) (.t 34) (.c (.bool false))), (some (27, false))⟩, ⟨(some 36), (.mv (.t 35)), (some (27, false))⟩, ⟨(some 37), (.mv (.t 1)), (some (36, true))⟩, ⟨(some 38), (.mv (.t 6)), (some (36, true))⟩, ⟨(some 39), (.idxs (.t 37) (.t 38)), (some (36, true))⟩, ⟨(some 40), (.bin .leq (.t 39) (.c (.int .u8 57))), (some (36, true))⟩, ⟨(some 41), (.pick (.t 36) (.t 40) (.c (.bool false))), (some (27, false))⟩, ⟨(some 42), (.pick (.t 27) (.c (.bool true)) (.t 41)), (some (21, true))⟩, .q 43 (.pick (.t 21) (.t 42) (.c (.bool false))), .q 5 (.mv (.t 43))] (some [0, 1, 4, 5, 16, 17])))) (.region [.q 44 (.bin .add (.t 17) (.c (.int .i64 1))), .q 17 (.mv (.t 44))] (some [0, 1, 4, 5, 16, 17])))))))) (.seq (.region [.q 45 (.mv (.t 0)), .q 46 (.mv (.t 0)), .q 47 (.nilchk (.t 46)), .q 48 (.faddr 1 (.t 47)), .q 49 (.load false 1 (.t 48)), .q 50 (.mv (.t 49)), ⟨(some 51), (.mv (.t 5)), (some (50, false))⟩, ⟨(some 52), (.un .not (.t 51)), (some (50, false))⟩, .q 53 (.pick (.t 50) (.c (.bool true)) (.t 52)), .q 54 (.nilchk (.t 45)), .q 55 (.faddr 1 (.t 54)), .w (.store 1 (.t 55) (.t 53))] (some [0, 1])) (.region [.q 56 (.mv (.t 0)), .q 57 (.mv (.t 0)), .q 58 (.nilchk (.t 57)), .q 59 (.faddr 0 (.t 58)), .q 60 (.load false 1 (.t 59)), .q 61 (.mv (.t 1)), .q 62 (.build [(.int .i64 0), (.int .i64 0), (.str []), (.int .i64 0)] [(0, (1, (.c (.int .i64 1)))), (2, (1, (.t 61)))]), .q 63 (.mkslice 4 [(.t 62)]), .q 64 (.append 4 40 (.t 60) (.t 63)), .q 65 (.nilchk (.t 56)), .q 66 (.faddr 0 (.t 65)), .w (.store 1 (.t 66) (.t 64))] (some []))))))
theorem code60 : IsCode Tryz.prog 60 sc60 [] 67 := .mk' Tryz.func60 (by kernel_rfl) (by kernel_rfl) (by kernel_rfl) (by kernel_rfl)
/-- (*quietus/parse.printer).signs -/
def sc61 : SC := (.seq (.region [.q 6 (.mv (.t 1)), .q 7 (.len false (.t 6)), .q 8 (.mv (.c (.int .i64 0)))] (some [0, 6, 7, 8])) (.block 0 (.loop (.seq (.region [.q 9 (.bin .lss (.t 8) (.t 7))] (some [0, 6, 7, 8, 9])) (.seq (.cond (.t 9) (some [0, 6, 7, 8]) .skip (.exit 0)) (.seq (.block 1 (.seq (.region [.q 10 (.iaddr 1 (.t 6) (.t 8)), .q 11 (.load false 1 (.t 10)), .q 5 (.mv (.t 11))] (some [0, 5, 6, 7, 8])) (.region [.q 12 (.mv (.t 0)), .q 13 (.mv (.t 0)), .q 14 (.nilchk (.t 13)), .q 15 (.faddr 0 (.t 14)), .q 16 (.load false 1 (.t 15)), .q 17 (.mv (.t 5)), .q 18 (.build [(.int .i64 0), (.int .i64 0), (.str []), (.int .i64 0)] [(0, (1, (.c (.int .i64 4)))), (2, (1, (.t 17)))]), .q 19 (.mkslice 4 [(.t 18)]), .q 20 (.append 4 40 (.t 16) (.t 19)), .q 21 (.nilchk (.t 12)), .q 22 (.faddr 0 (.t 21)), .w (.store 1 (.t 22) (.t 20))] (some [0, 6, 7, 8])))) (.region [.q 23 (.bin .add (.t 8) (.c (.int .i64 1))), .q 8 (.mv (.t 23))] (some [0, 6, 7, 8]))))))))
theorem code61 : IsCode Tryz.prog 61 sc61 [] 24 := .mk' Tryz.func61 (by kernel_rfl) (by kernel_rfl) (by kernel_rfl) (by kernel_rfl)
/-- (*quietus/parse.printer).number -/
def sc62 : SC := (.seq (.region [.q 4 (.mv (.t 0)), .q 5 (.mv (.t 0)), .q 6 (.nilchk (.t 5)), .q 7 (.faddr 1 (.t 6)), .q 8 (.load false 1 (.t 7)), .q 9 (.mv (.t 8)), ⟨(some 10), (.mv (.t 1)), (some (9, false))⟩, ⟨(some 11), (.bin .lss (.t 10) (.c (.int .i64 0))), (some (9, false))⟩, .q 12 (.pick (.t 9) (.c (.bool true)) (.t 11)), .q 13 (.mv (.t 12)), ⟨(some 14), (.mv (.t 1)), (some (13, false))⟩, ⟨(some 15), (.bin .gtr (.t 14) (.c (.int .i64 999999999999999))), (some (13, false))⟩, .q 16 (.pick (.t 13) (.c (.bool true)) (.t 15)), .q 17 (.nilchk (.t 4)), .q 18 (.faddr 1 (.t 17)), .w (.store 1 (.t 18) (.t 16))] (some [0, 1])) (.region [.q 19 (.mv (.t 0)), .q 20 (.mv (.t 0)), .q 21 (.nilchk (.t 20)), .q 22 (.faddr 0 (.t 21)), .q 23 (.load false 1 (.t 22)), .q 24 (.mv (.t 1)), .q 25 (.build [(.int .i64 0), (.int .i64 0), (.str []), (.int .i64 0)] [(0, (1, (.c (.int .i64 2)))), (3, (1, (.t 24)))]), .q 26 (.mkslice 4 [(.t 25)]), .q 27 (.append 4 40 (.t 23) (.t 26)), .q 28 (.nilchk (.t 19)), .q 29 (.faddr 0 (.t 28)), .w (.store 1 (.t 29) (.t 27))] (some [])))
theorem code62 : IsCode Tryz.prog 62 sc62 [] 30 := .mk' Tryz.func62 (by kernel_rfl) (by kernel_rfl) (by kernel_rfl) (by kernel_rfl)
/-- (*quietus/parse.printer).text -/
def sc63 : SC := (.seq (.region [.q 5 (.mv (.t 0)), .q 6 (.mv (.t 0)), .q 7 (.nilchk (.t 6)), .q 8 (.faddr 1 (.t 7)), .q 9 (.load false 1 (.t 8)), .q 10 (.mv (.t 9)), ⟨(some 11), (.mv (.t 1)), (some (10, false))⟩, ⟨(some 12), (.len true (.t 11)), (some (10, false))⟩, ⟨(some 13), (.bin .gtr (.t 12) (.c (.int .i64 200))), (some (10, false))⟩, .q 14 (.pick (.t 10) (.c (.bool true)) (.t 13)), .q 15 (.nilchk (.t 5)), .q 16 (.faddr 1 (.t 15)), .w (.store 1 (.t 16) (.t 14))] (some [0, 1])) (.seq (.seq (.region [.q 17 (.mv (.t 1)), .q 18 (.len true (.t 17)), .q 19 (.mv (.c (.int .i64 0)))] (some [0, 1, 18, 19])) (.block 0 (.loop (.seq (.region [.q 20 (.bin .lss (.t 19) (.t 18))] (some [0, 1, 18, 19, 20])) (.seq (.cond (.t 20) (some [0, 1, 18, 19]) .skip (.exit 0)) (.seq (.block 1 (.seq (.region [.q 21 (.mv (.t 19)), .q 4 (.mv (.t 21))] (some [0, 1, 4, 18, 19])) (.region [.q 22 (.mv (.t 0)), .q 23 (.mv (.t 0)), .q 24 (.nilchk (.t 23)), .q 25 (.faddr 1 (.t 24)), .q 26 (.load false 1 (.t 25)), .q 27 (.mv (.t 26)), ⟨(some 28), (.mv (.t 1)), (some (27, false))⟩, ⟨(some 29), (.mv (.t 4)), (some (27, false))⟩, ⟨(some 30), (.idxs (.t 28) (.t 29)), (some (27, false))⟩, ⟨(some 31), (.bin .neq (.t 30) (.c (.int .u8 10))), (some (27, false))⟩, ⟨(some 32), (.mv (.t 31)), (some (27, false))⟩, ⟨(some 33), (.mv (.t 1)), (some (32, true))⟩, ⟨(some 34), (.mv (.t 4)), (some (32, true))⟩, ⟨(some 35), (.idxs (.t 33) (.t 34)), (some (32, true))⟩, ⟨(some 36), (.bin .lss (.t 35) (.c (.int .u8 32))), (some (32, true))⟩, ⟨(some 37), (.mv (.t 36)), (some (32, true))⟩, ⟨(some 38), (.mv (.t 1)), (some (37, false))⟩, ⟨(some 39), (.mv (.t 4)), (some (37, false))⟩, ⟨(some 40), (.idxs (.t 38) (.t 39)), (some (37, false))⟩, ⟨(some 41), (.bin .gtr (.t 40) (.c (.int .u8 126))), (some (37, false))⟩, ⟨(some 42), (.pick (.t 37) (.c (.bool true)) (.t 41)), (some (32, true))⟩, ⟨(some 43), (.pick (.t 32) (.t 42) (.c (.bool false))), (some (27, false))⟩, .q 44 (.pick (.t 27) (.c (.bool true)) (.t 43)), .q 45 (.nilchk (.t 22)), .q 46 (.faddr 1 (.t 45)), .w (.store 1 (.t 46) (.t 44))] (some [0, 1, 18, 19])))) (.region [.q 47 (.bin .add (.t 19) (.c (.int .i64 1))), .q 19 (.mv (.t 47))] (some [0, 1, 18, 19])))))))) (.region [.q 48 (.mv (.t 0)), .q 49 (.mv (.t 0)), .q 50 (.nilchk (.t 49)), .q 51 (.faddr 0 (.t 50)), .q 52 (.load false 1 (.t 51)), .q 53 (.mv (.t 1)), .q 54 (.build [(.int .i64 0), (.int .i64 0), (.str []), (.int .i64 0)] [(0, (1, (.c (.int .i64 3)))), (2, (1, (.t 53)))]), .q 55 (.mkslice 4 [(.t 54)]), .q 56 (.append 4 40 (.t 52) (.t 55)), .q 57 (.nilchk (.t 48)), .q 58 (.faddr 0 (.t 57)), .w (.store 1 (.t 58) (.t 56))] (some []))))
theorem code63 : IsCode Tryz.prog 63 sc63 [] 59 := .mk' Tryz.func63 (by kernel_rfl) (by kernel_rfl) (by kernel_rfl) (by kernel_rfl)
/-- (*quietus/parse.printer).operand -/
def sc68 : SC := (.seq (.region [.q 4 (.box (.t 1))] (some [0, 2, 4])) (.seq (.seq (.region [.q 6 (.load true 5 (.t 4)), .q 7 (.call 94 [(.t 6)]), .q 8 (.mv (.t 2)), .q 9 (.bin .geq (.t 7) (.t 8))] (some [0, 4, 9])) (.cond (.t 9) (some [0, 4]) (.seq (.region [.q 10 (.mv (.t 0)), .q 11 (.load true 5 (.t 4)), .q 12 (.call 42 [(.t 10), (.t 11)])] (some [])) .ret) .skip)) (.seq (.region [.q 13 (.mv (.t 0)), .q 14 (.mkslice 1 [(.c (.str [40]))]), .q 15 (.call 61 [(.t 13), (.t 14)])] (some [0, 4])) (.seq (.region [.q 16 (.mv (.t 0)), .q 17 (.load true 5 (.t 4)), .q 18 (.call 42 [(.t 16), (.t 17)])] (some [0])) (.region [.q 19 (.mv (.t 0)), .q 20 (.mkslice 1 [(.c (.str [41]))]), .q 21 (.call 61 [(.t 19), (.t 20)])] (some []))))))
theorem code68 : IsCode Tryz.prog 68 sc68 [] 22 := .mk' Tryz.func68 (by kernel_rfl) (by kernel_rfl) (by kernel_rfl) (by kernel_rfl)
/-- (*quietus/parse.printer).expr$1 -/
def sc71 : SC := (.seq (.region [.q 2 (.box (.t 0)), .q 3 (.mv (.c (.bool false)))] (some [1, 2])) (.seq (.region [.q 4 (.faddr 1 (.t 2)), .q 5 (.load false 1 (.t 4)), .q 6 (.faddr 0 (.t 1)), .q 7 (.load false 1 (.t 6)), .q 8 (.bin .eql (.t 5) (.t 7)), .q 3 (.mv (.t 8))] (some [3])) .ret))
theorem code71 : IsCode Tryz.prog 71 sc71 [(3, none)] 9 := .mk' Tryz.func71 (by kernel_rfl) (by kernel_rfl) (by kernel_rfl) (by kernel_rfl)
/-- (*quietus/parse.printer).name$1 -/
def sc87 : SC := (.seq (.region [.q 2 (.mv (.c (.bool false)))] (some [0])) (.seq (.region [.q 3 (.mv (.t 0)), .q 4 (.bin .or (.t 3) (.c (.int .u8 32))), .q 5 (.bin .geq (.t 4) (.c (.int .u8 97))), .q 6 (.mv (.t 5)), ⟨(some 7), (.mv (.t 0)), (some (6, true))⟩, ⟨(some 8), (.bin .or (.t 7) (.c (.int .u8 32))), (some (6, true))⟩, ⟨(some 9), (.bin .leq (.t 8) (.c (.int .u8 122))), (some (6, true))⟩, .q 10 (.pick (.t 6) (.t 9) (.c (.bool false))), .q 11 (.mv (.t 10)), ⟨(some 12), (.mv (.t 0)), (some (11, false))⟩, ⟨(some 13), (.bin .eql (.t 12) (.c (.int .u8 95))), (some (11, false))⟩, .q 14 (.pick (.t 11) (.c (.bool true)) (.t 13)), .q 2 (.mv (.t 14))] (some [2])) .ret))
theorem code87 : IsCode Tryz.prog 87 sc87 [(2, none)] 15 := .mk' Tryz.func87 (by kernel_rfl) (by kernel_rfl) (by kernel_rfl) (by kernel_rfl)
/-- quietus/parse.level -/
def sc94 : SC := (.seq (.region [.q 1 (.box (.t 0)), .q 2 (.mv (.c (.int .i64 0)))] (some [1])) (.seq (.seq (.region [.q 5 (.faddr 0 (.t 1)), .q 6 (.load false 1 (.t 5))] (some [1, 6])) (.block 0 (.seq (.region [.q 8 (.bin .eql (.t 6) (.c (.int .i64 20))), .q 7 (.mv (.t 8))] (some [1, 6, 7])) (.cond (.t 7) (some [1, 6]) (.seq (.region [.q 2 (.mv (.c (.int .i64 0)))] (some [2])) .ret) (.seq (.region [.q 10 (.bin .eql (.t 6) (.c (.int .i64 5))), .q 9 (.mv (.t 10))] (some [1, 6, 9])) (.cond (.t 9) (some [1, 6]) (.seq (.region [.q 2 (.mv (.c (.int .i64 3)))] (some [2])) .ret) (.seq (.region [.q 12 (.bin .eql (.t 6) (.c (.int .i64 6))), .q 11 (.mv (.t 12))] (some [1, 11])) (.cond (.t 11) (some [1]) (.seq (.region [.q 2 (.mv (.c (.int .i64 7)))] (some [2])) .ret) .skip)))))))) (.seq (.seq (.region [.q 13 (.call 70 []), .q 14 (.len false (.t 13)), .q 15 (.mv (.c (.int .i64 0)))] (some [1, 13, 14, 15])) (.block 1 (.loop (.seq (.region [.q 16 (.bin .lss (.t 15) (.t 14))] (some [1, 13, 14, 15, 16])) (.seq (.cond (.t 16) (some [1, 13, 14, 15]) .skip (.exit 1)) (.seq (.block 2 (.seq (.region [.q 17 (.iaddr 3 (.t 13) (.t 15)), .q 18 (.load true 3 (.t 17)), .q 4 (.alloc [(.str []), (.int .i64 0), (.int .i64 0)]), .w (.store 3 (.t 4) (.t 18))] (some [1, 4, 13, 14, 15])) (.seq (.region [.q 19 (.faddr 1 (.t 4)), .q 20 (.load false 1 (.t 19)), .q 21 (.faddr 0 (.t 1)), .q 22 (.load false 1 (.t 21)), .q 23 (.bin .eql (.t 20) (.t 22))] (some [1, 4, 13, 14, 15, 23])) (.cond (.t 23) (some [1, 4, 13, 14, 15]) (.seq (.region [.q 24 (.faddr 2 (.t 4)), .q 25 (.load false 1 (.t 24)), .q 2 (.mv (.t 25))] (some [2])) .ret) .skip)))) (.region [.q 26 (.bin .add (.t 15) (.c (.int .i64 1))), .q 15 (.mv (.t 26))] (some [1, 13, 14, 15])))))))) (.seq (.region [.q 2 (.mv (.c (.int .i64 8)))] (some [2])) .ret))))
theorem code94 : IsCode Tryz.prog 94 sc94 [(2, none)] 27 := .mk' Tryz.func94 (by kernel_rfl) (by kernel_rfl) (by kernel_rfl) (by kernel_rfl)
end Go.Shadow.Lex

/- Proved: parse.SameExpr and parse.Same compare expressions and forms but for offsets. Conditions: at most a million parts. -/
namespace Go.Shadow.Lex
open Go Go.RowKit Go.Proofs

mutual
/-- How many parts an expression has. -/
def exN : Ex → Nat
  | .mk _ _ _ kids _ => 1 + exNs kids
def exNs : List Ex → Nat
  | [] => 0
  | e :: r => exN e + exNs r
end
theorem exN_pos (e : Ex) : 1 ≤ exN e := by cases e; simp [exN]
theorem exNs_len : ∀ l : List Ex, l.length ≤ exNs l
  | [] => Nat.le_refl _
  | e :: r => by have := exN_pos e; have := exNs_len r; simp [exNs]; omega
theorem exNs_mem : ∀ {l : List Ex} {x : Ex}, x ∈ l → exN x ≤ exNs l
  | e :: r, x, h => by
    rcases List.mem_cons.1 h with rfl | h
    · simp [exNs]
    · have := exNs_mem h; simp [exNs]; omega
mutual
/-- Expressions are the same but for offsets. -/
def sameE : Ex → Ex → Bool
  | .mk op n s kids _, y => match y with
    | .mk op' n' s' kids' _ => if op ≠ op' then false else if op = 1 then n == n' else if op = 2 ∨ op = 3 then s == s' else if op = 4 ∧ s ≠ s' then false else sameEs kids kids'
def sameEs : List Ex → List Ex → Bool
  | [], l => match l with
    | [] => true
    | _ :: _ => false
  | x :: xs, l => match l with
    | [] => false
    | y :: ys => sameE x y && sameEs xs ys
end
/-- Lists are the same, one by one. -/
def eqF {α : Type} (g : α → α → Bool) : List α → List α → Bool
  | [], [] => true
  | x :: xs, y :: ys => g x y && eqF g xs ys
  | _, _ => false
theorem sameEs_eqF : ∀ l m : List Ex, sameEs l m = eqF sameE l m
  | [], [] => rfl
  | [], _ :: _ => rfl
  | _ :: _, [] => rfl
  | x :: xs, y :: ys => by simp [sameEs, eqF, sameEs_eqF xs ys]
theorem eqF_len {α : Type} {g : α → α → Bool} : ∀ {l m : List α}, l.length ≠ m.length → eqF g l m = false
  | [], [], h => absurd rfl h
  | [], _ :: _, _ => rfl
  | _ :: _, [], _ => rfl
  | x :: xs, y :: ys, h => by simp only [eqF]; rw [eqF_len (l := xs) (m := ys) (by simpa using h), Bool.and_false]
theorem eqF_step {α : Type} {g : α → α → Bool} {l m : List α} {i : Nat} {x y : α} (hx : l[i]? = some x) (hy : m[i]? = some y) : eqF g (l.drop i) (m.drop i) = (g x y && eqF g (l.drop (i + 1)) (m.drop (i + 1))) := by
  obtain ⟨h1, h2⟩ := List.getElem?_eq_some_iff.1 hx
  obtain ⟨h3, h4⟩ := List.getElem?_eq_some_iff.1 hy
  rw [List.drop_eq_getElem_cons h1, List.drop_eq_getElem_cons h3, h2, h4]; rfl
theorem eqX_ret {k : FuncId} {g : Ex → Ex → Bool} {xs ys : List Ex} (t t' : Tag) (hlen : xs.length ≤ 1000000) (hg : ∀ x ∈ xs, ∀ y ∈ ys, SRet Tryz.prog LG k ([] ++ [.agg (exV x), .agg (exV y)] ++ []) (.bool (g x y))) :
    SRet Tryz.prog LG 34 [.slice t 5 (xs.map exV), .slice t' 5 (ys.map exV), .func k [] []] (.bool (eqF g xs ys)) := by
  intro σ
  refine code34.call hm (by simp) ?_
  refine Test.split (fun h => ?_) (fun h => ?_)
  · refine Ret.mk' ⟨rfl, ?_⟩
    rw [eqF_len (fun e => h (by simp [e]))]
  have hl : xs.length = ys.length := by
    simp only [List.length_map] at h
    omega
  refine ⟨fun m sl σ' => ∃ i : Nat, sl = ofL [(1, some (.slice t' 5 (ys.map exV))), (2, some (.func k [] [])), (15, some (.slice t 5 (xs.map exV))), (16, some (.int .i64 xs.length)), (17, some (.int .i64 i))] ∧ Over σ σ' ∧ i ≤ xs.length ∧ eqF g xs ys = eqF g (xs.drop i) (ys.drop i) ∧ m = xs.length - i,
    _, ⟨0, by simp only [List.length_map]; rfl, .refl _, Nat.zero_le _, by simp, rfl⟩, ?_⟩
  rintro m sl σ' ⟨i, rfl, o, hi, he, rfl⟩
  refine Test.split (fun hlt => ?_) (fun hlt => ?_)
  · have hlt : i < xs.length := by omega
    obtain ⟨x, hx⟩ : ∃ x, xs[i]? = some x := ⟨_, List.getElem?_eq_getElem hlt⟩
    obtain ⟨y, hy⟩ : ∃ y, ys[i]? = some y := ⟨_, List.getElem?_eq_getElem (by omega)⟩
    have hgxy := hg x (List.mem_of_getElem? hx) y (List.mem_of_getElem? hy)
    have hst := eqF_step (g := g) hx hy
    have hxV : (xs.map exV)[i]? = some (exV x) := by simp [hx]
    have hyV : (ys.map exV)[i]? = some (exV y) := by simp [hy]
    obtain ⟨op, n, s, kids, a⟩ := x
    obtain ⟨op', n', s', kids', a'⟩ := y
    refine Sure.mk' (.inl rfl) ?_
    refine IdxE.mk' i _ rfl hxV ?_
    refine ⟨by simp [exV], ?_⟩
    intro b8 hb8
    refine Sure.mk' rfl ?_
    refine Store.mk' (exV ⟨op, n, s, kids, a⟩) put_box (Nat.le_refl _) rfl (fun σ1 e1 => ?_)
    rw [put_put] at e1
    have q1 := over_put (cs := exV ⟨op, n, s, kids, a⟩) (Over.refl _) hb8
    rw [← e1] at q1
    have h81 : σ1.box b8 = some (exV ⟨op, n, s, kids, a⟩) := by rw [e1]; exact put_box
    refine Sure.mk' (.inl rfl) ?_
    refine IdxE.mk' i _ rfl hyV ?_
    refine ⟨by simp [exV], ?_⟩
    intro b9 hb9
    refine Sure.mk' rfl ?_
    refine Store.mk' (exV ⟨op', n', s', kids', a'⟩) put_box (Nat.le_refl _) rfl (fun σ2 e2 => ?_)
    rw [put_put] at e2
    have q2 := over_put (cs := exV ⟨op', n', s', kids', a'⟩) (Over.refl _) hb9
    rw [← e2] at q2
    have h92 : σ2.box b9 = some (exV ⟨op', n', s', kids', a'⟩) := by rw [e2]; exact put_box
    have h82 := q2.box _ _ h81
    have o2 := over_tr o (over_tr q1 q2)
    clear e1 e2 hb8 hb9 q1 q2
    refine Load.mk' h82 (Nat.le_refl _) ?_
    refine Load.mk' h92 (Nat.le_refl _) ?_
    refine CallK.pure hgxy ?_
    cases hv : g ⟨op, n, s, kids, a⟩ ⟨op', n', s', kids', a'⟩
    · refine Ret.weak (.refl _) (σ' := σ) o2 ⟨rfl, ?_⟩
      rw [he, hst, hv, Bool.false_and]
    · refine Arith.i64 ((i + 1 : Nat) : Int) (by simp) (by omega) ?_
      refine ⟨_, _, ?_, Forget.refl _, i + 1, rfl, o2, by omega, ?_, rfl⟩
      · omega
      · rw [he, hst, hv, Bool.true_and]
  · refine Ret.weak (.refl _) (σ' := σ) o ⟨rfl, ?_⟩
    rw [he, List.drop_eq_nil_of_le (by omega), List.drop_eq_nil_of_le (by omega)]; rfl
theorem eqA_ret {k : FuncId} {g : Ar → Ar → Bool} {xs ys : List Ar} (t t' : Tag) (hlen : xs.length ≤ 1000000) (hg : ∀ x ∈ xs, ∀ y ∈ ys, SRet Tryz.prog LG k ([] ++ [.agg (arV x), .agg (arV y)] ++ []) (.bool (g x y))) :
    SRet Tryz.prog LG 40 [.slice t 9 (xs.map arV), .slice t' 9 (ys.map arV), .func k [] []] (.bool (eqF g xs ys)) := by
  intro σ
  refine code40.call hm (by simp) ?_
  refine Test.split (fun h => ?_) (fun h => ?_)
  · refine Ret.mk' ⟨rfl, ?_⟩
    rw [eqF_len (fun e => h (by simp [e]))]
  have hl : xs.length = ys.length := by
    simp only [List.length_map] at h
    omega
  refine ⟨fun m sl σ' => ∃ i : Nat, sl = ofL [(1, some (.slice t' 9 (ys.map arV))), (2, some (.func k [] [])), (15, some (.slice t 9 (xs.map arV))), (16, some (.int .i64 xs.length)), (17, some (.int .i64 i))] ∧ Over σ σ' ∧ i ≤ xs.length ∧ eqF g xs ys = eqF g (xs.drop i) (ys.drop i) ∧ m = xs.length - i,
    _, ⟨0, by simp only [List.length_map]; rfl, .refl _, Nat.zero_le _, by simp, rfl⟩, ?_⟩
  rintro m sl σ' ⟨i, rfl, o, hi, he, rfl⟩
  refine Test.split (fun hlt => ?_) (fun hlt => ?_)
  · have hlt : i < xs.length := by omega
    obtain ⟨x, hx⟩ : ∃ x, xs[i]? = some x := ⟨_, List.getElem?_eq_getElem hlt⟩
    obtain ⟨y, hy⟩ : ∃ y, ys[i]? = some y := ⟨_, List.getElem?_eq_getElem (by omega)⟩
    have hgxy := hg x (List.mem_of_getElem? hx) y (List.mem_of_getElem? hy)
    have hst := eqF_step (g := g) hx hy
    have hxV : (xs.map arV)[i]? = some (arV x) := by simp [hx]
    have hyV : (ys.map arV)[i]? = some (arV y) := by simp [hy]
    obtain ⟨ak, an, as0, ⟨op, n, s, kids, a⟩, aat⟩ := x
    obtain ⟨ak', an', as0', ⟨op', n', s', kids', a'⟩, aat'⟩ := y
    refine Sure.mk' (.inl rfl) ?_
    refine IdxE.mk' i _ rfl hxV ?_
    refine ⟨by simp [arV, exV], ?_⟩
    intro b8 hb8
    refine Sure.mk' rfl ?_
    refine Store.mk' (arV ⟨ak, an, as0, ⟨op, n, s, kids, a⟩, aat⟩) put_box (Nat.le_refl _) rfl (fun σ1 e1 => ?_)
    rw [put_put] at e1
    have q1 := over_put (cs := arV ⟨ak, an, as0, ⟨op, n, s, kids, a⟩, aat⟩) (Over.refl _) hb8
    rw [← e1] at q1
    have h81 : σ1.box b8 = some (arV ⟨ak, an, as0, ⟨op, n, s, kids, a⟩, aat⟩) := by rw [e1]; exact put_box
    refine Sure.mk' (.inl rfl) ?_
    refine IdxE.mk' i _ rfl hyV ?_
    refine ⟨by simp [arV, exV], ?_⟩
    intro b9 hb9
    refine Sure.mk' rfl ?_
    refine Store.mk' (arV ⟨ak', an', as0', ⟨op', n', s', kids', a'⟩, aat'⟩) put_box (Nat.le_refl _) rfl (fun σ2 e2 => ?_)
    rw [put_put] at e2
    have q2 := over_put (cs := arV ⟨ak', an', as0', ⟨op', n', s', kids', a'⟩, aat'⟩) (Over.refl _) hb9
    rw [← e2] at q2
    have h92 : σ2.box b9 = some (arV ⟨ak', an', as0', ⟨op', n', s', kids', a'⟩, aat'⟩) := by rw [e2]; exact put_box
    have h82 := q2.box _ _ h81
    have o2 := over_tr o (over_tr q1 q2)
    clear e1 e2 hb8 hb9 q1 q2
    refine Load.mk' h82 (Nat.le_refl _) ?_
    refine Load.mk' h92 (Nat.le_refl _) ?_
    refine CallK.pure hgxy ?_
    cases hv : g ⟨ak, an, as0, ⟨op, n, s, kids, a⟩, aat⟩ ⟨ak', an', as0', ⟨op', n', s', kids', a'⟩, aat'⟩
    · refine Ret.weak (.refl _) (σ' := σ) o2 ⟨rfl, ?_⟩
      rw [he, hst, hv, Bool.false_and]
    · refine Arith.i64 ((i + 1 : Nat) : Int) (by simp) (by omega) ?_
      refine ⟨_, _, ?_, Forget.refl _, i + 1, rfl, o2, by omega, ?_, rfl⟩
      · omega
      · rw [he, hst, hv, Bool.true_and]
  · refine Ret.weak (.refl _) (σ' := σ) o ⟨rfl, ?_⟩
    rw [he, List.drop_eq_nil_of_le (by omega), List.drop_eq_nil_of_le (by omega)]; rfl
theorem eqFo_ret {k : FuncId} {g : Fo → Fo → Bool} {xs ys : List Fo} (t t' : Tag) (hlen : xs.length ≤ 1000000) (hg : ∀ x ∈ xs, ∀ y ∈ ys, SRet Tryz.prog LG k ([] ++ [.agg (foV x), .agg (foV y)] ++ []) (.bool (g x y))) :
    SRet Tryz.prog LG 38 [.slice t 4 (xs.map foV), .slice t' 4 (ys.map foV), .func k [] []] (.bool (eqF g xs ys)) := by
  intro σ
  refine code38.call hm (by simp) ?_
  refine Test.split (fun h => ?_) (fun h => ?_)
  · refine Ret.mk' ⟨rfl, ?_⟩
    rw [eqF_len (fun e => h (by simp [e]))]
  have hl : xs.length = ys.length := by
    simp only [List.length_map] at h
    omega
  refine ⟨fun m sl σ' => ∃ i : Nat, sl = ofL [(1, some (.slice t' 4 (ys.map foV))), (2, some (.func k [] [])), (15, some (.slice t 4 (xs.map foV))), (16, some (.int .i64 xs.length)), (17, some (.int .i64 i))] ∧ Over σ σ' ∧ i ≤ xs.length ∧ eqF g xs ys = eqF g (xs.drop i) (ys.drop i) ∧ m = xs.length - i,
    _, ⟨0, by simp only [List.length_map]; rfl, .refl _, Nat.zero_le _, by simp, rfl⟩, ?_⟩
  rintro m sl σ' ⟨i, rfl, o, hi, he, rfl⟩
  refine Test.split (fun hlt => ?_) (fun hlt => ?_)
  · have hlt : i < xs.length := by omega
    obtain ⟨x, hx⟩ : ∃ x, xs[i]? = some x := ⟨_, List.getElem?_eq_getElem hlt⟩
    obtain ⟨y, hy⟩ : ∃ y, ys[i]? = some y := ⟨_, List.getElem?_eq_getElem (by omega)⟩
    have hgxy := hg x (List.mem_of_getElem? hx) y (List.mem_of_getElem? hy)
    have hst := eqF_step (g := g) hx hy
    have hxV : (xs.map foV)[i]? = some (foV x) := by simp [hx]
    have hyV : (ys.map foV)[i]? = some (foV y) := by simp [hy]
    obtain ⟨w, args, bs, a⟩ := x
    obtain ⟨w', args', bs', a'⟩ := y
    refine Sure.mk' (.inl rfl) ?_
    refine IdxE.mk' i _ rfl hxV ?_
    refine ⟨by simp [foV], ?_⟩
    intro b8 hb8
    refine Sure.mk' rfl ?_
    refine Store.mk' (foV ⟨w, args, bs, a⟩) put_box (Nat.le_refl _) rfl (fun σ1 e1 => ?_)
    rw [put_put] at e1
    have q1 := over_put (cs := foV ⟨w, args, bs, a⟩) (Over.refl _) hb8
    rw [← e1] at q1
    have h81 : σ1.box b8 = some (foV ⟨w, args, bs, a⟩) := by rw [e1]; exact put_box
    refine Sure.mk' (.inl rfl) ?_
    refine IdxE.mk' i _ rfl hyV ?_
    refine ⟨by simp [foV], ?_⟩
    intro b9 hb9
    refine Sure.mk' rfl ?_
    refine Store.mk' (foV ⟨w', args', bs', a'⟩) put_box (Nat.le_refl _) rfl (fun σ2 e2 => ?_)
    rw [put_put] at e2
    have q2 := over_put (cs := foV ⟨w', args', bs', a'⟩) (Over.refl _) hb9
    rw [← e2] at q2
    have h92 : σ2.box b9 = some (foV ⟨w', args', bs', a'⟩) := by rw [e2]; exact put_box
    have h82 := q2.box _ _ h81
    have o2 := over_tr o (over_tr q1 q2)
    clear e1 e2 hb8 hb9 q1 q2
    refine Load.mk' h82 (Nat.le_refl _) ?_
    refine Load.mk' h92 (Nat.le_refl _) ?_
    refine CallK.pure hgxy ?_
    cases hv : g ⟨w, args, bs, a⟩ ⟨w', args', bs', a'⟩
    · refine Ret.weak (.refl _) (σ' := σ) o2 ⟨rfl, ?_⟩
      rw [he, hst, hv, Bool.false_and]
    · refine Arith.i64 ((i + 1 : Nat) : Int) (by simp) (by omega) ?_
      refine ⟨_, _, ?_, Forget.refl _, i + 1, rfl, o2, by omega, ?_, rfl⟩
      · omega
      · rw [he, hst, hv, Bool.true_and]
  · refine Ret.weak (.refl _) (σ' := σ) o ⟨rfl, ?_⟩
    rw [he, List.drop_eq_nil_of_le (by omega), List.drop_eq_nil_of_le (by omega)]; rfl

theorem sameExpr_ret : ∀ (m : Nat) (x y : Ex), exN x ≤ m → m ≤ 1000000 → SRet Tryz.prog LG 15 [.agg (exV x), .agg (exV y)] (.bool (sameE x y)) := by
  intro m
  induction m with
  | zero => intro x y h; have := exN_pos x; omega
  | succ m ih =>
    intro x y hm1 hm2 σ
    obtain ⟨op, n, s, kids, a⟩ := x
    obtain ⟨op', n', s', kids', a'⟩ := y
    refine code15.call hm (by simp) ?_
    refine ⟨rfl, ?_⟩
    intro b2 f2
    have o1 : Over σ (σ.put b2 (exV (.mk op n s kids a))) := over_put (.refl _) f2
    have h21 : (σ.put b2 (exV (.mk op n s kids a))).box b2 = some (exV (.mk op n s kids a)) := put_box
    refine ⟨rfl, ?_⟩
    intro b3 hb3
    have q2 := over_put (σ0 := σ.put b2 (exV (.mk op n s kids a))) (σ := σ.put b2 (exV (.mk op n s kids a))) (cs := exV (.mk op' n' s' kids' a')) (Over.refl _) hb3
    have o2 := over_tr o1 q2
    have h22 := q2.box _ _ h21
    clear q2
    have h32 : ((σ.put b2 (exV (.mk op n s kids a))).put b3 (exV (.mk op' n' s' kids' a'))).box b3 = some (exV (.mk op' n' s' kids' a')) := put_box
    generalize hσ : (σ.put b2 (exV (.mk op n s kids a))).put b3 (exV (.mk op' n' s' kids' a')) = σ2 at o2 h22 h32
    have hgoal : ∀ {G : St → Prop}, G σ2 → G ((σ.put b2 (exV (.mk op n s kids a))).put b3 (exV (.mk op' n' s' kids' a'))) := fun h => by rw [hσ]; exact h
    refine hgoal ?_
    clear hgoal hσ hb3 h21 o1
    have tail : ¬ (op = 1) → ¬ (op = 2 ∨ op = 3) → ¬ (op = 4 ∧ s ≠ s') → op = op' → SRet Tryz.prog LG 34 [.slice .foreign 5 (exVs kids), .slice .foreign 5 (exVs kids'), .func 15 [] []] (.bool (sameE (.mk op n s kids a) (.mk op' n' s' kids' a'))) := by
      intro h1 h2 h3 h4
      have hv : sameE (.mk op n s kids a) (.mk op' n' s' kids' a') = eqF sameE kids kids' := by
        simp only [sameE]
        rw [if_neg (by simp [h4]), if_neg h1, if_neg h2, if_neg h3, sameEs_eqF]
      rw [hv, exVs_map, exVs_map]
      simp only [exN] at hm1
      refine eqX_ret _ _ (by have := exNs_len kids; omega) fun x hx y _ => ?_
      have := exNs_mem hx
      exact ih x y (by omega) (by omega)
    refine Load.mk' h22 (by simp [exV]) ?_
    refine Load.mk' h32 (by simp [exV]) ?_
    refine Test.split (fun hop => ?_) (fun hop => ?_)
    · refine Ret.weak (.refl _) (σ' := σ) o2 ⟨rfl, ?_⟩
      simp only [sameE]; rw [if_pos hop]
    have hop : op = op' := by
      apply Classical.byContradiction
      intro h; exact hop h
    refine Load.mk' h22 (by simp [exV]) ?_
    refine Test.split (fun h1 => ?_) (fun h1 => ?_)
    · refine Load.mk' h22 (by simp [exV]) ?_
      refine Load.mk' h32 (by simp [exV]) ?_
      have hv : sameE (.mk op n s kids a) (.mk op' n' s' kids' a') = (n == n') := by
        simp only [sameE]; rw [if_neg (by simp [hop]), if_pos h1]
      rw [hv]
      refine Test.split (fun h2 => ?_) (fun h2 => ?_)
      · exact Ret.weak (.refl _) (σ' := σ) o2 ⟨rfl, by simp [h2]⟩
      · exact Ret.weak (.refl _) (σ' := σ) o2 ⟨rfl, by simp [h2]⟩
    have str : (op = 2 ∨ op = 3) → sameE (.mk op n s kids a) (.mk op' n' s' kids' a') = (s == s') := fun h => by
      simp only [sameE]; rw [if_neg (by simp [hop]), if_neg h1, if_pos h]
    refine Test.split (fun h2 => ?_) (fun h2 => ?_)
    · refine Load.mk' h22 (by simp [exV]) ?_
      refine Load.mk' h32 (by simp [exV]) ?_
      rw [str (.inl h2)]
      refine Test.split (fun h3 => ?_) (fun h3 => ?_)
      · exact Ret.weak (.refl _) (σ' := σ) o2 ⟨rfl, by simp [h3]⟩
      · exact Ret.weak (.refl _) (σ' := σ) o2 ⟨rfl, by simp [h3]⟩
    refine Test.split (fun h3 => ?_) (fun h3 => ?_)
    · refine Load.mk' h22 (by simp [exV]) ?_
      refine Load.mk' h32 (by simp [exV]) ?_
      rw [str (.inr h3)]
      refine Test.split (fun h3 => ?_) (fun h3 => ?_)
      · exact Ret.weak (.refl _) (σ' := σ) o2 ⟨rfl, by simp [h3]⟩
      · exact Ret.weak (.refl _) (σ' := σ) o2 ⟨rfl, by simp [h3]⟩
    refine Test.split (fun h4 => ?_) (fun h4 => ?_)
    · refine Load.mk' h22 (by simp [exV]) ?_
      refine Load.mk' h32 (by simp [exV]) ?_
      refine Test.split (fun h5 => ?_) (fun h5 => ?_)
      · refine Ret.weak (.refl _) (σ' := σ) o2 ⟨rfl, ?_⟩
        simp only [sameE]; rw [if_neg (by simp [hop]), if_neg h1, if_neg (by omega), if_pos ⟨h4, h5⟩]
      · refine Load.mk' h22 (by simp [exV]) ?_
        refine Load.mk' h32 (by simp [exV]) ?_
        refine CallK.pure (tail h1 (by omega) (fun h => h5 h.2) hop) ?_
        exact Ret.weak (.refl _) (σ' := σ) o2 ⟨rfl, rfl⟩
    · refine Load.mk' h22 (by simp [exV]) ?_
      refine Load.mk' h32 (by simp [exV]) ?_
      refine CallK.pure (tail h1 (by omega) (fun h => h4 h.1) hop) ?_
      exact Ret.weak (.refl _) (σ' := σ) o2 ⟨rfl, rfl⟩
end Go.Shadow.Lex
