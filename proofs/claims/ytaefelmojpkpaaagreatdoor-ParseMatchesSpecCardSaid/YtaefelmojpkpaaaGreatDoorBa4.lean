/- Proved: parts of the proof: Shadow code of the specification of the parser (printed by a program); Proved: parse; Shadow code of the laws of the parser (printed by a program); Pure laws of the lexer: what stands behind a token's end does not matter; runs over tokens; What the lexer's tokens are: they end; errors are errors; The grammar by fuel: executable, sound for the relations; the lexer by fuel; Proved: values that are expressions' values, less known; the closures of sanity; Proved: what the printer's small methods do, as shadow contracts; Proved: what the printer's expr and PrintExpr do, as shadow contracts; Proved:. Conditions: as each theorem says. -/
import Derived.Test.YtaefelmojpkpaaaGreatDoorBa3
import Derived.Test.YtaefelmojpkpaaaGreatDoorProg

/- Shadow code of the specification of the parser (printed by a program). -/
namespace Go.Shadow.Lex
open Go Go.RowKit Go.Proofs
/-- quietus/quietusref32.Forms -/
def sc10 : SC := (.seq (.region [.q 2 (.alloc [(.slice .nil 0 []), (.int .i64 0), (.int .i64 0), (.str []), (.slice .nil 0 []), (.int .i64 0), (.int .i64 0), (.int .i64 0)])] (some [0, 2])) (.seq (.region [.q 8 (.mv (.t 0)), .q 9 (.call 29 [(.t 8)]), .q 3 (.alloc [(.slice .nil 0 []), (.int .i64 0), (.int .i64 0)]), .w (.store 3 (.t 3) (.t 9))] (some [2, 3])) (.seq (.seq (.region [.q 10 (.faddr 1 (.t 3)), .q 11 (.faddr 1 (.t 10)), .q 12 (.load false 1 (.t 11)), .q 13 (.bin .neq (.t 12) (.c (.int .i64 0)))] (some [2, 3, 13])) (.cond (.t 13) (some [2, 3]) (.seq (.region [.q 14 (.faddr 1 (.t 3)), .q 15 (.load true 2 (.t 14)), .q 16 (.build [(.slice .nil 0 []), (.int .i64 0), (.int .i64 0), (.str []), (.slice .nil 0 []), (.int .i64 0), (.int .i64 0), (.int .i64 0)] [(6, (2, (.t 15)))]), .w (.store 8 (.t 2) (.t 16))] (some [2])) .ret) .skip)) (.seq (.region [.q 4 (.mv (.c (.slice .nil 0 [])))] (some [2, 3, 4])) (.seq (.region [.q 5 (.mv (.c (.int .i64 0)))] (some [2, 3, 4, 5])) (.seq (.region [.q 6 (.mv (.c (.int .i64 0)))] (some [2, 3, 4, 5, 6])) (.seq (.block 0 (.loop (.seq (.seq (.region [.q 17 (.faddr 0 (.t 3)), .q 18 (.load false 1 (.t 17)), .q 19 (.mv (.t 5)), .q 20 (.iaddr 4 (.t 18) (.t 19)), .q 21 (.faddr 0 (.t 20)), .q 22 (.load false 1 (.t 21)), .q 23 (.bin .neq (.t 22) (.c (.int .i64 5)))] (some [2, 3, 4, 5, 6, 23])) (.cond (.t 23) (some [2, 3, 4, 5, 6]) .skip (.exit 0))) (.block 1 (.seq (.region [.q 24 (.faddr 0 (.t 3)), .q 25 (.load false 1 (.t 24)), .q 26 (.mv (.t 5)), .q 27 (.mv (.t 6)), .q 28 (.call 30 [(.t 25), (.t 26), (.c (.int .i64 1)), (.t 27)]), .q 7 (.alloc [(.str []), (.slice .nil 0 []), (.slice .nil 0 []), (.int .i64 0), (.int .i64 0), (.int .i64 0), (.int .i64 0)]), .w (.store 7 (.t 7) (.t 28))] (some [2, 3, 4, 7])) (.seq (.seq (.region [.q 29 (.faddr 6 (.t 7)), .q 30 (.load false 1 (.t 29)), .q 31 (.bin .neq (.t 30) (.c (.int .i64 0)))] (some [2, 3, 4, 7, 31])) (.cond (.t 31) (some [2, 3, 4, 7]) (.seq (.region [.q 32 (.faddr 0 (.t 3)), .q 33 (.load false 1 (.t 32)), .q 34 (.faddr 4 (.t 7)), .q 35 (.load false 1 (.t 34)), .q 36 (.iaddr 4 (.t 33) (.t 35)), .q 37 (.faddr 1 (.t 36)), .q 38 (.load false 1 (.t 37)), .q 39 (.faddr 6 (.t 7)), .q 40 (.load false 1 (.t 39)), .q 41 (.build [(.int .i64 0), (.int .i64 0)] [(0, (1, (.t 38))), (1, (1, (.t 40)))]), .q 42 (.build [(.slice .nil 0 []), (.int .i64 0), (.int .i64 0), (.str []), (.slice .nil 0 []), (.int .i64 0), (.int .i64 0), (.int .i64 0)] [(6, (2, (.t 41)))]), .w (.store 8 (.t 2) (.t 42))] (some [2])) .ret) .skip)) (.seq (.region [.q 43 (.mv (.t 4)), .q 44 (.faddr 0 (.t 7)), .q 45 (.load true 4 (.t 44)), .q 46 (.mkslice 4 [(.t 45)]), .q 47 (.append 4 72 (.t 43) (.t 46)), .q 4 (.mv (.t 47))] (some [2, 3, 4, 7])) (.seq (.region [.q 48 (.faddr 4 (.t 7)), .q 49 (.load false 1 (.t 48)), .q 5 (.mv (.t 49))] (some [2, 3, 4, 5, 7])) (.region [.q 50 (.faddr 5 (.t 7)), .q 51 (.load false 1 (.t 50)), .q 6 (.mv (.t 51))] (some [2, 3, 4, 5, 6])))))))))) (.seq (.region [.q 52 (.mv (.t 4)), .q 53 (.build [(.slice .nil 0 []), (.int .i64 0), (.int .i64 0), (.str []), (.slice .nil 0 []), (.int .i64 0), (.int .i64 0), (.int .i64 0)] [(0, (1, (.t 52)))]), .w (.store 8 (.t 2) (.t 53))] (some [2])) .ret))))))))
theorem code10 : IsCode Tryz.prog 10 sc10 [(2, (some (true, 8)))] 54 := .mk' Tryz.func10 (by kernel_rfl) (by kernel_rfl) (by kernel_rfl) (by kernel_rfl)
/-- quietus/quietusref32.Expr -/
def sc11 : SC := (.seq (.region [.q 2 (.alloc [(.slice .nil 0 []), (.int .i64 0), (.int .i64 0), (.str []), (.slice .nil 0 []), (.int .i64 0), (.int .i64 0), (.int .i64 0)])] (some [0, 2])) (.seq (.region [.q 5 (.mv (.t 0)), .q 6 (.call 29 [(.t 5)]), .q 3 (.alloc [(.slice .nil 0 []), (.int .i64 0), (.int .i64 0)]), .w (.store 3 (.t 3) (.t 6))] (some [2, 3])) (.seq (.seq (.region [.q 7 (.faddr 1 (.t 3)), .q 8 (.faddr 1 (.t 7)), .q 9 (.load false 1 (.t 8)), .q 10 (.bin .neq (.t 9) (.c (.int .i64 0)))] (some [2, 3, 10])) (.cond (.t 10) (some [2, 3]) (.seq (.region [.q 11 (.faddr 1 (.t 3)), .q 12 (.load true 2 (.t 11)), .q 13 (.build [(.slice .nil 0 []), (.int .i64 0), (.int .i64 0), (.str []), (.slice .nil 0 []), (.int .i64 0), (.int .i64 0), (.int .i64 0)] [(6, (2, (.t 12)))]), .w (.store 8 (.t 2) (.t 13))] (some [2])) .ret) .skip)) (.seq (.region [.q 14 (.faddr 0 (.t 3)), .q 15 (.load false 1 (.t 14)), .q 16 (.call 31 [(.t 15), (.c (.int .i64 0)), (.c (.int .i64 1))]), .q 4 (.alloc [(.int .i64 0), (.int .i64 0), (.str []), (.slice .nil 0 []), (.int .i64 0), (.int .i64 0), (.int .i64 0)]), .w (.store 7 (.t 4) (.t 16))] (some [2, 3, 4])) (.seq (.seq (.region [.q 17 (.faddr 6 (.t 4)), .q 18 (.load false 1 (.t 17)), .q 19 (.bin .neq (.t 18) (.c (.int .i64 0)))] (some [2, 3, 4, 19])) (.cond (.t 19) (some [2, 3, 4]) (.seq (.region [.q 20 (.faddr 0 (.t 3)), .q 21 (.load false 1 (.t 20)), .q 22 (.faddr 5 (.t 4)), .q 23 (.load false 1 (.t 22)), .q 24 (.iaddr 4 (.t 21) (.t 23)), .q 25 (.faddr 1 (.t 24)), .q 26 (.load false 1 (.t 25)), .q 27 (.faddr 6 (.t 4)), .q 28 (.load false 1 (.t 27)), .q 29 (.build [(.int .i64 0), (.int .i64 0)] [(0, (1, (.t 26))), (1, (1, (.t 28)))]), .q 30 (.build [(.slice .nil 0 []), (.int .i64 0), (.int .i64 0), (.str []), (.slice .nil 0 []), (.int .i64 0), (.int .i64 0), (.int .i64 0)] [(6, (2, (.t 29)))]), .w (.store 8 (.t 2) (.t 30))] (some [2])) .ret) .skip)) (.seq (.seq (.region [.q 31 (.faddr 0 (.t 3)), .q 32 (.load false 1 (.t 31)), .q 33 (.faddr 5 (.t 4)), .q 34 (.load false 1 (.t 33)), .q 35 (.iaddr 4 (.t 32) (.t 34)), .q 36 (.faddr 0 (.t 35)), .q 37 (.load false 1 (.t 36)), .q 38 (.bin .neq (.t 37) (.c (.int .i64 5)))] (some [2, 3, 4, 38])) (.cond (.t 38) (some [2, 3, 4]) (.seq (.region [.q 39 (.faddr 0 (.t 3)), .q 40 (.load false 1 (.t 39)), .q 41 (.faddr 5 (.t 4)), .q 42 (.load false 1 (.t 41)), .q 43 (.iaddr 4 (.t 40) (.t 42)), .q 44 (.faddr 1 (.t 43)), .q 45 (.load false 1 (.t 44)), .q 46 (.build [(.int .i64 0), (.int .i64 0)] [(0, (1, (.t 45))), (1, (1, (.c (.int .i64 5))))]), .q 47 (.build [(.slice .nil 0 []), (.int .i64 0), (.int .i64 0), (.str []), (.slice .nil 0 []), (.int .i64 0), (.int .i64 0), (.int .i64 0)] [(6, (2, (.t 46)))]), .w (.store 8 (.t 2) (.t 47))] (some [2])) .ret) .skip)) (.seq (.region [.q 48 (.faddr 0 (.t 4)), .q 49 (.load true 5 (.t 48)), .q 50 (.build [(.slice .nil 0 []), (.int .i64 0), (.int .i64 0), (.str []), (.slice .nil 0 []), (.int .i64 0), (.int .i64 0), (.int .i64 0)] [(1, (5, (.t 49)))]), .w (.store 8 (.t 2) (.t 50))] (some [2])) .ret)))))))
theorem code11 : IsCode Tryz.prog 11 sc11 [(2, (some (true, 8)))] 51 := .mk' Tryz.func11 (by kernel_rfl) (by kernel_rfl) (by kernel_rfl) (by kernel_rfl)
/-- quietus/quietusref32.Same -/
def sc12 : SC := (.seq (.region [.q 6 (.mv (.c (.bool false)))] (some [0, 1, 2])) (.seq (.seq (.region [.q 11 (.mv (.t 0)), .q 12 (.len false (.t 11)), .q 13 (.mv (.t 1)), .q 14 (.len false (.t 13)), .q 15 (.bin .neq (.t 12) (.t 14))] (some [0, 1, 2, 15])) (.cond (.t 15) (some [0, 1, 2]) (.seq (.region [.q 6 (.mv (.c (.bool false)))] (some [6])) .ret) .skip)) (.seq (.seq (.region [.q 7 (.mv (.c (.int .i64 0)))] (some [0, 1, 2, 7])) (.block 0 (.loop (.seq (.seq (.region [.q 16 (.mv (.t 7)), .q 17 (.mv (.t 0)), .q 18 (.len false (.t 17)), .q 19 (.bin .lss (.t 16) (.t 18))] (some [0, 1, 2, 7, 19])) (.cond (.t 19) (some [0, 1, 2, 7]) .skip (.exit 0))) (.seq (.block 1 (.seq (.seq (.region [.q 22 (.mv (.t 0)), .q 23 (.mv (.t 7)), .q 24 (.iaddr 4 (.t 22) (.t 23)), .q 25 (.faddr 0 (.t 24)), .q 26 (.load false 1 (.t 25)), .q 27 (.mv (.t 1)), .q 28 (.mv (.t 7)), .q 29 (.iaddr 4 (.t 27) (.t 28)), .q 30 (.faddr 0 (.t 29)), .q 31 (.load false 1 (.t 30)), .q 32 (.bins .neq (.t 26) (.t 31)), .q 33 (.mv (.t 32)), ⟨(some 34), (.mv (.t 2)), (some (33, false))⟩, ⟨(some 35), (.mv (.t 34)), (some (33, false))⟩, ⟨(some 36), (.mv (.t 0)), (some (35, true))⟩, ⟨(some 37), (.mv (.t 7)), (some (35, true))⟩, ⟨(some 38), (.iaddr 4 (.t 36) (.t 37)), (some (35, true))⟩, ⟨(some 39), (.faddr 3 (.t 38)), (some (35, true))⟩, ⟨(some 40), (.load false 1 (.t 39)), (some (35, true))⟩, ⟨(some 41), (.mv (.t 1)), (some (35, true))⟩, ⟨(some 42), (.mv (.t 7)), (some (35, true))⟩, ⟨(some 43), (.iaddr 4 (.t 41) (.t 42)), (some (35, true))⟩, ⟨(some 44), (.faddr 3 (.t 43)), (some (35, true))⟩, ⟨(some 45), (.load false 1 (.t 44)), (some (35, true))⟩, ⟨(some 46), (.bin .neq (.t 40) (.t 45)), (some (35, true))⟩, ⟨(some 47), (.pick (.t 35) (.t 46) (.c (.bool false))), (some (33, false))⟩, .q 48 (.pick (.t 33) (.c (.bool true)) (.t 47)), .q 49 (.mv (.t 48)), ⟨(some 50), (.mv (.t 0)), (some (49, false))⟩, ⟨(some 51), (.mv (.t 7)), (some (49, false))⟩, ⟨(some 52), (.iaddr 4 (.t 50) (.t 51)), (some (49, false))⟩, ⟨(some 53), (.faddr 1 (.t 52)), (some (49, false))⟩, ⟨(some 54), (.load false 1 (.t 53)), (some (49, false))⟩, ⟨(some 55), (.len false (.t 54)), (some (49, false))⟩, ⟨(some 56), (.mv (.t 1)), (some (49, false))⟩, ⟨(some 57), (.mv (.t 7)), (some (49, false))⟩, ⟨(some 58), (.iaddr 4 (.t 56) (.t 57)), (some (49, false))⟩, ⟨(some 59), (.faddr 1 (.t 58)), (some (49, false))⟩, ⟨(some 60), (.load false 1 (.t 59)), (some (49, false))⟩, ⟨(some 61), (.len false (.t 60)), (some (49, false))⟩, ⟨(some 62), (.bin .neq (.t 55) (.t 61)), (some (49, false))⟩, .q 63 (.pick (.t 49) (.c (.bool true)) (.t 62))] (some [0, 1, 2, 7, 63])) (.cond (.t 63) (some [0, 1, 2, 7]) (.seq (.region [.q 6 (.mv (.c (.bool false)))] (some [6])) .ret) .skip)) (.seq (.seq (.region [.q 8 (.mv (.c (.int .i64 0)))] (some [0, 1, 2, 7, 8])) (.block 2 (.loop (.seq (.seq (.region [.q 64 (.mv (.t 8)), .q 65 (.mv (.t 0)), .q 66 (.mv (.t 7)), .q 67 (.iaddr 4 (.t 65) (.t 66)), .q 68 (.faddr 1 (.t 67)), .q 69 (.load false 1 (.t 68)), .q 70 (.len false (.t 69)), .q 71 (.bin .lss (.t 64) (.t 70))] (some [0, 1, 2, 7, 8, 71])) (.cond (.t 71) (some [0, 1, 2, 7, 8]) .skip (.exit 2))) (.seq (.block 3 (.seq (.region [.q 74 (.mv (.t 0)), .q 75 (.mv (.t 7)), .q 76 (.iaddr 4 (.t 74) (.t 75)), .q 77 (.faddr 1 (.t 76)), .q 78 (.load false 1 (.t 77)), .q 79 (.mv (.t 8)), .q 80 (.iaddr 9 (.t 78) (.t 79)), .q 81 (.load true 9 (.t 80)), .q 82 (.mv (.t 1)), .q 83 (.mv (.t 7)), .q 84 (.iaddr 4 (.t 82) (.t 83)), .q 85 (.faddr 1 (.t 84)), .q 86 (.load false 1 (.t 85)), .q 87 (.mv (.t 8)), .q 88 (.iaddr 9 (.t 86) (.t 87)), .q 89 (.load true 9 (.t 88)), .q 90 (.mv (.t 2)), .q 91 (.call 32 [(.t 81), (.t 89), (.t 90)]), .q 9 (.mv (.t 91))] (some [0, 1, 2, 7, 8, 9])) (.seq (.region [.q 92 (.mv (.t 9)), .q 93 (.un .not (.t 92))] (some [0, 1, 2, 7, 8, 93])) (.cond (.t 93) (some [0, 1, 2, 7, 8]) (.seq (.region [.q 6 (.mv (.c (.bool false)))] (some [6])) .ret) .skip)))) (.region [.q 72 (.mv (.t 8)), .q 73 (.bin .add (.t 72) (.c (.int .i64 1))), .q 8 (.mv (.t 73))] (some [0, 1, 2, 7, 8]))))))) (.seq (.region [.q 94 (.mv (.t 0)), .q 95 (.mv (.t 7)), .q 96 (.iaddr 4 (.t 94) (.t 95)), .q 97 (.faddr 2 (.t 96)), .q 98 (.load false 1 (.t 97)), .q 99 (.mv (.t 1)), .q 100 (.mv (.t 7)), .q 101 (.iaddr 4 (.t 99) (.t 100)), .q 102 (.faddr 2 (.t 101)), .q 103 (.load false 1 (.t 102)), .q 104 (.mv (.t 2)), .q 105 (.call 12 [(.t 98), (.t 103), (.t 104)]), .q 10 (.mv (.t 105))] (some [0, 1, 2, 7, 10])) (.seq (.region [.q 106 (.mv (.t 10)), .q 107 (.un .not (.t 106))] (some [0, 1, 2, 7, 107])) (.cond (.t 107) (some [0, 1, 2, 7]) (.seq (.region [.q 6 (.mv (.c (.bool false)))] (some [6])) .ret) .skip)))))) (.region [.q 20 (.mv (.t 7)), .q 21 (.bin .add (.t 20) (.c (.int .i64 1))), .q 7 (.mv (.t 21))] (some [0, 1, 2, 7]))))))) (.seq (.region [.q 6 (.mv (.c (.bool true)))] (some [6])) .ret))))
theorem code12 : IsCode Tryz.prog 12 sc12 [(6, none)] 108 := .mk' Tryz.func12 (by kernel_rfl) (by kernel_rfl) (by kernel_rfl) (by kernel_rfl)
/-- quietus/quietusref32.SameExpr -/
def sc13 : SC := (.seq (.region [.q 3 (.box (.t 0)), .q 4 (.box (.t 1)), .q 6 (.mv (.c (.bool false)))] (some [2, 3, 4])) (.seq (.seq (.region [.q 9 (.faddr 0 (.t 3)), .q 10 (.load false 1 (.t 9)), .q 11 (.faddr 0 (.t 4)), .q 12 (.load false 1 (.t 11)), .q 13 (.bin .neq (.t 10) (.t 12)), .q 14 (.mv (.t 13)), ⟨(some 15), (.faddr 0 (.t 3)), (some (14, false))⟩, ⟨(some 16), (.load false 1 (.t 15)), (some (14, false))⟩, ⟨(some 17), (.bin .eql (.t 16) (.c (.int .i64 1))), (some (14, false))⟩, ⟨(some 18), (.mv (.t 17)), (some (14, false))⟩, ⟨(some 19), (.faddr 1 (.t 3)), (some (18, true))⟩, ⟨(some 20), (.load false 1 (.t 19)), (some (18, true))⟩, ⟨(some 21), (.faddr 1 (.t 4)), (some (18, true))⟩, ⟨(some 22), (.load false 1 (.t 21)), (some (18, true))⟩, ⟨(some 23), (.bin .neq (.t 20) (.t 22)), (some (18, true))⟩, ⟨(some 24), (.pick (.t 18) (.t 23) (.c (.bool false))), (some (14, false))⟩, .q 25 (.pick (.t 14) (.c (.bool true)) (.t 24)), .q 26 (.mv (.t 25)), ⟨(some 27), (.faddr 0 (.t 3)), (some (26, false))⟩, ⟨(some 28), (.load false 1 (.t 27)), (some (26, false))⟩, ⟨(some 29), (.bin .geq (.t 28) (.c (.int .i64 2))), (some (26, false))⟩, ⟨(some 30), (.mv (.t 29)), (some (26, false))⟩, ⟨(some 31), (.faddr 0 (.t 3)), (some (30, true))⟩, ⟨(some 32), (.load false 1 (.t 31)), (some (30, true))⟩, ⟨(some 33), (.bin .leq (.t 32) (.c (.int .i64 4))), (some (30, true))⟩, ⟨(some 34), (.pick (.t 30) (.t 33) (.c (.bool false))), (some (26, false))⟩, ⟨(some 35), (.mv (.t 34)), (some (26, false))⟩, ⟨(some 36), (.faddr 2 (.t 3)), (some (35, true))⟩, ⟨(some 37), (.load false 1 (.t 36)), (some (35, true))⟩, ⟨(some 38), (.faddr 2 (.t 4)), (some (35, true))⟩, ⟨(some 39), (.load false 1 (.t 38)), (some (35, true))⟩, ⟨(some 40), (.bins .neq (.t 37) (.t 39)), (some (35, true))⟩, ⟨(some 41), (.pick (.t 35) (.t 40) (.c (.bool false))), (some (26, false))⟩, .q 42 (.pick (.t 26) (.c (.bool true)) (.t 41)), .q 43 (.mv (.t 42)), ⟨(some 44), (.mv (.t 2)), (some (43, false))⟩, ⟨(some 45), (.mv (.t 44)), (some (43, false))⟩, ⟨(some 46), (.faddr 4 (.t 3)), (some (45, true))⟩, ⟨(some 47), (.load false 1 (.t 46)), (some (45, true))⟩, ⟨(some 48), (.faddr 4 (.t 4)), (some (45, true))⟩, ⟨(some 49), (.load false 1 (.t 48)), (some (45, true))⟩, ⟨(some 50), (.bin .neq (.t 47) (.t 49)), (some (45, true))⟩, ⟨(some 51), (.pick (.t 45) (.t 50) (.c (.bool false))), (some (43, false))⟩, .q 52 (.pick (.t 43) (.c (.bool true)) (.t 51))] (some [2, 3, 4, 52])) (.cond (.t 52) (some [2, 3, 4]) (.seq (.region [.q 6 (.mv (.c (.bool false)))] (some [6])) .ret) .skip)) (.seq (.seq (.region [.q 53 (.faddr 0 (.t 3)), .q 54 (.load false 1 (.t 53)), .q 55 (.bin .geq (.t 54) (.c (.int .i64 1))), .q 56 (.mv (.t 55)), ⟨(some 57), (.faddr 0 (.t 3)), (some (56, true))⟩, ⟨(some 58), (.load false 1 (.t 57)), (some (56, true))⟩, ⟨(some 59), (.bin .leq (.t 58) (.c (.int .i64 3))), (some (56, true))⟩, .q 60 (.pick (.t 56) (.t 59) (.c (.bool false)))] (some [2, 3, 4, 60])) (.cond (.t 60) (some [2, 3, 4]) (.seq (.region [.q 6 (.mv (.c (.bool true)))] (some [6])) .ret) .skip)) (.seq (.seq (.region [.q 61 (.faddr 3 (.t 3)), .q 62 (.load false 1 (.t 61)), .q 63 (.len false (.t 62)), .q 64 (.faddr 3 (.t 4)), .q 65 (.load false 1 (.t 64)), .q 66 (.len false (.t 65)), .q 67 (.bin .neq (.t 63) (.t 66))] (some [2, 3, 4, 67])) (.cond (.t 67) (some [2, 3, 4]) (.seq (.region [.q 6 (.mv (.c (.bool false)))] (some [6])) .ret) .skip)) (.seq (.seq (.region [.q 7 (.mv (.c (.int .i64 0)))] (some [2, 3, 4, 7])) (.block 0 (.loop (.seq (.seq (.region [.q 68 (.mv (.t 7)), .q 69 (.faddr 3 (.t 3)), .q 70 (.load false 1 (.t 69)), .q 71 (.len false (.t 70)), .q 72 (.bin .lss (.t 68) (.t 71))] (some [2, 3, 4, 7, 72])) (.cond (.t 72) (some [2, 3, 4, 7]) .skip (.exit 0))) (.seq (.block 1 (.seq (.region [.q 75 (.faddr 3 (.t 3)), .q 76 (.load false 1 (.t 75)), .q 77 (.mv (.t 7)), .q 78 (.iaddr 5 (.t 76) (.t 77)), .q 79 (.load true 5 (.t 78)), .q 80 (.faddr 3 (.t 4)), .q 81 (.load false 1 (.t 80)), .q 82 (.mv (.t 7)), .q 83 (.iaddr 5 (.t 81) (.t 82)), .q 84 (.load true 5 (.t 83)), .q 85 (.mv (.t 2)), .q 86 (.call 13 [(.t 79), (.t 84), (.t 85)]), .q 8 (.mv (.t 86))] (some [2, 3, 4, 7, 8])) (.seq (.region [.q 87 (.mv (.t 8)), .q 88 (.un .not (.t 87))] (some [2, 3, 4, 7, 88])) (.cond (.t 88) (some [2, 3, 4, 7]) (.seq (.region [.q 6 (.mv (.c (.bool false)))] (some [6])) .ret) .skip)))) (.region [.q 73 (.mv (.t 7)), .q 74 (.bin .add (.t 73) (.c (.int .i64 1))), .q 7 (.mv (.t 74))] (some [2, 3, 4, 7]))))))) (.seq (.region [.q 6 (.mv (.c (.bool true)))] (some [6])) .ret))))))
theorem code13 : IsCode Tryz.prog 13 sc13 [(6, none)] 89 := .mk' Tryz.func13 (by kernel_rfl) (by kernel_rfl) (by kernel_rfl) (by kernel_rfl)
/-- quietus/quietusref32.form -/
def sc30 : SC := (.seq (.region [.q 8 (.alloc [(.str []), (.slice .nil 0 []), (.slice .nil 0 []), (.int .i64 0), (.int .i64 0), (.int .i64 0), (.int .i64 0)])] (some [0, 1, 2, 3, 8])) (.seq (.seq (.region [.q 17 (.mv (.t 0)), .q 18 (.mv (.t 1)), .q 19 (.iaddr 4 (.t 17) (.t 18)), .q 20 (.faddr 0 (.t 19)), .q 21 (.load false 1 (.t 20)), .q 22 (.bin .neq (.t 21) (.c (.int .i64 1)))] (some [0, 1, 2, 3, 8, 22])) (.cond (.t 22) (some [0, 1, 2, 3, 8]) (.seq (.region [.q 23 (.mv (.t 1)), .q 24 (.build [(.str []), (.slice .nil 0 []), (.slice .nil 0 []), (.int .i64 0), (.int .i64 0), (.int .i64 0), (.int .i64 0)] [(4, (1, (.t 23))), (6, (1, (.c (.int .i64 5))))]), .w (.store 7 (.t 8) (.t 24))] (some [8])) .ret) .skip)) (.seq (.seq (.region [.q 25 (.mv (.t 2)), .q 26 (.bin .gtr (.t 25) (.c (.int .i64 30))), .q 27 (.mv (.t 26)), ⟨(some 28), (.mv (.t 3)), (some (27, false))⟩, ⟨(some 29), (.bin .geq (.t 28) (.c (.int .i64 2000))), (some (27, false))⟩, .q 30 (.pick (.t 27) (.c (.bool true)) (.t 29))] (some [0, 1, 2, 3, 8, 30])) (.cond (.t 30) (some [0, 1, 2, 3, 8]) (.seq (.region [.q 31 (.mv (.t 1)), .q 32 (.build [(.str []), (.slice .nil 0 []), (.slice .nil 0 []), (.int .i64 0), (.int .i64 0), (.int .i64 0), (.int .i64 0)] [(4, (1, (.t 31))), (6, (1, (.c (.int .i64 2))))]), .w (.store 7 (.t 8) (.t 32))] (some [8])) .ret) .skip)) (.seq (.region [.q 33 (.mv (.t 0)), .q 34 (.mv (.t 1)), .q 35 (.iaddr 4 (.t 33) (.t 34)), .q 36 (.faddr 2 (.t 35)), .q 37 (.load false 1 (.t 36)), .q 38 (.mv (.t 0)), .q 39 (.mv (.t 1)), .q 40 (.iaddr 4 (.t 38) (.t 39)), .q 41 (.faddr 1 (.t 40)), .q 42 (.load false 1 (.t 41)), .q 43 (.build [(.str []), (.slice .nil 0 []), (.slice .nil 0 []), (.int .i64 0)] [(0, (1, (.t 37))), (3, (1, (.t 42)))]), .q 44 (.mv (.t 1)), .q 45 (.bin .add (.t 44) (.c (.int .i64 1))), .q 46 (.mv (.t 3)), .q 47 (.bin .add (.t 46) (.c (.int .i64 1))), .q 48 (.build [(.str []), (.slice .nil 0 []), (.slice .nil 0 []), (.int .i64 0), (.int .i64 0), (.int .i64 0), (.int .i64 0)] [(0, (4, (.t 43))), (4, (1, (.t 45))), (5, (1, (.t 47)))]), .q 9 (.alloc [(.str []), (.slice .nil 0 []), (.slice .nil 0 []), (.int .i64 0), (.int .i64 0), (.int .i64 0), (.int .i64 0)]), .w (.store 7 (.t 9) (.t 48))] (some [0, 2, 8, 9])) (.seq (.block 0 (.loop (.block 1 (.seq (.region [.q 49 (.mv (.t 0)), .q 50 (.faddr 4 (.t 9)), .q 51 (.load false 1 (.t 50)), .q 52 (.call 55 [(.t 49), (.t 51), (.c (.str [59]))]), .q 10 (.mv (.t 52))] (some [0, 2, 8, 9, 10])) (.seq (.seq (.region [.q 53 (.mv (.t 10))] (some [0, 2, 8, 9, 53])) (.cond (.t 53) (some [0, 2, 8, 9]) (.seq (.region [.q 54 (.faddr 4 (.t 9)), .q 55 (.load false 1 (.t 54)), .q 56 (.bin .add (.t 55) (.c (.int .i64 1))), .q 57 (.faddr 4 (.t 9)), .w (.store 1 (.t 57) (.t 56))] (some [8, 9])) (.seq (.region [.q 58 (.load true 7 (.t 9)), .w (.store 7 (.t 8) (.t 58))] (some [8])) .ret)) .skip)) (.seq (.region [.q 59 (.mv (.t 0)), .q 60 (.faddr 4 (.t 9)), .q 61 (.load false 1 (.t 60)), .q 62 (.call 55 [(.t 59), (.t 61), (.c (.str [123]))]), .q 11 (.mv (.t 62))] (some [0, 2, 8, 9, 11])) (.seq (.seq (.region [.q 63 (.mv (.t 11))] (some [0, 2, 8, 9, 63])) (.cond (.t 63) (some [0, 2, 8, 9]) (.exit 0) .skip)) (.seq (.region [.q 64 (.mv (.t 0)), .q 65 (.faddr 4 (.t 9)), .q 66 (.load false 1 (.t 65)), .q 67 (.call 56 [(.t 64), (.t 66)]), .q 12 (.mv (.t 67))] (some [0, 2, 8, 9, 12])) (.seq (.region [.q 68 (.mv (.t 0)), .q 69 (.faddr 4 (.t 9)), .q 70 (.load false 1 (.t 69)), .q 71 (.call 55 [(.t 68), (.t 70), (.c (.str [45, 62]))]), .q 13 (.mv (.t 71))] (some [0, 2, 8, 9, 12, 13])) (.seq (.seq (.region [.q 72 (.mv (.t 12)), .q 73 (.un .not (.t 72)), .q 74 (.mv (.t 73)), ⟨(some 75), (.mv (.t 13)), (some (74, true))⟩, ⟨(some 76), (.un .not (.t 75)), (some (74, true))⟩, .q 77 (.pick (.t 74) (.t 76) (.c (.bool false)))] (some [0, 2, 8, 9, 77])) (.cond (.t 77) (some [0, 2, 8, 9]) (.seq (.region [.q 78 (.faddr 4 (.t 9)), .q 79 (.load false 1 (.t 78)), .q 80 (.build [(.str []), (.slice .nil 0 []), (.slice .nil 0 []), (.int .i64 0), (.int .i64 0), (.int .i64 0), (.int .i64 0)] [(4, (1, (.t 79))), (6, (1, (.c (.int .i64 5))))]), .w (.store 7 (.t 8) (.t 80))] (some [8])) .ret) .skip)) (.seq (.seq (.region [.q 81 (.faddr 0 (.t 9)), .q 82 (.faddr 1 (.t 81)), .q 83 (.load false 1 (.t 82)), .q 84 (.len false (.t 83)), .q 85 (.bin .eql (.t 84) (.c (.int .i64 40)))] (some [0, 2, 8, 9, 85])) (.cond (.t 85) (some [0, 2, 8, 9]) (.seq (.region [.q 86 (.faddr 4 (.t 9)), .q 87 (.load false 1 (.t 86)), .q 88 (.build [(.str []), (.slice .nil 0 []), (.slice .nil 0 []), (.int .i64 0), (.int .i64 0), (.int .i64 0), (.int .i64 0)] [(4, (1, (.t 87))), (6, (1, (.c (.int .i64 2))))]), .w (.store 7 (.t 8) (.t 88))] (some [8])) .ret) .skip)) (.seq (.region [.q 89 (.mv (.t 0)), .q 90 (.faddr 4 (.t 9)), .q 91 (.load false 1 (.t 90)), .q 92 (.call 57 [(.t 89), (.t 91)]), .q 14 (.alloc [(.int .i64 0), (.int .i64 0), (.str []), (.int .i64 0), (.int .i64 0), (.str []), (.slice .nil 0 []), (.int .i64 0), (.int .i64 0), (.int .i64 0), (.int .i64 0)]), .w (.store 11 (.t 14) (.t 92))] (some [0, 2, 8, 9, 14])) (.seq (.seq (.region [.q 93 (.faddr 10 (.t 14)), .q 94 (.load false 1 (.t 93)), .q 95 (.bin .neq (.t 94) (.c (.int .i64 0)))] (some [0, 2, 8, 9, 14, 95])) (.cond (.t 95) (some [0, 2, 8, 9, 14]) (.seq (.region [.q 96 (.faddr 9 (.t 14)), .q 97 (.load false 1 (.t 96)), .q 98 (.faddr 10 (.t 14)), .q 99 (.load false 1 (.t 98)), .q 100 (.build [(.str []), (.slice .nil 0 []), (.slice .nil 0 []), (.int .i64 0), (.int .i64 0), (.int .i64 0), (.int .i64 0)] [(4, (1, (.t 97))), (6, (1, (.t 99)))]), .w (.store 7 (.t 8) (.t 100))] (some [8])) .ret) .skip)) (.seq (.region [.q 101 (.faddr 0 (.t 9)), .q 102 (.faddr 1 (.t 101)), .q 103 (.load false 1 (.t 102)), .q 104 (.faddr 0 (.t 14)), .q 105 (.load true 9 (.t 104)), .q 106 (.mkslice 9 [(.t 105)]), .q 107 (.append 9 104 (.t 103) (.t 106)), .q 108 (.faddr 0 (.t 9)), .q 109 (.faddr 1 (.t 108)), .w (.store 1 (.t 109) (.t 107))] (some [0, 2, 8, 9, 14])) (.region [.q 110 (.faddr 9 (.t 14)), .q 111 (.load false 1 (.t 110)), .q 112 (.faddr 4 (.t 9)), .w (.store 1 (.t 112) (.t 111))] (some [0, 2, 8, 9])))))))))))))))) (.seq (.region [.q 113 (.faddr 4 (.t 9)), .q 114 (.load false 1 (.t 113)), .q 115 (.bin .add (.t 114) (.c (.int .i64 1))), .q 116 (.faddr 4 (.t 9)), .w (.store 1 (.t 116) (.t 115))] (some [0, 2, 8, 9])) (.block 2 (.loop (.block 3 (.seq (.region [.q 117 (.mv (.t 0)), .q 118 (.faddr 4 (.t 9)), .q 119 (.load false 1 (.t 118)), .q 120 (.call 55 [(.t 117), (.t 119), (.c (.str [125]))]), .q 15 (.mv (.t 120))] (some [0, 2, 8, 9, 15])) (.seq (.seq (.region [.q 121 (.mv (.t 15))] (some [0, 2, 8, 9, 121])) (.cond (.t 121) (some [0, 2, 8, 9]) (.seq (.region [.q 122 (.faddr 4 (.t 9)), .q 123 (.load false 1 (.t 122)), .q 124 (.bin .add (.t 123) (.c (.int .i64 1))), .q 125 (.faddr 4 (.t 9)), .w (.store 1 (.t 125) (.t 124))] (some [8, 9])) (.seq (.region [.q 126 (.load true 7 (.t 9)), .w (.store 7 (.t 8) (.t 126))] (some [8])) .ret)) .skip)) (.seq (.region [.q 127 (.mv (.t 0)), .q 128 (.faddr 4 (.t 9)), .q 129 (.load false 1 (.t 128)), .q 130 (.mv (.t 2)), .q 131 (.bin .add (.t 130) (.c (.int .i64 1))), .q 132 (.faddr 5 (.t 9)), .q 133 (.load false 1 (.t 132)), .q 134 (.call 30 [(.t 127), (.t 129), (.t 131), (.t 133)]), .q 16 (.alloc [(.str []), (.slice .nil 0 []), (.slice .nil 0 []), (.int .i64 0), (.int .i64 0), (.int .i64 0), (.int .i64 0)]), .w (.store 7 (.t 16) (.t 134))] (some [0, 2, 8, 9, 16])) (.seq (.seq (.region [.q 135 (.faddr 6 (.t 16)), .q 136 (.load false 1 (.t 135)), .q 137 (.bin .neq (.t 136) (.c (.int .i64 0)))] (some [0, 2, 8, 9, 16, 137])) (.cond (.t 137) (some [0, 2, 8, 9, 16]) (.seq (.region [.q 138 (.load true 7 (.t 16)), .w (.store 7 (.t 8) (.t 138))] (some [8])) .ret) .skip)) (.seq (.region [.q 139 (.faddr 0 (.t 9)), .q 140 (.faddr 2 (.t 139)), .q 141 (.load false 1 (.t 140)), .q 142 (.faddr 0 (.t 16)), .q 143 (.load true 4 (.t 142)), .q 144 (.mkslice 4 [(.t 143)]), .q 145 (.append 4 72 (.t 141) (.t 144)), .q 146 (.faddr 0 (.t 9)), .q 147 (.faddr 2 (.t 146)), .w (.store 1 (.t 147) (.t 145))] (some [0, 2, 8, 9, 16])) (.seq (.region [.q 148 (.faddr 4 (.t 16)), .q 149 (.load false 1 (.t 148)), .q 150 (.faddr 4 (.t 9)), .w (.store 1 (.t 150) (.t 149))] (some [0, 2, 8, 9, 16])) (.region [.q 151 (.faddr 5 (.t 16)), .q 152 (.load false 1 (.t 151)), .q 153 (.faddr 5 (.t 9)), .w (.store 1 (.t 153) (.t 152))] (some [0, 2, 8, 9])))))))))))))))))
theorem code30 : IsCode Tryz.prog 30 sc30 [(8, (some (true, 7)))] 154 := .mk' Tryz.func30 (by kernel_rfl) (by kernel_rfl) (by kernel_rfl) (by kernel_rfl)
/-- quietus/quietusref32.expr -/
def sc31 : SC := (.seq (.region [.q 6 (.alloc [(.int .i64 0), (.int .i64 0), (.str []), (.slice .nil 0 []), (.int .i64 0), (.int .i64 0), (.int .i64 0)])] (some [0, 1, 2, 6])) (.seq (.region [.q 13 (.mv (.t 0)), .q 14 (.mv (.t 1)), .q 15 (.mv (.t 2)), .q 16 (.call 58 [(.t 13), (.t 14), (.t 15), (.c (.bool true))]), .q 7 (.mv (.t 16))] (some [0, 1, 2, 6, 7])) (.seq (.seq (.region [.q 17 (.mv (.t 7)), .q 18 (.bin .neq (.t 17) (.c (.int .i64 0)))] (some [0, 1, 2, 6, 7, 18])) (.cond (.t 18) (some [0, 1, 2, 6, 7]) (.seq (.region [.q 19 (.mv (.t 1)), .q 20 (.mv (.t 7)), .q 21 (.build [(.int .i64 0), (.int .i64 0), (.str []), (.slice .nil 0 []), (.int .i64 0), (.int .i64 0), (.int .i64 0)] [(5, (1, (.t 19))), (6, (1, (.t 20)))]), .w (.store 7 (.t 6) (.t 21))] (some [6])) .ret) .skip)) (.seq (.region [.q 22 (.mv (.t 0)), .q 23 (.mv (.t 1)), .q 24 (.mv (.t 2)), .q 25 (.call 59 [(.t 22), (.t 23), (.c (.int .i64 1)), (.t 24)]), .q 8 (.alloc [(.int .i64 0), (.int .i64 0), (.str []), (.slice .nil 0 []), (.int .i64 0), (.int .i64 0), (.int .i64 0)]), .w (.store 7 (.t 8) (.t 25))] (some [0, 2, 6, 8])) (.seq (.seq (.region [.q 26 (.faddr 6 (.t 8)), .q 27 (.load false 1 (.t 26)), .q 28 (.bin .neq (.t 27) (.c (.int .i64 0)))] (some [0, 2, 6, 8, 28])) (.cond (.t 28) (some [0, 2, 6, 8]) (.seq (.region [.q 29 (.load true 7 (.t 8)), .w (.store 7 (.t 6) (.t 29))] (some [6])) .ret) .skip)) (.seq (.region [.q 30 (.mv (.t 0)), .q 31 (.faddr 5 (.t 8)), .q 32 (.load false 1 (.t 31)), .q 33 (.call 55 [(.t 30), (.t 32), (.c (.str [63]))]), .q 9 (.mv (.t 33))] (some [0, 2, 6, 8, 9])) (.seq (.seq (.region [.q 34 (.mv (.t 9)), .q 35 (.un .not (.t 34))] (some [0, 2, 6, 8, 35])) (.cond (.t 35) (some [0, 2, 6, 8]) (.seq (.region [.q 36 (.load true 7 (.t 8)), .w (.store 7 (.t 6) (.t 36))] (some [6])) .ret) .skip)) (.seq (.region [.q 37 (.mv (.t 0)), .q 38 (.faddr 5 (.t 8)), .q 39 (.load false 1 (.t 38)), .q 40 (.bin .add (.t 39) (.c (.int .i64 1))), .q 41 (.mv (.t 2)), .q 42 (.bin .add (.t 41) (.c (.int .i64 1))), .q 43 (.call 31 [(.t 37), (.t 40), (.t 42)]), .q 10 (.alloc [(.int .i64 0), (.int .i64 0), (.str []), (.slice .nil 0 []), (.int .i64 0), (.int .i64 0), (.int .i64 0)]), .w (.store 7 (.t 10) (.t 43))] (some [0, 2, 6, 8, 10])) (.seq (.seq (.region [.q 44 (.faddr 6 (.t 10)), .q 45 (.load false 1 (.t 44)), .q 46 (.bin .neq (.t 45) (.c (.int .i64 0)))] (some [0, 2, 6, 8, 10, 46])) (.cond (.t 46) (some [0, 2, 6, 8, 10]) (.seq (.region [.q 47 (.load true 7 (.t 10)), .w (.store 7 (.t 6) (.t 47))] (some [6])) .ret) .skip)) (.seq (.region [.q 48 (.mv (.t 0)), .q 49 (.faddr 5 (.t 10)), .q 50 (.load false 1 (.t 49)), .q 51 (.call 55 [(.t 48), (.t 50), (.c (.str [58]))]), .q 11 (.mv (.t 51))] (some [0, 2, 6, 8, 10, 11])) (.seq (.seq (.region [.q 52 (.mv (.t 11)), .q 53 (.un .not (.t 52))] (some [0, 2, 6, 8, 10, 53])) (.cond (.t 53) (some [0, 2, 6, 8, 10]) (.seq (.region [.q 54 (.faddr 5 (.t 10)), .q 55 (.load false 1 (.t 54)), .q 56 (.build [(.int .i64 0), (.int .i64 0), (.str []), (.slice .nil 0 []), (.int .i64 0), (.int .i64 0), (.int .i64 0)] [(5, (1, (.t 55))), (6, (1, (.c (.int .i64 5))))]), .w (.store 7 (.t 6) (.t 56))] (some [6])) .ret) .skip)) (.seq (.region [.q 57 (.mv (.t 0)), .q 58 (.faddr 5 (.t 10)), .q 59 (.load false 1 (.t 58)), .q 60 (.bin .add (.t 59) (.c (.int .i64 1))), .q 61 (.mv (.t 2)), .q 62 (.bin .add (.t 61) (.c (.int .i64 1))), .q 63 (.call 31 [(.t 57), (.t 60), (.t 62)]), .q 12 (.alloc [(.int .i64 0), (.int .i64 0), (.str []), (.slice .nil 0 []), (.int .i64 0), (.int .i64 0), (.int .i64 0)]), .w (.store 7 (.t 12) (.t 63))] (some [6, 8, 10, 12])) (.seq (.seq (.region [.q 64 (.faddr 6 (.t 12)), .q 65 (.load false 1 (.t 64)), .q 66 (.bin .neq (.t 65) (.c (.int .i64 0)))] (some [6, 8, 10, 12, 66])) (.cond (.t 66) (some [6, 8, 10, 12]) (.seq (.region [.q 67 (.load true 7 (.t 12)), .w (.store 7 (.t 6) (.t 67))] (some [6])) .ret) .skip)) (.seq (.region [.q 68 (.faddr 0 (.t 8)), .q 69 (.faddr 4 (.t 68)), .q 70 (.load false 1 (.t 69)), .q 71 (.faddr 0 (.t 8)), .q 72 (.load true 5 (.t 71)), .q 73 (.faddr 0 (.t 10)), .q 74 (.load true 5 (.t 73)), .q 75 (.faddr 0 (.t 12)), .q 76 (.load true 5 (.t 75)), .q 77 (.mkslice 5 [(.t 72), (.t 74), (.t 76)]), .q 78 (.build [(.int .i64 0), (.int .i64 0), (.str []), (.slice .nil 0 []), (.int .i64 0)] [(0, (1, (.c (.int .i64 20)))), (4, (1, (.t 70))), (3, (1, (.t 77)))]), .q 79 (.faddr 5 (.t 12)), .q 80 (.load false 1 (.t 79)), .q 81 (.build [(.int .i64 0), (.int .i64 0), (.str []), (.slice .nil 0 []), (.int .i64 0), (.int .i64 0), (.int .i64 0)] [(0, (5, (.t 78))), (5, (1, (.t 80)))]), .w (.store 7 (.t 6) (.t 81))] (some [6])) .ret))))))))))))))
theorem code31 : IsCode Tryz.prog 31 sc31 [(6, (some (true, 7)))] 82 := .mk' Tryz.func31 (by kernel_rfl) (by kernel_rfl) (by kernel_rfl) (by kernel_rfl)
/-- quietus/quietusref32.SameArg -/
def sc32 : SC := (.seq (.region [.q 3 (.box (.t 0)), .q 4 (.box (.t 1)), .q 6 (.mv (.c (.bool false)))] (some [2, 3, 4])) (.seq (.seq (.region [.q 7 (.faddr 0 (.t 3)), .q 8 (.load false 1 (.t 7)), .q 9 (.faddr 0 (.t 4)), .q 10 (.load false 1 (.t 9)), .q 11 (.bin .neq (.t 8) (.t 10)), .q 12 (.mv (.t 11)), ⟨(some 13), (.mv (.t 2)), (some (12, false))⟩, ⟨(some 14), (.mv (.t 13)), (some (12, false))⟩, ⟨(some 15), (.faddr 8 (.t 3)), (some (14, true))⟩, ⟨(some 16), (.load false 1 (.t 15)), (some (14, true))⟩, ⟨(some 17), (.faddr 8 (.t 4)), (some (14, true))⟩, ⟨(some 18), (.load false 1 (.t 17)), (some (14, true))⟩, ⟨(some 19), (.bin .neq (.t 16) (.t 18)), (some (14, true))⟩, ⟨(some 20), (.pick (.t 14) (.t 19) (.c (.bool false))), (some (12, false))⟩, .q 21 (.pick (.t 12) (.c (.bool true)) (.t 20)), .q 22 (.mv (.t 21)), ⟨(some 23), (.faddr 0 (.t 3)), (some (22, false))⟩, ⟨(some 24), (.load false 1 (.t 23)), (some (22, false))⟩, ⟨(some 25), (.bin .eql (.t 24) (.c (.int .i64 1))), (some (22, false))⟩, ⟨(some 26), (.mv (.t 25)), (some (22, false))⟩, ⟨(some 27), (.faddr 0 (.t 3)), (some (26, false))⟩, ⟨(some 28), (.load false 1 (.t 27)), (some (26, false))⟩, ⟨(some 29), (.bin .eql (.t 28) (.c (.int .i64 3))), (some (26, false))⟩, ⟨(some 30), (.pick (.t 26) (.c (.bool true)) (.t 29)), (some (22, false))⟩, ⟨(some 31), (.mv (.t 30)), (some (22, false))⟩, ⟨(some 32), (.faddr 2 (.t 3)), (some (31, true))⟩, ⟨(some 33), (.load false 1 (.t 32)), (some (31, true))⟩, ⟨(some 34), (.faddr 2 (.t 4)), (some (31, true))⟩, ⟨(some 35), (.load false 1 (.t 34)), (some (31, true))⟩, ⟨(some 36), (.bins .neq (.t 33) (.t 35)), (some (31, true))⟩, ⟨(some 37), (.pick (.t 31) (.t 36) (.c (.bool false))), (some (22, false))⟩, .q 38 (.pick (.t 22) (.c (.bool true)) (.t 37)), .q 39 (.mv (.t 38)), ⟨(some 40), (.faddr 0 (.t 3)), (some (39, false))⟩, ⟨(some 41), (.load false 1 (.t 40)), (some (39, false))⟩, ⟨(some 42), (.bin .eql (.t 41) (.c (.int .i64 2))), (some (39, false))⟩, ⟨(some 43), (.mv (.t 42)), (some (39, false))⟩, ⟨(some 44), (.faddr 1 (.t 3)), (some (43, true))⟩, ⟨(some 45), (.load false 1 (.t 44)), (some (43, true))⟩, ⟨(some 46), (.faddr 1 (.t 4)), (some (43, true))⟩, ⟨(some 47), (.load false 1 (.t 46)), (some (43, true))⟩, ⟨(some 48), (.bin .neq (.t 45) (.t 47)), (some (43, true))⟩, ⟨(some 49), (.pick (.t 43) (.t 48) (.c (.bool false))), (some (39, false))⟩, .q 50 (.pick (.t 39) (.c (.bool true)) (.t 49))] (some [2, 3, 4, 50])) (.cond (.t 50) (some [2, 3, 4]) (.seq (.region [.q 6 (.mv (.c (.bool false)))] (some [6])) .ret) .skip)) (.seq (.region [.q 51 (.faddr 0 (.t 3)), .q 52 (.load false 1 (.t 51)), .q 53 (.bin .neq (.t 52) (.c (.int .i64 5))), .q 54 (.mv (.t 53)), ⟨(some 55), (.faddr 3 (.t 3)), (some (54, false))⟩, ⟨(some 56), (.load true 5 (.t 55)), (some (54, false))⟩, ⟨(some 57), (.faddr 3 (.t 4)), (some (54, false))⟩, ⟨(some 58), (.load true 5 (.t 57)), (some (54, false))⟩, ⟨(some 59), (.mv (.t 2)), (some (54, false))⟩, ⟨(some 60), (.call 13 [(.t 56), (.t 58), (.t 59)]), (some (54, false))⟩, .q 61 (.pick (.t 54) (.c (.bool true)) (.t 60)), .q 6 (.mv (.t 61))] (some [6])) .ret)))
theorem code32 : IsCode Tryz.prog 32 sc32 [(6, none)] 62 := .mk' Tryz.func32 (by kernel_rfl) (by kernel_rfl) (by kernel_rfl) (by kernel_rfl)
/-- quietus/quietusref32.sign -/
def sc55 : SC := (.seq (.region [.q 6 (.mv (.c (.bool false)))] (some [0, 1, 2])) (.seq (.region [.q 7 (.mv (.t 0)), .q 8 (.mv (.t 1)), .q 9 (.iaddr 4 (.t 7) (.t 8)), .q 10 (.faddr 0 (.t 9)), .q 11 (.load false 1 (.t 10)), .q 12 (.bin .eql (.t 11) (.c (.int .i64 4))), .q 13 (.mv (.t 12)), ⟨(some 14), (.mv (.t 0)), (some (13, true))⟩, ⟨(some 15), (.mv (.t 1)), (some (13, true))⟩, ⟨(some 16), (.iaddr 4 (.t 14) (.t 15)), (some (13, true))⟩, ⟨(some 17), (.faddr 2 (.t 16)), (some (13, true))⟩, ⟨(some 18), (.load false 1 (.t 17)), (some (13, true))⟩, ⟨(some 19), (.mv (.t 2)), (some (13, true))⟩, ⟨(some 20), (.bins .eql (.t 18) (.t 19)), (some (13, true))⟩, .q 21 (.pick (.t 13) (.t 20) (.c (.bool false))), .q 6 (.mv (.t 21))] (some [6])) .ret))
theorem code55 : IsCode Tryz.prog 55 sc55 [(6, none)] 22 := .mk' Tryz.func55 (by kernel_rfl) (by kernel_rfl) (by kernel_rfl) (by kernel_rfl)
/-- quietus/quietusref32.begins -/
def sc56 : SC := (.seq (.region [.q 4 (.mv (.c (.bool false)))] (some [0, 1])) (.seq (.region [.q 7 (.mv (.t 0)), .q 8 (.mv (.t 1)), .q 9 (.call 55 [(.t 7), (.t 8), (.c (.str [40]))]), .q 5 (.mv (.t 9))] (some [0, 1, 5])) (.seq (.region [.q 10 (.mv (.t 0)), .q 11 (.mv (.t 1)), .q 12 (.call 55 [(.t 10), (.t 11), (.c (.str [45]))]), .q 6 (.mv (.t 12))] (some [0, 1, 5, 6])) (.seq (.region [.q 13 (.mv (.t 0)), .q 14 (.mv (.t 1)), .q 15 (.iaddr 4 (.t 13) (.t 14)), .q 16 (.faddr 0 (.t 15)), .q 17 (.load false 1 (.t 16)), .q 18 (.bin .geq (.t 17) (.c (.int .i64 1))), .q 19 (.mv (.t 18)), ⟨(some 20), (.mv (.t 0)), (some (19, true))⟩, ⟨(some 21), (.mv (.t 1)), (some (19, true))⟩, ⟨(some 22), (.iaddr 4 (.t 20) (.t 21)), (some (19, true))⟩, ⟨(some 23), (.faddr 0 (.t 22)), (some (19, true))⟩, ⟨(some 24), (.load false 1 (.t 23)), (some (19, true))⟩, ⟨(some 25), (.bin .leq (.t 24) (.c (.int .i64 3))), (some (19, true))⟩, .q 26 (.pick (.t 19) (.t 25) (.c (.bool false))), .q 27 (.mv (.t 26)), ⟨(some 28), (.mv (.t 5)), (some (27, false))⟩, .q 29 (.pick (.t 27) (.c (.bool true)) (.t 28)), .q 30 (.mv (.t 29)), ⟨(some 31), (.mv (.t 6)), (some (30, false))⟩, .q 32 (.pick (.t 30) (.c (.bool true)) (.t 31)), .q 4 (.mv (.t 32))] (some [4])) .ret))))
theorem code56 : IsCode Tryz.prog 56 sc56 [(4, none)] 33 := .mk' Tryz.func56 (by kernel_rfl) (by kernel_rfl) (by kernel_rfl) (by kernel_rfl)
/-- quietus/quietusref32.arg -/
def sc57 : SC := (.seq (.region [.q 4 (.alloc [(.int .i64 0), (.int .i64 0), (.str []), (.int .i64 0), (.int .i64 0), (.str []), (.slice .nil 0 []), (.int .i64 0), (.int .i64 0), (.int .i64 0), (.int .i64 0)])] (some [0, 1, 4])) (.seq (.region [.q 10 (.mv (.t 0)), .q 11 (.mv (.t 1)), .q 12 (.iaddr 4 (.t 10) (.t 11)), .q 13 (.load true 4 (.t 12)), .q 5 (.alloc [(.int .i64 0), (.int .i64 0), (.str []), (.int .i64 0)]), .w (.store 4 (.t 5) (.t 13))] (some [0, 1, 4, 5])) (.seq (.seq (.region [.q 14 (.faddr 0 (.t 5)), .q 15 (.load false 1 (.t 14)), .q 16 (.bin .geq (.t 15) (.c (.int .i64 1))), .q 17 (.mv (.t 16)), ⟨(some 18), (.faddr 0 (.t 5)), (some (17, true))⟩, ⟨(some 19), (.load false 1 (.t 18)), (some (17, true))⟩, ⟨(some 20), (.bin .leq (.t 19) (.c (.int .i64 3))), (some (17, true))⟩, .q 21 (.pick (.t 17) (.t 20) (.c (.bool false)))] (some [0, 1, 4, 5, 21])) (.cond (.t 21) (some [0, 1, 4, 5]) (.seq (.region [.q 22 (.faddr 0 (.t 5)), .q 23 (.load false 1 (.t 22)), .q 24 (.faddr 2 (.t 5)), .q 25 (.load false 1 (.t 24)), .q 26 (.faddr 3 (.t 5)), .q 27 (.load false 1 (.t 26)), .q 28 (.faddr 1 (.t 5)), .q 29 (.load false 1 (.t 28)), .q 30 (.build [(.int .i64 0), (.int .i64 0), (.str []), (.int .i64 0), (.int .i64 0), (.str []), (.slice .nil 0 []), (.int .i64 0), (.int .i64 0)] [(0, (1, (.t 23))), (2, (1, (.t 25))), (1, (1, (.t 27))), (8, (1, (.t 29)))]), .q 31 (.mv (.t 1)), .q 32 (.bin .add (.t 31) (.c (.int .i64 1))), .q 33 (.build [(.int .i64 0), (.int .i64 0), (.str []), (.int .i64 0), (.int .i64 0), (.str []), (.slice .nil 0 []), (.int .i64 0), (.int .i64 0), (.int .i64 0), (.int .i64 0)] [(0, (9, (.t 30))), (9, (1, (.t 32)))]), .w (.store 11 (.t 4) (.t 33))] (some [4])) .ret) .skip)) (.seq (.region [.q 34 (.mv (.t 0)), .q 35 (.mv (.t 1)), .q 36 (.call 55 [(.t 34), (.t 35), (.c (.str [45, 62]))]), .q 6 (.mv (.t 36))] (some [0, 1, 4, 5, 6])) (.seq (.seq (.region [.q 37 (.mv (.t 6))] (some [0, 1, 4, 5, 37])) (.cond (.t 37) (some [0, 1, 4, 5]) (.seq (.region [.q 38 (.faddr 1 (.t 5)), .q 39 (.load false 1 (.t 38)), .q 40 (.build [(.int .i64 0), (.int .i64 0), (.str []), (.int .i64 0), (.int .i64 0), (.str []), (.slice .nil 0 []), (.int .i64 0), (.int .i64 0)] [(0, (1, (.c (.int .i64 4)))), (8, (1, (.t 39)))]), .q 41 (.mv (.t 1)), .q 42 (.bin .add (.t 41) (.c (.int .i64 1))), .q 43 (.build [(.int .i64 0), (.int .i64 0), (.str []), (.int .i64 0), (.int .i64 0), (.str []), (.slice .nil 0 []), (.int .i64 0), (.int .i64 0), (.int .i64 0), (.int .i64 0)] [(0, (9, (.t 40))), (9, (1, (.t 42)))]), .w (.store 11 (.t 4) (.t 43))] (some [4])) .ret) .skip)) (.seq (.region [.q 44 (.mv (.t 0)), .q 45 (.mv (.t 1)), .q 46 (.call 55 [(.t 44), (.t 45), (.c (.str [45]))]), .q 7 (.mv (.t 46))] (some [0, 1, 4, 5, 7])) (.seq (.seq (.region [.q 47 (.mv (.t 7))] (some [0, 1, 4, 5, 47])) (.cond (.t 47) (some [0, 1, 4, 5]) (.seq (.seq (.region [.q 48 (.mv (.t 0)), .q 49 (.mv (.t 1)), .q 50 (.bin .add (.t 49) (.c (.int .i64 1))), .q 51 (.iaddr 4 (.t 48) (.t 50)), .q 52 (.faddr 0 (.t 51)), .q 53 (.load false 1 (.t 52)), .q 54 (.bin .neq (.t 53) (.c (.int .i64 2)))] (some [0, 1, 4, 5, 54])) (.cond (.t 54) (some [0, 1, 4, 5]) (.seq (.region [.q 55 (.mv (.t 1)), .q 56 (.bin .add (.t 55) (.c (.int .i64 1))), .q 57 (.build [(.int .i64 0), (.int .i64 0), (.str []), (.int .i64 0), (.int .i64 0), (.str []), (.slice .nil 0 []), (.int .i64 0), (.int .i64 0), (.int .i64 0), (.int .i64 0)] [(9, (1, (.t 56))), (10, (1, (.c (.int .i64 5))))]), .w (.store 11 (.t 4) (.t 57))] (some [4])) .ret) .skip)) (.seq (.region [.q 58 (.mv (.t 0)), .q 59 (.mv (.t 1)), .q 60 (.bin .add (.t 59) (.c (.int .i64 1))), .q 61 (.iaddr 4 (.t 58) (.t 60)), .q 62 (.faddr 3 (.t 61)), .q 63 (.load false 1 (.t 62)), .q 64 (.un .neg (.t 63)), .q 65 (.faddr 1 (.t 5)), .q 66 (.load false 1 (.t 65)), .q 67 (.build [(.int .i64 0), (.int .i64 0), (.str []), (.int .i64 0), (.int .i64 0), (.str []), (.slice .nil 0 []), (.int .i64 0), (.int .i64 0)] [(0, (1, (.c (.int .i64 2)))), (1, (1, (.t 64))), (8, (1, (.t 66)))]), .q 68 (.mv (.t 1)), .q 69 (.bin .add (.t 68) (.c (.int .i64 2))), .q 70 (.build [(.int .i64 0), (.int .i64 0), (.str []), (.int .i64 0), (.int .i64 0), (.str []), (.slice .nil 0 []), (.int .i64 0), (.int .i64 0), (.int .i64 0), (.int .i64 0)] [(0, (9, (.t 67))), (9, (1, (.t 69)))]), .w (.store 11 (.t 4) (.t 70))] (some [4])) .ret)) .skip)) (.seq (.region [.q 71 (.mv (.t 0)), .q 72 (.mv (.t 1)), .q 73 (.bin .add (.t 72) (.c (.int .i64 1))), .q 74 (.call 31 [(.t 71), (.t 73), (.c (.int .i64 1))]), .q 8 (.alloc [(.int .i64 0), (.int .i64 0), (.str []), (.slice .nil 0 []), (.int .i64 0), (.int .i64 0), (.int .i64 0)]), .w (.store 7 (.t 8) (.t 74))] (some [0, 4, 5, 8])) (.seq (.seq (.region [.q 75 (.faddr 6 (.t 8)), .q 76 (.load false 1 (.t 75)), .q 77 (.bin .neq (.t 76) (.c (.int .i64 0)))] (some [0, 4, 5, 8, 77])) (.cond (.t 77) (some [0, 4, 5, 8]) (.seq (.region [.q 78 (.faddr 5 (.t 8)), .q 79 (.load false 1 (.t 78)), .q 80 (.faddr 6 (.t 8)), .q 81 (.load false 1 (.t 80)), .q 82 (.build [(.int .i64 0), (.int .i64 0), (.str []), (.int .i64 0), (.int .i64 0), (.str []), (.slice .nil 0 []), (.int .i64 0), (.int .i64 0), (.int .i64 0), (.int .i64 0)] [(9, (1, (.t 79))), (10, (1, (.t 81)))]), .w (.store 11 (.t 4) (.t 82))] (some [4])) .ret) .skip)) (.seq (.region [.q 83 (.mv (.t 0)), .q 84 (.faddr 5 (.t 8)), .q 85 (.load false 1 (.t 84)), .q 86 (.call 55 [(.t 83), (.t 85), (.c (.str [41]))]), .q 9 (.mv (.t 86))] (some [4, 5, 8, 9])) (.seq (.seq (.region [.q 87 (.mv (.t 9)), .q 88 (.un .not (.t 87))] (some [4, 5, 8, 88])) (.cond (.t 88) (some [4, 5, 8]) (.seq (.region [.q 89 (.faddr 5 (.t 8)), .q 90 (.load false 1 (.t 89)), .q 91 (.build [(.int .i64 0), (.int .i64 0), (.str []), (.int .i64 0), (.int .i64 0), (.str []), (.slice .nil 0 []), (.int .i64 0), (.int .i64 0), (.int .i64 0), (.int .i64 0)] [(9, (1, (.t 90))), (10, (1, (.c (.int .i64 5))))]), .w (.store 11 (.t 4) (.t 91))] (some [4])) .ret) .skip)) (.seq (.region [.q 92 (.faddr 0 (.t 8)), .q 93 (.load true 5 (.t 92)), .q 94 (.faddr 1 (.t 5)), .q 95 (.load false 1 (.t 94)), .q 96 (.build [(.int .i64 0), (.int .i64 0), (.str []), (.int .i64 0), (.int .i64 0), (.str []), (.slice .nil 0 []), (.int .i64 0), (.int .i64 0)] [(0, (1, (.c (.int .i64 5)))), (3, (5, (.t 93))), (8, (1, (.t 95)))]), .q 97 (.faddr 5 (.t 8)), .q 98 (.load false 1 (.t 97)), .q 99 (.bin .add (.t 98) (.c (.int .i64 1))), .q 100 (.build [(.int .i64 0), (.int .i64 0), (.str []), (.int .i64 0), (.int .i64 0), (.str []), (.slice .nil 0 []), (.int .i64 0), (.int .i64 0), (.int .i64 0), (.int .i64 0)] [(0, (9, (.t 96))), (9, (1, (.t 99)))]), .w (.store 11 (.t 4) (.t 100))] (some [4])) .ret))))))))))))
theorem code57 : IsCode Tryz.prog 57 sc57 [(4, (some (true, 11)))] 101 := .mk' Tryz.func57 (by kernel_rfl) (by kernel_rfl) (by kernel_rfl) (by kernel_rfl)
/-- quietus/quietusref32.first -/
def sc58 : SC := (.seq (.region [.q 8 (.mv (.c (.int .i64 0)))] (some [0, 1, 2, 3])) (.seq (.region [.q 11 (.mv (.t 0)), .q 12 (.mv (.t 1)), .q 13 (.call 56 [(.t 11), (.t 12)]), .q 9 (.mv (.t 13))] (some [0, 1, 2, 3, 9])) (.seq (.region [.q 14 (.mv (.t 0)), .q 15 (.mv (.t 1)), .q 16 (.call 55 [(.t 14), (.t 15), (.c (.str [33]))]), .q 10 (.mv (.t 16))] (some [2, 3, 9, 10])) (.seq (.seq (.region [.q 17 (.mv (.t 9)), .q 18 (.un .not (.t 17)), .q 19 (.mv (.t 18)), ⟨(some 20), (.mv (.t 3)), (some (19, true))⟩, ⟨(some 21), (.un .not (.t 20)), (some (19, true))⟩, ⟨(some 22), (.mv (.t 21)), (some (19, true))⟩, ⟨(some 23), (.mv (.t 10)), (some (22, false))⟩, ⟨(some 24), (.un .not (.t 23)), (some (22, false))⟩, ⟨(some 25), (.pick (.t 22) (.c (.bool true)) (.t 24)), (some (19, true))⟩, .q 26 (.pick (.t 19) (.t 25) (.c (.bool false)))] (some [2, 26])) (.cond (.t 26) (some [2]) (.seq (.region [.q 8 (.mv (.c (.int .i64 5)))] (some [8])) .ret) .skip)) (.seq (.seq (.region [.q 27 (.mv (.t 2)), .q 28 (.bin .gtr (.t 27) (.c (.int .i64 30)))] (some [28])) (.cond (.t 28) (some []) (.seq (.region [.q 8 (.mv (.c (.int .i64 2)))] (some [8])) .ret) .skip)) (.seq (.region [.q 8 (.mv (.c (.int .i64 0)))] (some [8])) .ret))))))
theorem code58 : IsCode Tryz.prog 58 sc58 [(8, none)] 29 := .mk' Tryz.func58 (by kernel_rfl) (by kernel_rfl) (by kernel_rfl) (by kernel_rfl)
/-- quietus/quietusref32.binary -/
def sc59 : SC := (.seq (.region [.q 8 (.alloc [(.int .i64 0), (.int .i64 0), (.str []), (.slice .nil 0 []), (.int .i64 0), (.int .i64 0), (.int .i64 0)])] (some [0, 1, 2, 3, 8])) (.seq (.seq (.region [.q 12 (.mv (.t 2)), .q 13 (.bin .gtr (.t 12) (.c (.int .i64 6)))] (some [0, 1, 2, 3, 8, 13])) (.cond (.t 13) (some [0, 1, 2, 3, 8]) (.seq (.region [.q 14 (.mv (.t 0)), .q 15 (.mv (.t 1)), .q 16 (.mv (.t 3)), .q 17 (.call 84 [(.t 14), (.t 15), (.t 16)]), .w (.store 7 (.t 8) (.t 17))] (some [8])) .ret) .skip)) (.seq (.seq (.region [.q 18 (.mv (.t 2)), .q 19 (.bin .eql (.t 18) (.c (.int .i64 3)))] (some [0, 1, 2, 3, 8, 19])) (.cond (.t 19) (some [0, 1, 2, 3, 8]) (.seq (.region [.q 20 (.mv (.t 0)), .q 21 (.mv (.t 1)), .q 22 (.mv (.t 3)), .q 23 (.call 85 [(.t 20), (.t 21), (.t 22)]), .w (.store 7 (.t 8) (.t 23))] (some [8])) .ret) .skip)) (.seq (.region [.q 24 (.mv (.t 0)), .q 25 (.mv (.t 1)), .q 26 (.mv (.t 2)), .q 27 (.bin .add (.t 26) (.c (.int .i64 1))), .q 28 (.mv (.t 3)), .q 29 (.call 59 [(.t 24), (.t 25), (.t 27), (.t 28)]), .q 9 (.alloc [(.int .i64 0), (.int .i64 0), (.str []), (.slice .nil 0 []), (.int .i64 0), (.int .i64 0), (.int .i64 0)]), .w (.store 7 (.t 9) (.t 29))] (some [0, 2, 3, 8, 9])) (.seq (.block 0 (.loop (.seq (.seq (.region [.q 30 (.faddr 6 (.t 9)), .q 31 (.load false 1 (.t 30)), .q 32 (.bin .eql (.t 31) (.c (.int .i64 0)))] (some [0, 2, 3, 8, 9, 32])) (.cond (.t 32) (some [0, 2, 3, 8, 9]) .skip (.exit 0))) (.block 1 (.seq (.region [.q 33 (.mv (.t 0)), .q 34 (.faddr 5 (.t 9)), .q 35 (.load false 1 (.t 34)), .q 36 (.call 86 [(.t 33), (.t 35)]), .q 10 (.alloc [(.int .i64 0), (.int .i64 0)]), .w (.store 2 (.t 10) (.t 36))] (some [0, 2, 3, 8, 9, 10])) (.seq (.seq (.region [.q 37 (.faddr 0 (.t 10)), .q 38 (.load false 1 (.t 37)), .q 39 (.mv (.t 2)), .q 40 (.bin .neq (.t 38) (.t 39))] (some [0, 2, 3, 8, 9, 10, 40])) (.cond (.t 40) (some [0, 2, 3, 8, 9, 10]) (.seq (.region [.q 41 (.load true 7 (.t 9)), .w (.store 7 (.t 8) (.t 41))] (some [8])) .ret) .skip)) (.seq (.region [.q 42 (.mv (.t 0)), .q 43 (.faddr 5 (.t 9)), .q 44 (.load false 1 (.t 43)), .q 45 (.bin .add (.t 44) (.c (.int .i64 1))), .q 46 (.mv (.t 2)), .q 47 (.bin .add (.t 46) (.c (.int .i64 1))), .q 48 (.mv (.t 3)), .q 49 (.call 59 [(.t 42), (.t 45), (.t 47), (.t 48)]), .q 11 (.alloc [(.int .i64 0), (.int .i64 0), (.str []), (.slice .nil 0 []), (.int .i64 0), (.int .i64 0), (.int .i64 0)]), .w (.store 7 (.t 11) (.t 49))] (some [0, 2, 3, 8, 9, 10, 11])) (.seq (.seq (.region [.q 50 (.faddr 6 (.t 11)), .q 51 (.load false 1 (.t 50)), .q 52 (.bin .neq (.t 51) (.c (.int .i64 0)))] (some [0, 2, 3, 8, 9, 10, 11, 52])) (.cond (.t 52) (some [0, 2, 3, 8, 9, 10, 11]) (.seq (.region [.q 53 (.load true 7 (.t 11)), .w (.store 7 (.t 8) (.t 53))] (some [8])) .ret) .skip)) (.seq (.region [.q 54 (.faddr 1 (.t 10)), .q 55 (.load false 1 (.t 54)), .q 56 (.faddr 0 (.t 9)), .q 57 (.faddr 4 (.t 56)), .q 58 (.load false 1 (.t 57)), .q 59 (.faddr 0 (.t 9)), .q 60 (.load true 5 (.t 59)), .q 61 (.faddr 0 (.t 11)), .q 62 (.load true 5 (.t 61)), .q 63 (.mkslice 5 [(.t 60), (.t 62)]), .q 64 (.build [(.int .i64 0), (.int .i64 0), (.str []), (.slice .nil 0 []), (.int .i64 0)] [(0, (1, (.t 55))), (4, (1, (.t 58))), (3, (1, (.t 63)))]), .q 65 (.faddr 5 (.t 11)), .q 66 (.load false 1 (.t 65)), .q 67 (.build [(.int .i64 0), (.int .i64 0), (.str []), (.slice .nil 0 []), (.int .i64 0), (.int .i64 0), (.int .i64 0)] [(0, (5, (.t 64))), (5, (1, (.t 66)))]), .w (.store 7 (.t 9) (.t 67))] (some [0, 2, 3, 8, 9])) (.seq (.region [.q 68 (.mv (.t 2)), .q 69 (.bin .eql (.t 68) (.c (.int .i64 4)))] (some [0, 2, 3, 8, 9, 69])) (.cond (.t 69) (some [0, 2, 3, 8, 9]) (.seq (.region [.q 70 (.load true 7 (.t 9)), .w (.store 7 (.t 8) (.t 70))] (some [8])) .ret) .skip))))))))))) (.seq (.region [.q 71 (.load true 7 (.t 9)), .w (.store 7 (.t 8) (.t 71))] (some [8])) .ret))))))
theorem code59 : IsCode Tryz.prog 59 sc59 [(8, (some (true, 7)))] 72 := .mk' Tryz.func59 (by kernel_rfl) (by kernel_rfl) (by kernel_rfl) (by kernel_rfl)
/-- quietus/quietusref32.minus -/
def sc84 : SC := (.seq (.region [.q 6 (.alloc [(.int .i64 0), (.int .i64 0), (.str []), (.slice .nil 0 []), (.int .i64 0), (.int .i64 0), (.int .i64 0)])] (some [0, 1, 2, 6])) (.seq (.region [.q 10 (.mv (.t 0)), .q 11 (.mv (.t 1)), .q 12 (.call 55 [(.t 10), (.t 11), (.c (.str [45]))]), .q 7 (.mv (.t 12))] (some [0, 1, 2, 6, 7])) (.seq (.seq (.region [.q 13 (.mv (.t 7)), .q 14 (.un .not (.t 13))] (some [0, 1, 2, 6, 14])) (.cond (.t 14) (some [0, 1, 2, 6]) (.seq (.region [.q 15 (.mv (.t 0)), .q 16 (.mv (.t 1)), .q 17 (.mv (.t 2)), .q 18 (.call 104 [(.t 15), (.t 16), (.t 17)]), .w (.store 7 (.t 6) (.t 18))] (some [6])) .ret) .skip)) (.seq (.region [.q 19 (.mv (.t 0)), .q 20 (.mv (.t 1)), .q 21 (.bin .add (.t 20) (.c (.int .i64 1))), .q 22 (.mv (.t 2)), .q 23 (.bin .add (.t 22) (.c (.int .i64 1))), .q 24 (.call 58 [(.t 19), (.t 21), (.t 23), (.c (.bool false))]), .q 8 (.mv (.t 24))] (some [0, 1, 2, 6, 8])) (.seq (.seq (.region [.q 25 (.mv (.t 8)), .q 26 (.bin .neq (.t 25) (.c (.int .i64 0)))] (some [0, 1, 2, 6, 8, 26])) (.cond (.t 26) (some [0, 1, 2, 6, 8]) (.seq (.region [.q 27 (.mv (.t 1)), .q 28 (.bin .add (.t 27) (.c (.int .i64 1))), .q 29 (.mv (.t 8)), .q 30 (.build [(.int .i64 0), (.int .i64 0), (.str []), (.slice .nil 0 []), (.int .i64 0), (.int .i64 0), (.int .i64 0)] [(5, (1, (.t 28))), (6, (1, (.t 29)))]), .w (.store 7 (.t 6) (.t 30))] (some [6])) .ret) .skip)) (.seq (.region [.q 31 (.mv (.t 0)), .q 32 (.mv (.t 1)), .q 33 (.bin .add (.t 32) (.c (.int .i64 1))), .q 34 (.mv (.t 2)), .q 35 (.bin .add (.t 34) (.c (.int .i64 1))), .q 36 (.call 84 [(.t 31), (.t 33), (.t 35)]), .q 9 (.alloc [(.int .i64 0), (.int .i64 0), (.str []), (.slice .nil 0 []), (.int .i64 0), (.int .i64 0), (.int .i64 0)]), .w (.store 7 (.t 9) (.t 36))] (some [0, 1, 6, 9])) (.seq (.seq (.region [.q 37 (.faddr 6 (.t 9)), .q 38 (.load false 1 (.t 37)), .q 39 (.bin .neq (.t 38) (.c (.int .i64 0)))] (some [0, 1, 6, 9, 39])) (.cond (.t 39) (some [0, 1, 6, 9]) (.seq (.region [.q 40 (.load true 7 (.t 9)), .w (.store 7 (.t 6) (.t 40))] (some [6])) .ret) .skip)) (.seq (.region [.q 41 (.mv (.t 0)), .q 42 (.mv (.t 1)), .q 43 (.iaddr 4 (.t 41) (.t 42)), .q 44 (.faddr 1 (.t 43)), .q 45 (.load false 1 (.t 44)), .q 46 (.faddr 0 (.t 9)), .q 47 (.load true 5 (.t 46)), .q 48 (.mkslice 5 [(.t 47)]), .q 49 (.build [(.int .i64 0), (.int .i64 0), (.str []), (.slice .nil 0 []), (.int .i64 0)] [(0, (1, (.c (.int .i64 6)))), (4, (1, (.t 45))), (3, (1, (.t 48)))]), .q 50 (.faddr 5 (.t 9)), .q 51 (.load false 1 (.t 50)), .q 52 (.build [(.int .i64 0), (.int .i64 0), (.str []), (.slice .nil 0 []), (.int .i64 0), (.int .i64 0), (.int .i64 0)] [(0, (5, (.t 49))), (5, (1, (.t 51)))]), .w (.store 7 (.t 6) (.t 52))] (some [6])) .ret))))))))
theorem code84 : IsCode Tryz.prog 84 sc84 [(6, (some (true, 7)))] 53 := .mk' Tryz.func84 (by kernel_rfl) (by kernel_rfl) (by kernel_rfl) (by kernel_rfl)
/-- quietus/quietusref32.bang -/
def sc85 : SC := (.seq (.region [.q 6 (.alloc [(.int .i64 0), (.int .i64 0), (.str []), (.slice .nil 0 []), (.int .i64 0), (.int .i64 0), (.int .i64 0)])] (some [0, 1, 2, 6])) (.seq (.region [.q 10 (.mv (.t 0)), .q 11 (.mv (.t 1)), .q 12 (.call 55 [(.t 10), (.t 11), (.c (.str [33]))]), .q 7 (.mv (.t 12))] (some [0, 1, 2, 6, 7])) (.seq (.seq (.region [.q 13 (.mv (.t 7)), .q 14 (.un .not (.t 13))] (some [0, 1, 2, 6, 14])) (.cond (.t 14) (some [0, 1, 2, 6]) (.seq (.region [.q 15 (.mv (.t 0)), .q 16 (.mv (.t 1)), .q 17 (.mv (.t 2)), .q 18 (.call 59 [(.t 15), (.t 16), (.c (.int .i64 4)), (.t 17)]), .w (.store 7 (.t 6) (.t 18))] (some [6])) .ret) .skip)) (.seq (.region [.q 19 (.mv (.t 0)), .q 20 (.mv (.t 1)), .q 21 (.bin .add (.t 20) (.c (.int .i64 1))), .q 22 (.mv (.t 2)), .q 23 (.bin .add (.t 22) (.c (.int .i64 1))), .q 24 (.call 58 [(.t 19), (.t 21), (.t 23), (.c (.bool true))]), .q 8 (.mv (.t 24))] (some [0, 1, 2, 6, 8])) (.seq (.seq (.region [.q 25 (.mv (.t 8)), .q 26 (.bin .neq (.t 25) (.c (.int .i64 0)))] (some [0, 1, 2, 6, 8, 26])) (.cond (.t 26) (some [0, 1, 2, 6, 8]) (.seq (.region [.q 27 (.mv (.t 1)), .q 28 (.bin .add (.t 27) (.c (.int .i64 1))), .q 29 (.mv (.t 8)), .q 30 (.build [(.int .i64 0), (.int .i64 0), (.str []), (.slice .nil 0 []), (.int .i64 0), (.int .i64 0), (.int .i64 0)] [(5, (1, (.t 28))), (6, (1, (.t 29)))]), .w (.store 7 (.t 6) (.t 30))] (some [6])) .ret) .skip)) (.seq (.region [.q 31 (.mv (.t 0)), .q 32 (.mv (.t 1)), .q 33 (.bin .add (.t 32) (.c (.int .i64 1))), .q 34 (.mv (.t 2)), .q 35 (.bin .add (.t 34) (.c (.int .i64 1))), .q 36 (.call 85 [(.t 31), (.t 33), (.t 35)]), .q 9 (.alloc [(.int .i64 0), (.int .i64 0), (.str []), (.slice .nil 0 []), (.int .i64 0), (.int .i64 0), (.int .i64 0)]), .w (.store 7 (.t 9) (.t 36))] (some [0, 1, 6, 9])) (.seq (.seq (.region [.q 37 (.faddr 6 (.t 9)), .q 38 (.load false 1 (.t 37)), .q 39 (.bin .neq (.t 38) (.c (.int .i64 0)))] (some [0, 1, 6, 9, 39])) (.cond (.t 39) (some [0, 1, 6, 9]) (.seq (.region [.q 40 (.load true 7 (.t 9)), .w (.store 7 (.t 6) (.t 40))] (some [6])) .ret) .skip)) (.seq (.region [.q 41 (.mv (.t 0)), .q 42 (.mv (.t 1)), .q 43 (.iaddr 4 (.t 41) (.t 42)), .q 44 (.faddr 1 (.t 43)), .q 45 (.load false 1 (.t 44)), .q 46 (.faddr 0 (.t 9)), .q 47 (.load true 5 (.t 46)), .q 48 (.mkslice 5 [(.t 47)]), .q 49 (.build [(.int .i64 0), (.int .i64 0), (.str []), (.slice .nil 0 []), (.int .i64 0)] [(0, (1, (.c (.int .i64 5)))), (4, (1, (.t 45))), (3, (1, (.t 48)))]), .q 50 (.faddr 5 (.t 9)), .q 51 (.load false 1 (.t 50)), .q 52 (.build [(.int .i64 0), (.int .i64 0), (.str []), (.slice .nil 0 []), (.int .i64 0), (.int .i64 0), (.int .i64 0)] [(0, (5, (.t 49))), (5, (1, (.t 51)))]), .w (.store 7 (.t 6) (.t 52))] (some [6])) .ret))))))))
theorem code85 : IsCode Tryz.prog 85 sc85 [(6, (some (true, 7)))] 53 := .mk' Tryz.func85 (by kernel_rfl) (by kernel_rfl) (by kernel_rfl) (by kernel_rfl)
/-- quietus/quietusref32.level -/
def sc86 : SC := (.seq (.region [.q 4 (.alloc [(.int .i64 0), (.int .i64 0)])] (some [0, 1, 4])) (.seq (.region [.q 9 (.mkslice 1 [(.c (.str [42])), (.c (.str [47])), (.c (.str [37])), (.c (.str [43])), (.c (.str [45])), (.c (.str [61, 61])), (.c (.str [33, 61])), (.c (.str [60])), (.c (.str [60, 61])), (.c (.str [62])), (.c (.str [62, 61])), (.c (.str [38, 38])), (.c (.str [124, 124]))]), .q 5 (.mv (.t 9))] (some [0, 1, 4, 5])) (.seq (.region [.q 10 (.mkslice 1 [(.c (.int .i64 6)), (.c (.int .i64 6)), (.c (.int .i64 6)), (.c (.int .i64 5)), (.c (.int .i64 5)), (.c (.int .i64 4)), (.c (.int .i64 4)), (.c (.int .i64 4)), (.c (.int .i64 4)), (.c (.int .i64 4)), (.c (.int .i64 4)), (.c (.int .i64 2)), (.c (.int .i64 1))]), .q 6 (.mv (.t 10))] (some [0, 1, 4, 5, 6])) (.seq (.seq (.region [.q 7 (.mv (.c (.int .i64 0)))] (some [0, 1, 4, 5, 6, 7])) (.block 0 (.loop (.seq (.seq (.region [.q 11 (.mv (.t 7)), .q 12 (.mv (.t 5)), .q 13 (.len false (.t 12)), .q 14 (.bin .lss (.t 11) (.t 13))] (some [0, 1, 4, 5, 6, 7, 14])) (.cond (.t 14) (some [0, 1, 4, 5, 6, 7]) .skip (.exit 0))) (.seq (.block 1 (.seq (.region [.q 17 (.mv (.t 0)), .q 18 (.mv (.t 1)), .q 19 (.mv (.t 5)), .q 20 (.mv (.t 7)), .q 21 (.iaddr 1 (.t 19) (.t 20)), .q 22 (.load false 1 (.t 21)), .q 23 (.call 55 [(.t 17), (.t 18), (.t 22)]), .q 8 (.mv (.t 23))] (some [0, 1, 4, 5, 6, 7, 8])) (.seq (.region [.q 24 (.mv (.t 8))] (some [0, 1, 4, 5, 6, 7, 24])) (.cond (.t 24) (some [0, 1, 4, 5, 6, 7]) (.seq (.region [.q 25 (.mv (.t 6)), .q 26 (.mv (.t 7)), .q 27 (.iaddr 1 (.t 25) (.t 26)), .q 28 (.load false 1 (.t 27)), .q 29 (.mv (.t 7)), .q 30 (.bin .add (.c (.int .i64 7)) (.t 29)), .q 31 (.build [(.int .i64 0), (.int .i64 0)] [(0, (1, (.t 28))), (1, (1, (.t 30)))]), .w (.store 2 (.t 4) (.t 31))] (some [4])) .ret) .skip)))) (.region [.q 15 (.mv (.t 7)), .q 16 (.bin .add (.t 15) (.c (.int .i64 1))), .q 7 (.mv (.t 16))] (some [0, 1, 4, 5, 6, 7]))))))) (.seq (.region [.q 32 (.build [(.int .i64 0), (.int .i64 0)] []), .w (.store 2 (.t 4) (.t 32))] (some [4])) .ret)))))
theorem code86 : IsCode Tryz.prog 86 sc86 [(4, (some (true, 2)))] 33 := .mk' Tryz.func86 (by kernel_rfl) (by kernel_rfl) (by kernel_rfl) (by kernel_rfl)
/-- quietus/quietusref32.atom -/
def sc104 : SC := (.seq (.region [.q 6 (.alloc [(.int .i64 0), (.int .i64 0), (.str []), (.slice .nil 0 []), (.int .i64 0), (.int .i64 0), (.int .i64 0)])] (some [0, 1, 2, 6])) (.seq (.region [.q 12 (.mv (.t 0)), .q 13 (.mv (.t 1)), .q 14 (.iaddr 4 (.t 12) (.t 13)), .q 15 (.load true 4 (.t 14)), .q 7 (.alloc [(.int .i64 0), (.int .i64 0), (.str []), (.int .i64 0)]), .w (.store 4 (.t 7) (.t 15))] (some [0, 1, 2, 6, 7])) (.seq (.region [.q 16 (.mv (.t 0)), .q 17 (.mv (.t 1)), .q 18 (.call 55 [(.t 16), (.t 17), (.c (.str [40]))]), .q 8 (.mv (.t 18))] (some [0, 1, 2, 6, 7, 8])) (.seq (.seq (.region [.q 19 (.mv (.t 8))] (some [0, 1, 2, 6, 7, 19])) (.cond (.t 19) (some [0, 1, 2, 6, 7]) (.seq (.region [.q 20 (.mv (.t 0)), .q 21 (.mv (.t 1)), .q 22 (.bin .add (.t 21) (.c (.int .i64 1))), .q 23 (.mv (.t 2)), .q 24 (.bin .add (.t 23) (.c (.int .i64 1))), .q 25 (.call 31 [(.t 20), (.t 22), (.t 24)]), .q 9 (.alloc [(.int .i64 0), (.int .i64 0), (.str []), (.slice .nil 0 []), (.int .i64 0), (.int .i64 0), (.int .i64 0)]), .w (.store 7 (.t 9) (.t 25))] (some [0, 6, 9])) (.seq (.seq (.region [.q 26 (.faddr 6 (.t 9)), .q 27 (.load false 1 (.t 26)), .q 28 (.bin .neq (.t 27) (.c (.int .i64 0)))] (some [0, 6, 9, 28])) (.cond (.t 28) (some [0, 6, 9]) (.seq (.region [.q 29 (.load true 7 (.t 9)), .w (.store 7 (.t 6) (.t 29))] (some [6])) .ret) .skip)) (.seq (.region [.q 30 (.mv (.t 0)), .q 31 (.faddr 5 (.t 9)), .q 32 (.load false 1 (.t 31)), .q 33 (.call 55 [(.t 30), (.t 32), (.c (.str [41]))]), .q 10 (.mv (.t 33))] (some [6, 9, 10])) (.seq (.seq (.region [.q 34 (.mv (.t 10)), .q 35 (.un .not (.t 34))] (some [6, 9, 35])) (.cond (.t 35) (some [6, 9]) (.seq (.region [.q 36 (.faddr 5 (.t 9)), .q 37 (.load false 1 (.t 36)), .q 38 (.build [(.int .i64 0), (.int .i64 0), (.str []), (.slice .nil 0 []), (.int .i64 0), (.int .i64 0), (.int .i64 0)] [(5, (1, (.t 37))), (6, (1, (.c (.int .i64 5))))]), .w (.store 7 (.t 6) (.t 38))] (some [6])) .ret) .skip)) (.seq (.region [.q 39 (.faddr 0 (.t 9)), .q 40 (.load true 5 (.t 39)), .q 41 (.faddr 5 (.t 9)), .q 42 (.load false 1 (.t 41)), .q 43 (.bin .add (.t 42) (.c (.int .i64 1))), .q 44 (.build [(.int .i64 0), (.int .i64 0), (.str []), (.slice .nil 0 []), (.int .i64 0), (.int .i64 0), (.int .i64 0)] [(0, (5, (.t 40))), (5, (1, (.t 43)))]), .w (.store 7 (.t 6) (.t 44))] (some [6])) .ret))))) .skip)) (.seq (.seq (.region [.q 45 (.faddr 0 (.t 7)), .q 46 (.load false 1 (.t 45)), .q 47 (.bin .eql (.t 46) (.c (.int .i64 2)))] (some [0, 1, 2, 6, 7, 47])) (.cond (.t 47) (some [0, 1, 2, 6, 7]) (.seq (.region [.q 48 (.faddr 3 (.t 7)), .q 49 (.load false 1 (.t 48)), .q 50 (.faddr 1 (.t 7)), .q 51 (.load false 1 (.t 50)), .q 52 (.build [(.int .i64 0), (.int .i64 0), (.str []), (.slice .nil 0 []), (.int .i64 0)] [(0, (1, (.c (.int .i64 1)))), (1, (1, (.t 49))), (4, (1, (.t 51)))]), .q 53 (.mv (.t 1)), .q 54 (.bin .add (.t 53) (.c (.int .i64 1))), .q 55 (.build [(.int .i64 0), (.int .i64 0), (.str []), (.slice .nil 0 []), (.int .i64 0), (.int .i64 0), (.int .i64 0)] [(0, (5, (.t 52))), (5, (1, (.t 54)))]), .w (.store 7 (.t 6) (.t 55))] (some [6])) .ret) .skip)) (.seq (.seq (.region [.q 56 (.faddr 0 (.t 7)), .q 57 (.load false 1 (.t 56)), .q 58 (.bin .eql (.t 57) (.c (.int .i64 3)))] (some [0, 1, 2, 6, 7, 58])) (.cond (.t 58) (some [0, 1, 2, 6, 7]) (.seq (.region [.q 59 (.faddr 2 (.t 7)), .q 60 (.load false 1 (.t 59)), .q 61 (.faddr 1 (.t 7)), .q 62 (.load false 1 (.t 61)), .q 63 (.build [(.int .i64 0), (.int .i64 0), (.str []), (.slice .nil 0 []), (.int .i64 0)] [(0, (1, (.c (.int .i64 2)))), (2, (1, (.t 60))), (4, (1, (.t 62)))]), .q 64 (.mv (.t 1)), .q 65 (.bin .add (.t 64) (.c (.int .i64 1))), .q 66 (.build [(.int .i64 0), (.int .i64 0), (.str []), (.slice .nil 0 []), (.int .i64 0), (.int .i64 0), (.int .i64 0)] [(0, (5, (.t 63))), (5, (1, (.t 65)))]), .w (.store 7 (.t 6) (.t 66))] (some [6])) .ret) .skip)) (.seq (.seq (.region [.q 67 (.faddr 0 (.t 7)), .q 68 (.load false 1 (.t 67)), .q 69 (.bin .neq (.t 68) (.c (.int .i64 1)))] (some [0, 1, 2, 6, 7, 69])) (.cond (.t 69) (some [0, 1, 2, 6, 7]) (.seq (.region [.q 70 (.mv (.t 1)), .q 71 (.build [(.int .i64 0), (.int .i64 0), (.str []), (.slice .nil 0 []), (.int .i64 0), (.int .i64 0), (.int .i64 0)] [(5, (1, (.t 70))), (6, (1, (.c (.int .i64 5))))]), .w (.store 7 (.t 6) (.t 71))] (some [6])) .ret) .skip)) (.seq (.region [.q 72 (.mv (.t 0)), .q 73 (.mv (.t 1)), .q 74 (.bin .add (.t 73) (.c (.int .i64 1))), .q 75 (.call 55 [(.t 72), (.t 74), (.c (.str [40]))]), .q 11 (.mv (.t 75))] (some [0, 1, 2, 6, 7, 11])) (.seq (.seq (.region [.q 76 (.mv (.t 11)), .q 77 (.un .not (.t 76))] (some [0, 1, 2, 6, 7, 77])) (.cond (.t 77) (some [0, 1, 2, 6, 7]) (.seq (.region [.q 78 (.faddr 2 (.t 7)), .q 79 (.load false 1 (.t 78)), .q 80 (.faddr 1 (.t 7)), .q 81 (.load false 1 (.t 80)), .q 82 (.build [(.int .i64 0), (.int .i64 0), (.str []), (.slice .nil 0 []), (.int .i64 0)] [(0, (1, (.c (.int .i64 3)))), (2, (1, (.t 79))), (4, (1, (.t 81)))]), .q 83 (.mv (.t 1)), .q 84 (.bin .add (.t 83) (.c (.int .i64 1))), .q 85 (.build [(.int .i64 0), (.int .i64 0), (.str []), (.slice .nil 0 []), (.int .i64 0), (.int .i64 0), (.int .i64 0)] [(0, (5, (.t 82))), (5, (1, (.t 84)))]), .w (.store 7 (.t 6) (.t 85))] (some [6])) .ret) .skip)) (.seq (.region [.q 86 (.mv (.t 0)), .q 87 (.mv (.t 1)), .q 88 (.mv (.t 2)), .q 89 (.call 117 [(.t 86), (.t 87), (.t 88)]), .w (.store 7 (.t 6) (.t 89))] (some [6])) .ret))))))))))
theorem code104 : IsCode Tryz.prog 104 sc104 [(6, (some (true, 7)))] 90 := .mk' Tryz.func104 (by kernel_rfl) (by kernel_rfl) (by kernel_rfl) (by kernel_rfl)
/-- quietus/quietusref32.args -/
def sc117 : SC := (.seq (.region [.q 6 (.alloc [(.int .i64 0), (.int .i64 0), (.str []), (.slice .nil 0 []), (.int .i64 0), (.int .i64 0), (.int .i64 0)])] (some [0, 1, 2, 6])) (.seq (.region [.q 14 (.mv (.t 0)), .q 15 (.mv (.t 1)), .q 16 (.iaddr 4 (.t 14) (.t 15)), .q 17 (.faddr 2 (.t 16)), .q 18 (.load false 1 (.t 17)), .q 19 (.mv (.t 0)), .q 20 (.mv (.t 1)), .q 21 (.iaddr 4 (.t 19) (.t 20)), .q 22 (.faddr 1 (.t 21)), .q 23 (.load false 1 (.t 22)), .q 24 (.build [(.int .i64 0), (.int .i64 0), (.str []), (.slice .nil 0 []), (.int .i64 0)] [(0, (1, (.c (.int .i64 4)))), (2, (1, (.t 18))), (4, (1, (.t 23)))]), .q 7 (.alloc [(.int .i64 0), (.int .i64 0), (.str []), (.slice .nil 0 []), (.int .i64 0)]), .w (.store 5 (.t 7) (.t 24))] (some [0, 1, 2, 6, 7])) (.seq (.region [.q 25 (.mv (.t 1)), .q 26 (.bin .add (.t 25) (.c (.int .i64 2))), .q 8 (.mv (.t 26))] (some [0, 2, 6, 7, 8])) (.seq (.region [.q 27 (.mv (.t 0)), .q 28 (.mv (.t 8)), .q 29 (.call 55 [(.t 27), (.t 28), (.c (.str [41]))]), .q 9 (.mv (.t 29))] (some [0, 2, 6, 7, 8, 9])) (.seq (.seq (.region [.q 30 (.mv (.t 9))] (some [0, 2, 6, 7, 8, 30])) (.cond (.t 30) (some [0, 2, 6, 7, 8]) (.seq (.region [.q 31 (.load true 5 (.t 7)), .q 32 (.mv (.t 8)), .q 33 (.bin .add (.t 32) (.c (.int .i64 1))), .q 34 (.build [(.int .i64 0), (.int .i64 0), (.str []), (.slice .nil 0 []), (.int .i64 0), (.int .i64 0), (.int .i64 0)] [(0, (5, (.t 31))), (5, (1, (.t 33)))]), .w (.store 7 (.t 6) (.t 34))] (some [6])) .ret) .skip)) (.block 0 (.loop (.block 1 (.seq (.region [.q 35 (.mv (.t 0)), .q 36 (.mv (.t 8)), .q 37 (.mv (.t 2)), .q 38 (.bin .add (.t 37) (.c (.int .i64 1))), .q 39 (.call 58 [(.t 35), (.t 36), (.t 38), (.c (.bool true))]), .q 10 (.mv (.t 39))] (some [0, 2, 6, 7, 8, 10])) (.seq (.seq (.region [.q 40 (.mv (.t 10)), .q 41 (.bin .eql (.t 40) (.c (.int .i64 0))), .q 42 (.mv (.t 41)), ⟨(some 43), (.faddr 3 (.t 7)), (some (42, true))⟩, ⟨(some 44), (.load false 1 (.t 43)), (some (42, true))⟩, ⟨(some 45), (.len false (.t 44)), (some (42, true))⟩, ⟨(some 46), (.bin .eql (.t 45) (.c (.int .i64 40))), (some (42, true))⟩, .q 47 (.pick (.t 42) (.t 46) (.c (.bool false))), .q 48 (.mv (.t 47)), ⟨(some 49), (.mv (.t 10)), (some (48, false))⟩, ⟨(some 50), (.bin .eql (.t 49) (.c (.int .i64 2))), (some (48, false))⟩, .q 51 (.pick (.t 48) (.c (.bool true)) (.t 50))] (some [0, 2, 6, 7, 8, 51])) (.cond (.t 51) (some [0, 2, 6, 7, 8]) (.seq (.region [.q 52 (.mv (.t 8)), .q 53 (.build [(.int .i64 0), (.int .i64 0), (.str []), (.slice .nil 0 []), (.int .i64 0), (.int .i64 0), (.int .i64 0)] [(5, (1, (.t 52))), (6, (1, (.c (.int .i64 2))))]), .w (.store 7 (.t 6) (.t 53))] (some [6])) .ret) .skip)) (.seq (.region [.q 54 (.mv (.t 0)), .q 55 (.mv (.t 8)), .q 56 (.mv (.t 2)), .q 57 (.bin .add (.t 56) (.c (.int .i64 1))), .q 58 (.call 31 [(.t 54), (.t 55), (.t 57)]), .q 11 (.alloc [(.int .i64 0), (.int .i64 0), (.str []), (.slice .nil 0 []), (.int .i64 0), (.int .i64 0), (.int .i64 0)]), .w (.store 7 (.t 11) (.t 58))] (some [0, 2, 6, 7, 11])) (.seq (.seq (.region [.q 59 (.faddr 6 (.t 11)), .q 60 (.load false 1 (.t 59)), .q 61 (.bin .neq (.t 60) (.c (.int .i64 0)))] (some [0, 2, 6, 7, 11, 61])) (.cond (.t 61) (some [0, 2, 6, 7, 11]) (.seq (.region [.q 62 (.load true 7 (.t 11)), .w (.store 7 (.t 6) (.t 62))] (some [6])) .ret) .skip)) (.seq (.region [.q 63 (.faddr 3 (.t 7)), .q 64 (.load false 1 (.t 63)), .q 65 (.faddr 0 (.t 11)), .q 66 (.load true 5 (.t 65)), .q 67 (.mkslice 5 [(.t 66)]), .q 68 (.append 5 64 (.t 64) (.t 67)), .q 69 (.faddr 3 (.t 7)), .w (.store 1 (.t 69) (.t 68))] (some [0, 2, 6, 7, 11])) (.seq (.region [.q 70 (.mv (.t 0)), .q 71 (.faddr 5 (.t 11)), .q 72 (.load false 1 (.t 71)), .q 73 (.call 55 [(.t 70), (.t 72), (.c (.str [41]))]), .q 12 (.mv (.t 73))] (some [0, 2, 6, 7, 11, 12])) (.seq (.seq (.region [.q 74 (.mv (.t 12))] (some [0, 2, 6, 7, 11, 74])) (.cond (.t 74) (some [0, 2, 6, 7, 11]) (.seq (.region [.q 75 (.load true 5 (.t 7)), .q 76 (.faddr 5 (.t 11)), .q 77 (.load false 1 (.t 76)), .q 78 (.bin .add (.t 77) (.c (.int .i64 1))), .q 79 (.build [(.int .i64 0), (.int .i64 0), (.str []), (.slice .nil 0 []), (.int .i64 0), (.int .i64 0), (.int .i64 0)] [(0, (5, (.t 75))), (5, (1, (.t 78)))]), .w (.store 7 (.t 6) (.t 79))] (some [6])) .ret) .skip)) (.seq (.region [.q 80 (.mv (.t 0)), .q 81 (.faddr 5 (.t 11)), .q 82 (.load false 1 (.t 81)), .q 83 (.call 55 [(.t 80), (.t 82), (.c (.str [44]))]), .q 13 (.mv (.t 83))] (some [0, 2, 6, 7, 11, 13])) (.seq (.seq (.region [.q 84 (.mv (.t 13)), .q 85 (.un .not (.t 84))] (some [0, 2, 6, 7, 11, 85])) (.cond (.t 85) (some [0, 2, 6, 7, 11]) (.seq (.region [.q 86 (.faddr 5 (.t 11)), .q 87 (.load false 1 (.t 86)), .q 88 (.build [(.int .i64 0), (.int .i64 0), (.str []), (.slice .nil 0 []), (.int .i64 0), (.int .i64 0), (.int .i64 0)] [(5, (1, (.t 87))), (6, (1, (.c (.int .i64 5))))]), .w (.store 7 (.t 6) (.t 88))] (some [6])) .ret) .skip)) (.region [.q 89 (.faddr 5 (.t 11)), .q 90 (.load false 1 (.t 89)), .q 91 (.bin .add (.t 90) (.c (.int .i64 1))), .q 8 (.mv (.t 91))] (some [0, 2, 6, 7, 8])))))))))))))))))))
theorem code117 : IsCode Tryz.prog 117 sc117 [(6, (some (true, 7)))] 92 := .mk' Tryz.func117 (by kernel_rfl) (by kernel_rfl) (by kernel_rfl) (by kernel_rfl)
end Go.Shadow.Lex

/- Proved: parse.Same compares forms but for offsets; the specification's Same and SameExpr find equals equal. Conditions: at most a million parts. -/
namespace Go.Shadow.Lex
open Go Go.RowKit Go.Proofs

def arNs : List Ar → Nat
  | [] => 0
  | a :: r => 1 + exN a.e + arNs r
mutual
/-- How many parts a form has. -/
def foN : Fo → Nat
  | .mk _ args bs _ => 1 + arNs args + foNs bs
def foNs : List Fo → Nat
  | [] => 0
  | e :: r => foN e + foNs r
end
theorem arNs_len : ∀ l : List Ar, l.length ≤ arNs l
  | [] => Nat.le_refl _
  | e :: r => by have := arNs_len r; simp [arNs]; omega
theorem arNs_mem : ∀ {l : List Ar} {x : Ar}, x ∈ l → exN x.e ≤ arNs l
  | e :: r, x, h => by
    rcases List.mem_cons.1 h with rfl | h
    · simp [arNs]; omega
    · have := arNs_mem h; simp [arNs]; omega
theorem foN_pos (e : Fo) : 1 ≤ foN e := by cases e; simp [foN]; omega
theorem foNs_len : ∀ l : List Fo, l.length ≤ foNs l
  | [] => Nat.le_refl _
  | e :: r => by have := foN_pos e; have := foNs_len r; simp [foNs]; omega
theorem foNs_mem : ∀ {l : List Fo} {x : Fo}, x ∈ l → foN x ≤ foNs l
  | e :: r, x, h => by
    rcases List.mem_cons.1 h with rfl | h
    · simp [foNs]
    · have := foNs_mem h; simp [foNs]; omega
/-- Arguments are the same but for offsets. -/
def sameA (a b : Ar) : Bool := if a.kind ≠ b.kind then false else if a.kind = 1 ∨ a.kind = 3 then a.s == b.s else if a.kind = 2 then a.n == b.n else if a.kind = 5 then sameE a.e b.e else true
mutual
/-- Forms are the same but for offsets. -/
def sameF : Fo → Fo → Bool
  | .mk w args bs _, y => match y with
    | .mk w' args' bs' _ => w == w' && eqF sameA args args' && sameFs bs bs'
def sameFs : List Fo → List Fo → Bool
  | [], l => match l with
    | [] => true
    | _ :: _ => false
  | x :: xs, l => match l with
    | [] => false
    | y :: ys => sameF x y && sameFs xs ys
end
theorem sameFs_eqF : ∀ l m : List Fo, sameFs l m = eqF sameF l m
  | [], [] => rfl
  | [], _ :: _ => rfl
  | _ :: _, [] => rfl
  | x :: xs, y :: ys => by simp [sameFs, eqF, sameFs_eqF xs ys]

theorem sameArg_ret (x y : Ar) (hm : exN x.e ≤ 1000000) : SRet Tryz.prog LG 41 [.agg (arV x), .agg (arV y)] (.bool (sameA x y)) := by
  intro σ
  obtain ⟨ak, an, as0, e, aat⟩ := x
  obtain ⟨ak', an', as0', e', aat'⟩ := y
  have hse := sameExpr_ret _ e e' hm (Nat.le_refl _)
  obtain ⟨op, n, s, kids, a⟩ := e
  obtain ⟨op', n', s', kids', a'⟩ := e'
  refine code41.call Lex.hm (by simp) ?_
  refine ⟨rfl, ?_⟩
  intro b2 f2
  have o1 : Over σ (σ.put b2 (arV ⟨ak, an, as0, .mk op n s kids a, aat⟩)) := over_put (.refl _) f2
  have h21 : (σ.put b2 (arV ⟨ak, an, as0, .mk op n s kids a, aat⟩)).box b2 = some (arV ⟨ak, an, as0, .mk op n s kids a, aat⟩) := put_box
  refine ⟨rfl, ?_⟩
  intro b3 hb3
  have q2 := over_put (σ0 := σ.put b2 (arV ⟨ak, an, as0, .mk op n s kids a, aat⟩)) (σ := σ.put b2 (arV ⟨ak, an, as0, .mk op n s kids a, aat⟩)) (cs := arV ⟨ak', an', as0', .mk op' n' s' kids' a', aat'⟩) (Over.refl _) hb3
  have o2 := over_tr o1 q2
  have h22 := q2.box _ _ h21
  have h32 : ((σ.put b2 (arV ⟨ak, an, as0, .mk op n s kids a, aat⟩)).put b3 (arV ⟨ak', an', as0', .mk op' n' s' kids' a', aat'⟩)).box b3 = some (arV ⟨ak', an', as0', .mk op' n' s' kids' a', aat'⟩) := put_box
  clear q2
  generalize hσ : (σ.put b2 (arV ⟨ak, an, as0, .mk op n s kids a, aat⟩)).put b3 (arV ⟨ak', an', as0', .mk op' n' s' kids' a', aat'⟩) = σ2 at o2 h22 h32
  have hgoal : ∀ {G : St → Prop}, G σ2 → G ((σ.put b2 (arV ⟨ak, an, as0, .mk op n s kids a, aat⟩)).put b3 (arV ⟨ak', an', as0', .mk op' n' s' kids' a', aat'⟩)) := fun h => by rw [hσ]; exact h
  refine hgoal ?_
  clear hgoal hσ hb3 h21 o1
  refine Load.mk' h22 (by simp [arV, exV]) ?_
  refine Load.mk' h32 (by simp [arV, exV]) ?_
  refine Test.split (fun hk => ?_) (fun hk => ?_)
  · exact Ret.weak (.refl _) (σ' := σ) o2 ⟨rfl, by simp only [sameA]; rw [if_pos hk]⟩
  refine Load.mk' h22 (by simp [arV, exV]) ?_
  have str : (ak = 1 ∨ ak = 3) → sameA ⟨ak, an, as0, .mk op n s kids a, aat⟩ ⟨ak', an', as0', .mk op' n' s' kids' a', aat'⟩ = (as0 == as0') := fun h => by
    simp only [sameA]; rw [if_neg hk, if_pos h]
  refine Test.split (fun h1 => ?_) (fun h1 => ?_)
  · refine Load.mk' h22 (by simp [arV, exV]) ?_
    refine Load.mk' h32 (by simp [arV, exV]) ?_
    rw [str (.inl h1)]
    exact Test.split (fun h3 => Ret.weak (.refl _) (σ' := σ) o2 ⟨rfl, by rw [beq_iff_eq.2 h3]⟩) (fun h3 => Ret.weak (.refl _) (σ' := σ) o2 ⟨rfl, by rw [beq_eq_false_iff_ne.2 h3]⟩)
  refine Test.split (fun h3 => ?_) (fun h3 => ?_)
  · refine Load.mk' h22 (by simp [arV, exV]) ?_
    refine Load.mk' h32 (by simp [arV, exV]) ?_
    rw [str (.inr h3)]
    exact Test.split (fun h3 => Ret.weak (.refl _) (σ' := σ) o2 ⟨rfl, by rw [beq_iff_eq.2 h3]⟩) (fun h3 => Ret.weak (.refl _) (σ' := σ) o2 ⟨rfl, by rw [beq_eq_false_iff_ne.2 h3]⟩)
  have hno : ¬ (ak = 1 ∨ ak = 3) := by
    rintro (h | h)
    · exact h1 h
    · exact h3 h
  refine Test.split (fun h2 => ?_) (fun h2 => ?_)
  · refine Load.mk' h22 (by simp [arV, exV]) ?_
    refine Load.mk' h32 (by simp [arV, exV]) ?_
    have hv : sameA ⟨ak, an, as0, .mk op n s kids a, aat⟩ ⟨ak', an', as0', .mk op' n' s' kids' a', aat'⟩ = (an == an') := by
      simp only [sameA]; rw [if_neg hk, if_neg hno, if_pos h2]
    rw [hv]
    exact Test.split (fun h3 => Ret.weak (.refl _) (σ' := σ) o2 ⟨rfl, by rw [beq_iff_eq.2 h3]⟩) (fun h3 => Ret.weak (.refl _) (σ' := σ) o2 ⟨rfl, by rw [beq_eq_false_iff_ne.2 h3]⟩)
  refine Test.split (fun h5 => ?_) (fun h5 => ?_)
  · refine Load.mk' h22 (by simp [arV, exV]) ?_
    refine Load.mk' h32 (by simp [arV, exV]) ?_
    refine CallK.pure hse ?_
    refine Ret.weak (.refl _) (σ' := σ) o2 ⟨rfl, ?_⟩
    simp only [sameA]; rw [if_neg hk, if_neg hno, if_neg h2, if_pos h5]
  · refine Ret.weak (.refl _) (σ' := σ) o2 ⟨rfl, ?_⟩
    simp only [sameA]; rw [if_neg hk, if_neg hno, if_neg h2, if_neg h5]

theorem same_ret : ∀ (m : Nat) (l l' : List Fo) (t t' : Tag), foNs l ≤ m → m ≤ 1000000 → SRet Tryz.prog LG 20 [.slice t 4 (l.map foV), .slice t' 4 (l'.map foV)] (.bool (sameFs l l')) := by
  intro m
  induction m with
  | zero =>
    intro l l' t t' h0 _ σ
    refine code20.call hm (by simp) ?_
    refine CallK.pure (eqFo_ret (k := 39) (g := sameF) t t' (by have := foNs_len l; omega) fun x hx y _ => ?_) ?_
    · have := foNs_mem hx; have := foN_pos x; omega
    · exact Ret.mk' ⟨rfl, by rw [sameFs_eqF]⟩
  | succ m ih =>
    intro l l' t t' hm1 hm2 σ
    refine code20.call hm (by simp) ?_
    refine CallK.pure (eqFo_ret (k := 39) (g := sameF) t t' (by have := foNs_len l; omega) fun x hx y _ => ?_) ?_
    rotate_left
    · exact Ret.mk' ⟨rfl, by rw [sameFs_eqF]⟩
    intro σ
    have hmem := foNs_mem hx
    obtain ⟨w, args, bs, a⟩ := x
    obtain ⟨w', args', bs', a'⟩ := y
    simp only [foN] at hmem
    refine code39.call hm (by simp) ?_
    refine ⟨rfl, ?_⟩
    intro b2 f2
    have o1 : Over σ (σ.put b2 (foV (.mk w args bs a))) := over_put (.refl _) f2
    have h21 : (σ.put b2 (foV (.mk w args bs a))).box b2 = some (foV (.mk w args bs a)) := put_box
    refine ⟨rfl, ?_⟩
    intro b3 hb3
    have q2 := over_put (σ0 := σ.put b2 (foV (.mk w args bs a))) (σ := σ.put b2 (foV (.mk w args bs a))) (cs := foV (.mk w' args' bs' a')) (Over.refl _) hb3
    have o2 := over_tr o1 q2
    have h22 := q2.box _ _ h21
    have h32 : ((σ.put b2 (foV (.mk w args bs a))).put b3 (foV (.mk w' args' bs' a'))).box b3 = some (foV (.mk w' args' bs' a')) := put_box
    clear q2
    generalize hσ : (σ.put b2 (foV (.mk w args bs a))).put b3 (foV (.mk w' args' bs' a')) = σ2 at o2 h22 h32
    have hgoal : ∀ {G : St → Prop}, G σ2 → G ((σ.put b2 (foV (.mk w args bs a))).put b3 (foV (.mk w' args' bs' a'))) := fun h => by rw [hσ]; exact h
    refine hgoal ?_
    clear hgoal hσ hb3 h21 o1
    refine Load.mk' h22 (by simp [foV]) ?_
    refine Load.mk' h32 (by simp [foV]) ?_
    refine Test.split (fun hw => ?_) (fun hw => ?_)
    rotate_left
    · refine Ret.weak (.refl _) (σ' := σ) o2 ⟨rfl, ?_⟩
      simp [sameF, hw]
    refine Load.mk' h22 (by simp [foV]) ?_
    refine Load.mk' h32 (by simp [foV]) ?_
    refine CallK.pure (eqA_ret (k := 41) (g := sameA) .foreign .foreign (by have := arNs_len args; omega) fun x hx y _ => sameArg_ret x y (by have := arNs_mem hx; omega)) ?_
    cases hA : eqF sameA args args'
    · refine Ret.weak (.refl _) (σ' := σ) o2 ⟨rfl, ?_⟩
      simp [sameF, hA]
    refine Load.mk' h22 (by simp [foV]) ?_
    refine Load.mk' h32 (by simp [foV]) ?_
    have hb := ih bs bs' .foreign .foreign (by omega) (by omega)
    rw [← foVs_map, ← foVs_map] at hb
    refine CallK.pure hb ?_
    refine Ret.weak (.refl _) (σ' := σ) o2 ⟨rfl, ?_⟩
    simp [sameF, hA, hw]

/-! ### the specification's comparisons of equals -/
def scEq13 : SC := match sc13 with
  | .seq _ (.seq _ (.seq _ r)) => r
  | _ => .skip
def scEq32 : SC := match sc32 with
  | .seq _ (.seq _ r) => r
  | _ => .skip
theorem sameRef_refl : ∀ (m : Nat) (x : Ex), exN x ≤ m → m ≤ 1000000 → SRet Tryz.prog LG 13 [.agg (exV x), .agg (exV x), .bool true] (.bool true) := by
  intro m
  induction m with
  | zero => intro x h; have := exN_pos x; omega
  | succ m ih =>
    intro x hm1 hm2 σ
    obtain ⟨op, n, s, kids, a⟩ := x
    simp only [exN] at hm1
    have hkl := exNs_len kids
    refine code13.call hm (by simp) ?_
    refine ⟨rfl, ?_⟩
    intro b2 f2
    have o1 : Over σ (σ.put b2 (exV (.mk op n s kids a))) := over_put (.refl _) f2
    have h21 : (σ.put b2 (exV (.mk op n s kids a))).box b2 = some (exV (.mk op n s kids a)) := put_box
    refine ⟨rfl, ?_⟩
    intro b3 hb3
    have q2 := over_put (σ0 := σ.put b2 (exV (.mk op n s kids a))) (σ := σ.put b2 (exV (.mk op n s kids a))) (cs := exV (.mk op n s kids a)) (Over.refl _) hb3
    have o2 := over_tr o1 q2
    have h22 := q2.box _ _ h21
    have h32 : ((σ.put b2 (exV (.mk op n s kids a))).put b3 (exV (.mk op n s kids a))).box b3 = some (exV (.mk op n s kids a)) := put_box
    clear q2
    generalize hσ : (σ.put b2 (exV (.mk op n s kids a))).put b3 (exV (.mk op n s kids a)) = σ2 at o2 h22 h32
    have hgoal : ∀ {G : St → Prop}, G σ2 → G ((σ.put b2 (exV (.mk op n s kids a))).put b3 (exV (.mk op n s kids a))) := fun h => by rw [hσ]; exact h
    refine hgoal ?_
    clear hgoal hσ hb3 h21 o1
    refine Load.mk' h22 (by simp [exV]) ?_
    refine Load.mk' h32 (by simp [exV]) ?_
    refine Test.no (by simp) ?_
    have hrest : swpE Tryz.prog LG scEq13 (retE [(6, none)] (fun e σ' => σ' = σ ∧ e = .ret (.bool true))) (ofL [(2, some (.bool true)), (3, some (.loc b2 0)), (4, some (.loc b3 0))]) σ2 := by
      refine Load.mk' h22 (by simp [exV]) ?_
      refine Load.mk' h32 (by simp [exV]) ?_
      refine Test.no (by simp) ?_
      refine ⟨fun m sl σ' => σ' = σ2 ∧ ∃ i : Nat, sl = ofL [(2, some (.bool true)), (3, some (.loc b2 0)), (4, some (.loc b3 0)), (7, some (.int .i64 i))] ∧ i ≤ kids.length ∧ m = kids.length - i,
        _, ⟨rfl, 0, rfl, Nat.zero_le _, rfl⟩, ?_⟩
      rintro m' sl σ' ⟨rfl, i, rfl, hi, rfl⟩
      have hlen : (exVs kids).length = kids.length := by rw [exVs_map]; simp
      refine Load.mk' h22 (by simp [exV]) ?_
      refine Test.split (fun hlt => ?_) (fun hlt => ?_)
      · have hlt : i < kids.length := by rw [hlen] at hlt; omega
        obtain ⟨x, hx⟩ : ∃ x, kids[i]? = some x := ⟨_, List.getElem?_eq_getElem hlt⟩
        have hih := ih x (by have := exNs_mem (List.mem_of_getElem? hx); omega) (by omega)
        have hxV : (exVs kids)[i]? = some (exV x) := by rw [exVs_map]; simp [hx]
        obtain ⟨op', n', s', kids', a'⟩ := x
        refine Load.mk' h22 (by simp [exV]) ?_
        refine Sure.mk' (.inl rfl) ?_
        refine IdxE.mk' i _ rfl hxV ?_
        refine ⟨by simp [exV], ?_⟩
        refine Load.mk' h32 (by simp [exV]) ?_
        refine Sure.mk' (.inl rfl) ?_
        refine IdxE.mk' i _ rfl hxV ?_
        refine ⟨by simp [exV], ?_⟩
        refine CallK.pure hih ?_
        refine Arith.i64 ((i + 1 : Nat) : Int) (by simp) (by omega) ?_
        refine ⟨_, _, ?_, Forget.refl _, rfl, i + 1, rfl, by omega, rfl⟩
        omega
      · exact Ret.weak (.refl _) (σ' := σ) o2 ⟨rfl, rfl⟩
    refine Load.mk' h22 (by simp [exV]) ?_
    rcases (show op = 1 ∨ (op = 2 ∨ op = 3) ∨ op = 4 ∨ op < 1 ∨ 4 < op from by omega) with h | h | h | h | h
    · refine Test.yes h ?_
      refine Load.mk' h22 (by simp [exV]) ?_
      refine Load.mk' h32 (by simp [exV]) ?_
      refine Test.no (by simp) ?_
      refine Load.mk' h22 (by simp [exV]) ?_
      refine Test.no (by omega) ?_
      refine Load.mk' h22 (by simp [exV]) ?_
      refine Load.mk' h32 (by simp [exV]) ?_
      refine Test.no (by simp) ?_
      refine Load.mk' h22 (by simp [exV]) ?_
      refine Test.yes (by omega) ?_
      refine Load.mk' h22 (by simp [exV]) ?_
      refine Test.yes (by omega) ?_
      exact Ret.weak (.refl _) (σ' := σ) o2 ⟨rfl, rfl⟩
    · refine Test.no (by omega) ?_
      refine Load.mk' h22 (by simp [exV]) ?_
      refine Test.yes (by omega) ?_
      refine Load.mk' h22 (by simp [exV]) ?_
      refine Test.yes (by omega) ?_
      refine Load.mk' h22 (by simp [exV]) ?_
      refine Load.mk' h32 (by simp [exV]) ?_
      refine Test.no (by simp) ?_
      refine Load.mk' h22 (by simp [exV]) ?_
      refine Load.mk' h32 (by simp [exV]) ?_
      refine Test.no (by simp) ?_
      refine Load.mk' h22 (by simp [exV]) ?_
      refine Test.yes (by omega) ?_
      refine Load.mk' h22 (by simp [exV]) ?_
      refine Test.yes (by omega) ?_
      exact Ret.weak (.refl _) (σ' := σ) o2 ⟨rfl, rfl⟩
    · refine Test.no (by omega) ?_
      refine Load.mk' h22 (by simp [exV]) ?_
      refine Test.yes (by omega) ?_
      refine Load.mk' h22 (by simp [exV]) ?_
      refine Test.yes (by omega) ?_
      refine Load.mk' h22 (by simp [exV]) ?_
      refine Load.mk' h32 (by simp [exV]) ?_
      refine Test.no (by simp) ?_
      refine Load.mk' h22 (by simp [exV]) ?_
      refine Load.mk' h32 (by simp [exV]) ?_
      refine Test.no (by simp) ?_
      refine Load.mk' h22 (by simp [exV]) ?_
      refine Test.yes (by omega) ?_
      refine Load.mk' h22 (by simp [exV]) ?_
      refine Test.no (by omega) ?_
      exact hrest
    · refine Test.no (by omega) ?_
      refine Load.mk' h22 (by simp [exV]) ?_
      refine Test.no (by omega) ?_
      refine Load.mk' h22 (by simp [exV]) ?_
      refine Load.mk' h32 (by simp [exV]) ?_
      refine Test.no (by simp) ?_
      refine Load.mk' h22 (by simp [exV]) ?_
      refine Test.no (by omega) ?_
      exact hrest
    · refine Test.no (by omega) ?_
      refine Load.mk' h22 (by simp [exV]) ?_
      refine Test.yes (by omega) ?_
      refine Load.mk' h22 (by simp [exV]) ?_
      refine Test.no (by omega) ?_
      refine Load.mk' h22 (by simp [exV]) ?_
      refine Load.mk' h32 (by simp [exV]) ?_
      refine Test.no (by simp) ?_
      refine Load.mk' h22 (by simp [exV]) ?_
      refine Test.yes (by omega) ?_
      refine Load.mk' h22 (by simp [exV]) ?_
      refine Test.no (by omega) ?_
      exact hrest

theorem sameArgRef_refl (x : Ar) (hm : exN x.e ≤ 1000000) : SRet Tryz.prog LG 32 [.agg (arV x), .agg (arV x), .bool true] (.bool true) := by
  intro σ
  obtain ⟨ak, an, as0, e, aat⟩ := x
  have hse := sameRef_refl _ e hm (Nat.le_refl _)
  obtain ⟨op, n, s, kids, a⟩ := e
  refine code32.call Lex.hm (by simp) ?_
  refine ⟨rfl, ?_⟩
  intro b2 f2
  have o1 : Over σ (σ.put b2 (arV ⟨ak, an, as0, .mk op n s kids a, aat⟩)) := over_put (.refl _) f2
  have h21 : (σ.put b2 (arV ⟨ak, an, as0, .mk op n s kids a, aat⟩)).box b2 = some (arV ⟨ak, an, as0, .mk op n s kids a, aat⟩) := put_box
  refine ⟨rfl, ?_⟩
  intro b3 hb3
  have q2 := over_put (σ0 := σ.put b2 (arV ⟨ak, an, as0, .mk op n s kids a, aat⟩)) (σ := σ.put b2 (arV ⟨ak, an, as0, .mk op n s kids a, aat⟩)) (cs := arV ⟨ak, an, as0, .mk op n s kids a, aat⟩) (Over.refl _) hb3
  have o2 := over_tr o1 q2
  have h22 := q2.box _ _ h21
  have h32 : ((σ.put b2 (arV ⟨ak, an, as0, .mk op n s kids a, aat⟩)).put b3 (arV ⟨ak, an, as0, .mk op n s kids a, aat⟩)).box b3 = some (arV ⟨ak, an, as0, .mk op n s kids a, aat⟩) := put_box
  clear q2
  generalize hσ : (σ.put b2 (arV ⟨ak, an, as0, .mk op n s kids a, aat⟩)).put b3 (arV ⟨ak, an, as0, .mk op n s kids a, aat⟩) = σ2 at o2 h22 h32
  have hgoal : ∀ {G : St → Prop}, G σ2 → G ((σ.put b2 (arV ⟨ak, an, as0, .mk op n s kids a, aat⟩)).put b3 (arV ⟨ak, an, as0, .mk op n s kids a, aat⟩)) := fun h => by rw [hσ]; exact h
  refine hgoal ?_
  clear hgoal hσ hb3 h21 o1
  refine Load.mk' h22 (by simp [arV, exV]) ?_
  refine Load.mk' h32 (by simp [arV, exV]) ?_
  refine Test.no (by simp) ?_
  refine Load.mk' h22 (by simp [arV, exV]) ?_
  refine Load.mk' h32 (by simp [arV, exV]) ?_
  refine Test.no (by simp) ?_
  refine Load.mk' h22 (by simp [arV, exV]) ?_
  have h13 : ∀ {G : Prop}, (ak = 1 → G) → (ak = 3 → G) → (ak ≠ 1 → ak ≠ 3 → G) → G := fun h1 h2 h3 => if e1 : ak = 1 then h1 e1 else if e2 : ak = 3 then h2 e2 else h3 e1 e2
  have fin : swpE Tryz.prog LG scEq32 (retE [(6, none)] (fun e σ' => σ' = σ ∧ e = .ret (.bool true))) (ofL [(2, some (.bool true)), (3, some (.loc b2 0)), (4, some (.loc b3 0))]) σ2 := by
    refine Load.mk' h22 (by simp [arV, exV]) ?_
    refine Test.split (fun h5 => ?_) (fun h5 => ?_)
    · exact Ret.weak (.refl _) (σ' := σ) o2 ⟨rfl, rfl⟩
    · refine Load.mk' h22 (by simp [arV, exV]) ?_
      refine Load.mk' h32 (by simp [arV, exV]) ?_
      refine CallK.pure hse ?_
      exact Ret.weak (.refl _) (σ' := σ) o2 ⟨rfl, rfl⟩
  refine h13 (fun h => ?_) (fun h => ?_) (fun h h' => ?_)
  · refine Test.yes h ?_
    refine Load.mk' h22 (by simp [arV, exV]) ?_
    refine Load.mk' h32 (by simp [arV, exV]) ?_
    refine Test.no (by simp) ?_
    refine Load.mk' h22 (by simp [arV, exV]) ?_
    refine Test.no (fun (e : ak = 2) => by omega) ?_
    exact fin
  · refine Test.no (fun (e : ak = 1) => by omega) ?_
    refine Load.mk' h22 (by simp [arV, exV]) ?_
    refine Test.yes h ?_
    refine Load.mk' h22 (by simp [arV, exV]) ?_
    refine Load.mk' h32 (by simp [arV, exV]) ?_
    refine Test.no (by simp) ?_
    refine Load.mk' h22 (by simp [arV, exV]) ?_
    refine Test.no (fun (e : ak = 2) => by omega) ?_
    exact fin
  · refine Test.no h ?_
    refine Load.mk' h22 (by simp [arV, exV]) ?_
    refine Test.no h' ?_
    refine Load.mk' h22 (by simp [arV, exV]) ?_
    refine Test.split (fun h2 => ?_) (fun h2 => ?_)
    · refine Load.mk' h22 (by simp [arV, exV]) ?_
      refine Load.mk' h32 (by simp [arV, exV]) ?_
      refine Test.no (by simp) ?_
      exact fin
    · exact fin

set_option maxHeartbeats 2000000 in
theorem sameFRef_refl : ∀ (m : Nat) (l : List Fo) (t t' : Tag), foNs l ≤ m → m ≤ 1000000 → SRet Tryz.prog LG 12 [.slice t 4 (l.map foV), .slice t' 4 (l.map foV), .bool true] (.bool true) := by
  intro m
  induction m with
  | zero =>
    intro l t t' h0 _ σ
    obtain rfl : l = [] := by
      cases l with
      | nil => rfl
      | cons x r => have := foN_pos x; simp [foNs] at h0; omega
    refine code12.call hm (by simp) ?_
    refine Test.no (by simp) ?_
    refine ⟨fun m sl σ' => σ' = σ ∧ sl = ofL [(0, some (.slice t 4 [])), (1, some (.slice t' 4 [])), (2, some (.bool true)), (7, some (.int .i64 0))], 0, ⟨rfl, rfl⟩, ?_⟩
    rintro m sl σ' ⟨rfl, rfl⟩
    refine Test.no (by simp) ?_
    exact Ret.mk' ⟨rfl, rfl⟩
  | succ m ih =>
    intro l t t' hm1 hm2 σ
    have hll := foNs_len l
    refine code12.call hm (by simp) ?_
    refine Test.no (by simp) ?_
    refine ⟨fun q sl σ' => σ' = σ ∧ ∃ i : Nat, sl = ofL [(0, some (.slice t 4 (l.map foV))), (1, some (.slice t' 4 (l.map foV))), (2, some (.bool true)), (7, some (.int .i64 i))] ∧ i ≤ l.length ∧ q = l.length - i,
      _, ⟨rfl, 0, rfl, Nat.zero_le _, rfl⟩, ?_⟩
    rintro q sl σ' ⟨rfl, i, rfl, hi, rfl⟩
    refine Test.split (fun hlt => ?_) (fun hlt => ?_)
    rotate_left
    · exact Ret.mk' ⟨rfl, rfl⟩
    have hlt : i < l.length := by simp only [List.length_map] at hlt; omega
    obtain ⟨x, hx⟩ : ∃ x, l[i]? = some x := ⟨_, List.getElem?_eq_getElem hlt⟩
    have hxV : (l.map foV)[i]? = some (foV x) := by simp [hx]
    have hmem := foNs_mem (List.mem_of_getElem? hx)
    obtain ⟨w, args, bs, a⟩ := x
    simp only [foN] at hmem
    have hal := arNs_len args
    refine Sure.mk' (.inl rfl) ?_
    refine IdxE.mk' i _ rfl hxV ?_
    refine ⟨by simp [foV], ?_⟩
    refine Sure.mk' (.inl rfl) ?_
    refine IdxE.mk' i _ rfl hxV ?_
    refine ⟨by simp [foV], ?_⟩
    refine Test.no (by simp) ?_
    refine Sure.mk' (.inl rfl) ?_
    refine IdxE.mk' i _ rfl hxV ?_
    refine ⟨by simp [foV], ?_⟩
    refine Sure.mk' (.inl rfl) ?_
    refine IdxE.mk' i _ rfl hxV ?_
    refine ⟨by simp [foV], ?_⟩
    refine Test.no (by simp) ?_
    refine Sure.mk' (.inl rfl) ?_
    refine IdxE.mk' i _ rfl hxV ?_
    refine ⟨by simp [foV], ?_⟩
    refine Sure.mk' (.inl rfl) ?_
    refine IdxE.mk' i _ rfl hxV ?_
    refine ⟨by simp [foV], ?_⟩
    refine Test.no (by simp) ?_
    refine ⟨fun q sl σ'' => σ'' = σ' ∧ ∃ j : Nat, sl = ofL [(0, some (.slice t 4 (l.map foV))), (1, some (.slice t' 4 (l.map foV))), (2, some (.bool true)), (7, some (.int .i64 i)), (8, some (.int .i64 j))] ∧ j ≤ args.length ∧ q = args.length - j,
      _, ⟨rfl, 0, rfl, Nat.zero_le _, rfl⟩, ?_⟩
    rintro q2 sl σ' ⟨rfl, j, rfl, hj, rfl⟩
    refine Sure.mk' (.inl rfl) ?_
    refine IdxE.mk' i _ rfl hxV ?_
    refine ⟨by simp [foV], ?_⟩
    refine Test.split (fun hlt2 => ?_) (fun hlt2 => ?_)
    · have hlt2 : j < args.length := by simp only [List.length_map] at hlt2; omega
      obtain ⟨y, hy⟩ : ∃ y, args[j]? = some y := ⟨_, List.getElem?_eq_getElem hlt2⟩
      have hyV : (args.map arV)[j]? = some (arV y) := by simp [hy]
      have hyr := sameArgRef_refl y (by have := arNs_mem (List.mem_of_getElem? hy); omega)
      obtain ⟨ak, an, as0, ⟨op, n, s, kids, ea⟩, aat⟩ := y
      refine Sure.mk' (.inl rfl) ?_
      refine IdxE.mk' i _ rfl hxV ?_
      refine ⟨by simp [foV], ?_⟩
      refine Sure.mk' (.inl rfl) ?_
      refine IdxE.mk' j _ rfl hyV ?_
      refine ⟨by simp [arV, exV], ?_⟩
      refine Sure.mk' (.inl rfl) ?_
      refine IdxE.mk' i _ rfl hxV ?_
      refine ⟨by simp [foV], ?_⟩
      refine Sure.mk' (.inl rfl) ?_
      refine IdxE.mk' j _ rfl hyV ?_
      refine ⟨by simp [arV, exV], ?_⟩
      refine CallK.pure hyr ?_
      refine Arith.i64 ((j + 1 : Nat) : Int) (by simp) (by omega) ?_
      refine ⟨_, _, ?_, Forget.refl _, rfl, j + 1, rfl, by omega, rfl⟩
      omega
    · refine Sure.mk' (.inl rfl) ?_
      refine IdxE.mk' i _ rfl hxV ?_
      refine ⟨by simp [foV], ?_⟩
      refine Sure.mk' (.inl rfl) ?_
      refine IdxE.mk' i _ rfl hxV ?_
      refine ⟨by simp [foV], ?_⟩
      have hb := ih bs .foreign .foreign (by omega) (by omega)
      rw [← foVs_map] at hb
      refine CallK.pure hb ?_
      refine Arith.i64 ((i + 1 : Nat) : Int) (by simp) (by omega) ?_
      refine ⟨_, _, ?_, Forget.refl _, rfl, i + 1, rfl, by omega, rfl⟩
      omega
end Go.Shadow.Lex

/- Shadow code of the laws of the parser (printed by a program). -/
namespace Go.Shadow.Lex
open Go Go.RowKit Go.Proofs
/-- quietus/quietuslaw32.ParseMatchesSpec -/
def sc3 : SC := (.seq (.region [.q 2 (.mv (.c (.bool false)))] (some [0])) (.seq (.seq (.region [.q 9 (.mv (.t 0)), .q 10 (.len true (.t 9)), .q 11 (.bin .gtr (.t 10) (.c (.int .i64 500)))] (some [0, 11])) (.cond (.t 11) (some [0]) (.seq (.region [.q 12 (.call 7 []), .q 2 (.mv (.t 12))] (some [2])) .ret) .skip)) (.seq (.region [.q 14 (.mv (.t 0)), .q 15 (.call 8 [(.t 14)]), .q 13 (.mv (.t 15)), .q 16 (.extract 0 (.t 13)), .q 17 (.extract 1 (.t 13)), .q 4 (.alloc [(.int .i64 0), (.int .i64 0)]), .q 3 (.mv (.t 16)), .w (.store 2 (.t 4) (.t 17))] (some [0, 3, 4])) (.seq (.region [.q 19 (.mv (.t 0)), .q 20 (.call 9 [(.t 19)]), .q 18 (.mv (.t 20)), .q 21 (.extract 0 (.t 18)), .q 22 (.extract 1 (.t 18)), .q 5 (.alloc [(.int .i64 0), (.int .i64 0), (.str []), (.slice .nil 0 []), (.int .i64 0)]), .q 6 (.alloc [(.int .i64 0), (.int .i64 0)]), .w (.store 5 (.t 5) (.t 21)), .w (.store 2 (.t 6) (.t 22))] (some [0, 3, 4, 5, 6])) (.seq (.region [.q 23 (.mv (.t 0)), .q 24 (.call 10 [(.t 23)]), .q 7 (.alloc [(.slice .nil 0 []), (.int .i64 0), (.int .i64 0), (.str []), (.slice .nil 0 []), (.int .i64 0), (.int .i64 0), (.int .i64 0)]), .w (.store 8 (.t 7) (.t 24))] (some [0, 3, 4, 5, 6, 7])) (.seq (.region [.q 25 (.mv (.t 0)), .q 26 (.call 11 [(.t 25)]), .q 8 (.alloc [(.slice .nil 0 []), (.int .i64 0), (.int .i64 0), (.str []), (.slice .nil 0 []), (.int .i64 0), (.int .i64 0), (.int .i64 0)]), .w (.store 8 (.t 8) (.t 26))] (some [3, 4, 5, 6, 7, 8])) (.seq (.region [.q 27 (.call 7 []), .q 28 (.mv (.t 27)), ⟨(some 29), (.load true 2 (.t 4)), (some (28, true))⟩, ⟨(some 30), (.faddr 6 (.t 7)), (some (28, true))⟩, ⟨(some 31), (.load true 2 (.t 30)), (some (28, true))⟩, ⟨(some 32), (.eqs false [0, 0] (.t 29) (.t 31)), (some (28, true))⟩, .q 33 (.pick (.t 28) (.t 32) (.c (.bool false))), .q 34 (.mv (.t 33)), ⟨(some 35), (.load true 2 (.t 6)), (some (34, true))⟩, ⟨(some 36), (.faddr 6 (.t 8)), (some (34, true))⟩, ⟨(some 37), (.load true 2 (.t 36)), (some (34, true))⟩, ⟨(some 38), (.eqs false [0, 0] (.t 35) (.t 37)), (some (34, true))⟩, .q 39 (.pick (.t 34) (.t 38) (.c (.bool false))), .q 40 (.mv (.t 39)), ⟨(some 41), (.mv (.t 3)), (some (40, true))⟩, ⟨(some 42), (.faddr 0 (.t 7)), (some (40, true))⟩, ⟨(some 43), (.load false 1 (.t 42)), (some (40, true))⟩, ⟨(some 44), (.call 12 [(.t 41), (.t 43), (.c (.bool true))]), (some (40, true))⟩, .q 45 (.pick (.t 40) (.t 44) (.c (.bool false))), .q 46 (.mv (.t 45)), ⟨(some 47), (.load true 5 (.t 5)), (some (46, true))⟩, ⟨(some 48), (.faddr 1 (.t 8)), (some (46, true))⟩, ⟨(some 49), (.load true 5 (.t 48)), (some (46, true))⟩, ⟨(some 50), (.call 13 [(.t 47), (.t 49), (.c (.bool true))]), (some (46, true))⟩, .q 51 (.pick (.t 46) (.t 50) (.c (.bool false))), .q 2 (.mv (.t 51))] (some [2])) .ret)))))))
theorem code3 : IsCode Tryz.prog 3 sc3 [(2, none)] 52 := .mk' Tryz.func3 (by kernel_rfl) (by kernel_rfl) (by kernel_rfl) (by kernel_rfl)
/-- quietus/quietuslaw32.sanity -/
def sc7 : SC := (.seq (.region [.q 0 (.mv (.c (.bool false)))] (some [])) (.seq (.region [.q 26 (.call 8 [(.c (.str [108, 105, 102, 116, 32, 108, 49, 32, 45, 53, 32, 34, 97, 34, 32, 45, 62, 32, 40, 120, 32, 43, 32, 49, 41, 32, 123, 32, 100, 111, 103, 59, 32, 125]))]), .q 25 (.mv (.t 26)), .q 27 (.extract 0 (.t 25)), .q 28 (.extract 1 (.t 25)), .q 2 (.alloc [(.int .i64 0), (.int .i64 0)]), .q 1 (.mv (.t 27)), .w (.store 2 (.t 2) (.t 28))] (some [1, 2])) (.seq (.seq (.region [.q 29 (.load true 2 (.t 2)), .q 30 (.build [(.int .i64 0), (.int .i64 0)] []), .q 31 (.eqs true [0, 0] (.t 29) (.t 30)), .q 32 (.mv (.t 31)), ⟨(some 33), (.mv (.t 1)), (some (32, false))⟩, ⟨(some 34), (.len false (.t 33)), (some (32, false))⟩, ⟨(some 35), (.bin .neq (.t 34) (.c (.int .i64 1))), (some (32, false))⟩, .q 36 (.pick (.t 32) (.c (.bool true)) (.t 35)), .q 37 (.mv (.t 36)), ⟨(some 38), (.mv (.t 1)), (some (37, false))⟩, ⟨(some 39), (.iaddr 4 (.t 38) (.c (.int .i64 0))), (some (37, false))⟩, ⟨(some 40), (.faddr 0 (.t 39)), (some (37, false))⟩, ⟨(some 41), (.load false 1 (.t 40)), (some (37, false))⟩, ⟨(some 42), (.bins .neq (.t 41) (.c (.str [108, 105, 102, 116]))), (some (37, false))⟩, .q 43 (.pick (.t 37) (.c (.bool true)) (.t 42)), .q 44 (.mv (.t 43)), ⟨(some 45), (.mv (.t 1)), (some (44, false))⟩, ⟨(some 46), (.iaddr 4 (.t 45) (.c (.int .i64 0))), (some (44, false))⟩, ⟨(some 47), (.faddr 1 (.t 46)), (some (44, false))⟩, ⟨(some 48), (.load false 1 (.t 47)), (some (44, false))⟩, ⟨(some 49), (.len false (.t 48)), (some (44, false))⟩, ⟨(some 50), (.bin .neq (.t 49) (.c (.int .i64 5))), (some (44, false))⟩, .q 51 (.pick (.t 44) (.c (.bool true)) (.t 50)), .q 52 (.mv (.t 51)), ⟨(some 53), (.mv (.t 1)), (some (52, false))⟩, ⟨(some 54), (.iaddr 4 (.t 53) (.c (.int .i64 0))), (some (52, false))⟩, ⟨(some 55), (.faddr 2 (.t 54)), (some (52, false))⟩, ⟨(some 56), (.load false 1 (.t 55)), (some (52, false))⟩, ⟨(some 57), (.len false (.t 56)), (some (52, false))⟩, ⟨(some 58), (.bin .neq (.t 57) (.c (.int .i64 1))), (some (52, false))⟩, .q 59 (.pick (.t 52) (.c (.bool true)) (.t 58)), .q 60 (.mv (.t 59)), ⟨(some 61), (.mv (.t 1)), (some (60, false))⟩, ⟨(some 62), (.iaddr 4 (.t 61) (.c (.int .i64 0))), (some (60, false))⟩, ⟨(some 63), (.faddr 1 (.t 62)), (some (60, false))⟩, ⟨(some 64), (.load false 1 (.t 63)), (some (60, false))⟩, ⟨(some 65), (.iaddr 9 (.t 64) (.c (.int .i64 1))), (some (60, false))⟩, ⟨(some 66), (.faddr 1 (.t 65)), (some (60, false))⟩, ⟨(some 67), (.load false 1 (.t 66)), (some (60, false))⟩, ⟨(some 68), (.bin .neq (.t 67) (.c (.int .i64 (-5)))), (some (60, false))⟩, .q 69 (.pick (.t 60) (.c (.bool true)) (.t 68)), .q 70 (.mv (.t 69)), ⟨(some 71), (.mv (.t 1)), (some (70, false))⟩, ⟨(some 72), (.iaddr 4 (.t 71) (.c (.int .i64 0))), (some (70, false))⟩, ⟨(some 73), (.faddr 1 (.t 72)), (some (70, false))⟩, ⟨(some 74), (.load false 1 (.t 73)), (some (70, false))⟩, ⟨(some 75), (.iaddr 9 (.t 74) (.c (.int .i64 3))), (some (70, false))⟩, ⟨(some 76), (.faddr 0 (.t 75)), (some (70, false))⟩, ⟨(some 77), (.load false 1 (.t 76)), (some (70, false))⟩, ⟨(some 78), (.bin .neq (.t 77) (.c (.int .i64 4))), (some (70, false))⟩, .q 79 (.pick (.t 70) (.c (.bool true)) (.t 78)), .q 80 (.mv (.t 79)), ⟨(some 81), (.mv (.t 1)), (some (80, false))⟩, ⟨(some 82), (.iaddr 4 (.t 81) (.c (.int .i64 0))), (some (80, false))⟩, ⟨(some 83), (.faddr 1 (.t 82)), (some (80, false))⟩, ⟨(some 84), (.load false 1 (.t 83)), (some (80, false))⟩, ⟨(some 85), (.iaddr 9 (.t 84) (.c (.int .i64 4))), (some (80, false))⟩, ⟨(some 86), (.faddr 3 (.t 85)), (some (80, false))⟩, ⟨(some 87), (.faddr 0 (.t 86)), (some (80, false))⟩, ⟨(some 88), (.load false 1 (.t 87)), (some (80, false))⟩, ⟨(some 89), (.bin .neq (.t 88) (.c (.int .i64 10))), (some (80, false))⟩, .q 90 (.pick (.t 80) (.c (.bool true)) (.t 89))] (some [1, 90])) (.cond (.t 90) (some [1]) (.seq (.region [.q 0 (.mv (.c (.bool false)))] (some [0])) .ret) .skip)) (.seq (.region [.q 3 (.mv (.f 22))] (some [1, 3])) (.seq (.region [.q 4 (.mv (.f 23))] (some [1, 3, 4])) (.seq (.region [.q 91 (.mv (.t 3)), .q 92 (.callv (.t 91) [(.c (.str [97]))]), .q 5 (.alloc [(.int .i64 0), (.int .i64 0), (.str []), (.slice .nil 0 []), (.int .i64 0)]), .w (.store 5 (.t 5) (.t 92))] (some [1, 3, 4, 5])) (.seq (.region [.q 93 (.mv (.t 3)), .q 94 (.callv (.t 93) [(.c (.str [98]))]), .q 6 (.alloc [(.int .i64 0), (.int .i64 0), (.str []), (.slice .nil 0 []), (.int .i64 0)]), .w (.store 5 (.t 6) (.t 94))] (some [1, 3, 4, 5, 6])) (.seq (.region [.q 95 (.mv (.t 3)), .q 96 (.callv (.t 95) [(.c (.str [99]))]), .q 7 (.alloc [(.int .i64 0), (.int .i64 0), (.str []), (.slice .nil 0 []), (.int .i64 0)]), .w (.store 5 (.t 7) (.t 96))] (some [1, 3, 4, 5, 6, 7])) (.seq (.region [.q 98 (.call 9 [(.c (.str [97, 32, 45, 32, 98, 32, 45, 32, 99, 32, 42, 32, 45, 100]))]), .q 97 (.mv (.t 98)), .q 99 (.extract 0 (.t 97)), .q 100 (.extract 1 (.t 97)), .q 8 (.alloc [(.int .i64 0), (.int .i64 0), (.str []), (.slice .nil 0 []), (.int .i64 0)]), .q 9 (.alloc [(.int .i64 0), (.int .i64 0)]), .w (.store 5 (.t 8) (.t 99)), .w (.store 2 (.t 9) (.t 100))] (some [1, 3, 4, 5, 6, 7, 8, 9])) (.seq (.region [.q 102 (.call 9 [(.c (.str [33, 97, 32, 61, 61, 32, 98, 32, 63, 32, 102, 40, 49, 44, 32, 50, 41, 32, 58, 32, 40, 97, 32, 60, 32, 98, 41, 32, 61, 61, 32, 99]))]), .q 101 (.mv (.t 102)), .q 103 (.extract 0 (.t 101)), .q 104 (.extract 1 (.t 101)), .q 10 (.alloc [(.int .i64 0), (.int .i64 0), (.str []), (.slice .nil 0 []), (.int .i64 0)]), .q 11 (.alloc [(.int .i64 0), (.int .i64 0)]), .w (.store 5 (.t 10) (.t 103)), .w (.store 2 (.t 11) (.t 104))] (some [1, 3, 4, 5, 6, 7, 8, 9, 10, 11])) (.seq (.region [.q 105 (.mv (.t 3)), .q 106 (.callv (.t 105) [(.c (.str [100]))]), .q 107 (.mkslice 5 [(.t 106)]), .q 108 (.build [(.int .i64 0), (.int .i64 0), (.str []), (.slice .nil 0 []), (.int .i64 0)] [(0, (1, (.c (.int .i64 6)))), (3, (1, (.t 107)))]), .q 12 (.alloc [(.int .i64 0), (.int .i64 0), (.str []), (.slice .nil 0 []), (.int .i64 0)]), .w (.store 5 (.t 12) (.t 108))] (some [1, 4, 5, 6, 7, 8, 9, 10, 11, 12])) (.seq (.region [.q 109 (.mv (.t 4)), .q 110 (.load true 5 (.t 5)), .q 111 (.load true 5 (.t 6)), .q 112 (.callv (.t 109) [(.c (.int .i64 12)), (.t 110), (.t 111)]), .q 113 (.mkslice 5 [(.t 112)]), .q 114 (.build [(.int .i64 0), (.int .i64 0), (.str []), (.slice .nil 0 []), (.int .i64 0)] [(0, (1, (.c (.int .i64 5)))), (3, (1, (.t 113)))]), .q 13 (.alloc [(.int .i64 0), (.int .i64 0), (.str []), (.slice .nil 0 []), (.int .i64 0)]), .w (.store 5 (.t 13) (.t 114))] (some [1, 4, 5, 6, 7, 8, 9, 10, 11, 12, 13])) (.seq (.region [.q 115 (.build [(.int .i64 0), (.int .i64 0), (.str []), (.slice .nil 0 []), (.int .i64 0)] [(0, (1, (.c (.int .i64 1)))), (1, (1, (.c (.int .i64 1))))]), .q 116 (.build [(.int .i64 0), (.int .i64 0), (.str []), (.slice .nil 0 []), (.int .i64 0)] [(0, (1, (.c (.int .i64 1)))), (1, (1, (.c (.int .i64 2))))]), .q 117 (.mkslice 5 [(.t 115), (.t 116)]), .q 118 (.build [(.int .i64 0), (.int .i64 0), (.str []), (.slice .nil 0 []), (.int .i64 0)] [(0, (1, (.c (.int .i64 4)))), (2, (1, (.c (.str [102])))), (3, (1, (.t 117)))]), .q 14 (.alloc [(.int .i64 0), (.int .i64 0), (.str []), (.slice .nil 0 []), (.int .i64 0)]), .w (.store 5 (.t 14) (.t 118))] (some [1, 4, 5, 6, 7, 8, 9, 10, 11, 12, 13, 14])) (.seq (.seq (.region [.q 120 (.build [(.int .i64 0), (.int .i64 0)] []), .q 119 (.load true 2 (.t 9)), .q 121 (.eqs true [0, 0] (.t 119) (.t 120)), .q 122 (.mv (.t 121)), ⟨(some 124), (.build [(.int .i64 0), (.int .i64 0)] []), (some (122, false))⟩, ⟨(some 123), (.load true 2 (.t 11)), (some (122, false))⟩, ⟨(some 125), (.eqs true [0, 0] (.t 123) (.t 124)), (some (122, false))⟩, .q 126 (.pick (.t 122) (.c (.bool true)) (.t 125)), .q 127 (.mv (.t 126)), ⟨(some 129), (.mv (.t 4)), (some (127, false))⟩, ⟨(some 130), (.mv (.t 4)), (some (127, false))⟩, ⟨(some 134), (.mv (.t 4)), (some (127, false))⟩, ⟨(some 128), (.loadr (some 8) true 5 (.t 8)), (some (127, false))⟩, ⟨(some 131), (.load true 5 (.t 5)), (some (127, false))⟩, ⟨(some 132), (.load true 5 (.t 6)), (some (127, false))⟩, ⟨(some 135), (.loadr (some 7) true 5 (.t 7)), (some (127, false))⟩, ⟨(some 136), (.loadr (some 12) true 5 (.t 12)), (some (127, false))⟩, ⟨(some 133), (.callvr [8, 7, 12] (.t 130) [(.c (.int .i64 11)), (.t 131), (.t 132)]), (some (127, false))⟩, ⟨(some 137), (.callvr [8] (.t 134) [(.c (.int .i64 7)), (.t 135), (.t 136)]), (some (127, false))⟩, ⟨(some 138), (.callvr [8] (.t 129) [(.c (.int .i64 11)), (.t 133), (.t 137)]), (some (127, false))⟩, ⟨(some 139), (.call 15 [(.t 128), (.t 138)]), (some (127, false))⟩, ⟨(some 140), (.un .not (.t 139)), (some (127, false))⟩, .q 141 (.pick (.t 127) (.c (.bool true)) (.t 140)), .q 142 (.mv (.t 141)), ⟨(some 146), (.mv (.t 4)), (some (142, false))⟩, ⟨(some 147), (.mv (.t 4)), (some (142, false))⟩, ⟨(some 143), (.loadr (some 10) true 5 (.t 10)), (some (142, false))⟩, ⟨(some 144), (.loadr (some 13) true 5 (.t 13)), (some (142, false))⟩, ⟨(some 145), (.loadr (some 14) true 5 (.t 14)), (some (142, false))⟩, ⟨(some 148), (.load true 5 (.t 5)), (some (142, false))⟩, ⟨(some 149), (.load true 5 (.t 6)), (some (142, false))⟩, ⟨(some 151), (.loadr (some 7) true 5 (.t 7)), (some (142, false))⟩, ⟨(some 150), (.callvr [10, 13, 14, 7] (.t 147) [(.c (.int .i64 14)), (.t 148), (.t 149)]), (some (142, false))⟩, ⟨(some 152), (.callvr [10, 13, 14] (.t 146) [(.c (.int .i64 12)), (.t 150), (.t 151)]), (some (142, false))⟩, ⟨(some 153), (.mkslice 5 [(.t 144), (.t 145), (.t 152)]), (some (142, false))⟩, ⟨(some 154), (.build [(.int .i64 0), (.int .i64 0), (.str []), (.slice .nil 0 []), (.int .i64 0)] [(0, (1, (.c (.int .i64 20)))), (3, (1, (.t 153)))]), (some (142, false))⟩, ⟨(some 155), (.call 15 [(.t 143), (.t 154)]), (some (142, false))⟩, ⟨(some 156), (.un .not (.t 155)), (some (142, false))⟩, .q 157 (.pick (.t 142) (.c (.bool true)) (.t 156))] (some [1, 5, 6, 10, 157])) (.cond (.t 157) (some [1, 5, 6, 10]) (.seq (.region [.q 0 (.mv (.c (.bool false)))] (some [0])) .ret) .skip)) (.seq (.region [.q 159 (.load true 5 (.t 10)), .q 160 (.call 21 [(.t 159)]), .q 158 (.mv (.t 160)), .q 161 (.extract 0 (.t 158)), .q 162 (.extract 1 (.t 158)), .q 15 (.mv (.t 161)), .q 16 (.mv (.t 162))] (some [1, 5, 6, 15, 16])) (.seq (.region [.q 164 (.call 9 [(.c (.str [97, 32, 60, 32, 98, 32, 60, 32, 99]))]), .q 163 (.mv (.t 164)), .q 165 (.extract 0 (.t 163)), .q 166 (.extract 1 (.t 163)), .q 17 (.alloc [(.int .i64 0), (.int .i64 0), (.str []), (.slice .nil 0 []), (.int .i64 0)]), .q 18 (.alloc [(.int .i64 0), (.int .i64 0)]), .w (.store 5 (.t 17) (.t 165)), .w (.store 2 (.t 18) (.t 166))] (some [1, 5, 6, 15, 16, 18])) (.seq (.region [.q 168 (.call 9 [(.c (.str [97, 32, 98]))]), .q 167 (.mv (.t 168)), .q 169 (.extract 0 (.t 167)), .q 170 (.extract 1 (.t 167)), .q 19 (.alloc [(.int .i64 0), (.int .i64 0), (.str []), (.slice .nil 0 []), (.int .i64 0)]), .q 20 (.alloc [(.int .i64 0), (.int .i64 0)]), .w (.store 5 (.t 19) (.t 169)), .w (.store 2 (.t 20) (.t 170))] (some [1, 5, 6, 15, 16, 18, 20])) (.seq (.region [.q 172 (.call 9 [(.c (.str [120, 32, 40]))]), .q 171 (.mv (.t 172)), .q 173 (.extract 0 (.t 171)), .q 174 (.extract 1 (.t 171)), .q 21 (.alloc [(.int .i64 0), (.int .i64 0), (.str []), (.slice .nil 0 []), (.int .i64 0)]), .q 22 (.alloc [(.int .i64 0), (.int .i64 0)]), .w (.store 5 (.t 21) (.t 173)), .w (.store 2 (.t 22) (.t 174))] (some [1, 5, 6, 15, 16, 18, 20, 22])) (.seq (.region [.q 176 (.call 8 [(.c (.str [120, 32, 45, 32, 121, 59]))]), .q 175 (.mv (.t 176)), .q 177 (.extract 0 (.t 175)), .q 178 (.extract 1 (.t 175)), .q 24 (.alloc [(.int .i64 0), (.int .i64 0)]), .q 23 (.mv (.t 177)), .w (.store 2 (.t 24) (.t 178))] (some [1, 5, 6, 15, 16, 18, 20, 22, 24])) (.seq (.region [.q 179 (.mv (.t 16)), .q 180 (.bin .eql (.t 179) (.c (.int .i64 0))), .q 181 (.mv (.t 180)), ⟨(some 182), (.mv (.t 15)), (some (181, true))⟩, ⟨(some 183), (.bins .eql (.t 182) (.c (.str [33, 32, 97, 32, 61, 61, 32, 98, 32, 63, 32, 102, 32, 40, 32, 49, 32, 44, 32, 50, 32, 41, 32, 58, 32, 40, 32, 97, 32, 60, 32, 98, 32, 41, 32, 61, 61, 32, 99]))), (some (181, true))⟩, .q 184 (.pick (.t 181) (.t 183) (.c (.bool false))), .q 185 (.mv (.t 184)), ⟨(some 186), (.load true 2 (.t 18)), (some (185, true))⟩, ⟨(some 187), (.build [(.int .i64 0), (.int .i64 0)] [(0, (1, (.c (.int .i64 6)))), (1, (1, (.c (.int .i64 5))))]), (some (185, true))⟩, ⟨(some 188), (.eqs false [0, 0] (.t 186) (.t 187)), (some (185, true))⟩, .q 189 (.pick (.t 185) (.t 188) (.c (.bool false))), .q 190 (.mv (.t 189)), ⟨(some 191), (.load true 2 (.t 20)), (some (190, true))⟩, ⟨(some 192), (.build [(.int .i64 0), (.int .i64 0)] [(0, (1, (.c (.int .i64 2)))), (1, (1, (.c (.int .i64 5))))]), (some (190, true))⟩, ⟨(some 193), (.eqs false [0, 0] (.t 191) (.t 192)), (some (190, true))⟩, .q 194 (.pick (.t 190) (.t 193) (.c (.bool false))), .q 195 (.mv (.t 194)), ⟨(some 196), (.load true 2 (.t 22)), (some (195, true))⟩, ⟨(some 197), (.build [(.int .i64 0), (.int .i64 0)] [(0, (1, (.c (.int .i64 3)))), (1, (1, (.c (.int .i64 5))))]), (some (195, true))⟩, ⟨(some 198), (.eqs false [0, 0] (.t 196) (.t 197)), (some (195, true))⟩, .q 199 (.pick (.t 195) (.t 198) (.c (.bool false))), .q 200 (.mv (.t 199)), ⟨(some 201), (.load true 2 (.t 24)), (some (200, true))⟩, ⟨(some 202), (.build [(.int .i64 0), (.int .i64 0)] [(0, (1, (.c (.int .i64 4)))), (1, (1, (.c (.int .i64 5))))]), (some (200, true))⟩, ⟨(some 203), (.eqs false [0, 0] (.t 201) (.t 202)), (some (200, true))⟩, .q 204 (.pick (.t 200) (.t 203) (.c (.bool false))), .q 205 (.mv (.t 204)), ⟨(some 206), (.mv (.t 1)), (some (205, true))⟩, ⟨(some 207), (.mv (.t 1)), (some (205, true))⟩, ⟨(some 208), (.call 20 [(.t 206), (.t 207)]), (some (205, true))⟩, .q 209 (.pick (.t 205) (.t 208) (.c (.bool false))), .q 210 (.mv (.t 209)), ⟨(some 211), (.load true 5 (.t 5)), (some (210, true))⟩, ⟨(some 212), (.load true 5 (.t 6)), (some (210, true))⟩, ⟨(some 213), (.call 15 [(.t 211), (.t 212)]), (some (210, true))⟩, ⟨(some 214), (.un .not (.t 213)), (some (210, true))⟩, .q 215 (.pick (.t 210) (.t 214) (.c (.bool false))), .q 0 (.mv (.t 215))] (some [0])) .ret))))))))))))))))))))
theorem code7 : IsCode Tryz.prog 7 sc7 [(0, none)] 216 := .mk' Tryz.func7 (by kernel_rfl) (by kernel_rfl) (by kernel_rfl) (by kernel_rfl)
/-- quietus/quietuslaw32.sanity$1 -/
def sc22 : SC := (.seq (.region [.q 2 (.alloc [(.int .i64 0), (.int .i64 0), (.str []), (.slice .nil 0 []), (.int .i64 0)])] (some [0, 2])) (.seq (.region [.q 3 (.mv (.t 0)), .q 4 (.build [(.int .i64 0), (.int .i64 0), (.str []), (.slice .nil 0 []), (.int .i64 0)] [(0, (1, (.c (.int .i64 3)))), (2, (1, (.t 3)))]), .w (.store 5 (.t 2) (.t 4))] (some [2])) .ret))
theorem code22 : IsCode Tryz.prog 22 sc22 [(2, (some (true, 5)))] 5 := .mk' Tryz.func22 (by kernel_rfl) (by kernel_rfl) (by kernel_rfl) (by kernel_rfl)
/-- quietus/quietuslaw32.sanity$2 -/
def sc23 : SC := (.seq (.region [.q 4 (.box (.t 1)), .q 5 (.box (.t 2)), .q 6 (.alloc [(.int .i64 0), (.int .i64 0), (.str []), (.slice .nil 0 []), (.int .i64 0)])] (some [0, 4, 5, 6])) (.seq (.region [.q 7 (.mv (.t 0)), .q 8 (.load true 5 (.t 4)), .q 9 (.load true 5 (.t 5)), .q 10 (.mkslice 5 [(.t 8), (.t 9)]), .q 11 (.build [(.int .i64 0), (.int .i64 0), (.str []), (.slice .nil 0 []), (.int .i64 0)] [(0, (1, (.t 7))), (3, (1, (.t 10)))]), .w (.store 5 (.t 6) (.t 11))] (some [6])) .ret))
theorem code23 : IsCode Tryz.prog 23 sc23 [(6, (some (true, 5)))] 12 := .mk' Tryz.func23 (by kernel_rfl) (by kernel_rfl) (by kernel_rfl) (by kernel_rfl)
end Go.Shadow.Lex

/- Pure laws of the lexer: what stands behind a token's end does not matter; runs over tokens. -/
namespace Go.Shadow.Lex

/-- What may stand behind: nothing, or a byte that is no word's and no sign's second byte. -/
def Stops (w : List UInt8) : Prop := w = [] ∨ ∃ c r, w = c :: r ∧ isWord c = false ∧ c.toNat ≠ 62 ∧ c.toNat ≠ 61 ∧ c.toNat ≠ 38 ∧ c.toNat ≠ 124 ∧ c.toNat ≠ 46

theorem sk_prefix {r2 r3 : List UInt8} : ∀ (r1 : List UInt8) (b : Bool), sk b (r1 ++ r2) < r1.length → sk b (r1 ++ r3) = sk b (r1 ++ r2)
  | [], b, h => by simp at h
  | c :: r1, false, h => by
    simp only [List.cons_append, sk, List.length_cons] at h ⊢
    split
    · rename_i h1; rw [if_pos h1] at h; rw [sk_prefix (r2 := r2) (r3 := r3) r1 false (by omega)]
    · rename_i h1; rw [if_neg h1] at h
      split
      · rename_i h2; rw [if_pos h2] at h; rw [sk_prefix (r2 := r2) (r3 := r3) r1 true (by omega)]
      · rfl
  | c :: r1, true, h => by
    simp only [List.cons_append, sk, List.length_cons] at h ⊢
    split
    · rename_i h1; rw [if_pos h1] at h; rw [sk_prefix (r2 := r2) (r3 := r3) r1 false (by omega)]
    · rename_i h1; rw [if_neg h1] at h; rw [sk_prefix (r2 := r2) (r3 := r3) r1 true (by omega)]
theorem tw {p : UInt8 → Bool} {r2 r3 : List UInt8} (h3 : r3 = [] ∨ ∃ c r, r3 = c :: r ∧ p c = false) : ∀ r1 : List UInt8, ((r1 ++ r2).takeWhile p).length ≤ r1.length → (r1 ++ r3).takeWhile p = (r1 ++ r2).takeWhile p
  | [], h => by
    simp only [List.nil_append, List.length_nil, Nat.le_zero] at h
    rw [List.nil_append, List.nil_append, List.eq_nil_of_length_eq_zero h]
    rcases h3 with rfl | ⟨c, r, rfl, hc⟩
    · rfl
    · simp [List.takeWhile_cons, hc]
  | c :: r1, h => by
    simp only [List.cons_append, List.takeWhile_cons] at h ⊢
    split
    · rename_i h1; rw [if_pos h1] at h; rw [tw h3 r1 (by simpa using h)]
    · rfl
theorem text_tail {r2 r3 : List UInt8} : ∀ (n : Nat) (r1 b s : List UInt8) (left : Nat), r1.length ≤ n → textScan (r1 ++ r2) b = .inr (s, left) → r2.length ≤ left → textScan (r1 ++ r3) b = .inr (s, left - r2.length + r3.length) := by
  intro n
  induction n with
  | zero =>
    intro r1 b s left hn h hl
    obtain rfl := List.eq_nil_of_length_eq_zero (Nat.le_zero.1 hn)
    have := textScan_left _ _ _ _ h
    simp at this; omega
  | succ n ih =>
    intro r1 b s left hn h hl
    cases r1 with
    | nil => have := textScan_left _ _ _ _ h; simp at this; omega
    | cons c r1 =>
      simp only [List.length_cons] at hn
      rw [List.cons_append, textScan_cons] at h
      rw [List.cons_append, textScan_cons]
      split at h
      · cases h
      · rename_i h1
        rw [if_neg h1]
        split at h
        · rename_i h2
          injection h with h; injection h with e1 e2
          rw [if_pos h2, e1]
          simp only [List.length_append] at e2 ⊢
          congr 2; omega
        · rename_i h2
          rw [if_neg h2]
          split at h
          · rename_i h3
            rw [if_pos h3]
            cases r1 with
            | nil =>
              rw [List.nil_append] at h
              split at h
              · cases h
              · split at h
                · cases h
                · have := textScan_left _ _ _ _ h
                  simp at hl; omega
            | cons d r1 =>
              simp only [List.cons_append] at h ⊢
              split at h
              · cases h
              · exact ih r1 _ _ _ (by simp at hn; omega) h hl
          · rename_i h3
            rw [if_neg h3]
            split at h
            · cases h
            · rename_i h4
              rw [if_neg h4]
              exact ih r1 _ _ _ (by omega) h hl
theorem signs2_second : ∀ x ∈ signs2, ∃ a b, x = [a, b] ∧ (b.toNat = 62 ∨ b.toNat = 61 ∨ b.toNat = 38 ∨ b.toNat = 124 ∨ b.toNat = 46) := by
  intro x hx
  simp only [signs2, List.mem_cons, List.not_mem_nil, or_false] at hx
  rcases hx with rfl | rfl | rfl | rfl | rfl | rfl | rfl | rfl | rfl <;> exact ⟨_, _, rfl, by decide⟩
/-- The signs of two bytes ahead of two lists that agree in what counts. -/
theorem find_signs2 {l1 l2 : List UInt8} (h : ∀ x ∈ signs2, x.isPrefixOf l1 = x.isPrefixOf l2) : signs2.find? (·.isPrefixOf l1) = signs2.find? (·.isPrefixOf l2) := by
  have : ∀ s : List (List UInt8), (∀ x ∈ s, x.isPrefixOf l1 = x.isPrefixOf l2) → s.find? (·.isPrefixOf l1) = s.find? (·.isPrefixOf l2) := by
    intro s
    induction s with
    | nil => intro _; rfl
    | cons a s ih =>
      intro h
      rw [List.find?_cons, List.find?_cons, h a (by simp), ih (fun x hx => h x (by simp [hx]))]
  exact this _ h
theorem sign_alone {c : UInt8} {w : List UInt8} (hw : Stops w) : ∀ x ∈ signs2, x.isPrefixOf (c :: w) = false := by
  intro x hx
  obtain ⟨a, b, rfl, hb⟩ := signs2_second x hx
  rcases hw with rfl | ⟨d, r, rfl, _, h1, h2, h3, h4, h5⟩
  · simp [List.isPrefixOf]
  · have : b ≠ d := fun e => by subst e; omega
    simp [List.isPrefixOf, this]
theorem sign_tail {r1 r2 r3 s : List UInt8} (h : signAt (r1 ++ r2) = some s) (hl : s.length ≤ r1.length) (h3 : Stops r3) : signAt (r1 ++ r3) = some s := by
  have hp := signAt_length h
  match r1, hl with
  | [], hl => simp at hl; subst hl; simp at hp
  | [c], hl =>
    unfold signAt at h
    split at h
    · rename_i p hf
      injection h with h; subst h
      obtain ⟨a, b, rfl, _⟩ := signs2_second p (List.mem_of_find?_eq_some hf)
      simp at hl
    · simp only [List.cons_append, List.nil_append] at h
      unfold signAt
      have : signs2.find? (·.isPrefixOf ([c] ++ r3)) = none := by
        rw [List.find?_eq_none]
        intro x hx
        simp [sign_alone h3 x hx]
      rw [this]
      exact h
  | c :: d :: r1, hl =>
    unfold signAt at h ⊢
    rw [find_signs2 (l2 := (c :: d :: r1) ++ r2) (fun x hx => by
      obtain ⟨a, b, rfl, _⟩ := signs2_second x hx
      simp [List.isPrefixOf])]
    exact h
theorem drop_app {u v : List UInt8} {k : Nat} (h : k ≤ u.length) : (u ++ v).drop k = u.drop k ++ v := by
  rw [List.drop_append_of_le_length h]
theorem span_tail {u v w : List UInt8} {k : Nat} (hk : k ≤ u.length) (he : spanTo isWord (u ++ v) k ≤ u.length) (hw : Stops w) : spanTo isWord (u ++ w) k = spanTo isWord (u ++ v) k := by
  have h3 : w = [] ∨ ∃ c r, w = c :: r ∧ isWord c = false := hw.imp id (fun ⟨c, r, h1, h2, _⟩ => ⟨c, r, h1, h2⟩)
  simp only [spanTo, drop_app hk] at he ⊢
  rw [tw (r2 := v) h3 (u.drop k) (by simp only [List.length_drop]; omega)]
theorem take_tail {u v w : List UInt8} {k z : Nat} (h : z ≤ u.length) : ((u ++ w).take z).drop k = ((u ++ v).take z).drop k := by
  rw [List.take_append_of_le_length h, List.take_append_of_le_length h]
/-- What stands behind a token's end does not matter. -/
theorem lexOne_tail {u v w : List UInt8} {k e2 : Nat} {t : Tok} (h : lexOne (u ++ v) k = .inr (t, e2)) (he : e2 ≤ u.length) (hw : Stops w) : lexOne (u ++ w) k = .inr (t, e2) := by
  have hp := lexOne_pos h
  have hget : ∀ x : List UInt8, (u ++ x)[k]? = u[k]? := fun x => List.getElem?_append_left (by omega)
  unfold lexOne at h ⊢
  rw [hget] at h ⊢
  split at h
  · cases h
  · rename_i c hc
    simp only
    split at h
    · rename_i hL
      rw [if_pos hL]
      simp only at h ⊢
      split at h
      · cases h
      · rename_i h5
        injection h with h; injection h with h6 h7
        have h8 := span_tail (w := w) (by omega) (by omega : spanTo isWord (u ++ v) k ≤ u.length) hw
        rw [h8, if_neg h5, take_tail (v := v) (by omega), h6, h7]
    · rename_i hL
      rw [if_neg hL]
      split at h
      · rename_i hD
        rw [if_pos hD]
        simp only at h ⊢
        split at h
        · rename_i n hn
          injection h with h; injection h with h6 h7
          have h8 := span_tail (w := w) (by omega) (by omega : spanTo isWord (u ++ v) k ≤ u.length) hw
          rw [h8, take_tail (v := v) (by omega), hn]
          simp only
          rw [h6, h7]
        · cases h
      · rename_i hD
        rw [if_neg hD]
        split at h
        · rename_i hT
          rw [if_pos hT]
          split at h
          · cases h
          · rename_i b left hsc
            injection h with h; injection h with h6 h7
            rw [drop_app (by omega)] at hsc
            have h9 := textScan_left _ _ _ _ hsc
            simp only [List.length_append, List.length_drop] at h7 h9
            have := text_tail (r3 := w) _ _ _ _ _ (Nat.le_refl _) hsc (by omega)
            rw [drop_app (by omega), this]
            simp only
            rw [h6]
            congr 2
            simp only [List.length_append]
            omega
        · rename_i hT
          rw [if_neg hT]
          split at h
          · rename_i s hs
            injection h with h; injection h with h6 h7
            rw [drop_app (by omega)] at hs
            have := sign_tail (r3 := w) hs (by simp only [List.length_drop]; omega) hw
            rw [drop_app (by omega), this]
            simp only
            rw [h6, h7]
          · cases h
/-! ### a prefix moves all -/
/-! ### runs -/
/-- Lexing from j, behind a token's end. -/
def J (l : List UInt8) (j : Nat) : Sum (Nat × Nat) (List Tok) := lexJ l (skipTo l j)
inductive Run (l : List UInt8) : Nat → List Tok → Nat → Prop
  | nil (j : Nat) : Run l j [] j
  | cons {j e2 k : Nat} {t : Tok} {ts : List Tok} (h1 : lexOne l (skipTo l j) = .inr (t, e2)) (h2 : Run l e2 ts k) : Run l j (t :: ts) k
theorem Run.le {l : List UInt8} {j k : Nat} {ts : List Tok} (h : Run l j ts k) : j ≤ k := by
  induction h with
  | nil => omega
  | @cons j e2 k t ts h1 _ ih => have := lexOne_pos h1; have := skipTo_ge l j; omega
theorem Run.J {l : List UInt8} {j k : Nat} {ts : List Tok} (h : Run l j ts k) : J l j = addAll ts (J l k) := by
  induction h with
  | nil => cases Lex.J l ‹_› <;> rfl
  | @cons j e2 k t ts h1 _ ih =>
    have : Lex.J l j = addAll [t] (Lex.J l e2) := lexJ_one h1
    rw [this, ih, ← addAll_addAll]; rfl
theorem Run.trans {l : List UInt8} {j k m : Nat} {ts us : List Tok} (h : Run l j ts k) (h2 : Run l k us m) : Run l j (ts ++ us) m := by
  induction h with
  | nil => exact h2
  | cons h1 _ ih => exact .cons h1 (ih h2)
/-- A run goes on the same, whatever stands behind. -/
theorem Run.tail {u v w : List UInt8} (hw : Stops w) {j k : Nat} {ts : List Tok} (h : Run (u ++ v) j ts k) (hk : k ≤ u.length) : Run (u ++ w) j ts k := by
  induction h with
  | nil => exact .nil _
  | @cons j e2 k t ts h1 h2 ih =>
    have hp := lexOne_pos h1
    have hle := h2.le
    have hge := skipTo_ge (u ++ v) j
    have hs : skipTo (u ++ w) j = skipTo (u ++ v) j := by
      simp only [skipTo] at hp hge ⊢
      rw [drop_app (by omega)] at hp ⊢
      rw [drop_app (by omega), sk_prefix (r2 := v) (r3 := w) (u.drop j) false (by simp only [List.length_drop]; omega)]
    refine .cons (t := t) (e2 := e2) ?_ (ih hk)
    rw [hs]
    exact lexOne_tail h1 (by omega) hw
theorem J_bad {l : List UInt8} : ∀ (n j p e : Nat), l.length - j ≤ n → j ≤ l.length → J l j = .inl (p, e) → ∃ k ts, Run l j ts k ∧ k ≤ l.length ∧ skipTo l k = p ∧ p < l.length ∧ lexOne l p = .inl e := by
  intro n
  induction n with
  | zero =>
    intro j p e hn hj h
    have hge := skipTo_ge l j
    unfold J at h
    rw [lexJ_end (by omega)] at h
    cases h
  | succ n ih =>
    intro j p e hn hj h
    have hge := skipTo_ge l j
    unfold J at h
    by_cases hkl : skipTo l j < l.length
    · cases hone : lexOne l (skipTo l j) with
      | inl e' =>
        rw [lexJ_bad hkl hone] at h
        injection h with h; injection h with h1 h2; subst h1; subst h2
        exact ⟨j, [], .nil j, hj, rfl, hkl, hone⟩
      | inr x =>
        obtain ⟨t, e2⟩ := x
        have hp := lexOne_pos hone
        rw [lexJ_one hone] at h
        change addAll [t] (J l e2) = .inl (p, e) at h
        cases hr : J l e2 with
        | inr ts' => rw [hr] at h; cases h
        | inl x =>
          rw [hr] at h
          injection h with h; subst h
          obtain ⟨k, ts, h1, h2, h3, h4, h5⟩ := ih e2 p e (by omega) hp.2 hr
          exact ⟨k, _, .cons hone h1, h2, h3, h4, h5⟩
    · rw [lexJ_end (by omega)] at h; cases h
end Go.Shadow.Lex

/- What the lexer's tokens are: they end; errors are errors. -/
namespace Go.Shadow.Lex

/-- A token is one of a name, a number, a text, a sign. -/
def TokOK (t : Tok) : Prop := ((t.kind = 2 → t.s = []) ∧ (t.kind ≠ 2 → t.n = 0)) ∧ 0 ≤ t.n ∧ t.n ≤ 999999999999999
theorem numVal_le {s : List UInt8} {n : Nat} (h : numVal s = some n) : n ≤ 999999999999999 := by
  unfold numVal at h
  split at h
  · rename_i hc
    injection h with h; subst h
    have h1 := digitsVal_bound s 0 hc.1
    have h2 : 10 ^ s.length ≤ 10 ^ 15 := Nat.pow_le_pow_right (by omega) hc.2.1
    unfold digitsVal
    omega
  · cases h
theorem lexOne_ok {l : List UInt8} {k z : Nat} {t : Tok} (h : lexOne l k = .inr (t, z)) : TokOK t ∧ t.kind ≠ 5 := by
  unfold lexOne at h
  split at h
  · cases h
  · split at h
    · simp only at h
      split at h
      · cases h
      · injection h with h; injection h with h _; subst h; simp [TokOK]
    · split at h
      · simp only at h
        split at h
        · rename_i n hn
          have := numVal_le hn
          injection h with h; injection h with h _; subst h; simp [TokOK]; omega
        · cases h
      · split at h
        · split at h
          · cases h
          · injection h with h; injection h with h _; subst h; simp [TokOK]
        · split at h
          · injection h with h; injection h with h _; subst h; simp [TokOK]
          · cases h
theorem textScanE0 : ∀ (n : Nat) (r b : List UInt8) (e : Nat), r.length ≤ n → textScan r b = .inl e → e ≠ 0 := by
  intro n
  induction n with
  | zero =>
    intro r b e hn h
    obtain rfl := List.eq_nil_of_length_eq_zero (Nat.le_zero.1 hn)
    rw [textScan_nil] at h
    split at h <;> injection h with h <;> omega
  | succ n ih =>
    intro r b e hn h
    cases r with
    | nil =>
      rw [textScan_nil] at h
      split at h <;> injection h with h <;> omega
    | cons c r =>
      rw [textScan_cons] at h
      simp only [List.length_cons] at hn
      split at h
      · injection h with h; omega
      · split at h
        · cases h
        · split at h
          · split at h
            · injection h with h; omega
            · split at h
              · injection h with h; omega
              · exact ih _ _ _ (by simp at hn; omega) h
          · split at h
            · injection h with h; omega
            · exact ih _ _ _ (by omega) h
theorem lexOneE0 {l : List UInt8} {k e : Nat} (h : lexOne l k = .inl e) : e ≠ 0 := by
  unfold lexOne at h
  split at h
  · injection h with h; omega
  · split at h
    · simp only at h
      split at h
      · injection h with h; omega
      · cases h
    · split at h
      · simp only at h
        split at h
        · cases h
        · injection h with h; omega
      · split at h
        · split at h
          · rename_i hs; injection h with h; subst h; exact textScanE0 _ _ _ _ (Nat.le_refl _) hs
          · cases h
        · split at h
          · cases h
          · injection h with h; omega
theorem lex_err {l : List UInt8} {k e : Nat} (h : lex l = .inl (k, e)) : e ≠ 0 ∧ k ≤ l.length := by
  unfold lex at h
  split at h
  · injection h with h; injection h with h1 h2; omega
  · obtain ⟨_, _, _, _, _, h4, h5⟩ := J_bad (l := l) _ 0 k e (Nat.le_refl _) (Nat.zero_le _) h
    exact ⟨lexOneE0 h5, by omega⟩
theorem lexJ_ended {l : List UInt8} : ∀ (n k : Nat) (ts : List Tok), l.length - k ≤ n → lexJ l k = .inr ts → Ended ts ∧ ts.length ≤ l.length - k + 1 := by
  intro n
  induction n with
  | zero =>
    intro k ts hn h
    rw [lexJ_end (by omega)] at h
    injection h with h; subst h
    exact ⟨⟨[], _, rfl, rfl, by simp, by simp⟩, by simp⟩
  | succ n ih =>
    intro k ts hn h
    by_cases hkl : k < l.length
    · cases hone : lexOne l k with
      | inl e' => rw [lexJ_bad hkl hone] at h; cases h
      | inr x =>
        obtain ⟨t, e2⟩ := x
        have hp := lexOne_pos hone
        have hge := skipTo_ge l e2
        rw [lexJ_one hone] at h
        cases hr : lexJ l (skipTo l e2) with
        | inl x => rw [hr] at h; cases h
        | inr ts' =>
          rw [hr] at h
          injection h with h
          simp only [List.cons_append, List.nil_append] at h
          subst h
          obtain ⟨⟨i, e, rfl, h1, h2, h3⟩, hl⟩ := ih _ _ (by omega) hr
          obtain ⟨g1, g2⟩ := lexOne_ok hone
          refine ⟨⟨t :: i, e, by simp, h1, fun u hu => ?_, fun u hu => ?_⟩, by simp at hl ⊢; omega⟩
          · rcases List.mem_cons.1 hu with rfl | hu
            · exact g2
            · exact h2 u hu
          · rcases List.mem_cons.1 hu with rfl | hu
            · exact g1
            · exact h3 u hu
    · rw [lexJ_end (by omega)] at h
      injection h with h; subst h
      exact ⟨⟨[], _, rfl, rfl, by simp, by simp⟩, by simp⟩
theorem lex_ended {l : List UInt8} {ts : List Tok} (h : lex l = .inr ts) : Ended ts ∧ ts.length ≤ l.length + 1 := by
  unfold lex at h
  split at h
  · cases h
  · obtain ⟨h1, h2⟩ := lexJ_ended _ _ _ (Nat.le_refl _) h
    exact ⟨h1, by omega⟩

/-! ### what a source is -/
theorem first_err {l : List Tok} {d : Int} {no : Bool} {E : Int} (h : first l d no = some E) : E = 5 ∨ E = 2 := by
  unfold first at h
  split at h
  · injection h with h; omega
  · split at h
    · injection h with h; omega
    · cases h
theorem PE.errno {nt : NT} {d : Int} {l : List Tok} {x : Res} (h : PE nt d l x) : ∀ {E r}, x = .err E r → E = 5 ∨ E = 2 := by
  induction h with
  | args_full h h1 h2 =>
    intro E r e
    injection e with e1 e2; subst e1
    unfold first
    split
    · exact .inl rfl
    · split
      · exact .inr rfl
      · exact .inr rfl
  | _ => intro E r e; first
    | (cases e; done)
    | (injection e with e1 e2; subst e1; exact .inl rfl)
    | (injection e with e1 e2; subst e1; exact first_err (by assumption))
    | (rename_i ih; exact ih e)
    | (rename_i ih1 ih; exact ih e)
    | (rename_i ih1 ih2; exact ih1 e)
    | (subst e; rename_i ih; exact ih rfl)
    | grind
theorem PA.errno {l : List Tok} {E : Int} {r : List Tok} (h : PA l (.err E r)) : E = 5 ∨ E = 2 := by
  cases h with
  | neg_bad => exact .inl rfl
  | paren_err _ h1 => exact h1.errno rfl
  | paren_bad => exact .inl rfl
theorem PF.errno {nt : NF} {d n : Int} {l : List Tok} {x : ResF} (h : PF nt d n l x) : ∀ {E r}, x = .err E r → E = 5 ∨ E = 2 := by
  induction h with
  | args_err h h1 h2 h3 h4 => intro E r e; injection e with e1 e2; subst e1; exact h4.errno
  | _ => intro E r e; first
    | (cases e; done)
    | (injection e with e1 e2; subst e1; first | exact .inl rfl | exact .inr rfl)
    | grind
theorem PL.errno {n : Int} {out : List Fo} {l : List Tok} {x : ResL} (h : PL n out l x) : ∀ {E r}, x = .err E r → E = 5 ∨ E = 2 := by
  induction h with
  | done => intro E r e; cases e
  | err _ h1 => intro E r e; injection e with e1 e2; subst e1; exact h1.errno rfl
  | go _ _ _ ih => exact ih

/-- What a source is as an expression: the expression, or where its problem is, and which. -/
inductive ExprIs (src : List UInt8) : Ex → Int → Int → Prop
  | lex {k e : Nat} (h : lex src = .inl (k, e)) : ExprIs src .none k e
  | bad {ts E r} (h : Lex.lex src = .inr ts) (h1 : PE .expr 1 ts (.err E r)) : ExprIs src .none (hd r).at_ E
  | more {ts x r} (h : Lex.lex src = .inr ts) (h1 : PE .expr 1 ts (.ok x r)) (h2 : (hd r).kind ≠ 5) : ExprIs src .none (hd r).at_ 5
  | ok {ts x r} (h : Lex.lex src = .inr ts) (h1 : PE .expr 1 ts (.ok x r)) (h2 : (hd r).kind = 5) : ExprIs src x 0 0
theorem ExprIs.det {src : List UInt8} {x y : Ex} {a b e f : Int} (h : ExprIs src x a e) (k : ExprIs src y b f) : x = y ∧ a = b ∧ e = f := by
  cases h <;> cases k <;> grind [PE.det]
/-- What a source is as forms. -/
inductive FormsIs (src : List UInt8) : List Fo → Int → Int → Prop
  | lex {k e : Nat} (h : lex src = .inl (k, e)) : FormsIs src [] k e
  | bad {ts E r} (h : Lex.lex src = .inr ts) (h1 : PL 0 [] ts (.err E r)) : FormsIs src [] (hd r).at_ E
  | ok {ts out} (h : Lex.lex src = .inr ts) (h1 : PL 0 [] ts (.ok out)) : FormsIs src out 0 0
theorem FormsIs.det {src : List UInt8} {x y : List Fo} {a b e f : Int} (h : FormsIs src x a e) (k : FormsIs src y b f) : x = y ∧ a = b ∧ e = f := by
  cases h <;> cases k <;> grind [PL.det]
end Go.Shadow.Lex

/- The grammar by fuel: executable, sound for the relations; the lexer by fuel. -/
namespace Go.Shadow.Lex

def bindR (o : Option Res) (k : Ex → List Tok → Option Res) : Option Res := match o with
  | none => none
  | some (.err E r) => some (.err E r)
  | some (.ok e r) => k e r
theorem bindR_some {o : Option Res} {k : Ex → List Tok → Option Res} {x : Res} (h : bindR o k = some x) : (∃ E r, o = some (.err E r) ∧ x = .err E r) ∨ ∃ e r, o = some (.ok e r) ∧ k e r = some x := by
  unfold bindR at h
  split at h
  · cases h
  · injection h with h; exact .inl ⟨_, _, rfl, h.symm⟩
  · exact .inr ⟨_, _, rfl, h⟩

def pE : Nat → NT → Int → List Tok → Option Res
  | 0, _, _, _ => none
  | f + 1, .expr, d, l => match first l d true with
    | some E => some (.err E l)
    | none => bindR (pE f (.lvl 1) d l) fun e r => if isS [63] r = false then some (.ok e r) else
      bindR (pE f .expr (d + 1) r.tail) fun a r2 => if isS [58] r2 = false then some (.err 5 r2) else
      bindR (pE f .expr (d + 1) r2.tail) fun b r3 => some (.ok (.mk 20 0 [] [e, a, b] e.off) r3)
  | f + 1, .lvl n, d, l => if n = 7 then pE f .neg d l else if n = 3 then
      if isS [33] l = false then pE f (.lvl 4) d l else match first l.tail (d + 1) true with
      | some E => some (.err E l.tail)
      | none => bindR (pE f (.lvl 3) (d + 1) l.tail) fun e r => some (.ok (.mk 5 0 [] [e] (hd l).at_) r)
    else if n < 7 then bindR (pE f (.lvl (n + 1)) d l) fun e r => pE f (.more n e) d r else none
  | f + 1, .more n e, d, l => match opOf l with
    | none => some (.ok e l)
    | some (op, m) => if m ≠ n then some (.ok e l) else bindR (pE f (.lvl (n + 1)) d l.tail) fun b r =>
      if n = 4 then some (.ok (.mk op 0 [] [e, b] e.off) r) else pE f (.more n (.mk op 0 [] [e, b] e.off)) d r
  | f + 1, .neg, d, l => if isS [45] l = false then pE f .atom d l else match first l.tail (d + 1) false with
    | some E => some (.err E l.tail)
    | none => bindR (pE f .neg (d + 1) l.tail) fun e r => some (.ok (.mk 6 0 [] [e] (hd l).at_) r)
  | f + 1, .atom, d, l => if begins l = false then some (.err 5 l) else
    if (hd l).kind = 2 then some (.ok (.mk 1 (hd l).n [] [] (hd l).at_) l.tail) else
    if (hd l).kind = 3 then some (.ok (.mk 2 0 (hd l).s [] (hd l).at_) l.tail) else
    if (hd l).kind = 1 then
      if isS [40] l.tail = false then some (.ok (.mk 3 0 (hd l).s [] (hd l).at_) l.tail) else pE f (.args (hd l).s (hd l).at_ []) d l.tail.tail
    else if isS [40] l = true then bindR (pE f .expr (d + 1) l.tail) fun e r => if isS [41] r = false then some (.err 5 r) else some (.ok e r.tail)
    else none
  | f + 1, .args s a kids, d, l => if isS [41] l = true then some (.ok (.mk 4 0 s kids a) l.tail) else
    if kids.isEmpty = false ∧ isS [44] l = false then some (.err 5 l) else
    if kids.length = 40 then some (.err ((first (argL kids l) 0 true).getD 2) (argL kids l)) else
    bindR (pE f .expr (d + 1) (argL kids l)) fun e r => pE f (.args s a (kids ++ [e])) d r

theorem pE_sound : ∀ {f nt d l x}, pE f nt d l = some x → PE nt d l x := by
  intro f
  induction f with
  | zero => intro nt d l x h; cases h
  | succ f ih =>
    intro nt d l x h
    cases nt with
    | expr =>
      simp only [pE] at h
      split at h
      · rename_i hf; injection h with h; subst h; exact .expr_first hf
      · rename_i hf
        rcases bindR_some h with ⟨E, r, h1, rfl⟩ | ⟨e, r, h1, h⟩
        · exact .expr_err hf (ih h1)
        · split at h
          · rename_i hq; injection h with h; subst h; exact .expr_one hf (ih h1) hq
          · rename_i hq
            have hq : isS [63] r = true := by simpa using hq
            rcases bindR_some h with ⟨E, r2, h3, rfl⟩ | ⟨a, r2, h3, h⟩
            · exact .if_err1 hf (ih h1) hq (ih h3)
            · split at h
              · rename_i hc; injection h with h; subst h; exact .if_colon hf (ih h1) hq (ih h3) hc
              · rename_i hc
                have hc : isS [58] r2 = true := by simpa using hc
                rcases bindR_some h with ⟨E, r3, h4, rfl⟩ | ⟨b, r3, h4, h⟩
                · exact .if_err2 hf (ih h1) hq (ih h3) hc (ih h4)
                · injection h with h; subst h; exact .if_ok hf (ih h1) hq (ih h3) hc (ih h4)
    | lvl n =>
      simp only [pE] at h
      split at h
      · rename_i hn; subst hn; exact .lvl7 (ih h)
      split at h
      · rename_i hn; subst hn
        split at h
        · rename_i hb; exact .lvl3 hb (ih h)
        · rename_i hb
          have hb : isS [33] l = true := by simpa using hb
          split at h
          · rename_i hf; injection h with h; subst h; exact .bang_first hb hf
          · rename_i hf
            rcases bindR_some h with ⟨E, r, h1, rfl⟩ | ⟨e, r, h1, h⟩
            · exact .bang_err hb hf (ih h1)
            · injection h with h; subst h; exact .bang_ok hb hf (ih h1)
      split at h
      · rcases bindR_some h with ⟨E, r, h1, rfl⟩ | ⟨e, r, h1, h⟩
        · exact .lvl_err (by omega) (ih h1)
        · exact .lvl_ok (by omega) (ih h1) (ih h)
      · cases h
    | more n e =>
      simp only [pE] at h
      split at h
      · rename_i ho; injection h with h; subst h; exact .more_end fun op h => by rw [ho] at h; cases h
      · rename_i op m ho
        split at h
        · rename_i hm; injection h with h; subst h; exact .more_end fun op h => by rw [ho] at h; injection h with h; injection h with _ h; exact hm h
        · rename_i hm
          have hm : m = n := Classical.byContradiction hm
          subst hm
          rcases bindR_some h with ⟨E, r, h1, rfl⟩ | ⟨b, r, h1, h⟩
          · exact .more_err ho (ih h1)
          · split at h
            · rename_i h4; have h := Option.some.inj h; subst h; subst h4; exact .more_last ho (ih h1)
            · rename_i h4; exact .more_go h4 ho (ih h1) (ih h)
    | neg =>
      simp only [pE] at h
      split at h
      · rename_i hb; exact .neg_no hb (ih h)
      · rename_i hb
        have hb : isS [45] l = true := by simpa using hb
        split at h
        · rename_i hf; injection h with h; subst h; exact .neg_first hb hf
        · rename_i hf
          rcases bindR_some h with ⟨E, r, h1, rfl⟩ | ⟨e, r, h1, h⟩
          · exact .neg_err hb hf (ih h1)
          · injection h with h; subst h; exact .neg_ok hb hf (ih h1)
    | atom =>
      simp only [pE] at h
      split at h
      · rename_i hb; injection h with h; subst h; exact .atom_bad hb
      split at h
      · rename_i hk; injection h with h; subst h; exact .atom_num hk
      split at h
      · rename_i hk; injection h with h; subst h; exact .atom_text hk
      split at h
      · rename_i hk
        split at h
        · rename_i hp; injection h with h; subst h; exact .atom_name hk hp
        · rename_i hp; exact .atom_call hk (by simpa using hp) (ih h)
      split at h
      · rename_i hp
        rcases bindR_some h with ⟨E, r, h1, rfl⟩ | ⟨e, r, h1, h⟩
        · exact .paren_err hp (ih h1)
        · split at h
          · rename_i hq; injection h with h; subst h; exact .paren_bad hp (ih h1) hq
          · rename_i hq; injection h with h; subst h; exact .paren_ok hp (ih h1) (by simpa using hq)
      · cases h
    | args s a kids =>
      simp only [pE] at h
      split at h
      · rename_i hb; injection h with h; subst h; exact .args_end hb
      rename_i hb
      have hb : isS [41] l = false := by simpa using hb
      split at h
      · rename_i hc; injection h with h; subst h; exact .args_comma hb (by intro hk; rw [hk] at hc; simp at hc) hc.2
      rename_i hc
      have hc : kids ≠ [] → isS [44] l = true := by
        intro hk
        cases h : isS [44] l with
        | true => rfl
        | false => exact absurd ⟨by cases kids with
          | nil => exact absurd rfl hk
          | cons => rfl, h⟩ hc
      split at h
      · rename_i h4; injection h with h; subst h; exact .args_full hb hc h4
      · rename_i h4
        rcases bindR_some h with ⟨E, r, h1, rfl⟩ | ⟨e, r, h1, h⟩
        · exact .args_err hb hc h4 (ih h1)
        · exact .args_go hb hc h4 (ih h1) (ih h)

def pA (f : Nat) (l : List Tok) : Option ResA :=
  if (hd l).kind = 1 ∨ (hd l).kind = 2 ∨ (hd l).kind = 3 then some (.ok ⟨(hd l).kind, (hd l).n, (hd l).s, .none, (hd l).at_⟩ l.tail) else
  if isS [45] l = true then if (hd l.tail).kind = 2 then some (.ok ⟨2, -(hd l.tail).n, [], .none, (hd l).at_⟩ l.tail.tail) else some (.err 5 l.tail) else
  if isS [45, 62] l = true then some (.ok ⟨4, 0, [], .none, (hd l).at_⟩ l.tail) else
  if isS [40] l = true then match pE f .expr 1 l.tail with
    | none => none
    | some (.err E r) => some (.err E r)
    | some (.ok e r) => if isS [41] r = true then some (.ok ⟨5, 0, [], e, (hd l).at_⟩ r.tail) else some (.err 5 r)
  else none
theorem pA_sound {f : Nat} {l : List Tok} {x : ResA} (h : pA f l = some x) : PA l x := by
  unfold pA at h
  split at h
  · rename_i hk; injection h with h; subst h; exact .tok hk
  split at h
  · rename_i hm
    split at h
    · rename_i hk; injection h with h; subst h; exact .neg_ok hm hk
    · rename_i hk; injection h with h; subst h; exact .neg_bad hm hk
  split at h
  · rename_i hm; injection h with h; subst h; exact .arrow hm
  split at h
  · rename_i hm
    split at h
    · cases h
    · rename_i hp; injection h with h; subst h; exact .paren_err hm (pE_sound hp)
    · rename_i hp
      split at h
      · rename_i hq; injection h with h; subst h; exact .paren_ok hm (pE_sound hp) hq
      · rename_i hq; injection h with h; subst h; exact .paren_bad hm (pE_sound hp) (by simpa using hq)
  · cases h

def pF : Nat → NF → Int → Int → List Tok → Option ResF
  | 0, _, _, _, _ => none
  | f + 1, .form, d, n, l => if (hd l).kind ≠ 1 then some (.err 5 l) else if d > 30 ∨ n ≥ 2000 then some (.err 2 l) else pF f (.args (hd l).s (hd l).at_ []) d (n + 1) l.tail
  | f + 1, .args w a u, d, n, l => if isS [59] l = true then some (.ok (.mk w u [] a) n l.tail) else
    if isS [123] l = true then pF f (.body w a u []) d n l.tail else
    if begins l = true ∨ isS [45, 62] l = true then if u.length = 40 then some (.err 2 l) else match pA f l with
      | none => none
      | some (.err E r) => some (.err E r)
      | some (.ok b r) => pF f (.args w a (u ++ [b])) d n r
    else some (.err 5 l)
  | f + 1, .body w a u b, d, n, l => if isS [125] l = true then some (.ok (.mk w u b a) n l.tail) else match pF f .form (d + 1) n l with
    | none => none
    | some (.err E r) => some (.err E r)
    | some (.ok g n' r) => pF f (.body w a u (b ++ [g])) d n' r
theorem pF_sound : ∀ {f nt d n l x}, pF f nt d n l = some x → PF nt d n l x := by
  intro f
  induction f with
  | zero => intro nt d n l x h; cases h
  | succ f ih =>
    intro nt d n l x h
    cases nt with
    | form =>
      simp only [pF] at h
      split at h
      · rename_i hk; injection h with h; subst h; exact .form_bad hk
      rename_i hk
      have hk : (hd l).kind = 1 := Classical.byContradiction hk
      split at h
      · rename_i hl; injection h with h; subst h; exact .form_limit hk hl
      · rename_i hl; exact .form_go hk hl (ih h)
    | args w a u =>
      simp only [pF] at h
      split at h
      · rename_i hs; injection h with h; subst h; exact .args_end hs
      rename_i hs
      have hs : isS [59] l = false := by simpa using hs
      split at h
      · rename_i hb; exact .args_body hb (ih h)
      rename_i hb
      have hb : isS [123] l = false := by simpa using hb
      split at h
      · rename_i ho
        split at h
        · rename_i h4; injection h with h; subst h; exact .args_limit hs hb ho h4
        · rename_i h4
          split at h
          · cases h
          · rename_i hp; injection h with h; subst h; exact .args_err hs hb ho h4 (pA_sound hp)
          · rename_i hp; exact .args_go hs hb ho h4 (pA_sound hp) (ih h)
      · rename_i ho; injection h with h; subst h
        simp only [not_or, Bool.not_eq_true] at ho
        exact .args_bad hs hb ho.1 ho.2
    | body w a u b =>
      simp only [pF] at h
      split at h
      · rename_i hs; injection h with h; subst h; exact .body_end hs
      rename_i hs
      have hs : isS [125] l = false := by simpa using hs
      split at h
      · cases h
      · rename_i hp; injection h with h; subst h; exact .body_err hs (ih hp)
      · rename_i hp; exact .body_go hs (ih hp) (ih h)

def pL : Nat → Int → List Fo → List Tok → Option ResL
  | 0, _, _, _ => none
  | f + 1, n, out, l => if (hd l).kind = 5 then some (.ok out) else match pF f .form 1 n l with
    | none => none
    | some (.err E r) => some (.err E r)
    | some (.ok g n' r) => pL f n' (out ++ [g]) r
theorem pL_sound : ∀ {f n out l x}, pL f n out l = some x → PL n out l x := by
  intro f
  induction f with
  | zero => intro n out l x h; cases h
  | succ f ih =>
    intro n out l x h
    simp only [pL] at h
    split at h
    · rename_i hk; injection h with h; subst h; exact .done hk
    rename_i hk
    split at h
    · cases h
    · rename_i hp; injection h with h; subst h; exact .err hk (pF_sound hp)
    · rename_i hp; exact .go hk (pF_sound hp) (ih h)

def lexF (l : List UInt8) : Nat → Nat → Sum (Nat × Nat) (List Tok)
  | 0, k => .inl (k, 0)
  | f + 1, k => if k < l.length then match lexOne l k with
    | .inl e => .inl (k, e)
    | .inr (t, e2) => addAll [t] (lexF l f (skipTo l e2))
    else .inr [⟨5, l.length, [], 0⟩]
theorem lexF_eq {l : List UInt8} : ∀ {f k : Nat}, l.length - k < f → lexJ l k = lexF l f k
  | 0, k, h => by omega
  | f + 1, k, h => by
    unfold lexF
    split
    · rename_i hk
      split
      · rename_i e he; exact lexJ_bad hk he
      · rename_i t e2 he
        have h2 := lexOne_pos he
        have h3 := skipTo_ge l e2
        rw [lexJ_one he, lexF_eq (f := f) (by omega)]
    · exact lexJ_end (by omega)
theorem lex_eq {l : List UInt8} {x : Sum (Nat × Nat) (List Tok)} (f : Nat) (h1 : l.length < f) (h2 : f ≤ 65536) (h : lexF l f (skipTo l 0) = x) : lex l = x := by
  unfold lex
  rw [if_neg (by omega), lexF_eq (f := f) (by omega), h]

/-- A source as an expression, by fuel. -/
def exprF (f : Nat) (src : List UInt8) : Option (Ex × Int × Int) := if f ≤ src.length then none else if 65536 < f then none else match lexF src f (skipTo src 0) with
  | .inl (k, e) => some (.none, k, e)
  | .inr ts => match pE f .expr 1 ts with
    | none => none
    | some (.err E r) => some (.none, (hd r).at_, E)
    | some (.ok x r) => if (hd r).kind = 5 then some (x, 0, 0) else some (.none, (hd r).at_, 5)
theorem exprF_is {f : Nat} {src : List UInt8} {x : Ex} {a E : Int} (h : exprF f src = some (x, a, E)) : ExprIs src x a E := by
  unfold exprF at h
  split at h
  · cases h
  rename_i h1
  split at h
  · cases h
  rename_i h2
  have hl := lex_eq (l := src) f (by omega) (by omega) rfl
  split at h
  · rename_i k e hx; rw [hx] at hl; injection h with h; injection h with e1 h; injection h with e2 e3; subst e1; subst e2; subst e3; exact .lex hl
  · rename_i ts hx
    rw [hx] at hl
    split at h
    · cases h
    · rename_i hp; injection h with h; injection h with e1 h; injection h with e2 e3; subst e1; subst e2; subst e3; exact .bad hl (pE_sound hp)
    · rename_i hp
      split at h
      · rename_i hk; injection h with h; injection h with e1 h; injection h with e2 e3; subst e1; subst e2; subst e3; exact .ok hl (pE_sound hp) hk
      · rename_i hk; injection h with h; injection h with e1 h; injection h with e2 e3; subst e1; subst e2; subst e3; exact .more hl (pE_sound hp) hk
def formsF (f : Nat) (src : List UInt8) : Option (List Fo × Int × Int) := if f ≤ src.length then none else if 65536 < f then none else match lexF src f (skipTo src 0) with
  | .inl (k, e) => some ([], k, e)
  | .inr ts => match pL f 0 [] ts with
    | none => none
    | some (.err E r) => some ([], (hd r).at_, E)
    | some (.ok out) => some (out, 0, 0)
theorem formsF_is {f : Nat} {src : List UInt8} {x : List Fo} {a E : Int} (h : formsF f src = some (x, a, E)) : FormsIs src x a E := by
  unfold formsF at h
  split at h
  · cases h
  rename_i h1
  split at h
  · cases h
  rename_i h2
  have hl := lex_eq (l := src) f (by omega) (by omega) rfl
  split at h
  · rename_i k e hx; rw [hx] at hl; injection h with h; injection h with e1 h; injection h with e2 e3; subst e1; subst e2; subst e3; exact .lex hl
  · rename_i ts hx
    rw [hx] at hl
    split at h
    · cases h
    · rename_i hp; injection h with h; injection h with e1 h; injection h with e2 e3; subst e1; subst e2; subst e3; exact .bad hl (pL_sound hp)
    · rename_i hp; injection h with h; injection h with e1 h; injection h with e2 e3; subst e1; subst e2; subst e3; exact .ok hl (pL_sound hp)

end Go.Shadow.Lex

/- Proved: values that are expressions' values, less known; the closures of sanity. Conditions: none. -/
namespace Go.Shadow.Lex
open Go Go.RowKit Go.Proofs

theorem _root_.Go.Shadow.SCall.weak {f : FuncId} {us bs : List V} {σ : St} {Post : SEnd → St → Prop} (hl : us.length = bs.length) (hw : ∀ (i : Nat) (x y : V), us[i]? = some x → bs[i]? = some y → Weak x y) (h : SCall Tryz.prog LG f bs σ Post) : SCall Tryz.prog LG f us σ Post := by
  intro w0 γ w xs hI hr
  refine h w0 γ w xs hI ⟨hl ▸ hr.1, fun i x y hx hy => ?_⟩
  have hi : i < us.length := by rw [hl]; exact (List.getElem?_eq_some_iff.1 hx).1
  exact hw i _ x (List.getElem?_eq_getElem hi) hx _ _ _ _ (hr.2 i _ y (List.getElem?_eq_getElem hi) hy)
theorem _root_.Go.Shadow.SCall.weak2 {f : FuncId} {a b a' b' : V} {σ : St} {Post : SEnd → St → Prop} (h1 : Weak a a') (h2 : Weak b b') (h : SCall Tryz.prog LG f [a', b'] σ Post) : SCall Tryz.prog LG f [a, b] σ Post :=
  SCall.weak (us := [a, b]) (bs := [a', b']) rfl (fun i x y hx hy => by
    match i, hx, hy with
    | 0, hx, hy => simp at hx hy; subst hx; subst hy; exact h1
    | 1, hx, hy => simp at hx hy; subst hx; subst hy; exact h2
    | _ + 2, hx, hy => simp at hx) h
theorem _root_.Go.Shadow.SCall.weak3 {f : FuncId} {a b c a' b' c' : V} {σ : St} {Post : SEnd → St → Prop} (h1 : Weak a a') (h2 : Weak b b') (h3 : Weak c c') (h : SCall Tryz.prog LG f [a', b', c'] σ Post) : SCall Tryz.prog LG f [a, b, c] σ Post :=
  SCall.weak (us := [a, b, c]) (bs := [a', b', c']) rfl (fun i x y hx hy => by
    match i, hx, hy with
    | 0, hx, hy => simp at hx hy; subst hx; subst hy; exact h1
    | 1, hx, hy => simp at hx hy; subst hx; subst hy; exact h2
    | 2, hx, hy => simp at hx hy; subst hx; subst hy; exact h3
    | _ + 3, hx, hy => simp at hx) h

theorem _root_.Go.Shadow.WeakL.refl {cs : List V} (h : ∀ (j : Nat) (y : V), cs[j]? = some y → y.one = true) : WeakL cs cs := ⟨rfl, h, fun j x y hx hy => by rw [hx] at hy; injection hy with hy; subst hy; exact Weak.refl _⟩
theorem _root_.Go.Shadow.WeakL.nil : WeakL [] [] := .refl (by simp)
theorem _root_.Go.Shadow.WeakL.cons {c d : V} {cs ds : List V} (h1 : d.one = true) (h : Weak c d) (k : WeakL cs ds) : WeakL (c :: cs) (d :: ds) := by
  refine ⟨by simp [k.len], fun j y hy => ?_, fun j x y hx hy => ?_⟩
  · cases j with
    | zero => simp at hy; subst hy; exact h1
    | succ j => exact k.one j y (by simpa using hy)
  · cases j with
    | zero => simp at hx hy; subst hx; subst hy; exact h
    | succ j => exact k.weak j x y (by simpa using hx) (by simpa using hy)
theorem _root_.Go.Shadow.WeakL.append {cs ds es fs : List V} (h : WeakL cs ds) (k : WeakL es fs) : WeakL (cs ++ es) (ds ++ fs) := by
  refine ⟨by simp [h.len, k.len], fun j y hy => ?_, fun j x y hx hy => ?_⟩
  · rw [List.getElem?_append] at hy
    split at hy
    · exact h.one j y hy
    · exact k.one _ y hy
  · rw [List.getElem?_append] at hx hy
    rw [h.len] at hx
    split at hy
    · rename_i hj; rw [if_pos hj] at hx; exact h.weak j x y hx hy
    · rename_i hj; rw [if_neg hj] at hx; exact k.weak _ x y hx hy
theorem _root_.Go.Shadow.WeakL.agg {cs ds : List V} (h : WeakL cs ds) : Weak (.agg cs) (.agg ds) := weak_agg h.len h.one h.weak
/-- Rows of cells of which less is known. -/
inductive WeakR : List (List V) → List (List V) → Prop
  | nil : WeakR [] []
  | cons {c d : List V} {cs ds : List (List V)} (h : WeakL c d) (k : WeakR cs ds) : WeakR (c :: cs) (d :: ds)
theorem WeakR.len {es fs : List (List V)} (h : WeakR es fs) : es.length = fs.length := by
  induction h with
  | nil => rfl
  | cons _ _ ih => simp [ih]
theorem WeakR.flat {es fs : List (List V)} (h : WeakR es fs) : WeakL es.flatten fs.flatten := by
  induction h with
  | nil => exact .nil
  | cons h _ ih => simpa using h.append ih
theorem weak_rows {t : Tag} {s z : Nat} {es fs : List (List V)} (h : WeakR es fs) (hz : z = s ∨ es = []) (hf : ∀ f ∈ fs, f.length = s) : Weak (.slice t z es) (.slice .foreign s fs) := by
  intro B γ w x hx
  have hn := h.len
  have hw := h.flat
  cases hx with | slice _ _ _ a cap b o vs hs hl ha ht h1 hc hr =>
  rw [hn] at hl ⊢
  have hlen := hw.len
  have get : ∀ {k : Nat} {y : V}, fs.flatten[k]? = some y → ∃ x, es.flatten[k]? = some x := fun {k y} hy => by
    have hk : k < es.flatten.length := by rw [hlen]; exact (List.getElem?_eq_some_iff.1 hy).1
    exact ⟨_, List.getElem?_eq_getElem hk⟩
  refine .slice .foreign s fs a cap b o vs (fun i e he => hf e (List.mem_of_getElem? he)) hl ?_ trivial hw.one (fun k y hy => ?_) (fun k y hy => ?_)
  · rcases ha with ha | ⟨ha, he⟩
    · exact .inl ha
    · refine .inr ⟨ha, ?_⟩
      rw [he] at hn
      exact List.eq_nil_of_length_eq_zero hn.symm
  · obtain ⟨x, hx⟩ := get hy
    exact hc k x hx
  · obtain ⟨x, hx⟩ := get hy
    exact hw.weak k x y hx hy _ _ _ _ (hr k x hx)
theorem exV_len (e : Ex) : (exV e).length = 5 := by cases e; rfl
/-- Cells that are an expression's. -/
abbrev WX (c : List V) (x : Ex) : Prop := WeakL c (exV x)
theorem weak_exL {op n a : Int} {s : List UInt8} {t : Tag} {z : Nat} {kids : List Ex} {es : List (List V)} (h : WeakR es (kids.map exV)) (hz : z = 5 ∨ es = []) : WX [.int .i64 op, .int .i64 n, .str s, .slice t z es, .int .i64 a] (.mk op n s kids a) := by
  refine .cons rfl (.refl _) (.cons rfl (.refl _) (.cons rfl (.refl _) (.cons rfl ?_ (.cons rfl (.refl _) .nil))))
  rw [exVs_map]
  exact weak_rows h hz (fun f hf => by
    obtain ⟨e, _, rfl⟩ := List.mem_map.1 hf
    exact exV_len e)
theorem wx_refl (x : Ex) : WX (exV x) x := by
  obtain ⟨op, n, s, kids, a⟩ := x
  exact ⟨rfl, fun j y hy => by
    match j, hy with
    | 0, hy | 1, hy | 2, hy | 3, hy | 4, hy => simp [exV] at hy; subst hy; rfl
    | _ + 5, hy => simp [exV] at hy, fun j x y hx hy => by rw [hx] at hy; injection hy with hy; subst hy; exact Weak.refl _⟩
/-- sameExpr for cells. -/
theorem sameExprW {c d : List V} {x y : Ex} (hc : WX c x) (hd : WX d y) (hn : exN x ≤ 1000000) : SRet Tryz.prog LG 15 [.agg c, .agg d] (.bool (sameE x y)) :=
  fun σ => SCall.weak2 hc.agg hd.agg (sameExpr_ret _ x y hn (Nat.le_refl _) σ)

theorem name22_ret (s : List UInt8) : SRet Tryz.prog LG 22 [.str s] (.agg (exV (.mk 3 0 s [] 0))) := by
  intro σ
  refine code22.call hm (by simp) ?_
  intro b2 f2
  refine Sure.mk' rfl ?_
  refine Store.mk' [.int .i64 3, .int .i64 0, .str s, .slice .nil 0 [], .int .i64 0] put_box (Nat.le_refl _) rfl (fun σ2 e2 => ?_)
  rw [put_put] at e2
  refine Load.mk' (by rw [e2]; exact put_box) (Nat.le_refl _) ?_
  refine Ret.weak (r := .agg (exV (.mk 3 0 s [] 0))) (WeakL.agg (weak_exL .nil (.inr rfl))) (σ' := σ) ?_ ⟨rfl, rfl⟩
  rw [e2]; exact over_put (.refl _) f2
theorem node23_ret (op : Int) (x y : Ex) : SRet Tryz.prog LG 23 [.int .i64 op, .agg (exV x), .agg (exV y)] (.agg (exV (.mk op 0 [] [x, y] 0))) := by
  intro σ
  obtain ⟨op1, n1, s1, kids1, a1⟩ := x
  obtain ⟨op2, n2, s2, kids2, a2⟩ := y
  refine code23.call hm (by simp) ?_
  refine ⟨rfl, ?_⟩
  intro b4 f4
  refine ⟨rfl, ?_⟩
  intro b5 f5
  intro b6 f6
  have n45 := box_ne put_box f5
  have n46 := box_ne (show ((σ.put b4 (V.agg (exV (.mk op1 n1 s1 kids1 a1))).cells).put b5 (V.agg (exV (.mk op2 n2 s2 kids2 a2))).cells).box b4 = some (exV (.mk op1 n1 s1 kids1 a1)) from by rw [put_ne n45]; exact put_box) f6
  have n56 := box_ne put_box f6
  refine Load.mk' (by rw [put_ne n46, put_ne n45]; exact put_box) (by simp [exV, V.cells]) ?_
  refine Load.mk' (by rw [put_ne n56]; exact put_box) (by simp [exV, V.cells]) ?_
  refine Sure.mk' rfl ?_
  refine Store.mk' [.int .i64 op, .int .i64 0, .str [], .slice .full 5 [exV (.mk op1 n1 s1 kids1 a1), exV (.mk op2 n2 s2 kids2 a2)], .int .i64 0] put_box (Nat.le_refl _) rfl (fun σ2 e2 => ?_)
  rw [put_put] at e2
  refine Load.mk' (by rw [e2]; exact put_box) (Nat.le_refl _) ?_
  refine Ret.weak (r := .agg (exV (.mk op 0 [] [.mk op1 n1 s1 kids1 a1, .mk op2 n2 s2 kids2 a2] 0))) (WeakL.agg (weak_exL (.cons (wx_refl _) (.cons (wx_refl _) .nil)) (.inl rfl))) (σ' := σ) ?_ ⟨rfl, rfl⟩
  rw [e2]; exact over_put (over_put (over_put (.refl _) f4) (put_none f5)) (put_none (put_none f6))
end Go.Shadow.Lex

/- Proved: what the printer's small methods do, as shadow contracts. Conditions: as each theorem says. -/
namespace Go.Shadow.Lex
open Go Go.RowKit Go.Proofs

/-- The printer in its box, out of the state 'σ0' (in which its tokens' row is not yet there). -/
structure PrI (σ0 σ : St) (p : Nat) (toks : List Tok) (bad : Bool) : Prop where
  box : ∃ tag z, σ.box p = some [.slice tag z (toks.map tokV), .bool bad] ∧ Mine (sans σ0) σ tag ∧ (tag = .nil ∨ z = 4) ∧ (z = 4 ∨ toks.map tokV = [])
  over : Over (sans σ0) σ
/-- All but the printer's box is as it was. -/
def Kp (p : Nat) (σ σ' : St) : Prop := ∀ b cs, b ≠ p → σ.box b = some cs → σ'.box b = some cs
theorem Kp.refl (p : Nat) (σ : St) : Kp p σ σ := fun _ _ _ h => h
theorem Kp.trans {p : Nat} {a b c : St} (h : Kp p a b) (k : Kp p b c) : Kp p a c := fun x cs hx hb => k x cs hx (h x cs hx hb)
theorem Kp.putp {p : Nat} {σ σ' : St} {cs : List V} (h : Kp p σ σ') : Kp p σ (σ'.put p cs) := fun x ds hx hb => by rw [put_ne hx]; exact h x ds hx hb
theorem Kp.new {p b : Nat} {σ σ' : St} {cs : List V} (h : Kp p σ σ') (hb : σ'.box b = none) : Kp p σ (σ'.put b cs) := fun x ds hx hx2 => by
  rw [put_ne (box_ne (h x ds hx hx2) hb)]; exact h x ds hx hx2
theorem PrI.new {σ0 σ : St} {p b : Nat} {toks : List Tok} {bad : Bool} {cs : List V} (h : PrI σ0 σ p toks bad) (hb : σ.box b = none) : PrI σ0 (σ.put b cs) p toks bad := by
  obtain ⟨⟨tag, z, h1, h2, h3, h4⟩, h5⟩ := h
  exact ⟨⟨tag, z, by rw [put_ne (box_ne h1 hb)]; exact h1, Mine.put h2, h3, h4⟩, ⟨fun _ _ h => (by cases h), h5.live, h5.map⟩⟩
theorem PrI.ne {σ0 σ : St} {p b : Nat} {toks : List Tok} {bad : Bool} (h : PrI σ0 σ p toks bad) (hb : σ.box b = none) : p ≠ b := by
  obtain ⟨⟨tag, z, h1, _⟩, _⟩ := h
  exact box_ne h1 hb
def sgT (s : List UInt8) : Tok := ⟨4, 0, s, 0⟩
def Prs (σ0 σ : St) (p : Nat) (toks : List Tok) (bad : Bool) (e : SEnd) (σ' : St) : Prop := e = .ret (.tup []) ∧ PrI σ0 σ' p toks bad ∧ Kp p σ σ'

def scN60 : SC := match sc60 with
  | .seq _ (.seq _ r) => r
  | _ => .skip
def scN62 : SC := match sc62 with
  | .seq _ r => r
  | _ => .skip
def scN63 : SC := match sc63 with
  | .seq _ r => r
  | _ => .skip
theorem toks_small {n : Nat} (h : n ≤ 1000000) : (n + (0 + 1)) * 40 ≤ 140737488355328 ∧ n + (0 + 1) ≤ 9223372036854775807 := by omega

theorem signs_call {σ0 σ : St} {p : Nat} {toks : List Tok} {bad : Bool} (hp : PrI σ0 σ p toks bad) (hl : toks.length ≤ 1000000) (s : List UInt8) (tg : Tag) :
    SCall Tryz.prog LG 61 [.loc p 0, .slice tg 1 [[.str s]]] σ (Prs σ0 σ p (toks ++ [sgT s]) bad) := by
  refine code61.call hm (by simp) ?_
  refine ⟨fun m sl σ' => ∃ i : Nat, sl = ofL [(0, some (.loc p 0)), (6, some (.slice tg 1 [[.str s]])), (7, some (.int .i64 1)), (8, some (.int .i64 i))] ∧ Kp p σ σ' ∧ ((i = 0 ∧ PrI σ0 σ' p toks bad) ∨ (i = 1 ∧ PrI σ0 σ' p (toks ++ [sgT s]) bad)) ∧ m = 1 - i,
    _, ⟨0, rfl, .refl _ _, .inl ⟨rfl, hp⟩, rfl⟩, ?_⟩
  rintro m sl σ' ⟨i, rfl, hk, hi, rfl⟩
  rcases hi with ⟨rfl, ⟨⟨tag, z, h1, h2, h3, h4⟩, h5⟩⟩ | ⟨rfl, hp'⟩
  · refine Test.yes (by decide) ?_
    refine Sure.mk' (.inl rfl) ?_
    refine IdxE.mk' 0 _ rfl rfl ?_
    refine ⟨by simp, ?_⟩
    refine Load.mk' h1 (by simp) ?_
    refine App.mk' h5 h2 h3 rfl (by simp only [List.length_map, List.length_cons, List.length_nil]; exact (toks_small hl).1) (by simp only [List.length_map, List.length_cons, List.length_nil]; exact (toks_small hl).2) (List.cons_ne_nil _ _) (fun t' σ2 o2 m2 b2 _ => ?_)
    refine Sure.mk' rfl ?_
    refine Store.mk' [.slice (.tip t') 4 (toks.map tokV ++ [tokV (sgT s)]), .bool bad] (by rw [b2]; exact h1) (by simp [V.cells]) rfl (fun σ3 e3 => ?_)
    refine Arith.i64 1 rfl (by omega) ?_
    refine ⟨0, σ3, by decide, Forget.refl _, 1, rfl, ?_, .inr ⟨rfl, ⟨.tip t', 4, by rw [e3, List.map_append]; exact put_box, by rw [e3]; exact m2, .inr rfl, .inl rfl⟩, by rw [e3]; exact ⟨fun _ _ h => (by cases h), o2.live, o2.map⟩⟩, rfl⟩
    rw [e3]
    exact Kp.putp (fun b cs hb hc => by rw [b2]; exact hk b cs hb hc)
  · refine Test.no (by decide) ?_
    exact Ret.mk' ⟨rfl, hp', hk⟩

/-- The bits of a letter. -/
theorem letter_bits : ∀ n : Fin 256, ((decide (97 ≤ bitsOp .or .u8 (n.val : Int) 32) && decide (bitsOp .or .u8 (n.val : Int) 32 ≤ 122)) || decide ((n.val : Int) = 95)) = ((n.val == 95) || (decide (97 ≤ n.val) && decide (n.val ≤ 122)) || (decide (65 ≤ n.val) && decide (n.val ≤ 90))) := by
  decide +kernel
theorem letterP_ret (c : UInt8) : SRet Tryz.prog LG 87 [.int .u8 c.toNat] (.bool (isLetter c)) := by
  intro σ
  have hb := letter_bits ⟨c.toNat, c.toNat_lt⟩
  have hv : isLetter c = ((c.toNat == 95) || (decide (97 ≤ c.toNat) && decide (c.toNat ≤ 122)) || (decide (65 ≤ c.toNat) && decide (c.toNat ≤ 90))) := rfl
  rw [hv, ← hb]
  refine code87.call hm (by simp) ?_
  refine Test.split (fun h1 => ?_) (fun h1 => ?_)
  · refine Test.split (fun h2 => ?_) (fun h2 => ?_)
    · refine Ret.mk' ⟨rfl, ?_⟩
      rw [decide_eq_true (show 97 ≤ bitsOp .or .u8 (c.toNat : Int) 32 from h1), decide_eq_true (show bitsOp .or .u8 (c.toNat : Int) 32 ≤ 122 from h2)]; rfl
    · rw [decide_eq_false (show ¬ bitsOp .or .u8 (c.toNat : Int) 32 ≤ 122 from h2), Bool.and_false, Bool.false_or]
      refine Test.split (fun h3 => ?_) (fun h3 => ?_)
      · exact Ret.mk' ⟨rfl, by rw [decide_eq_true (show (c.toNat : Int) = 95 from h3)]⟩
      · exact Ret.mk' ⟨rfl, by rw [decide_eq_false (show ¬ (c.toNat : Int) = 95 from h3)]⟩
  · rw [decide_eq_false (show ¬ 97 ≤ bitsOp .or .u8 (c.toNat : Int) 32 from h1), Bool.false_and, Bool.false_or]
    refine Test.split (fun h3 => ?_) (fun h3 => ?_)
    · exact Ret.mk' ⟨rfl, by rw [decide_eq_true (show (c.toNat : Int) = 95 from h3)]⟩
    · exact Ret.mk' ⟨rfl, by rw [decide_eq_false (show ¬ (c.toNat : Int) = 95 from h3)]⟩

/-- Whether the first bytes of a name are right. -/
def okUp (b : Bool) (s : List UInt8) : Nat → Bool
  | 0 => b
  | i + 1 => okUp b s i && (match s[i]? with
    | some c => isLetter c || (decide (0 < i) && isDigit c)
    | none => true)
def nameOK (s : List UInt8) : Bool := okUp (decide (0 < s.length) && decide (s.length ≤ 32)) s s.length

theorem namePr_call {σ0 σ : St} {p : Nat} {toks : List Tok} {bad : Bool} (hp : PrI σ0 σ p toks bad) (hl : toks.length ≤ 1000000) (s : List UInt8) (hs : s.length ≤ 1000000) :
    SCall Tryz.prog LG 60 [.loc p 0, .str s] σ (Prs σ0 σ p (toks ++ [⟨1, 0, s, 0⟩]) (bad || !nameOK s)) := by
  refine code60.call hm (by simp) ?_
  obtain ⟨⟨tag, z, h1, h2, h3, h4⟩, h5⟩ := hp
  have key : ∀ (b0 : Bool), b0 = (decide (0 < s.length) && decide (s.length ≤ 32)) → swpE Tryz.prog LG scN60 (retE [] (Prs σ0 σ p (toks ++ [⟨1, 0, s, 0⟩]) (bad || !nameOK s))) (ofL [(0, some (.loc p 0)), (1, some (.str s)), (4, some (.func 87 [] [])), (5, some (.bool b0))]) σ := by
    intro b0 hb0
    refine ⟨fun m sl σ' => σ' = σ ∧ ∃ i : Nat, sl = ofL [(0, some (.loc p 0)), (1, some (.str s)), (4, some (.func 87 [] [])), (5, some (.bool (okUp b0 s i))), (16, some (.int .i64 s.length)), (17, some (.int .i64 i))] ∧ i ≤ s.length ∧ m = s.length - i,
      _, ⟨rfl, 0, rfl, Nat.zero_le _, rfl⟩, ?_⟩
    rintro m sl σ' ⟨rfl, i, rfl, hi, rfl⟩
    refine Test.split (fun hlt => ?_) (fun hlt => ?_)
    · have hlt : i < s.length := by omega
      obtain ⟨c, hc⟩ : ∃ c, s[i]? = some c := ⟨_, List.getElem?_eq_getElem hlt⟩
      have hms : s.length - (i + 1) < s.length - i := by omega
      have next : ∀ v : Bool, v = okUp b0 s (i + 1) → ∃ m' σ'', m' < s.length - i ∧ Forget σ' σ'' ∧ σ'' = σ' ∧ ∃ i' : Nat, ofL [(0, some (.loc p 0)), (1, some (.str s)), (4, some (.func 87 [] [])), (5, some (.bool v)), (16, some (.int .i64 s.length)), (17, some (.int .i64 (i + 1 : Nat)))] = ofL [(0, some (.loc p 0)), (1, some (.str s)), (4, some (.func 87 [] [])), (5, some (.bool (okUp b0 s i'))), (16, some (.int .i64 s.length)), (17, some (V.int .i64 i'))] ∧ i' ≤ s.length ∧ m' = s.length - i' :=
        fun v hv => ⟨_, _, hms, Forget.refl _, rfl, i + 1, by rw [hv], by omega, rfl⟩
      have hup : okUp b0 s (i + 1) = (okUp b0 s i && (isLetter c || (decide (0 < i) && isDigit c))) := by simp only [okUp, hc]
      cases hb : okUp b0 s i
      · refine Arith.i64 ((i + 1 : Nat) : Int) (by simp) (by omega) ?_
        exact next false (by rw [hup, hb]; rfl)
      refine Idx.mk' i c rfl hc ?_
      refine CallK.pure (letterP_ret c) ?_
      cases hL : isLetter c
      · refine Test.split (fun hi0 => ?_) (fun hi0 => ?_)
        · refine Idx.mk' i c rfl hc ?_
          have hi0 : 0 < i := by omega
          refine Test.split (fun h48 => ?_) (fun h48 => ?_)
          · refine Idx.mk' i c rfl hc ?_
            refine Test.split (fun h57 => ?_) (fun h57 => ?_)
            · refine Arith.i64 ((i + 1 : Nat) : Int) (by simp) (by omega) ?_
              exact next true (by rw [hup, hb, hL]; simp [isDigit, hi0]; omega)
            · refine Arith.i64 ((i + 1 : Nat) : Int) (by simp) (by omega) ?_
              exact next false (by rw [hup, hb, hL]; simp [isDigit, hi0]; omega)
          · refine Arith.i64 ((i + 1 : Nat) : Int) (by simp) (by omega) ?_
            exact next false (by rw [hup, hb, hL]; simp [isDigit, hi0]; omega)
        · refine Arith.i64 ((i + 1 : Nat) : Int) (by simp) (by omega) ?_
          exact next false (by rw [hup, hb, hL]; simp; omega)
      · refine Arith.i64 ((i + 1 : Nat) : Int) (by simp) (by omega) ?_
        exact next true (by rw [hup, hb, hL]; rfl)
    · have : i = s.length := by omega
      subst this
      have hnk : nameOK s = okUp b0 s s.length := by unfold nameOK; rw [hb0]
      rw [hnk]
      refine Load.mk' h1 (by simp) ?_
      have st : ∀ v : Bool, v = (bad || !okUp b0 s s.length) → ∀ σ2, σ2 = σ'.put p [.slice tag z (toks.map tokV), .bool v] → σ2.box p = some [.slice tag z (toks.map tokV), .bool (bad || !okUp b0 s s.length)] ∧ Mine (sans σ0) σ2 tag ∧ Over (sans σ0) σ2 ∧ Kp p σ' σ2 := by
        intro v hv σ2 e
        subst e
        exact ⟨by rw [← hv]; exact put_box, Mine.put h2, ⟨fun _ _ h => (by cases h), h5.live, h5.map⟩, Kp.putp (.refl _ _)⟩
      cases bad
      · cases hkk : okUp b0 s s.length
        · refine Sure.mk' rfl ?_
          refine Store.mk' [.slice tag z (toks.map tokV), .bool true] h1 (by simp [V.cells]) rfl (fun σ2 e2 => ?_)
          obtain ⟨g1, g2, g3, g4⟩ := st true (by rw [hkk]; rfl) σ2 e2
          rw [hkk] at g1
          refine Load.mk' g1 (by simp) ?_
          refine App.mk' g3 g2 h3 rfl (by simp only [List.length_map, List.length_cons, List.length_nil]; exact (toks_small hl).1) (by simp only [List.length_map, List.length_cons, List.length_nil]; exact (toks_small hl).2) (List.cons_ne_nil _ _) (fun t' σ8 o8 m8 b8 _ => ?_)
          refine Sure.mk' rfl ?_
          refine Store.mk' [.slice (.tip t') 4 (toks.map tokV ++ [tokV (⟨1, 0, s, 0⟩ : Tok)]), .bool (true)] (by rw [b8]; exact g1) (by simp [V.cells]) rfl (fun σ9 e9 => ?_)
          refine Ret.mk' ⟨rfl, ⟨⟨.tip t', 4, by rw [e9, List.map_append]; exact put_box, by rw [e9]; exact m8, .inr rfl, .inl rfl⟩, by rw [e9]; exact ⟨fun _ _ h => (by cases h), o8.live, o8.map⟩⟩, ?_⟩
          rw [e9]
          exact Kp.putp (fun b cs hb hc => by rw [b8]; exact g4 b cs hb hc)
        · refine Sure.mk' rfl ?_
          refine Store.mk' [.slice tag z (toks.map tokV), .bool false] h1 (by simp [V.cells]) rfl (fun σ2 e2 => ?_)
          obtain ⟨g1, g2, g3, g4⟩ := st false (by rw [hkk]; rfl) σ2 e2
          rw [hkk] at g1
          refine Load.mk' g1 (by simp) ?_
          refine App.mk' g3 g2 h3 rfl (by simp only [List.length_map, List.length_cons, List.length_nil]; exact (toks_small hl).1) (by simp only [List.length_map, List.length_cons, List.length_nil]; exact (toks_small hl).2) (List.cons_ne_nil _ _) (fun t' σ8 o8 m8 b8 _ => ?_)
          refine Sure.mk' rfl ?_
          refine Store.mk' [.slice (.tip t') 4 (toks.map tokV ++ [tokV (⟨1, 0, s, 0⟩ : Tok)]), .bool (false)] (by rw [b8]; exact g1) (by simp [V.cells]) rfl (fun σ9 e9 => ?_)
          refine Ret.mk' ⟨rfl, ⟨⟨.tip t', 4, by rw [e9, List.map_append]; exact put_box, by rw [e9]; exact m8, .inr rfl, .inl rfl⟩, by rw [e9]; exact ⟨fun _ _ h => (by cases h), o8.live, o8.map⟩⟩, ?_⟩
          rw [e9]
          exact Kp.putp (fun b cs hb hc => by rw [b8]; exact g4 b cs hb hc)
      · refine Sure.mk' rfl ?_
        refine Store.mk' [.slice tag z (toks.map tokV), .bool true] h1 (by simp [V.cells]) rfl (fun σ2 e2 => ?_)
        obtain ⟨g1, g2, g3, g4⟩ := st true rfl σ2 e2
        refine Load.mk' g1 (by simp) ?_
        refine App.mk' g3 g2 h3 rfl (by simp only [List.length_map, List.length_cons, List.length_nil]; exact (toks_small hl).1) (by simp only [List.length_map, List.length_cons, List.length_nil]; exact (toks_small hl).2) (List.cons_ne_nil _ _) (fun t' σ8 o8 m8 b8 _ => ?_)
        refine Sure.mk' rfl ?_
        refine Store.mk' [.slice (.tip t') 4 (toks.map tokV ++ [tokV (⟨1, 0, s, 0⟩ : Tok)]), .bool (true)] (by rw [b8]; exact g1) (by simp [V.cells]) rfl (fun σ9 e9 => ?_)
        refine Ret.mk' ⟨rfl, ⟨⟨.tip t', 4, by rw [e9, List.map_append]; exact put_box, by rw [e9]; exact m8, .inr rfl, .inl rfl⟩, by rw [e9]; exact ⟨fun _ _ h => (by cases h), o8.live, o8.map⟩⟩, ?_⟩
        rw [e9]
        exact Kp.putp (fun b cs hb hc => by rw [b8]; exact g4 b cs hb hc)
  refine Test.split (fun hs0 => ?_) (fun hs0 => ?_)
  · refine Test.split (fun hs32 => ?_) (fun hs32 => ?_)
    · exact key true (by simp; omega)
    · exact key false (by simp; omega)
  · exact key false (by simp; omega)

theorem numberPr_call {σ0 σ : St} {p : Nat} {toks : List Tok} {bad : Bool} (hp : PrI σ0 σ p toks bad) (hl : toks.length ≤ 1000000) (n : Int) :
    SCall Tryz.prog LG 62 [.loc p 0, .int .i64 n] σ (Prs σ0 σ p (toks ++ [⟨2, 0, [], n⟩]) (bad || (decide (n < 0) || decide (999999999999999 < n)))) := by
  refine code62.call hm (by simp) ?_
  obtain ⟨⟨tag, z, h1, h2, h3, h4⟩, h5⟩ := hp
  refine Load.mk' h1 (by simp) ?_
  have st : ∀ v : Bool, v = (bad || (decide (n < 0) || decide (999999999999999 < n))) → ∀ σ2, σ2 = σ.put p [.slice tag z (toks.map tokV), .bool v] → σ2.box p = some [.slice tag z (toks.map tokV), .bool (bad || (decide (n < 0) || decide (999999999999999 < n)))] ∧ Mine (sans σ0) σ2 tag ∧ Over (sans σ0) σ2 ∧ Kp p σ σ2 := by
    intro v hv σ2 e
    subst e
    exact ⟨by rw [← hv]; exact put_box, Mine.put h2, ⟨fun _ _ h => (by cases h), h5.live, h5.map⟩, Kp.putp (.refl _ _)⟩
  have fin : ∀ v : Bool, v = (bad || (decide (n < 0) || decide (999999999999999 < n))) → Store σ p 1 [.bool v] (fun σ2 => swpE Tryz.prog LG scN62 (retE [] (Prs σ0 σ p (toks ++ [⟨2, 0, [], n⟩]) (bad || (decide (n < 0) || decide (999999999999999 < n))))) (ofL [(0, some (.loc p 0)), (1, some (.int .i64 n))]) σ2) := by
    intro v hv
    refine Store.mk' [.slice tag z (toks.map tokV), .bool v] h1 (by simp) rfl (fun σ2 e2 => ?_)
    obtain ⟨g1, g2, g3, g4⟩ := st v hv σ2 e2
    refine Load.mk' g1 (by simp) ?_
    refine App.mk' g3 g2 h3 rfl (by simp only [List.length_map, List.length_cons, List.length_nil]; exact (toks_small hl).1) (by simp only [List.length_map, List.length_cons, List.length_nil]; exact (toks_small hl).2) (List.cons_ne_nil _ _) (fun t' σ8 o8 m8 b8 _ => ?_)
    refine Sure.mk' rfl ?_
    refine Store.mk' [.slice (.tip t') 4 (toks.map tokV ++ [tokV (⟨2, 0, [], n⟩ : Tok)]), .bool ((bad || (decide (n < 0) || decide (999999999999999 < n))))] (by rw [b8]; exact g1) (by simp [V.cells]) rfl (fun σ9 e9 => ?_)
    refine Ret.mk' ⟨rfl, ⟨⟨.tip t', 4, by rw [e9, List.map_append]; exact put_box, by rw [e9]; exact m8, .inr rfl, .inl rfl⟩, by rw [e9]; exact ⟨fun _ _ h => (by cases h), o8.live, o8.map⟩⟩, ?_⟩
    rw [e9]
    exact Kp.putp (fun b cs hb hc => by rw [b8]; exact g4 b cs hb hc)
  cases bad
  · refine Test.split (fun hn => ?_) (fun hn => ?_)
    · refine Sure.mk' rfl ?_
      exact fin true (by simp [show n < 0 from hn])
    · refine Test.split (fun hn2 => ?_) (fun hn2 => ?_)
      · refine Sure.mk' rfl ?_
        exact fin true (by simp [show 999999999999999 < n from hn2])
      · refine Sure.mk' rfl ?_
        exact fin false (by have h1 : ¬ n < 0 := hn; have h2 : ¬ 999999999999999 < n := hn2; simp [h1, h2])
  · refine Sure.mk' rfl ?_
    exact fin true rfl

/-- Whether one of the first bytes of a text is wrong. -/
def badUp (b : Bool) (s : List UInt8) : Nat → Bool
  | 0 => b
  | i + 1 => badUp b s i || (match s[i]? with
    | some c => c.toNat != 10 && (decide (c.toNat < 32) || decide (126 < c.toNat))
    | none => false)
def textBad (s : List UInt8) : Bool := badUp (decide (200 < s.length)) s s.length
theorem badUp_or (a b : Bool) (s : List UInt8) : ∀ i, badUp (a || b) s i = (a || badUp b s i)
  | 0 => rfl
  | i + 1 => by simp only [badUp, badUp_or a b s i, Bool.or_assoc]

theorem textPr_call {σ0 σ : St} {p : Nat} {toks : List Tok} {bad : Bool} (hp : PrI σ0 σ p toks bad) (hl : toks.length ≤ 1000000) (s : List UInt8) (hs : s.length ≤ 1000000) :
    SCall Tryz.prog LG 63 [.loc p 0, .str s] σ (Prs σ0 σ p (toks ++ [⟨3, 0, s, 0⟩]) (bad || textBad s)) := by
  refine code63.call hm (by simp) ?_
  obtain ⟨⟨tag, z, h1, h2, h3, h4⟩, h5⟩ := hp
  refine Load.mk' h1 (by simp) ?_
  have key : ∀ (b0 : Bool), b0 = (bad || decide (200 < s.length)) → Store σ p 1 [.bool b0] (fun σ2 => swpE Tryz.prog LG scN63 (retE [] (Prs σ0 σ p (toks ++ [⟨3, 0, s, 0⟩]) (bad || textBad s))) (ofL [(0, some (.loc p 0)), (1, some (.str s))]) σ2) := by
    intro b0 hb0
    have hfin : (bad || textBad s) = badUp b0 s s.length := by rw [hb0, badUp_or]; rfl
    rw [hfin]
    refine Store.mk' [.slice tag z (toks.map tokV), .bool b0] h1 (by simp) rfl (fun σ2 e2 => ?_)
    refine ⟨fun m sl σ' => ∃ i : Nat, sl = ofL [(0, some (.loc p 0)), (1, some (.str s)), (18, some (.int .i64 s.length)), (19, some (.int .i64 i))] ∧ σ'.box p = some [.slice tag z (toks.map tokV), .bool (badUp b0 s i)] ∧ Mine (sans σ0) σ' tag ∧ Over (sans σ0) σ' ∧ Kp p σ σ' ∧ i ≤ s.length ∧ m = s.length - i,
      _, ⟨0, rfl, by rw [e2]; exact put_box, by rw [e2]; exact Mine.put h2, by rw [e2]; exact ⟨fun _ _ h => (by cases h), h5.live, h5.map⟩, by rw [e2]; exact Kp.putp (.refl _ _), Nat.zero_le _, rfl⟩, ?_⟩
    clear e2 h1 h2 h5
    rintro m sl σ' ⟨i, rfl, h1, h2, h5, hk, hi, rfl⟩
    refine Test.split (fun hlt => ?_) (fun hlt => ?_)
    · have hlt : i < s.length := by omega
      obtain ⟨c, hc⟩ : ∃ c, s[i]? = some c := ⟨_, List.getElem?_eq_getElem hlt⟩
      have hms : s.length - (i + 1) < s.length - i := by omega
      have hup : badUp b0 s (i + 1) = (badUp b0 s i || (c.toNat != 10 && (decide (c.toNat < 32) || decide (126 < c.toNat)))) := by simp only [badUp, hc]
      have next : ∀ v : Bool, v = badUp b0 s (i + 1) → ∀ σ2, σ2 = σ'.put p [.slice tag z (toks.map tokV), .bool v] → ∃ m' σ3, m' < s.length - i ∧ Forget σ2 σ3 ∧ ∃ i' : Nat, ofL [(0, some (.loc p 0)), (1, some (.str s)), (18, some (.int .i64 s.length)), (19, some (V.int .i64 (i + 1 : Nat)))] = ofL [(0, some (.loc p 0)), (1, some (.str s)), (18, some (.int .i64 s.length)), (19, some (V.int .i64 i'))] ∧ σ3.box p = some [.slice tag z (toks.map tokV), .bool (badUp b0 s i')] ∧ Mine (sans σ0) σ3 tag ∧ Over (sans σ0) σ3 ∧ Kp p σ σ3 ∧ i' ≤ s.length ∧ m' = s.length - i' := by
        intro v hv σ2 e2
        exact ⟨_, σ2, hms, Forget.refl _, i + 1, rfl, by rw [e2, ← hv]; exact put_box, by rw [e2]; exact Mine.put h2, by rw [e2]; exact ⟨fun _ _ h => (by cases h), h5.live, h5.map⟩, by rw [e2]; exact Kp.putp hk, by omega, rfl⟩
      refine Load.mk' h1 (by simp) ?_
      cases hb : badUp b0 s i
      · refine Idx.mk' i c rfl hc ?_
        refine Test.split (fun h10 => ?_) (fun h10 => ?_)
        · have h10 : (c.toNat != 10) = true := by simp; omega
          refine Idx.mk' i c rfl hc ?_
          refine Test.split (fun h32 => ?_) (fun h32 => ?_)
          · refine Sure.mk' rfl ?_
            refine Store.mk' [.slice tag z (toks.map tokV), .bool true] h1 (by simp [V.cells]) rfl (fun σ2 e2 => ?_)
            refine Arith.i64 ((i + 1 : Nat) : Int) (by simp) (by omega) ?_
            exact next true (by rw [hup, hb, h10]; simp; omega) σ2 e2
          · refine Idx.mk' i c rfl hc ?_
            refine Test.split (fun h126 => ?_) (fun h126 => ?_)
            · refine Sure.mk' rfl ?_
              refine Store.mk' [.slice tag z (toks.map tokV), .bool true] h1 (by simp [V.cells]) rfl (fun σ2 e2 => ?_)
              refine Arith.i64 ((i + 1 : Nat) : Int) (by simp) (by omega) ?_
              exact next true (by rw [hup, hb, h10]; simp; omega) σ2 e2
            · refine Sure.mk' rfl ?_
              refine Store.mk' [.slice tag z (toks.map tokV), .bool false] h1 (by simp [V.cells]) rfl (fun σ2 e2 => ?_)
              refine Arith.i64 ((i + 1 : Nat) : Int) (by simp) (by omega) ?_
              exact next false (by rw [hup, hb, h10]; simp; omega) σ2 e2
        · refine Sure.mk' rfl ?_
          refine Store.mk' [.slice tag z (toks.map tokV), .bool false] h1 (by simp [V.cells]) rfl (fun σ2 e2 => ?_)
          refine Arith.i64 ((i + 1 : Nat) : Int) (by simp) (by omega) ?_
          exact next false (by rw [hup, hb]; simp; omega) σ2 e2
      · refine Sure.mk' rfl ?_
        refine Store.mk' [.slice tag z (toks.map tokV), .bool true] h1 (by simp [V.cells]) rfl (fun σ2 e2 => ?_)
        refine Arith.i64 ((i + 1 : Nat) : Int) (by simp) (by omega) ?_
        exact next true (by rw [hup, hb]; rfl) σ2 e2
    · have : i = s.length := by omega
      subst this
      refine Load.mk' h1 (by simp) ?_
      refine App.mk' h5 h2 h3 rfl (by simp only [List.length_map, List.length_cons, List.length_nil]; exact (toks_small hl).1) (by simp only [List.length_map, List.length_cons, List.length_nil]; exact (toks_small hl).2) (List.cons_ne_nil _ _) (fun t' σ8 o8 m8 b8 _ => ?_)
      refine Sure.mk' rfl ?_
      refine Store.mk' [.slice (.tip t') 4 (toks.map tokV ++ [tokV (⟨3, 0, s, 0⟩ : Tok)]), .bool (badUp b0 s s.length)] (by rw [b8]; exact h1) (by simp [V.cells]) rfl (fun σ9 e9 => ?_)
      refine Ret.mk' ⟨rfl, ⟨⟨.tip t', 4, by rw [e9, List.map_append]; exact put_box, by rw [e9]; exact m8, .inr rfl, .inl rfl⟩, by rw [e9]; exact ⟨fun _ _ h => (by cases h), o8.live, o8.map⟩⟩, ?_⟩
      rw [e9]
      exact Kp.putp (fun b cs hb hc => by rw [b8]; exact hk b cs hb hc)
  cases bad
  · refine Test.split (fun hn => ?_) (fun hn => ?_)
    · refine Sure.mk' rfl ?_
      exact key true (by simp; omega)
    · refine Sure.mk' rfl ?_
      exact key false (by simp; omega)
  · refine Sure.mk' rfl ?_
    exact key true rfl
end Go.Shadow.Lex

/- Proved: what the printer's expr and PrintExpr do, as shadow contracts. Conditions: as each theorem says. -/
namespace Go.Shadow.Lex
open Go Go.RowKit Go.Proofs

abbrev PT := List Tok × Bool
def opFind (op : Int) : Option (List UInt8 × Int × Nat) := opsT.find? fun o => o.2.1 == op
/-- The level of an operation. -/
def lvlOp (op : Int) : Int := if op = 20 then 0 else if op = 5 then 3 else if op = 6 then 7 else match opFind op with
  | some o => o.2.2
  | none => 8
/-- What is printed where a level is needed. -/
def par (need : Int) (k : Int × PT) : PT := if need ≤ k.1 then k.2 else ([sgT [40]] ++ k.2.1 ++ [sgT [41]], k.2.2)
def catP (a b : PT) : PT := (a.1 ++ b.1, a.2 || b.2)
def sgP (s : List UInt8) : PT := ([sgT s], false)
def commaP : Bool → List (Int × PT) → PT
  | _, [] => ([], false)
  | first, k :: r => catP (if first = true then par 0 k else catP (sgP [44]) (par 0 k)) (commaP false r)
/-- What is printed of an expression, out of what is printed of its operands (with their levels). -/
def prB (op n : Int) (s : List UInt8) (ks : List (Int × PT)) : PT :=
  if op = 1 then ([⟨2, 0, [], n⟩], decide (n < 0) || decide (999999999999999 < n)) else
  if op = 2 then ([⟨3, 0, s, 0⟩], textBad s) else
  if op = 3 then ([⟨1, 0, s, 0⟩], !nameOK s) else
  if op = 4 then catP (catP (catP ([⟨1, 0, s, 0⟩], !nameOK s) (sgP [40])) (commaP true ks)) (sgP [41]) else
  if op = 5 then (match ks with
    | [a] => catP (sgP [33]) (par 3 a)
    | _ => ([], true)) else
  if op = 6 then (match ks with
    | [a] => catP (sgP [45]) (par 7 a)
    | _ => ([], true)) else
  if op = 20 then (match ks with
    | [a, b, c] => catP (catP (catP (catP (par 1 a) (sgP [63])) (par 0 b)) (sgP [58])) (par 0 c)
    | _ => ([], true)) else
  match opFind op with
  | none => ([], true)
  | some o => match ks with
    | [a, b] => catP (catP (par (if o.2.2 = 4 then 5 else o.2.2) a) (sgP o.1)) (par (max (if o.2.2 = 4 then 5 else o.2.2) (o.2.2 + 1)) b)
    | _ => ([], true)
mutual
def prE : Ex → PT
  | .mk op n s kids _ => prB op n s (prKs kids)
def prKs : List Ex → List (Int × PT)
  | [] => []
  | e :: r => (lvlOp e.op, prE e) :: prKs r
end
theorem prKs_map : ∀ l : List Ex, prKs l = l.map fun e => (lvlOp e.op, prE e)
  | [] => rfl
  | e :: r => by simp [prKs, prKs_map r]
mutual
/-- Texts are not too long. -/
def exS : Ex → Prop
  | .mk _ _ s kids _ => s.length ≤ 1000000 ∧ exSs kids
def exSs : List Ex → Prop
  | [] => True
  | e :: r => exS e ∧ exSs r
end
theorem exSs_mem : ∀ {l : List Ex} {x : Ex}, exSs l → x ∈ l → exS x
  | e :: r, x, h, hm => by
    simp only [exSs] at h
    rcases List.mem_cons.1 hm with rfl | hm
    · exact h.1
    · exact exSs_mem h.2 hm

theorem par_len (need : Int) (k : Int × PT) : (par need k).1.length ≤ k.2.1.length + 2 := by
  unfold par; split <;> simp
theorem commaP_len : ∀ (f : Bool) (l : List (Int × PT)) (m : Nat), (∀ k ∈ l, True) → (l.map fun k => k.2.1.length + 3).sum ≤ m → (commaP f l).1.length ≤ m
  | _, [], m, _, _ => by simp [commaP]
  | f, k :: r, m, h, hm => by
    simp only [List.map_cons, List.sum_cons] at hm
    have h1 := commaP_len false r (m - (k.2.1.length + 3)) (fun _ _ => trivial) (by omega)
    have h2 := par_len 0 k
    cases f <;> simp [commaP, catP, sgP] <;> omega
theorem sum_le {α : Type} {f g : α → Nat} : ∀ {l : List α}, (∀ x ∈ l, f x ≤ g x) → (l.map f).sum ≤ (l.map g).sum
  | [], _ => by simp
  | x :: r, h => by
    have h1 := h x (by simp)
    have h2 := sum_le (l := r) fun y hy => h y (by simp [hy])
    simp; omega
theorem exNs_sum : ∀ l : List Ex, (l.map fun e => 8 * exN e).sum = 8 * exNs l
  | [] => rfl
  | e :: r => by simp [exNs, exNs_sum r]; omega
theorem prE_len : ∀ (m : Nat) (x : Ex), exN x ≤ m → (prE x).1.length + 4 ≤ 8 * exN x := by
  intro m
  induction m with
  | zero => intro x h; have := exN_pos x; omega
  | succ m ih =>
    intro x hm
    obtain ⟨op, n, s, kids, a⟩ := x
    simp only [exN] at hm ⊢
    have hk : ∀ k ∈ kids, (prE k).1.length + 4 ≤ 8 * exN k := fun k hk => ih k (by have := exNs_mem hk; omega)
    have hp : ∀ (need : Int) (k : Ex), k ∈ kids → (par need (lvlOp k.op, prE k)).1.length + 2 ≤ 8 * exN k := fun need k hkm => by
      have := par_len need (lvlOp k.op, prE k)
      have := hk k hkm
      simp only at *
      omega
    simp only [prE]
    unfold prB
    split
    · simp; omega
    split
    · simp; omega
    split
    · simp; omega
    split
    · have h1 : (commaP true (prKs kids)).1.length ≤ 8 * exNs kids := by
        refine commaP_len _ _ _ (fun _ _ => trivial) ?_
        rw [prKs_map, List.map_map, ← exNs_sum]
        refine sum_le fun k hkm => ?_
        have := hk k hkm
        simp only [Function.comp_apply]
        omega
      simp [catP, sgP]; omega
    split
    · rw [prKs_map]
      match kids, hp with
      | [], _ => simp; omega
      | [k], hp => have := hp 3 k (by simp); simp [catP, sgP, exNs]; omega
      | _ :: _ :: _, _ => simp; omega
    split
    · rw [prKs_map]
      match kids, hp with
      | [], _ => simp; omega
      | [k], hp => have := hp 7 k (by simp); simp [catP, sgP, exNs]; omega
      | _ :: _ :: _, _ => simp; omega
    split
    · rw [prKs_map]
      match kids, hp with
      | [], _ => simp; omega
      | [_], _ => simp; omega
      | [_, _], _ => simp; omega
      | [k1, k2, k3], hp => have := hp 1 k1 (by simp); have := hp 0 k2 (by simp); have := hp 0 k3 (by simp); simp [catP, sgP, exNs]; omega
      | _ :: _ :: _ :: _ :: _, _ => simp; omega
    split
    · simp; omega
    · rename_i o _
      rw [prKs_map]
      match kids, hp with
      | [], _ => simp; omega
      | [_], _ => simp; omega
      | [k1, k2], hp =>
        have := hp (if o.2.2 = 4 then 5 else o.2.2) k1 (by simp)
        have := hp (max (if o.2.2 = 4 then 5 else o.2.2) (o.2.2 + 1)) k2 (by simp)
        simp [catP, sgP, exNs]; omega
      | _ :: _ :: _ :: _, _ => simp; omega

/-! ### the level -/
theorem opFind_some {op : Int} {i : Nat} {o : List UInt8 × Int × Nat} (hi : opsT[i]? = some o) (h : o.2.1 = op) (hno : ∀ j, j < i → ∀ o, opsT[j]? = some o → o.2.1 ≠ op) : opFind op = some o := by
  unfold opFind
  obtain ⟨hlt, he⟩ := List.getElem?_eq_some_iff.1 hi
  rw [List.find?_eq_some_iff_getElem]
  refine ⟨by simp [h], i, hlt, he, fun j hj => ?_⟩
  have := hno j hj _ (List.getElem?_eq_getElem (by omega))
  simp [this]
theorem opFind_none {op : Int} (hno : ∀ j : Nat, j < 13 → ∀ o, opsT[j]? = some o → o.2.1 ≠ op) : opFind op = none := by
  unfold opFind
  rw [List.find?_eq_none]
  intro o ho
  obtain ⟨j, hj⟩ := List.getElem?_of_mem ho
  have := hno j (List.getElem?_eq_some_iff.1 hj).1 o hj
  simp [this]

theorem levelPr_ret (x : Ex) : SRet Tryz.prog LG 94 [.agg (exV x)] (.int .i64 (lvlOp x.op)) := by
  intro σ
  obtain ⟨op, n, s, kids, a⟩ := x
  simp only [Ex.op]
  refine code94.call hm (by simp) ?_
  refine ⟨rfl, ?_⟩
  intro b1 f1
  have o1 : Over σ (σ.put b1 (exV (.mk op n s kids a))) := over_put (.refl _) f1
  have h1 : (σ.put b1 (exV (.mk op n s kids a))).box b1 = some (exV (.mk op n s kids a)) := put_box
  refine Load.mk' h1 (by simp [V.cells, exV]) ?_
  refine Test.split (fun h20 => ?_) (fun h20 => ?_)
  · exact Ret.weak (.refl _) (σ' := σ) o1 ⟨rfl, by rw [show lvlOp op = 0 from if_pos h20]⟩
  refine Test.split (fun h5 => ?_) (fun h5 => ?_)
  · exact Ret.weak (.refl _) (σ' := σ) o1 ⟨rfl, by rw [show lvlOp op = 3 from (if_neg h20).trans (if_pos h5)]⟩
  refine Test.split (fun h6 => ?_) (fun h6 => ?_)
  · exact Ret.weak (.refl _) (σ' := σ) o1 ⟨rfl, by rw [show lvlOp op = 7 from (if_neg h20).trans ((if_neg h5).trans (if_pos h6))]⟩
  have hv : lvlOp op = match opFind op with
      | some o => (o.2.2 : Int)
      | none => 8 := (if_neg h20).trans ((if_neg h5).trans (if_neg h6))
  rw [hv]
  refine CallK.pure operators_ret ?_
  refine ⟨fun m sl σ' => ∃ i : Nat, sl = ofL [(1, some (.loc b1 0)), (13, some (.slice .full 3 (opsT.map opV))), (14, some (.int .i64 13)), (15, some (.int .i64 i))] ∧ Over σ σ' ∧ σ'.box b1 = some (exV (.mk op n s kids a)) ∧ i ≤ 13 ∧ (∀ j, j < i → ∀ o, opsT[j]? = some o → o.2.1 ≠ op) ∧ m = 13 - i,
    _, ⟨0, rfl, o1, h1, by omega, fun j hj => by omega, rfl⟩, ?_⟩
  clear o1 h1
  rintro m sl σ' ⟨i, rfl, o1, h1, hi, hno, rfl⟩
  refine Test.split (fun hlt => ?_) (fun hlt => ?_)
  · obtain ⟨o, hoi⟩ : ∃ o, opsT[i]? = some o := ⟨_, List.getElem?_eq_getElem (by show i < 13; omega)⟩
    refine Sure.mk' (.inl rfl) ?_
    refine IdxE.mk' i (opV o) rfl (by simp [hoi]) ?_
    refine ⟨by simp [opV], ?_⟩
    intro b4 hb4
    refine Sure.mk' rfl ?_
    refine Store.mk' (opV o) put_box (by simp [V.cells, opV]) (by simp [setL, V.cells, opV]) (fun σ2 e2 => ?_)
    rw [put_put] at e2
    have q2 := over_put (cs := opV o) (Over.refl _) hb4
    rw [← e2] at q2
    have h42 : σ2.box b4 = some (opV o) := by rw [e2]; exact put_box
    have h12 := q2.box _ _ h1
    have o2 := over_tr o1 q2
    refine Load.mk' h42 (by simp [opV]) ?_
    refine Load.mk' h12 (by simp [exV]) ?_
    refine Test.split (fun he => ?_) (fun he => ?_)
    · refine Load.mk' h42 (by simp [opV]) ?_
      refine Ret.weak (.refl _) (σ' := σ) o2 ⟨rfl, ?_⟩
      rw [opFind_some hoi he hno]
    · refine Arith.i64 ((i + 1 : Nat) : Int) (by simp) (by omega) ?_
      refine ⟨_, _, ?_, Forget.refl _, i + 1, rfl, o2, h12, by omega, fun j hj o' ho' => ?_, rfl⟩
      · omega
      · by_cases e : j = i
        · subst e; rw [hoi] at ho'; injection ho' with ho'; rw [← ho']; exact he
        · exact hno j (by omega) o' ho'
  · refine Ret.weak (.refl _) (σ' := σ) o1 ⟨rfl, ?_⟩
    rw [opFind_none fun j hj => hno j (by omega)]

/-! ### expressions -/
theorem PrI.over' {σ0 σ σ' : St} {p : Nat} {toks : List Tok} {bad : Bool} (h : PrI σ0 σ p toks bad) (o : Over σ σ') : PrI σ0 σ' p toks bad := by
  obtain ⟨⟨tag, z, h1, h2, h3, h4⟩, h5⟩ := h
  exact ⟨⟨tag, z, o.box _ _ h1, h2.over o, h3, h4⟩, ⟨fun _ _ h => (by cases h), fun t ht => o.live t (h5.live t ht), fun r m hm => o.map r m (h5.map r m hm)⟩⟩
theorem Kp.over {p : Nat} {σ σ' : St} (o : Over σ σ') : Kp p σ σ' := fun b cs _ hb => o.box b cs hb
theorem PrI.putm {σ0 σ : St} {p r : Nat} {toks : List Tok} {bad : Bool} {m : List (V × V)} (h : PrI σ0 σ p toks bad) (f : σ0.map r = none) : PrI σ0 (σ.putm r m) p toks bad := by
  obtain ⟨⟨tag, z, h1, h2, h3, h4⟩, h5⟩ := h
  refine ⟨⟨tag, z, h1, ?_, h3, h4⟩, ⟨fun _ _ h => (by cases h), h5.live, fun r' m' hm => ?_⟩⟩
  · cases tag <;> exact h2
  · have hne : r' ≠ r := by
      rintro rfl
      have hm : σ0.map r' = some m' := hm
      rw [f] at hm; cases hm
    simp only [St.putm, if_neg hne]
    exact h5.map r' m' hm
theorem PrI.setbad {σ0 σ : St} {p : Nat} {toks : List Tok} {bad : Bool} (h : PrI σ0 σ p toks bad) : ∃ u, σ.box p = some [u, .bool bad] ∧ ∀ v, PrI σ0 (σ.put p [u, .bool v]) p toks v := by
  obtain ⟨⟨tag, z, h1, h2, h3, h4⟩, h5⟩ := h
  exact ⟨_, h1, fun v => ⟨⟨tag, z, put_box, Mine.put h2, h3, h4⟩, ⟨fun _ _ h => (by cases h), h5.live, h5.map⟩⟩⟩

structure PrTo (m : Nat) : Prop where
  expr : ∀ (σ0 σ : St) (p : Nat) (toks : List Tok) (bad : Bool) (x : Ex), 2 * exN x ≤ m → exS x → PrI σ0 σ p toks bad → toks.length + 8 * exN x ≤ 1000000 → SCall Tryz.prog LG 42 [.loc p 0, .agg (exV x)] σ (Prs σ0 σ p (toks ++ (prE x).1) (bad || (prE x).2))
  operand : ∀ (σ0 σ : St) (p : Nat) (toks : List Tok) (bad : Bool) (x : Ex) (need : Int), 2 * exN x + 1 ≤ m → exS x → PrI σ0 σ p toks bad → toks.length + 8 * exN x + 2 ≤ 1000000 → SCall Tryz.prog LG 68 [.loc p 0, .agg (exV x), .int .i64 need] σ (Prs σ0 σ p (toks ++ (par need (lvlOp x.op, prE x)).1) (bad || (par need (lvlOp x.op, prE x)).2))

theorem operand_walk {m : Nat} (ih : ∀ k, k < m → PrTo k) {σ0 σ : St} {p : Nat} {toks : List Tok} {bad : Bool} {x : Ex} {need : Int} (hm1 : 2 * exN x + 1 ≤ m) (hS : exS x) (hp : PrI σ0 σ p toks bad) (hl : toks.length + 8 * exN x + 2 ≤ 1000000) :
    SCall Tryz.prog LG 68 [.loc p 0, .agg (exV x), .int .i64 need] σ (Prs σ0 σ p (toks ++ (par need (lvlOp x.op, prE x)).1) (bad || (par need (lvlOp x.op, prE x)).2)) := by
  have hlev := levelPr_ret x
  have hex := fun σ toks bad hp hl => (ih (2 * exN x) (by omega)).expr σ0 σ p toks bad x (Nat.le_refl _) hS hp hl
  have hlen := prE_len _ x (Nat.le_refl _)
  generalize hP : prE x = P at hex hlen ⊢
  generalize hN : exN x = N at hl hlen hex
  obtain ⟨op, n, s, kids, a⟩ := x
  simp only [Ex.op] at hlev ⊢
  refine code68.call hm (by simp) ?_
  refine ⟨rfl, ?_⟩
  intro b4 hb4
  have np := hp.ne hb4
  have hp1 := hp.new (cs := exV (.mk op n s kids a)) hb4
  have k1 : Kp p σ (σ.put b4 (exV (.mk op n s kids a))) := (Kp.refl p σ).new hb4
  have h4 : (σ.put b4 (exV (.mk op n s kids a))).box b4 = some (exV (.mk op n s kids a)) := put_box
  generalize hσ : σ.put b4 (exV (.mk op n s kids a)) = σ1 at hp1 k1 h4
  have hgoal : ∀ {G : St → Prop}, G σ1 → G (σ.put b4 (exV (.mk op n s kids a))) := fun h => by rw [hσ]; exact h
  refine hgoal ?_
  clear hgoal hσ
  refine Load.mk' h4 (Nat.le_refl _) ?_
  refine CallK.pure hlev ?_
  refine Test.split (fun hn => ?_) (fun hn => ?_)
  · have hn : need ≤ lvlOp op := hn
    refine Load.mk' h4 (Nat.le_refl _) ?_
    refine CallK.mk' (hex _ _ _ hp1 (by omega)) ?_
    rintro e σ2 ⟨rfl, hp2, k2⟩
    rw [show par need (lvlOp op, P) = P from if_pos hn]
    exact Ret.mk' ⟨rfl, hp2, k1.trans k2⟩
  · have hn : ¬ need ≤ lvlOp op := hn
    rw [show par need (lvlOp op, P) = ([sgT [40]] ++ P.1 ++ [sgT [41]], P.2) from if_neg hn]
    refine CallK.mk' (signs_call hp1 (by omega) _ _) ?_
    rintro e σ2 ⟨rfl, hp2, k2⟩
    refine Load.mk' (k2 _ _ (Ne.symm np) h4) (Nat.le_refl _) ?_
    refine CallK.mk' (hex _ _ _ hp2 (by simp only [List.length_append, List.length_cons, List.length_nil]; omega)) ?_
    rintro e σ3 ⟨rfl, hp3, k3⟩
    refine CallK.mk' (signs_call hp3 (by simp only [List.length_append, List.length_cons, List.length_nil]; omega) _ _) ?_
    rintro e σ4 ⟨rfl, hp4, k4⟩
    refine Ret.mk' ⟨rfl, ?_, ((k1.trans k2).trans k3).trans k4⟩
    simpa only [List.append_assoc] using hp4
end Go.Shadow.Lex

/- Proved: what the printer's expr does, as a shadow contract. Conditions: as each theorem says. -/
namespace Go.Shadow.Lex
open Go Go.RowKit Go.Proofs

theorem commaP_snoc : ∀ (f : Bool) (l : List (Int × PT)) (k : Int × PT), commaP f (l ++ [k]) = catP (commaP f l) (if f = true ∧ l = [] then par 0 k else catP (sgP [44]) (par 0 k))
  | f, [], k => by cases f <;> simp [commaP, catP]
  | f, x :: l, k => by
    simp only [List.cons_append, commaP, commaP_snoc false l k]
    cases f <;> simp [catP, List.append_assoc, Bool.or_assoc]
theorem exNs_take : ∀ {l : List Ex} {i : Nat} {x : Ex}, l[i]? = some x → exNs (l.take i) + exN x ≤ exNs l
  | e :: r, 0, x, h => by simp at h; subst h; simp [exNs]
  | e :: r, i + 1, x, h => by
    have := exNs_take (l := r) (i := i) (x := x) (by simpa using h)
    simp [exNs]; omega
theorem commaP_prKs_len (l : List Ex) : (commaP true (prKs l)).1.length ≤ 8 * exNs l := by
  refine commaP_len _ _ _ (fun _ _ => trivial) ?_
  rw [prKs_map, List.map_map, ← exNs_sum]
  refine sum_le fun k _ => ?_
  have := prE_len _ k (Nat.le_refl _)
  simp only [Function.comp_apply]
  omega
theorem par_prE_len (need : Int) (k : Ex) : (par need (lvlOp k.op, prE k)).1.length + 2 ≤ 8 * exN k := by
  have h1 := par_len need (lvlOp k.op, prE k)
  have h2 := prE_len _ k (Nat.le_refl _)
  simp only at h1
  omega

theorem opIdx_find (op : Int) : (opIdx (fun o => o.2.1 == op) = -1 ∧ opFind op = none) ∨ ∃ (k : Nat) (o : List UInt8 × Int × Nat), opIdx (fun o => o.2.1 == op) = k ∧ opsT[k]? = some o ∧ opFind op = some o := by
  unfold opIdx
  cases hf : opsT.findIdx? fun o => o.2.1 == op with
  | none =>
    refine .inl ⟨rfl, ?_⟩
    unfold opFind
    rw [List.find?_eq_none]
    intro o ho
    have := List.findIdx?_eq_none_iff.1 hf o ho
    simpa using this
  | some k =>
    rw [List.findIdx?_eq_some_iff_getElem] at hf
    obtain ⟨hk, h1, h2⟩ := hf
    refine .inr ⟨k, opsT[k], rfl, List.getElem?_eq_getElem hk, ?_⟩
    refine opFind_some (List.getElem?_eq_getElem hk) (by simpa using h1) fun j hj o ho => ?_
    have := h2 j hj
    obtain ⟨hjl, he⟩ := List.getElem?_eq_some_iff.1 ho
    rw [he] at this
    simpa using this
theorem opSame_call {σ : St} {b3 : Nat} {x : Ex} (h3 : σ.box b3 = some (exV x)) (o : List UInt8 × Int × Nat) :
    SCall Tryz.prog LG 71 ([] ++ [.agg (opV o)] ++ [.loc b3 0]) σ fun e σ' => e = .ret (.bool (o.2.1 == x.op)) ∧ Over σ σ' := by
  obtain ⟨op, n, s, kids, a⟩ := x
  refine code71.call hm (by simp) ?_
  refine ⟨rfl, ?_⟩
  intro b hb
  have n3 := box_ne h3 hb
  refine Load.mk' put_box (by simp [V.cells, opV]) ?_
  refine Load.mk' (by rw [put_ne n3]; exact h3) (by simp [exV]) ?_
  refine Test.split (fun h => ?_) (fun h => ?_)
  · refine Ret.mk' ⟨?_, over_put (.refl _) hb⟩
    have h : o.2.1 = op := h
    simp [Ex.op, h]
  · refine Ret.mk' ⟨?_, over_put (.refl _) hb⟩
    have h : ¬ o.2.1 = op := h
    simp [Ex.op, h]

theorem kid_get {kids : List Ex} {i : Nat} {x : Ex} (h : kids[i]? = some x) : (exVs kids)[i]? = some (exV x) := by rw [exVs_map]; simp [h]
theorem exVs_len (kids : List Ex) : (exVs kids).length = kids.length := by rw [exVs_map]; simp

set_option maxHeartbeats 2000000 in
set_option maxRecDepth 4000 in
theorem exprPr_walk {m : Nat} (ih : ∀ k, k < m → PrTo k) {σ0 σ : St} {p : Nat} {toks : List Tok} {bad : Bool} {x : Ex} (hm1 : 2 * exN x ≤ m) (hS : exS x) (hp : PrI σ0 σ p toks bad) (hl : toks.length + 8 * exN x ≤ 1000000) :
    SCall Tryz.prog LG 42 [.loc p 0, .agg (exV x)] σ (Prs σ0 σ p (toks ++ (prE x).1) (bad || (prE x).2)) := by
  obtain ⟨op, n, s, kids, a⟩ := x
  simp only [exN] at hm1 hl
  simp only [exS] at hS
  have hopd : ∀ (σ : St) (toks : List Tok) (bad : Bool) (x : Ex) (need : Int), x ∈ kids → PrI σ0 σ p toks bad → toks.length + 8 * exN x + 2 ≤ 1000000 → SCall Tryz.prog LG 68 [.loc p 0, .agg (exV x), .int .i64 need] σ (Prs σ0 σ p (toks ++ (par need (lvlOp x.op, prE x)).1) (bad || (par need (lvlOp x.op, prE x)).2)) :=
    fun σ toks bad x need hx hp hl => (ih (m - 1) (by omega)).operand σ0 σ p toks bad x need (by have := exNs_mem hx; omega) (exSs_mem hS.2 hx) hp hl
  refine code42.call hm (by simp) ?_
  refine ⟨rfl, ?_⟩
  intro b3 hb3
  have np3 := hp.ne hb3
  have hp1 := hp.new (cs := exV (.mk op n s kids a)) hb3
  have k1 : Kp p σ (σ.put b3 (exV (.mk op n s kids a))) := (Kp.refl p σ).new hb3
  have h31 : (σ.put b3 (exV (.mk op n s kids a))).box b3 = some (exV (.mk op n s kids a)) := put_box
  generalize hσ : σ.put b3 (exV (.mk op n s kids a)) = σ1 at hp1 k1 h31
  have hgoal : ∀ {G : St → Prop}, G σ1 → G (σ.put b3 (exV (.mk op n s kids a))) := fun h => by rw [hσ]; exact h
  refine hgoal ?_
  clear hgoal hσ
  intro r hr
  have f : σ0.map r = none := by
    cases h : σ0.map r with
    | none => rfl
    | some m => have := hp1.over.map r m h; rw [hr] at this; cases this
  refine MIns.mk' (es := []) (by simp [St.putm]) ⟨rfl, rfl, rfl⟩ (fun σa ea => ?_)
  refine MIns.mk' (es := [(.int .i64 5, .int .i64 1)]) (by rw [ea]; simp [St.putm]) ⟨rfl, rfl, rfl⟩ (fun σb eb => ?_)
  refine MIns.mk' (es := [(.int .i64 5, .int .i64 1), (.int .i64 6, .int .i64 1)]) (by rw [eb]; simp [St.putm]) ⟨rfl, rfl, rfl⟩ (fun σc ec => ?_)
  have hp2 : PrI σ0 σc p toks bad := by rw [ec, eb, ea]; exact (((hp1.putm f).putm f).putm f).putm f
  have h3 : σc.box b3 = some (exV (.mk op n s kids a)) := by rw [ec, eb, ea]; exact h31
  have kc : Kp p σ σc := by rw [ec, eb, ea]; exact k1
  have hmap : σc.map r = some [(.int .i64 5, .int .i64 1), (.int .i64 6, .int .i64 1), (.int .i64 20, .int .i64 3)] := by rw [ec]; simp [St.putm]
  clear ea eb ec h31 hp1 k1 hp hb3
  refine Load.mk' h3 (by simp [exV]) ?_
  refine Test.split (fun h1 => ?_) (fun h1 => ?_)
  · refine Load.mk' h3 (by simp [exV]) ?_
    refine CallK.mk' (numberPr_call hp2 (by omega) n) ?_
    rintro e σ2 ⟨rfl, hp3, k3⟩
    have hP : prE (.mk op n s kids a) = ([⟨2, 0, [], n⟩], decide (n < 0) || decide (999999999999999 < n)) := if_pos h1
    rw [hP]
    exact Ret.mk' ⟨rfl, hp3, kc.trans k3⟩
  refine Test.split (fun h2 => ?_) (fun h2 => ?_)
  · refine Load.mk' h3 (by simp [exV]) ?_
    refine CallK.mk' (textPr_call hp2 (by omega) s hS.1) ?_
    rintro e σ2 ⟨rfl, hp3, k3⟩
    have hP : prE (.mk op n s kids a) = ([⟨3, 0, s, 0⟩], textBad s) := (if_neg h1).trans (if_pos h2)
    rw [hP]
    exact Ret.mk' ⟨rfl, hp3, kc.trans k3⟩
  refine Test.split (fun h3' => ?_) (fun h3' => ?_)
  · refine Load.mk' h3 (by simp [exV]) ?_
    refine CallK.mk' (namePr_call hp2 (by omega) s hS.1) ?_
    rintro e σ2 ⟨rfl, hp3, k3⟩
    have hP : prE (.mk op n s kids a) = ([⟨1, 0, s, 0⟩], !nameOK s) := (if_neg h1).trans ((if_neg h2).trans (if_pos h3'))
    rw [hP]
    exact Ret.mk' ⟨rfl, hp3, kc.trans k3⟩
  refine Test.split (fun h4 => ?_) (fun h4 => ?_)
  · have hP : prE (.mk op n s kids a) = catP (catP (catP ([⟨1, 0, s, 0⟩], !nameOK s) (sgP [40])) (commaP true (prKs kids))) (sgP [41]) := (if_neg h1).trans ((if_neg h2).trans ((if_neg h3').trans (if_pos h4)))
    rw [hP]
    clear hmap
    refine Load.mk' h3 (by simp [exV]) ?_
    refine CallK.mk' (namePr_call hp2 (by omega) s hS.1) ?_
    rintro e σ2 ⟨rfl, hp3, k3⟩
    refine CallK.mk' (signs_call hp3 (by simp only [List.length_append, List.length_cons, List.length_nil]; omega) _ _) ?_
    rintro e σ3 ⟨rfl, hp4, k4⟩
    have kk := (kc.trans k3).trans k4
    have h34 := k4 _ _ (Ne.symm np3) (k3 _ _ (Ne.symm np3) h3)
    refine Load.mk' h34 (by simp [exV]) ?_
    have hcl := commaP_prKs_len kids
    have hel := exNs_len kids
    refine ⟨fun q sl σ' => ∃ i : Nat, sl = ofL [(0, some (.loc p 0)), (87, some (.slice .foreign 5 (exVs kids))), (88, some (.int .i64 kids.length)), (89, some (.int .i64 i))] ∧ PrI σ0 σ' p ((toks ++ [⟨1, 0, s, 0⟩] ++ [sgT [40]]) ++ (commaP true (prKs (kids.take i))).1) ((bad || !nameOK s) || (commaP true (prKs (kids.take i))).2) ∧ Kp p σ σ' ∧ i ≤ kids.length ∧ q = kids.length - i,
      _, ⟨0, by rw [← exVs_len kids]; rfl, by simpa [prKs, commaP] using hp4, kk, Nat.zero_le _, rfl⟩, ?_⟩
    clear hp2 hp3 hp4 k3 k4 kk h3 h34 kc
    rintro q sl σ' ⟨i, rfl, hpi, ki, hi, rfl⟩
    refine Test.split (fun hlt => ?_) (fun hlt => ?_)
    · have hlt : i < kids.length := by omega
      obtain ⟨x, hx⟩ : ∃ x, kids[i]? = some x := ⟨_, List.getElem?_eq_getElem hlt⟩
      have hxm := List.mem_of_getElem? hx
      have hxt := exNs_take hx
      have hcti := commaP_prKs_len (kids.take i)
      have hms : kids.length - (i + 1) < kids.length - i := by omega
      have htake : prKs (kids.take (i + 1)) = prKs (kids.take i) ++ [(lvlOp x.op, prE x)] := by
        rw [prKs_map, prKs_map, List.take_add_one, hx]; simp
      have hemp : prKs (kids.take i) = [] ↔ i = 0 := by
        rw [prKs_map]
        simp only [List.map_eq_nil_iff, List.take_eq_nil_iff]
        constructor
        · rintro (h | h)
          · exact h
          · rw [h] at hlt; simp at hlt
        · exact .inl
      have hgx := kid_get hx
      have hopx := fun σ toks bad hp hl => hopd σ toks bad x 0 hxm hp hl
      have hkp : (par 0 (lvlOp x.op, prE x)).1.length + 2 ≤ 8 * exN x := par_prE_len 0 x
      generalize hPX : par 0 (lvlOp x.op, prE x) = PX at hopx hkp
      have hsn := commaP_snoc true (prKs (kids.take i)) (lvlOp x.op, prE x)
      rw [← htake, hPX] at hsn
      generalize hN : exN x = N at hxt hopx hkp
      obtain ⟨op', n', s', kids', a'⟩ := x
      refine Sure.mk' (.inl rfl) ?_
      refine IdxE.mk' i _ rfl hgx ?_
      refine ⟨by simp [exV], ?_⟩
      intro b6 hb6
      have np6 := hpi.ne hb6
      refine Sure.mk' rfl ?_
      refine Store.mk' (exV (.mk op' n' s' kids' a')) put_box (Nat.le_refl _) rfl (fun σ2 e2 => ?_)
      rw [put_put] at e2
      have hp2 : PrI σ0 σ2 p ((toks ++ [⟨1, 0, s, 0⟩] ++ [sgT [40]]) ++ (commaP true (prKs (kids.take i))).1) ((bad || !nameOK s) || (commaP true (prKs (kids.take i))).2) := by rw [e2]; exact hpi.new hb6
      have k2 : Kp p σ σ2 := by rw [e2]; exact ki.new hb6
      have h62 : σ2.box b6 = some (exV (.mk op' n' s' kids' a')) := by rw [e2]; exact put_box
      clear e2 hb6 hpi ki
      refine Test.split (fun h0 => ?_) (fun h0 => ?_)
      · have h0 : 0 < i := by omega
        refine CallK.mk' (signs_call hp2 (by simp only [List.length_append, List.length_cons, List.length_nil]; omega) _ _) ?_
        rintro e σ3 ⟨rfl, hp3, k3⟩
        refine Load.mk' (k3 _ _ (Ne.symm np6) h62) (Nat.le_refl _) ?_
        refine CallK.mk' (hopx _ _ _ hp3 (by simp only [List.length_append, List.length_cons, List.length_nil]; omega)) ?_
        rintro e σ4 ⟨rfl, hp4, k4⟩
        refine Arith.i64 ((i + 1 : Nat) : Int) (by simp) (by omega) ?_
        refine ⟨_, _, hms, Forget.refl _, i + 1, rfl, ?_, (k2.trans k3).trans k4, by omega, rfl⟩
        rw [hsn, if_neg (by rintro ⟨_, h⟩; rw [hemp] at h; omega)]
        simpa [catP, sgP, List.append_assoc, Bool.or_assoc] using hp4
      · have h0 : i = 0 := by omega
        refine Load.mk' h62 (Nat.le_refl _) ?_
        refine CallK.mk' (hopx _ _ _ hp2 (by simp only [List.length_append, List.length_cons, List.length_nil]; omega)) ?_
        rintro e σ4 ⟨rfl, hp4, k4⟩
        refine Arith.i64 ((i + 1 : Nat) : Int) (by simp) (by omega) ?_
        refine ⟨_, _, hms, Forget.refl _, i + 1, rfl, ?_, k2.trans k4, by omega, rfl⟩
        rw [hsn, if_pos ⟨rfl, hemp.2 h0⟩]
        simpa [catP, sgP, List.append_assoc, Bool.or_assoc] using hp4
    · have hik : i = kids.length := by omega
      subst hik
      rw [List.take_length] at hpi
      refine CallK.mk' (signs_call hpi (by simp only [List.length_append, List.length_cons, List.length_nil]; omega) _ _) ?_
      rintro e σ3 ⟨rfl, hp3, k3⟩
      refine Ret.mk' ⟨rfl, ?_, ki.trans k3⟩
      simpa [catP, sgP, List.append_assoc, Bool.or_assoc] using hp3
  have hrest : ∀ (a b : PT), (if op = 1 then ([(⟨2, 0, [], n⟩ : Tok)], decide (n < 0) || decide (999999999999999 < n)) else if op = 2 then ([⟨3, 0, s, 0⟩], textBad s) else if op = 3 then ([⟨1, 0, s, 0⟩], !nameOK s) else if op = 4 then a else b) = b :=
    fun a b => (if_neg h1).trans ((if_neg h2).trans ((if_neg h3').trans (if_neg h4)))
  refine Test.split (fun h5 => ?_) (fun h5 => ?_)
  · have hP : prE (.mk op n s kids a) = (match prKs kids with
      | [a] => catP (sgP [33]) (par 3 a)
      | _ => ([], true)) := (hrest _ _).trans (if_pos h5)
    refine Load.mk' h3 (by simp [exV]) ?_
    refine Load.mk' h3 (by simp [exV]) ?_
    have h5' : op = 5 := h5
    subst h5'
    refine MLook.mk' (v := .int .i64 1) hmap rfl rfl ?_
    refine Test.split (fun hk => ?_) (fun hk => ?_)
    · have hP' : prE (.mk 5 n s kids a) = ([], true) := by
        rw [hP, prKs_map]
        match kids, hk with
        | [], _ => rfl
        | [k], hk => exact absurd rfl hk
        | _ :: _ :: _, _ => rfl
      obtain ⟨u, hu, hv⟩ := hp2.setbad
      refine Sure.mk' rfl ?_
      refine Store.mk' [u, .bool true] hu (by simp [V.cells]) rfl (fun σ9 e9 => ?_)
      refine Ret.mk' ⟨rfl, ?_, by rw [e9]; exact Kp.putp kc⟩
      rw [e9, hP']
      simpa using hv true
    · obtain ⟨k, rfl⟩ : ∃ k, kids = [k] := by
        match kids, hk with
        | [], hk => exact absurd (by decide) hk
        | [k], _ => exact ⟨k, rfl⟩
        | _ :: _ :: r, hk => exfalso; apply hk; rw [exVs_len]; simp; omega
      rw [hP]
      simp only [exNs] at hl
      refine Load.mk' h3 (by simp [exV]) ?_
      refine Test.yes rfl ?_
      refine CallK.mk' (signs_call hp2 (by omega) _ _) ?_
      rintro e σ3 ⟨rfl, hp3, k3⟩
      have hop1 := fun σ toks bad hp hl => hopd σ toks bad k 3 (by simp) hp hl
      have hg := kid_get (kids := [k]) (i := 0) (x := k) rfl
      have h33 := k3 _ _ (Ne.symm np3) h3
      simp only [prKs]
      generalize hPX : par 3 (lvlOp k.op, prE k) = PX at hop1
      generalize hN : exN k = N at hl hop1
      obtain ⟨op', n', s', kids', a'⟩ := k
      refine Load.mk' h33 (by simp [exV]) ?_
      refine Sure.mk' (.inl rfl) ?_
      refine IdxE.mk' 0 _ rfl hg ?_
      refine ⟨by simp [exV], ?_⟩
      refine CallK.mk' (hop1 _ _ _ hp3 (by simp only [List.length_append, List.length_cons, List.length_nil]; omega)) ?_
      rintro e σ4 ⟨rfl, hp4, k4⟩
      refine Ret.mk' ⟨rfl, ?_, (kc.trans k3).trans k4⟩
      simpa [catP, sgP, List.append_assoc, Bool.or_assoc] using hp4
  refine Test.split (fun h6 => ?_) (fun h6 => ?_)
  · have hP : prE (.mk op n s kids a) = (match prKs kids with
      | [a] => catP (sgP [45]) (par 7 a)
      | _ => ([], true)) := (hrest _ _).trans ((if_neg h5).trans (if_pos h6))
    refine Load.mk' h3 (by simp [exV]) ?_
    refine Load.mk' h3 (by simp [exV]) ?_
    have h6' : op = 6 := h6
    subst h6'
    refine MLook.mk' (v := .int .i64 1) hmap rfl rfl ?_
    refine Test.split (fun hk => ?_) (fun hk => ?_)
    · have hP' : prE (.mk 6 n s kids a) = ([], true) := by
        rw [hP, prKs_map]
        match kids, hk with
        | [], _ => rfl
        | [k], hk => exact absurd rfl hk
        | _ :: _ :: _, _ => rfl
      obtain ⟨u, hu, hv⟩ := hp2.setbad
      refine Sure.mk' rfl ?_
      refine Store.mk' [u, .bool true] hu (by simp [V.cells]) rfl (fun σ9 e9 => ?_)
      refine Ret.mk' ⟨rfl, ?_, by rw [e9]; exact Kp.putp kc⟩
      rw [e9, hP']
      simpa using hv true
    · obtain ⟨k, rfl⟩ : ∃ k, kids = [k] := by
        match kids, hk with
        | [], hk => exact absurd (by decide) hk
        | [k], _ => exact ⟨k, rfl⟩
        | _ :: _ :: r, hk => exfalso; apply hk; rw [exVs_len]; simp; omega
      rw [hP]
      simp only [exNs] at hl
      refine Load.mk' h3 (by simp [exV]) ?_
      refine Test.no (by decide) ?_
      refine Test.yes rfl ?_
      refine CallK.mk' (signs_call hp2 (by omega) _ _) ?_
      rintro e σ3 ⟨rfl, hp3, k3⟩
      have hop1 := fun σ toks bad hp hl => hopd σ toks bad k 7 (by simp) hp hl
      have hg := kid_get (kids := [k]) (i := 0) (x := k) rfl
      have h33 := k3 _ _ (Ne.symm np3) h3
      simp only [prKs]
      generalize hPX : par 7 (lvlOp k.op, prE k) = PX at hop1
      generalize hN : exN k = N at hl hop1
      obtain ⟨op', n', s', kids', a'⟩ := k
      refine Load.mk' h33 (by simp [exV]) ?_
      refine Sure.mk' (.inl rfl) ?_
      refine IdxE.mk' 0 _ rfl hg ?_
      refine ⟨by simp [exV], ?_⟩
      refine CallK.mk' (hop1 _ _ _ hp3 (by simp only [List.length_append, List.length_cons, List.length_nil]; omega)) ?_
      rintro e σ4 ⟨rfl, hp4, k4⟩
      refine Ret.mk' ⟨rfl, ?_, (kc.trans k3).trans k4⟩
      simpa [catP, sgP, List.append_assoc, Bool.or_assoc] using hp4
  refine Test.split (fun h20 => ?_) (fun h20 => ?_)
  · have hP : prE (.mk op n s kids a) = (match prKs kids with
      | [a, b, c] => catP (catP (catP (catP (par 1 a) (sgP [63])) (par 0 b)) (sgP [58])) (par 0 c)
      | _ => ([], true)) := (hrest _ _).trans ((if_neg h5).trans ((if_neg h6).trans (if_pos h20)))
    refine Load.mk' h3 (by simp [exV]) ?_
    refine Load.mk' h3 (by simp [exV]) ?_
    have h20' : op = 20 := h20
    subst h20'
    refine MLook.mk' (v := .int .i64 3) hmap rfl rfl ?_
    refine Test.split (fun hk => ?_) (fun hk => ?_)
    · have hP' : prE (.mk 20 n s kids a) = ([], true) := by
        rw [hP, prKs_map]
        match kids, hk with
        | [], _ => rfl
        | [_], _ => rfl
        | [_, _], _ => rfl
        | [_, _, _], hk => exact absurd rfl hk
        | _ :: _ :: _ :: _ :: _, _ => rfl
      obtain ⟨u, hu, hv⟩ := hp2.setbad
      refine Sure.mk' rfl ?_
      refine Store.mk' [u, .bool true] hu (by simp [V.cells]) rfl (fun σ9 e9 => ?_)
      refine Ret.mk' ⟨rfl, ?_, by rw [e9]; exact Kp.putp kc⟩
      rw [e9, hP']
      simpa using hv true
    · obtain ⟨ka, kb, kd, rfl⟩ : ∃ ka kb kd, kids = [ka, kb, kd] := by
        match kids, hk with
        | [], hk => exact absurd (by decide) hk
        | [_], hk => exfalso; apply hk; rw [exVs_len]; simp
        | [_, _], hk => exfalso; apply hk; rw [exVs_len]; simp
        | [ka, kb, kd], _ => exact ⟨ka, kb, kd, rfl⟩
        | _ :: _ :: _ :: _ :: r, hk => exfalso; apply hk; rw [exVs_len]; simp; omega
      rw [hP]
      simp only [exNs] at hl
      refine Load.mk' h3 (by simp [exV]) ?_
      refine Test.no (by decide) ?_
      refine Test.no (by decide) ?_
      have hop1 := fun σ toks bad hp hl => hopd σ toks bad ka 1 (by simp) hp hl
      have hop2 := fun σ toks bad hp hl => hopd σ toks bad kb 0 (by simp) hp hl
      have hop3 := fun σ toks bad hp hl => hopd σ toks bad kd 0 (by simp) hp hl
      have l1 := par_prE_len 1 ka
      have l2 := par_prE_len 0 kb
      have hg1 := kid_get (kids := [ka, kb, kd]) (i := 0) (x := ka) rfl
      have hg2 := kid_get (kids := [ka, kb, kd]) (i := 1) (x := kb) rfl
      have hg3 := kid_get (kids := [ka, kb, kd]) (i := 2) (x := kd) rfl
      simp only [prKs]
      generalize hPX1 : par 1 (lvlOp ka.op, prE ka) = PX1 at hop1 l1
      generalize hPX2 : par 0 (lvlOp kb.op, prE kb) = PX2 at hop2 l2
      generalize hPX3 : par 0 (lvlOp kd.op, prE kd) = PX3 at hop3
      generalize hN1 : exN ka = N1 at hl hop1 l1
      generalize hN2 : exN kb = N2 at hl hop2 l2
      generalize hN3 : exN kd = N3 at hl hop3
      obtain ⟨op1, n1, s1, kids1, a1⟩ := ka
      obtain ⟨op2, n2, s2, kids2, a2⟩ := kb
      obtain ⟨op3, n3, s3, kids3, a3⟩ := kd
      refine Load.mk' h3 (by simp [exV]) ?_
      refine Sure.mk' (.inl rfl) ?_
      refine IdxE.mk' 0 _ rfl hg1 ?_
      refine ⟨by simp [exV], ?_⟩
      refine CallK.mk' (hop1 _ _ _ hp2 (by omega)) ?_
      rintro e σ3 ⟨rfl, hp3, k3⟩
      refine CallK.mk' (signs_call hp3 (by simp only [List.length_append, List.length_cons, List.length_nil]; omega) _ _) ?_
      rintro e σ4 ⟨rfl, hp4, k4⟩
      have k34 := k3.trans k4
      refine Load.mk' (k34 _ _ (Ne.symm np3) h3) (by simp [exV]) ?_
      refine Sure.mk' (.inl rfl) ?_
      refine IdxE.mk' 1 _ rfl hg2 ?_
      refine ⟨by simp [exV], ?_⟩
      refine CallK.mk' (hop2 _ _ _ hp4 (by simp only [List.length_append, List.length_cons, List.length_nil]; omega)) ?_
      rintro e σ5 ⟨rfl, hp5, k5⟩
      refine CallK.mk' (signs_call hp5 (by simp only [List.length_append, List.length_cons, List.length_nil]; omega) _ _) ?_
      rintro e σ6 ⟨rfl, hp6, k6⟩
      have k36 := (k34.trans k5).trans k6
      refine Load.mk' (k36 _ _ (Ne.symm np3) h3) (by simp [exV]) ?_
      refine Sure.mk' (.inl rfl) ?_
      refine IdxE.mk' 2 _ rfl hg3 ?_
      refine ⟨by simp [exV], ?_⟩
      refine CallK.mk' (hop3 _ _ _ hp6 (by simp only [List.length_append, List.length_cons, List.length_nil]; omega)) ?_
      rintro e σ7 ⟨rfl, hp7, k7⟩
      refine Ret.mk' ⟨rfl, ?_, (kc.trans k36).trans k7⟩
      simpa [catP, sgP, List.append_assoc, Bool.or_assoc] using hp7
  have hP : prE (.mk op n s kids a) = (match opFind op with
    | none => ([], true)
    | some o => match prKs kids with
      | [a, b] => catP (catP (par (if o.2.2 = 4 then 5 else o.2.2) a) (sgP o.1)) (par (max (if o.2.2 = 4 then 5 else o.2.2) (o.2.2 + 1)) b)
      | _ => ([], true)) := (hrest _ _).trans ((if_neg h5).trans ((if_neg h6).trans (if_neg h20)))
  refine CallK.pure operators_ret ?_
  refine CallK.mk' (index_call (fun o => o.2.1 == op) (fun σ2 ho o => opSame_call (x := .mk op n s kids a) (ho.box _ _ h3) o)) ?_
  rintro e σ2 ⟨rfl, o2⟩
  have h32 := o2.box _ _ h3
  have hp2 := hp2.over' o2
  have kc : Kp p σ σ2 := kc.trans (Kp.over o2)
  clear hmap h3 o2
  rcases opIdx_find op with ⟨hi, hof⟩ | ⟨ki, o, hi, hok, hof⟩
  · rw [hi]
    refine Test.yes (by decide) ?_
    have hP' : prE (.mk op n s kids a) = ([], true) := by rw [hP, hof]
    obtain ⟨u, hu, hv⟩ := hp2.setbad
    refine Sure.mk' rfl ?_
    refine Store.mk' [u, .bool true] hu (by simp [V.cells]) rfl (fun σ9 e9 => ?_)
    refine Ret.mk' ⟨rfl, ?_, by rw [e9]; exact Kp.putp kc⟩
    rw [e9, hP']
    simpa using hv true
  rw [hi]
  refine Test.no (by omega) ?_
  refine Load.mk' h32 (by simp [exV]) ?_
  refine Test.split (fun hk => ?_) (fun hk => ?_)
  · have hP' : prE (.mk op n s kids a) = ([], true) := by
      rw [hP, hof, prKs_map]
      match kids, hk with
      | [], _ => rfl
      | [_], _ => rfl
      | [_, _], hk => exact absurd rfl hk
      | _ :: _ :: _ :: _, _ => rfl
    obtain ⟨u, hu, hv⟩ := hp2.setbad
    refine Sure.mk' rfl ?_
    refine Store.mk' [u, .bool true] hu (by simp [V.cells]) rfl (fun σ9 e9 => ?_)
    refine Ret.mk' ⟨rfl, ?_, by rw [e9]; exact Kp.putp kc⟩
    rw [e9, hP']
    simpa using hv true
  obtain ⟨ka, kb, rfl⟩ : ∃ ka kb, kids = [ka, kb] := by
    match kids, hk with
    | [], hk => exact absurd (by decide) hk
    | [_], hk => exfalso; apply hk; rw [exVs_len]; simp
    | [ka, kb], _ => exact ⟨ka, kb, rfl⟩
    | _ :: _ :: _ :: r, hk => exfalso; apply hk; rw [exVs_len]; simp; omega
  rw [hP, hof]
  simp only [exNs] at hl
  have hlv : (o.2.2 : Int) ≤ 6 ∧ 0 ≤ (o.2.2 : Int) := by
    have : ∀ o ∈ opsT, (o.2.2 : Int) ≤ 6 ∧ 0 ≤ (o.2.2 : Int) := by decide
    exact this o (List.mem_of_getElem? hok)
  refine CallK.pure operators_ret ?_
  refine Sure.mk' (.inl rfl) ?_
  refine IdxE.mk' ki (opV o) rfl (by simp [hok]) ?_
  refine ⟨by simp [opV], ?_⟩
  intro b8 hb8
  have np8 := hp2.ne hb8
  refine Sure.mk' rfl ?_
  refine Store.mk' (opV o) put_box (by simp [V.cells, opV]) (by simp [setL, V.cells, opV]) (fun σ3 e3 => ?_)
  rw [put_put] at e3
  have q3 := over_put (cs := opV o) (Over.refl _) hb8
  rw [← e3] at q3
  have hp3 := hp2.over' q3
  have kc : Kp p σ σ3 := kc.trans (Kp.over q3)
  have h33 := q3.box _ _ h32
  have h83 : σ3.box b8 = some (opV o) := by rw [e3]; exact put_box
  clear e3 q3 hb8 h32 hp2
  have hop1 := fun (l : Int) σ toks bad hp hl => hopd σ toks bad ka l (by simp) hp hl
  have hop2 := fun (l : Int) σ toks bad hp hl => hopd σ toks bad kb l (by simp) hp hl
  have l1 := fun l => par_prE_len l ka
  have hg1 := kid_get (kids := [ka, kb]) (i := 0) (x := ka) rfl
  have hg2 := kid_get (kids := [ka, kb]) (i := 1) (x := kb) rfl
  simp only [prKs]
  generalize hPX1 : (lvlOp ka.op, prE ka) = PX1 at hop1 l1
  generalize hPX2 : (lvlOp kb.op, prE kb) = PX2 at hop2
  generalize hN1 : exN ka = N1 at hl hop1 l1
  generalize hN2 : exN kb = N2 at hl hop2
  obtain ⟨op1, n1, s1, kids1, a1⟩ := ka
  obtain ⟨op2, n2, s2, kids2, a2⟩ := kb
  refine Load.mk' h83 (by simp [opV]) ?_
  refine Test.split (fun h4' => ?_) (fun h4' => ?_)
  · have hleft : (if o.2.2 = 4 then (5 : Int) else o.2.2) = 5 := if_pos (by have h4' : (o.2.2 : Int) = 4 := h4'; omega)
    rw [hleft]
    have l1' := l1 (5)
    refine Load.mk' h33 (by simp [exV]) ?_
    refine Sure.mk' (.inl rfl) ?_
    refine IdxE.mk' 0 _ rfl hg1 ?_
    refine ⟨by simp [exV], ?_⟩
    refine CallK.mk' (hop1 (5) _ _ _ hp3 (by omega)) ?_
    rintro e σ4 ⟨rfl, hp4, k4⟩
    refine Load.mk' (k4 _ _ (Ne.symm np8) h83) (by simp [opV]) ?_
    refine CallK.mk' (signs_call hp4 (by simp only [List.length_append, List.length_cons, List.length_nil]; omega) _ _) ?_
    rintro e σ5 ⟨rfl, hp5, k5⟩
    have k45 := k4.trans k5
    refine Load.mk' (k45 _ _ (Ne.symm np3) h33) (by simp [exV]) ?_
    refine Sure.mk' (.inl rfl) ?_
    refine IdxE.mk' 1 _ rfl hg2 ?_
    refine ⟨by simp [exV], ?_⟩
    refine Load.mk' (k45 _ _ (Ne.symm np8) h83) (by simp [opV]) ?_
    refine Arith.i64 ((o.2.2 : Int) + 1) rfl (by omega) ?_
    have hmax : (if (o.2.2 : Int) + 1 > (5) then (o.2.2 : Int) + 1 else (5)) = max (5) ((o.2.2 : Int) + 1) := by omega
    refine CallK.mk' (hop2 (if (o.2.2 : Int) + 1 > (5) then (o.2.2 : Int) + 1 else (5)) _ _ _ hp5 (by simp only [List.length_append, List.length_cons, List.length_nil]; omega)) ?_
    rintro e σ6 ⟨rfl, hp6, k6⟩
    refine Ret.mk' ⟨rfl, ?_, (kc.trans k45).trans k6⟩
    rw [hmax] at hp6
    simpa [catP, sgP, List.append_assoc, Bool.or_assoc] using hp6
  · have hleft : (if o.2.2 = 4 then (5 : Int) else o.2.2) = o.2.2 := if_neg (by have h4' : ¬ (o.2.2 : Int) = 4 := h4'; omega)
    rw [hleft]
    have l1' := l1 ((o.2.2 : Int))
    refine Load.mk' h33 (by simp [exV]) ?_
    refine Sure.mk' (.inl rfl) ?_
    refine IdxE.mk' 0 _ rfl hg1 ?_
    refine ⟨by simp [exV], ?_⟩
    refine CallK.mk' (hop1 ((o.2.2 : Int)) _ _ _ hp3 (by omega)) ?_
    rintro e σ4 ⟨rfl, hp4, k4⟩
    refine Load.mk' (k4 _ _ (Ne.symm np8) h83) (by simp [opV]) ?_
    refine CallK.mk' (signs_call hp4 (by simp only [List.length_append, List.length_cons, List.length_nil]; omega) _ _) ?_
    rintro e σ5 ⟨rfl, hp5, k5⟩
    have k45 := k4.trans k5
    refine Load.mk' (k45 _ _ (Ne.symm np3) h33) (by simp [exV]) ?_
    refine Sure.mk' (.inl rfl) ?_
    refine IdxE.mk' 1 _ rfl hg2 ?_
    refine ⟨by simp [exV], ?_⟩
    refine Load.mk' (k45 _ _ (Ne.symm np8) h83) (by simp [opV]) ?_
    refine Arith.i64 ((o.2.2 : Int) + 1) rfl (by omega) ?_
    have hmax : (if (o.2.2 : Int) + 1 > ((o.2.2 : Int)) then (o.2.2 : Int) + 1 else ((o.2.2 : Int))) = max ((o.2.2 : Int)) ((o.2.2 : Int) + 1) := by omega
    refine CallK.mk' (hop2 (if (o.2.2 : Int) + 1 > ((o.2.2 : Int)) then (o.2.2 : Int) + 1 else ((o.2.2 : Int))) _ _ _ hp5 (by simp only [List.length_append, List.length_cons, List.length_nil]; omega)) ?_
    rintro e σ6 ⟨rfl, hp6, k6⟩
    refine Ret.mk' ⟨rfl, ?_, (kc.trans k45).trans k6⟩
    rw [hmax] at hp6
    simpa [catP, sgP, List.append_assoc, Bool.or_assoc] using hp6

theorem prTo : ∀ m, PrTo m := by
  intro m
  induction m using Nat.strongRecOn with
  | _ m ih => exact ⟨fun σ0 σ p toks bad x hm hS hp hl => exprPr_walk ih hm hS hp hl, fun σ0 σ p toks bad x need hm hS hp hl => operand_walk ih hm hS hp hl⟩
theorem exprPr_call {σ0 σ : St} {p : Nat} {toks : List Tok} {bad : Bool} {x : Ex} (hS : exS x) (hp : PrI σ0 σ p toks bad) (hl : toks.length + 8 * exN x ≤ 1000000) :
    SCall Tryz.prog LG 42 [.loc p 0, .agg (exV x)] σ (Prs σ0 σ p (toks ++ (prE x).1) (bad || (prE x).2)) := (prTo _).expr σ0 σ p toks bad x (Nat.le_refl _) hS hp hl
end Go.Shadow.Lex
