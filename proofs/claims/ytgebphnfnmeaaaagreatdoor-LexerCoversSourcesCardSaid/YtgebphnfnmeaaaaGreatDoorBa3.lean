/- Proved: parts of the proof: Shadow code of the replacer of strings (printed by a program); THE SHADOW LOGIC, part 20: the library's own operations on single cells (sync/atomic, internal/race); Proved: the law LexerFindsPositions returns true, as a shadow contract; Proved: what strings; Proved: what the lexer's replacer of strings does, as a shadow contract; Proved: what the lexer's Text does, as a shadow contract; Pure laws of the lexer: a token stands in its source as it is printed; what is printed is read back; Pure laws of the lexer: what is printed is read back; the tokens cover their source; The functions of the lex. Conditions: as each theorem says. -/
import Derived.Test.YtgebphnfnmeaaaaGreatDoorBa2
import Derived.Test.YtgebphnfnmeaaaaGreatDoorProg
import Derived.Laws.LoneSync

/- Shadow code of the replacer of strings (printed by a program). -/
namespace Go.Shadow.Lex
open Go Go.RowKit Go.Proofs
/-- strings.NewReplacer -/
def sc25 : SC := (.seq (.region [⟨(some 2), (.mv (.c .nilptr)), none⟩] (some [0])) (.seq (.seq (.region [⟨(some 3), (.mv (.t 0)), none⟩, ⟨(some 4), (.len false (.t 3)), none⟩, ⟨(some 5), (.bin .rem (.t 4) (.c (.int .i64 2))), none⟩, ⟨(some 6), (.bin .eql (.t 5) (.c (.int .i64 1))), none⟩] (some [0, 6])) (.cond (.t 6) (some [0]) (.region [⟨(some 7), (.mkif 9 (.c (.str [115, 116, 114, 105, 110, 103, 115, 46, 78, 101, 119, 82, 101, 112, 108, 97, 99, 101, 114, 58, 32, 111, 100, 100, 32, 97, 114, 103, 117, 109, 101, 110, 116, 32, 99, 111, 117, 110, 116]))), none⟩, ⟨none, (.panic (.t 7)), none⟩] (some [0])) .skip)) (.seq (.region [⟨(some 8), (.mv (.t 0)), none⟩, ⟨(some 9), (.append 1 16 (.c (.slice .nil 0 [])) (.t 8)), none⟩, ⟨(some 10), (.build [(.int .u32 0), (.int .i32 0), (.int .u32 0), .nilIface, (.slice .nil 0 [])] [(4, (1, (.t 9)))]), none⟩, ⟨(some 11), (.box (.t 10)), none⟩, ⟨(some 2), (.mv (.t 11)), none⟩] (some [2])) .ret)))
theorem code25 : IsCode Tryz.prog 25 sc25 [(2, none)] 12 := .mk' Tryz.func25 (by kernel_rfl) (by kernel_rfl) (by kernel_rfl) (by kernel_rfl)
/-- (*strings.Replacer).Replace -/
def sc26 : SC := (.seq (.region [⟨(some 4), (.mv (.c (.str []))), none⟩] (some [0, 1])) (.seq (.region [⟨(some 5), (.mv (.t 0)), none⟩, ⟨(some 6), (.nilchk (.t 5)), none⟩, ⟨(some 7), (.faddr 0 (.t 6)), none⟩, ⟨(some 8), (.mv (.t 0)), none⟩, ⟨(some 9), (.mkfn 44 [(.t 8)] []), none⟩, ⟨(some 10), (.call 43 [(.t 7), (.t 9)]), none⟩] (some [0, 1])) (.seq (.region [⟨(some 11), (.mv (.t 0)), none⟩, ⟨(some 12), (.nilchk (.t 11)), none⟩, ⟨(some 13), (.faddr 3 (.t 12)), none⟩, ⟨(some 14), (.load false 1 (.t 13)), none⟩, ⟨(some 15), (.mv (.t 1)), none⟩, ⟨(some 16), (.calli [(128, 153), (124, 151), (121, 147), (119, 144), (59, 26)] (.t 14) [(.t 15)]), none⟩, ⟨(some 4), (.mv (.t 16)), none⟩] (some [4])) .ret)))
theorem code26 : IsCode Tryz.prog 26 sc26 [(4, none)] 17 := .mk' Tryz.func26 (by kernel_rfl) (by kernel_rfl) (by kernel_rfl) (by kernel_rfl)
/-- (*sync.Once).Do -/
def sc43 : SC := (.seq (.region [⟨(some 4), (.mv (.t 0)), none⟩, ⟨(some 5), (.nilchk (.t 4)), none⟩, ⟨(some 6), (.faddr 0 (.t 5)), none⟩, ⟨(some 7), (.call 57 [(.t 6)]), none⟩, ⟨(some 8), (.un .not (.t 7)), none⟩] (some [0, 1, 8])) (.cond (.t 8) (some [0, 1]) (.region [⟨(some 9), (.mv (.t 0)), none⟩, ⟨(some 10), (.mv (.t 1)), none⟩, ⟨(some 11), (.call 58 [(.t 9), (.t 10)]), none⟩] (some [])) .skip))
theorem code43 : IsCode Tryz.prog 43 sc43 [] 12 := .mk' Tryz.func43 (by kernel_rfl) (by kernel_rfl) (by kernel_rfl) (by kernel_rfl)
/-- (*strings.Replacer).buildOnce -/
def sc44 : SC := (.seq (.region [⟨(some 2), (.mv (.t 0)), none⟩, ⟨(some 3), (.mv (.t 0)), none⟩, ⟨(some 4), (.call 59 [(.t 3)]), none⟩, ⟨(some 5), (.nilchk (.t 2)), none⟩, ⟨(some 6), (.faddr 3 (.t 5)), none⟩, ⟨none, (.store 1 (.t 6) (.t 4)), none⟩] (some [0])) (.region [⟨(some 7), (.mv (.t 0)), none⟩, ⟨(some 8), (.nilchk (.t 7)), none⟩, ⟨(some 9), (.faddr 4 (.t 8)), none⟩, ⟨none, (.store 1 (.t 9) (.c (.slice .nil 0 []))), none⟩] (some [])))
theorem code44 : IsCode Tryz.prog 44 sc44 [] 10 := .mk' Tryz.func44 (by kernel_rfl) (by kernel_rfl) (by kernel_rfl) (by kernel_rfl)
/-- (*sync/atomic.Bool).Load -/
def sc57 : SC := (.seq (.region [⟨(some 2), (.mv (.c (.bool false))), none⟩] (some [0])) (.seq (.region [⟨(some 3), (.mv (.t 0)), none⟩, ⟨(some 4), (.nilchk (.t 3)), none⟩, ⟨(some 5), (.faddr 0 (.t 4)), none⟩, ⟨(some 6), (.call 73 [(.t 5)]), none⟩, ⟨(some 7), (.bin .neq (.t 6) (.c (.int .u32 0))), none⟩, ⟨(some 2), (.mv (.t 7)), none⟩] (some [2])) .ret))
theorem code57 : IsCode Tryz.prog 57 sc57 [(2, none)] 8 := .mk' Tryz.func57 (by kernel_rfl) (by kernel_rfl) (by kernel_rfl) (by kernel_rfl)
/-- (*sync.Once).doSlow -/
def sc58 : SD := (.seq (.region [⟨(some 4), (.mv (.t 0)), none⟩, ⟨(some 5), (.nilchk (.t 4)), none⟩, ⟨(some 6), (.faddr 1 (.t 5)), none⟩, ⟨(some 7), (.call 74 [(.t 6)]), none⟩] (some [0, 1])) (.defer [⟨(some 8), (.mv (.t 0)), none⟩, ⟨(some 9), (.nilchk (.t 8)), none⟩, ⟨(some 10), (.faddr 1 (.t 9)), none⟩] (.f 75) [(.t 10)] (some [0, 1]) (.seq (.region [⟨(some 11), (.mv (.t 0)), none⟩, ⟨(some 12), (.nilchk (.t 11)), none⟩, ⟨(some 13), (.faddr 0 (.t 12)), none⟩, ⟨(some 14), (.call 57 [(.t 13)]), none⟩, ⟨(some 15), (.un .not (.t 14)), none⟩] (some [0, 1, 15])) (.cond (.t 15) (some [0, 1]) (.defer [⟨(some 16), (.mv (.t 0)), none⟩, ⟨(some 17), (.nilchk (.t 16)), none⟩, ⟨(some 18), (.faddr 0 (.t 17)), none⟩] (.f 76) [(.t 18), (.c (.bool true))] (some [1]) (.code (.region [⟨(some 19), (.mv (.t 1)), none⟩, ⟨(some 20), (.callv (.t 19) []), none⟩] (some [])))) (.code .skip)))))
theorem code58 : IsCodeD Tryz.prog 58 sc58 [] 21 := .mk' Tryz.func58 (by kernel_rfl) (by kernel_rfl) (by kernel_rfl) (by kernel_rfl)
/-- (*strings.Replacer).build -/
def sc59 : SC := (.seq (.region [⟨(some 2), (.mv (.c .nilIface)), none⟩] (some [0])) (.seq (.region [⟨(some 15), (.mv (.t 0)), none⟩, ⟨(some 16), (.nilchk (.t 15)), none⟩, ⟨(some 17), (.faddr 4 (.t 16)), none⟩, ⟨(some 18), (.load false 1 (.t 17)), none⟩, ⟨(some 3), (.mv (.t 18)), none⟩] (some [3])) (.seq (.seq (.region [⟨(some 19), (.mv (.t 3)), none⟩, ⟨(some 20), (.len false (.t 19)), none⟩, ⟨(some 21), (.bin .eql (.t 20) (.c (.int .i64 2))), none⟩, ⟨(some 22), (.mv (.t 21)), none⟩, ⟨(some 23), (.mv (.t 3)), (some (22, true))⟩, ⟨(some 24), (.iaddr 1 (.t 23) (.c (.int .i64 0))), (some (22, true))⟩, ⟨(some 25), (.load false 1 (.t 24)), (some (22, true))⟩, ⟨(some 26), (.len true (.t 25)), (some (22, true))⟩, ⟨(some 27), (.bin .gtr (.t 26) (.c (.int .i64 1))), (some (22, true))⟩, ⟨(some 28), (.pick (.t 22) (.t 27) (.c (.bool false))), none⟩] (some [3, 28])) (.cond (.t 28) (some [3]) (.seq (.region [⟨(some 29), (.mv (.t 3)), none⟩, ⟨(some 30), (.iaddr 1 (.t 29) (.c (.int .i64 0))), none⟩, ⟨(some 31), (.load false 1 (.t 30)), none⟩, ⟨(some 32), (.mv (.t 3)), none⟩, ⟨(some 33), (.iaddr 1 (.t 32) (.c (.int .i64 1))), none⟩, ⟨(some 34), (.load false 1 (.t 33)), none⟩, ⟨(some 35), (.call 77 [(.t 31), (.t 34)]), none⟩, ⟨(some 36), (.mkif 119 (.t 35)), none⟩, ⟨(some 2), (.mv (.t 36)), none⟩] (some [2])) .ret) .skip)) (.seq (.region [⟨(some 4), (.mv (.c (.bool true))), none⟩] (some [3, 4])) (.seq (.seq (.region [⟨(some 5), (.mv (.c (.int .i64 0))), none⟩] (some [3, 4, 5])) (.block 0 (.loop (.seq (.seq (.region [⟨(some 37), (.mv (.t 5)), none⟩, ⟨(some 38), (.mv (.t 3)), none⟩, ⟨(some 39), (.len false (.t 38)), none⟩, ⟨(some 40), (.bin .lss (.t 37) (.t 39)), none⟩] (some [3, 4, 5, 40])) (.cond (.t 40) (some [3, 4, 5]) .skip (.exit 0))) (.seq (.block 1 (.seq (.seq (.region [⟨(some 43), (.mv (.t 3)), none⟩, ⟨(some 44), (.mv (.t 5)), none⟩, ⟨(some 45), (.iaddr 1 (.t 43) (.t 44)), none⟩, ⟨(some 46), (.load false 1 (.t 45)), none⟩, ⟨(some 47), (.len true (.t 46)), none⟩, ⟨(some 48), (.bin .neq (.t 47) (.c (.int .i64 1))), none⟩] (some [3, 4, 5, 48])) (.cond (.t 48) (some [3, 4, 5]) (.seq (.region [⟨(some 49), (.mv (.t 3)), none⟩, ⟨(some 50), (.call 78 [(.t 49)]), none⟩, ⟨(some 51), (.mkif 121 (.t 50)), none⟩, ⟨(some 2), (.mv (.t 51)), none⟩] (some [2])) .ret) .skip)) (.seq (.region [⟨(some 52), (.mv (.t 3)), none⟩, ⟨(some 53), (.mv (.t 5)), none⟩, ⟨(some 54), (.bin .add (.t 53) (.c (.int .i64 1))), none⟩, ⟨(some 55), (.iaddr 1 (.t 52) (.t 54)), none⟩, ⟨(some 56), (.load false 1 (.t 55)), none⟩, ⟨(some 57), (.len true (.t 56)), none⟩, ⟨(some 58), (.bin .neq (.t 57) (.c (.int .i64 1))), none⟩] (some [3, 4, 5, 58])) (.cond (.t 58) (some [3, 4, 5]) (.region [⟨(some 4), (.mv (.c (.bool false))), none⟩] (some [3, 4, 5])) .skip)))) (.region [⟨(some 41), (.mv (.t 5)), none⟩, ⟨(some 42), (.bin .add (.t 41) (.c (.int .i64 2))), none⟩, ⟨(some 5), (.mv (.t 42)), none⟩] (some [3, 4, 5]))))))) (.seq (.seq (.region [⟨(some 59), (.mv (.t 4)), none⟩] (some [3, 59])) (.cond (.t 59) (some [3]) (.seq (.region [⟨(some 60), (.build [(.int .u8 0), (.int .u8 0), (.int .u8 0), (.int .u8 0), (.int .u8 0), (.int .u8 0), (.int .u8 0), (.int .u8 0), (.int .u8 0), (.int .u8 0), (.int .u8 0), (.int .u8 0), (.int .u8 0), (.int .u8 0), (.int .u8 0), (.int .u8 0), (.int .u8 0), (.int .u8 0), (.int .u8 0), (.int .u8 0), (.int .u8 0), (.int .u8 0), (.int .u8 0), (.int .u8 0), (.int .u8 0), (.int .u8 0), (.int .u8 0), (.int .u8 0), (.int .u8 0), (.int .u8 0), (.int .u8 0), (.int .u8 0), (.int .u8 0), (.int .u8 0), (.int .u8 0), (.int .u8 0), (.int .u8 0), (.int .u8 0), (.int .u8 0), (.int .u8 0), (.int .u8 0), (.int .u8 0), (.int .u8 0), (.int .u8 0), (.int .u8 0), (.int .u8 0), (.int .u8 0), (.int .u8 0), (.int .u8 0), (.int .u8 0), (.int .u8 0), (.int .u8 0), (.int .u8 0), (.int .u8 0), (.int .u8 0), (.int .u8 0), (.int .u8 0), (.int .u8 0), (.int .u8 0), (.int .u8 0), (.int .u8 0), (.int .u8 0), (.int .u8 0), (.int .u8 0), (.int .u8 0), (.int .u8 0), (.int .u8 0), (.int .u8 0), (.int .u8 0), (.int .u8 0), (.int .u8 0), (.int .u8 0), (.int .u8 0), (.int .u8 0), (.int .u8 0), (.int .u8 0), (.int .u8 0), (.int .u8 0), (.int .u8 0), (.int .u8 0), (.int .u8 0), (.int .u8 0), (.int .u8 0), (.int .u8 0), (.int .u8 0), (.int .u8 0), (.int .u8 0), (.int .u8 0), (.int .u8 0), (.int .u8 0), (.int .u8 0), (.int .u8 0), (.int .u8 0), (.int .u8 0), (.int .u8 0), (.int .u8 0), (.int .u8 0), (.int .u8 0), (.int .u8 0), (.int .u8 0), (.int .u8 0), (.int .u8 0), (.int .u8 0), (.int .u8 0), (.int .u8 0), (.int .u8 0), (.int .u8 0), (.int .u8 0), (.int .u8 0), (.int .u8 0), (.int .u8 0), (.int .u8 0), (.int .u8 0), (.int .u8 0), (.int .u8 0), (.int .u8 0), (.int .u8 0), (.int .u8 0), (.int .u8 0), (.int .u8 0), (.int .u8 0), (.int .u8 0), (.int .u8 0), (.int .u8 0), (.int .u8 0), (.int .u8 0), (.int .u8 0), (.int .u8 0), (.int .u8 0), (.int .u8 0), (.int .u8 0), (.int .u8 0), (.int .u8 0), (.int .u8 0), (.int .u8 0), (.int .u8 0), (.int .u8 0), (.int .u8 0), (.int .u8 0), (.int .u8 0), (.int .u8 0), (.int .u8 0), (.int .u8 0), (.int .u8 0), (.int .u8 0), (.int .u8 0), (.int .u8 0), (.int .u8 0), (.int .u8 0), (.int .u8 0), (.int .u8 0), (.int .u8 0), (.int .u8 0), (.int .u8 0), (.int .u8 0), (.int .u8 0), (.int .u8 0), (.int .u8 0), (.int .u8 0), (.int .u8 0), (.int .u8 0), (.int .u8 0), (.int .u8 0), (.int .u8 0), (.int .u8 0), (.int .u8 0), (.int .u8 0), (.int .u8 0), (.int .u8 0), (.int .u8 0), (.int .u8 0), (.int .u8 0), (.int .u8 0), (.int .u8 0), (.int .u8 0), (.int .u8 0), (.int .u8 0), (.int .u8 0), (.int .u8 0), (.int .u8 0), (.int .u8 0), (.int .u8 0), (.int .u8 0), (.int .u8 0), (.int .u8 0), (.int .u8 0), (.int .u8 0), (.int .u8 0), (.int .u8 0), (.int .u8 0), (.int .u8 0), (.int .u8 0), (.int .u8 0), (.int .u8 0), (.int .u8 0), (.int .u8 0), (.int .u8 0), (.int .u8 0), (.int .u8 0), (.int .u8 0), (.int .u8 0), (.int .u8 0), (.int .u8 0), (.int .u8 0), (.int .u8 0), (.int .u8 0), (.int .u8 0), (.int .u8 0), (.int .u8 0), (.int .u8 0), (.int .u8 0), (.int .u8 0), (.int .u8 0), (.int .u8 0), (.int .u8 0), (.int .u8 0), (.int .u8 0), (.int .u8 0), (.int .u8 0), (.int .u8 0), (.int .u8 0), (.int .u8 0), (.int .u8 0), (.int .u8 0), (.int .u8 0), (.int .u8 0), (.int .u8 0), (.int .u8 0), (.int .u8 0), (.int .u8 0), (.int .u8 0), (.int .u8 0), (.int .u8 0), (.int .u8 0), (.int .u8 0), (.int .u8 0), (.int .u8 0), (.int .u8 0), (.int .u8 0), (.int .u8 0), (.int .u8 0), (.int .u8 0), (.int .u8 0), (.int .u8 0), (.int .u8 0), (.int .u8 0), (.int .u8 0), (.int .u8 0), (.int .u8 0), (.int .u8 0), (.int .u8 0), (.int .u8 0), (.int .u8 0), (.int .u8 0), (.int .u8 0), (.int .u8 0)] []), none⟩, ⟨(some 6), (.alloc [(.int .u8 0), (.int .u8 0), (.int .u8 0), (.int .u8 0), (.int .u8 0), (.int .u8 0), (.int .u8 0), (.int .u8 0), (.int .u8 0), (.int .u8 0), (.int .u8 0), (.int .u8 0), (.int .u8 0), (.int .u8 0), (.int .u8 0), (.int .u8 0), (.int .u8 0), (.int .u8 0), (.int .u8 0), (.int .u8 0), (.int .u8 0), (.int .u8 0), (.int .u8 0), (.int .u8 0), (.int .u8 0), (.int .u8 0), (.int .u8 0), (.int .u8 0), (.int .u8 0), (.int .u8 0), (.int .u8 0), (.int .u8 0), (.int .u8 0), (.int .u8 0), (.int .u8 0), (.int .u8 0), (.int .u8 0), (.int .u8 0), (.int .u8 0), (.int .u8 0), (.int .u8 0), (.int .u8 0), (.int .u8 0), (.int .u8 0), (.int .u8 0), (.int .u8 0), (.int .u8 0), (.int .u8 0), (.int .u8 0), (.int .u8 0), (.int .u8 0), (.int .u8 0), (.int .u8 0), (.int .u8 0), (.int .u8 0), (.int .u8 0), (.int .u8 0), (.int .u8 0), (.int .u8 0), (.int .u8 0), (.int .u8 0), (.int .u8 0), (.int .u8 0), (.int .u8 0), (.int .u8 0), (.int .u8 0), (.int .u8 0), (.int .u8 0), (.int .u8 0), (.int .u8 0), (.int .u8 0), (.int .u8 0), (.int .u8 0), (.int .u8 0), (.int .u8 0), (.int .u8 0), (.int .u8 0), (.int .u8 0), (.int .u8 0), (.int .u8 0), (.int .u8 0), (.int .u8 0), (.int .u8 0), (.int .u8 0), (.int .u8 0), (.int .u8 0), (.int .u8 0), (.int .u8 0), (.int .u8 0), (.int .u8 0), (.int .u8 0), (.int .u8 0), (.int .u8 0), (.int .u8 0), (.int .u8 0), (.int .u8 0), (.int .u8 0), (.int .u8 0), (.int .u8 0), (.int .u8 0), (.int .u8 0), (.int .u8 0), (.int .u8 0), (.int .u8 0), (.int .u8 0), (.int .u8 0), (.int .u8 0), (.int .u8 0), (.int .u8 0), (.int .u8 0), (.int .u8 0), (.int .u8 0), (.int .u8 0), (.int .u8 0), (.int .u8 0), (.int .u8 0), (.int .u8 0), (.int .u8 0), (.int .u8 0), (.int .u8 0), (.int .u8 0), (.int .u8 0), (.int .u8 0), (.int .u8 0), (.int .u8 0), (.int .u8 0), (.int .u8 0), (.int .u8 0), (.int .u8 0), (.int .u8 0), (.int .u8 0), (.int .u8 0), (.int .u8 0), (.int .u8 0), (.int .u8 0), (.int .u8 0), (.int .u8 0), (.int .u8 0), (.int .u8 0), (.int .u8 0), (.int .u8 0), (.int .u8 0), (.int .u8 0), (.int .u8 0), (.int .u8 0), (.int .u8 0), (.int .u8 0), (.int .u8 0), (.int .u8 0), (.int .u8 0), (.int .u8 0), (.int .u8 0), (.int .u8 0), (.int .u8 0), (.int .u8 0), (.int .u8 0), (.int .u8 0), (.int .u8 0), (.int .u8 0), (.int .u8 0), (.int .u8 0), (.int .u8 0), (.int .u8 0), (.int .u8 0), (.int .u8 0), (.int .u8 0), (.int .u8 0), (.int .u8 0), (.int .u8 0), (.int .u8 0), (.int .u8 0), (.int .u8 0), (.int .u8 0), (.int .u8 0), (.int .u8 0), (.int .u8 0), (.int .u8 0), (.int .u8 0), (.int .u8 0), (.int .u8 0), (.int .u8 0), (.int .u8 0), (.int .u8 0), (.int .u8 0), (.int .u8 0), (.int .u8 0), (.int .u8 0), (.int .u8 0), (.int .u8 0), (.int .u8 0), (.int .u8 0), (.int .u8 0), (.int .u8 0), (.int .u8 0), (.int .u8 0), (.int .u8 0), (.int .u8 0), (.int .u8 0), (.int .u8 0), (.int .u8 0), (.int .u8 0), (.int .u8 0), (.int .u8 0), (.int .u8 0), (.int .u8 0), (.int .u8 0), (.int .u8 0), (.int .u8 0), (.int .u8 0), (.int .u8 0), (.int .u8 0), (.int .u8 0), (.int .u8 0), (.int .u8 0), (.int .u8 0), (.int .u8 0), (.int .u8 0), (.int .u8 0), (.int .u8 0), (.int .u8 0), (.int .u8 0), (.int .u8 0), (.int .u8 0), (.int .u8 0), (.int .u8 0), (.int .u8 0), (.int .u8 0), (.int .u8 0), (.int .u8 0), (.int .u8 0), (.int .u8 0), (.int .u8 0), (.int .u8 0), (.int .u8 0), (.int .u8 0), (.int .u8 0), (.int .u8 0), (.int .u8 0), (.int .u8 0), (.int .u8 0), (.int .u8 0), (.int .u8 0), (.int .u8 0), (.int .u8 0), (.int .u8 0), (.int .u8 0), (.int .u8 0), (.int .u8 0), (.int .u8 0), (.int .u8 0), (.int .u8 0), (.int .u8 0), (.int .u8 0), (.int .u8 0), (.int .u8 0), (.int .u8 0)]), none⟩, ⟨none, (.store 256 (.t 6) (.t 60)), none⟩] (some [3, 6])) (.seq (.seq (.region [⟨(some 61), (.mv (.c (.int .i64 0))), none⟩] (some [3, 6, 61])) (.block 2 (.loop (.seq (.region [⟨(some 62), (.bin .lss (.t 61) (.c (.int .i64 256))), none⟩] (some [3, 6, 61, 62])) (.seq (.cond (.t 62) (some [3, 6, 61]) .skip (.exit 2)) (.seq (.block 3 (.seq (.region [⟨(some 63), (.mv (.t 61)), none⟩, ⟨(some 7), (.mv (.t 63)), none⟩] (some [3, 6, 7, 61])) (.region [⟨(some 64), (.mv (.t 7)), none⟩, ⟨(some 65), (.mv (.t 7)), none⟩, ⟨(some 66), (.i2i .u8 (.t 65)), none⟩, ⟨(some 67), (.iaddrA 1 256 (.t 6) (.t 64)), none⟩, ⟨none, (.store 1 (.t 67) (.t 66)), none⟩] (some [3, 6, 61])))) (.region [⟨(some 68), (.bin .add (.t 61) (.c (.int .i64 1))), none⟩, ⟨(some 61), (.mv (.t 68)), none⟩] (some [3, 6, 61])))))))) (.seq (.seq (.region [⟨(some 69), (.mv (.t 3)), none⟩, ⟨(some 70), (.len false (.t 69)), none⟩, ⟨(some 71), (.bin .sub (.t 70) (.c (.int .i64 2))), none⟩, ⟨(some 8), (.mv (.t 71)), none⟩] (some [3, 6, 8])) (.block 4 (.loop (.seq (.seq (.region [⟨(some 72), (.mv (.t 8)), none⟩, ⟨(some 73), (.bin .geq (.t 72) (.c (.int .i64 0))), none⟩] (some [3, 6, 8, 73])) (.cond (.t 73) (some [3, 6, 8]) .skip (.exit 4))) (.seq (.block 5 (.seq (.region [⟨(some 76), (.mv (.t 3)), none⟩, ⟨(some 77), (.mv (.t 8)), none⟩, ⟨(some 78), (.iaddr 1 (.t 76) (.t 77)), none⟩, ⟨(some 79), (.load false 1 (.t 78)), none⟩, ⟨(some 80), (.idxs (.t 79) (.c (.int .i64 0))), none⟩, ⟨(some 9), (.mv (.t 80)), none⟩] (some [3, 6, 8, 9])) (.seq (.region [⟨(some 81), (.mv (.t 3)), none⟩, ⟨(some 82), (.mv (.t 8)), none⟩, ⟨(some 83), (.bin .add (.t 82) (.c (.int .i64 1))), none⟩, ⟨(some 84), (.iaddr 1 (.t 81) (.t 83)), none⟩, ⟨(some 85), (.load false 1 (.t 84)), none⟩, ⟨(some 86), (.idxs (.t 85) (.c (.int .i64 0))), none⟩, ⟨(some 10), (.mv (.t 86)), none⟩] (some [3, 6, 8, 9, 10])) (.region [⟨(some 87), (.mv (.t 9)), none⟩, ⟨(some 88), (.mv (.t 10)), none⟩, ⟨(some 89), (.iaddrA 1 256 (.t 6) (.t 87)), none⟩, ⟨none, (.store 1 (.t 89) (.t 88)), none⟩] (some [3, 6, 8]))))) (.region [⟨(some 74), (.mv (.t 8)), none⟩, ⟨(some 75), (.bin .sub (.t 74) (.c (.int .i64 2))), none⟩, ⟨(some 8), (.mv (.t 75)), none⟩] (some [3, 6, 8]))))))) (.seq (.region [⟨(some 90), (.mkif 124 (.t 6)), none⟩, ⟨(some 2), (.mv (.t 90)), none⟩] (some [2])) .ret)))) .skip)) (.seq (.region [⟨(some 91), (.mv (.t 3)), none⟩, ⟨(some 92), (.len false (.t 91)), none⟩, ⟨(some 93), (.bin .quo (.t 92) (.c (.int .i64 2))), none⟩, ⟨(some 94), (.mkmsl 1 16 [(.str [])] (.c (.int .i64 0)) (.t 93)), none⟩, ⟨(some 95), (.build [(.slice .nil 0 []), (.slice .nil 0 []), (.slice .nil 0 []), (.slice .nil 0 []), (.slice .nil 0 []), (.slice .nil 0 []), (.slice .nil 0 []), (.slice .nil 0 []), (.slice .nil 0 []), (.slice .nil 0 []), (.slice .nil 0 []), (.slice .nil 0 []), (.slice .nil 0 []), (.slice .nil 0 []), (.slice .nil 0 []), (.slice .nil 0 []), (.slice .nil 0 []), (.slice .nil 0 []), (.slice .nil 0 []), (.slice .nil 0 []), (.slice .nil 0 []), (.slice .nil 0 []), (.slice .nil 0 []), (.slice .nil 0 []), (.slice .nil 0 []), (.slice .nil 0 []), (.slice .nil 0 []), (.slice .nil 0 []), (.slice .nil 0 []), (.slice .nil 0 []), (.slice .nil 0 []), (.slice .nil 0 []), (.slice .nil 0 []), (.slice .nil 0 []), (.slice .nil 0 []), (.slice .nil 0 []), (.slice .nil 0 []), (.slice .nil 0 []), (.slice .nil 0 []), (.slice .nil 0 []), (.slice .nil 0 []), (.slice .nil 0 []), (.slice .nil 0 []), (.slice .nil 0 []), (.slice .nil 0 []), (.slice .nil 0 []), (.slice .nil 0 []), (.slice .nil 0 []), (.slice .nil 0 []), (.slice .nil 0 []), (.slice .nil 0 []), (.slice .nil 0 []), (.slice .nil 0 []), (.slice .nil 0 []), (.slice .nil 0 []), (.slice .nil 0 []), (.slice .nil 0 []), (.slice .nil 0 []), (.slice .nil 0 []), (.slice .nil 0 []), (.slice .nil 0 []), (.slice .nil 0 []), (.slice .nil 0 []), (.slice .nil 0 []), (.slice .nil 0 []), (.slice .nil 0 []), (.slice .nil 0 []), (.slice .nil 0 []), (.slice .nil 0 []), (.slice .nil 0 []), (.slice .nil 0 []), (.slice .nil 0 []), (.slice .nil 0 []), (.slice .nil 0 []), (.slice .nil 0 []), (.slice .nil 0 []), (.slice .nil 0 []), (.slice .nil 0 []), (.slice .nil 0 []), (.slice .nil 0 []), (.slice .nil 0 []), (.slice .nil 0 []), (.slice .nil 0 []), (.slice .nil 0 []), (.slice .nil 0 []), (.slice .nil 0 []), (.slice .nil 0 []), (.slice .nil 0 []), (.slice .nil 0 []), (.slice .nil 0 []), (.slice .nil 0 []), (.slice .nil 0 []), (.slice .nil 0 []), (.slice .nil 0 []), (.slice .nil 0 []), (.slice .nil 0 []), (.slice .nil 0 []), (.slice .nil 0 []), (.slice .nil 0 []), (.slice .nil 0 []), (.slice .nil 0 []), (.slice .nil 0 []), (.slice .nil 0 []), (.slice .nil 0 []), (.slice .nil 0 []), (.slice .nil 0 []), (.slice .nil 0 []), (.slice .nil 0 []), (.slice .nil 0 []), (.slice .nil 0 []), (.slice .nil 0 []), (.slice .nil 0 []), (.slice .nil 0 []), (.slice .nil 0 []), (.slice .nil 0 []), (.slice .nil 0 []), (.slice .nil 0 []), (.slice .nil 0 []), (.slice .nil 0 []), (.slice .nil 0 []), (.slice .nil 0 []), (.slice .nil 0 []), (.slice .nil 0 []), (.slice .nil 0 []), (.slice .nil 0 []), (.slice .nil 0 []), (.slice .nil 0 []), (.slice .nil 0 []), (.slice .nil 0 []), (.slice .nil 0 []), (.slice .nil 0 []), (.slice .nil 0 []), (.slice .nil 0 []), (.slice .nil 0 []), (.slice .nil 0 []), (.slice .nil 0 []), (.slice .nil 0 []), (.slice .nil 0 []), (.slice .nil 0 []), (.slice .nil 0 []), (.slice .nil 0 []), (.slice .nil 0 []), (.slice .nil 0 []), (.slice .nil 0 []), (.slice .nil 0 []), (.slice .nil 0 []), (.slice .nil 0 []), (.slice .nil 0 []), (.slice .nil 0 []), (.slice .nil 0 []), (.slice .nil 0 []), (.slice .nil 0 []), (.slice .nil 0 []), (.slice .nil 0 []), (.slice .nil 0 []), (.slice .nil 0 []), (.slice .nil 0 []), (.slice .nil 0 []), (.slice .nil 0 []), (.slice .nil 0 []), (.slice .nil 0 []), (.slice .nil 0 []), (.slice .nil 0 []), (.slice .nil 0 []), (.slice .nil 0 []), (.slice .nil 0 []), (.slice .nil 0 []), (.slice .nil 0 []), (.slice .nil 0 []), (.slice .nil 0 []), (.slice .nil 0 []), (.slice .nil 0 []), (.slice .nil 0 []), (.slice .nil 0 []), (.slice .nil 0 []), (.slice .nil 0 []), (.slice .nil 0 []), (.slice .nil 0 []), (.slice .nil 0 []), (.slice .nil 0 []), (.slice .nil 0 []), (.slice .nil 0 []), (.slice .nil 0 []), (.slice .nil 0 []), (.slice .nil 0 []), (.slice .nil 0 []), (.slice .nil 0 []), (.slice .nil 0 []), (.slice .nil 0 []), (.slice .nil 0 []), (.slice .nil 0 []), (.slice .nil 0 []), (.slice .nil 0 []), (.slice .nil 0 []), (.slice .nil 0 []), (.slice .nil 0 []), (.slice .nil 0 []), (.slice .nil 0 []), (.slice .nil 0 []), (.slice .nil 0 []), (.slice .nil 0 []), (.slice .nil 0 []), (.slice .nil 0 []), (.slice .nil 0 []), (.slice .nil 0 []), (.slice .nil 0 []), (.slice .nil 0 []), (.slice .nil 0 []), (.slice .nil 0 []), (.slice .nil 0 []), (.slice .nil 0 []), (.slice .nil 0 []), (.slice .nil 0 []), (.slice .nil 0 []), (.slice .nil 0 []), (.slice .nil 0 []), (.slice .nil 0 []), (.slice .nil 0 []), (.slice .nil 0 []), (.slice .nil 0 []), (.slice .nil 0 []), (.slice .nil 0 []), (.slice .nil 0 []), (.slice .nil 0 []), (.slice .nil 0 []), (.slice .nil 0 []), (.slice .nil 0 []), (.slice .nil 0 []), (.slice .nil 0 []), (.slice .nil 0 []), (.slice .nil 0 []), (.slice .nil 0 []), (.slice .nil 0 []), (.slice .nil 0 []), (.slice .nil 0 []), (.slice .nil 0 []), (.slice .nil 0 []), (.slice .nil 0 []), (.slice .nil 0 []), (.slice .nil 0 []), (.slice .nil 0 []), (.slice .nil 0 []), (.slice .nil 0 []), (.slice .nil 0 []), (.slice .nil 0 []), (.slice .nil 0 []), (.slice .nil 0 []), (.slice .nil 0 []), (.slice .nil 0 []), (.slice .nil 0 []), (.slice .nil 0 []), (.slice .nil 0 []), (.slice .nil 0 []), (.slice .nil 0 []), (.slice .nil 0 []), (.slice .nil 0 []), (.slice .nil 0 [])] [(256, (1, (.t 94)))]), none⟩, ⟨(some 11), (.alloc [(.slice .nil 0 []), (.slice .nil 0 []), (.slice .nil 0 []), (.slice .nil 0 []), (.slice .nil 0 []), (.slice .nil 0 []), (.slice .nil 0 []), (.slice .nil 0 []), (.slice .nil 0 []), (.slice .nil 0 []), (.slice .nil 0 []), (.slice .nil 0 []), (.slice .nil 0 []), (.slice .nil 0 []), (.slice .nil 0 []), (.slice .nil 0 []), (.slice .nil 0 []), (.slice .nil 0 []), (.slice .nil 0 []), (.slice .nil 0 []), (.slice .nil 0 []), (.slice .nil 0 []), (.slice .nil 0 []), (.slice .nil 0 []), (.slice .nil 0 []), (.slice .nil 0 []), (.slice .nil 0 []), (.slice .nil 0 []), (.slice .nil 0 []), (.slice .nil 0 []), (.slice .nil 0 []), (.slice .nil 0 []), (.slice .nil 0 []), (.slice .nil 0 []), (.slice .nil 0 []), (.slice .nil 0 []), (.slice .nil 0 []), (.slice .nil 0 []), (.slice .nil 0 []), (.slice .nil 0 []), (.slice .nil 0 []), (.slice .nil 0 []), (.slice .nil 0 []), (.slice .nil 0 []), (.slice .nil 0 []), (.slice .nil 0 []), (.slice .nil 0 []), (.slice .nil 0 []), (.slice .nil 0 []), (.slice .nil 0 []), (.slice .nil 0 []), (.slice .nil 0 []), (.slice .nil 0 []), (.slice .nil 0 []), (.slice .nil 0 []), (.slice .nil 0 []), (.slice .nil 0 []), (.slice .nil 0 []), (.slice .nil 0 []), (.slice .nil 0 []), (.slice .nil 0 []), (.slice .nil 0 []), (.slice .nil 0 []), (.slice .nil 0 []), (.slice .nil 0 []), (.slice .nil 0 []), (.slice .nil 0 []), (.slice .nil 0 []), (.slice .nil 0 []), (.slice .nil 0 []), (.slice .nil 0 []), (.slice .nil 0 []), (.slice .nil 0 []), (.slice .nil 0 []), (.slice .nil 0 []), (.slice .nil 0 []), (.slice .nil 0 []), (.slice .nil 0 []), (.slice .nil 0 []), (.slice .nil 0 []), (.slice .nil 0 []), (.slice .nil 0 []), (.slice .nil 0 []), (.slice .nil 0 []), (.slice .nil 0 []), (.slice .nil 0 []), (.slice .nil 0 []), (.slice .nil 0 []), (.slice .nil 0 []), (.slice .nil 0 []), (.slice .nil 0 []), (.slice .nil 0 []), (.slice .nil 0 []), (.slice .nil 0 []), (.slice .nil 0 []), (.slice .nil 0 []), (.slice .nil 0 []), (.slice .nil 0 []), (.slice .nil 0 []), (.slice .nil 0 []), (.slice .nil 0 []), (.slice .nil 0 []), (.slice .nil 0 []), (.slice .nil 0 []), (.slice .nil 0 []), (.slice .nil 0 []), (.slice .nil 0 []), (.slice .nil 0 []), (.slice .nil 0 []), (.slice .nil 0 []), (.slice .nil 0 []), (.slice .nil 0 []), (.slice .nil 0 []), (.slice .nil 0 []), (.slice .nil 0 []), (.slice .nil 0 []), (.slice .nil 0 []), (.slice .nil 0 []), (.slice .nil 0 []), (.slice .nil 0 []), (.slice .nil 0 []), (.slice .nil 0 []), (.slice .nil 0 []), (.slice .nil 0 []), (.slice .nil 0 []), (.slice .nil 0 []), (.slice .nil 0 []), (.slice .nil 0 []), (.slice .nil 0 []), (.slice .nil 0 []), (.slice .nil 0 []), (.slice .nil 0 []), (.slice .nil 0 []), (.slice .nil 0 []), (.slice .nil 0 []), (.slice .nil 0 []), (.slice .nil 0 []), (.slice .nil 0 []), (.slice .nil 0 []), (.slice .nil 0 []), (.slice .nil 0 []), (.slice .nil 0 []), (.slice .nil 0 []), (.slice .nil 0 []), (.slice .nil 0 []), (.slice .nil 0 []), (.slice .nil 0 []), (.slice .nil 0 []), (.slice .nil 0 []), (.slice .nil 0 []), (.slice .nil 0 []), (.slice .nil 0 []), (.slice .nil 0 []), (.slice .nil 0 []), (.slice .nil 0 []), (.slice .nil 0 []), (.slice .nil 0 []), (.slice .nil 0 []), (.slice .nil 0 []), (.slice .nil 0 []), (.slice .nil 0 []), (.slice .nil 0 []), (.slice .nil 0 []), (.slice .nil 0 []), (.slice .nil 0 []), (.slice .nil 0 []), (.slice .nil 0 []), (.slice .nil 0 []), (.slice .nil 0 []), (.slice .nil 0 []), (.slice .nil 0 []), (.slice .nil 0 []), (.slice .nil 0 []), (.slice .nil 0 []), (.slice .nil 0 []), (.slice .nil 0 []), (.slice .nil 0 []), (.slice .nil 0 []), (.slice .nil 0 []), (.slice .nil 0 []), (.slice .nil 0 []), (.slice .nil 0 []), (.slice .nil 0 []), (.slice .nil 0 []), (.slice .nil 0 []), (.slice .nil 0 []), (.slice .nil 0 []), (.slice .nil 0 []), (.slice .nil 0 []), (.slice .nil 0 []), (.slice .nil 0 []), (.slice .nil 0 []), (.slice .nil 0 []), (.slice .nil 0 []), (.slice .nil 0 []), (.slice .nil 0 []), (.slice .nil 0 []), (.slice .nil 0 []), (.slice .nil 0 []), (.slice .nil 0 []), (.slice .nil 0 []), (.slice .nil 0 []), (.slice .nil 0 []), (.slice .nil 0 []), (.slice .nil 0 []), (.slice .nil 0 []), (.slice .nil 0 []), (.slice .nil 0 []), (.slice .nil 0 []), (.slice .nil 0 []), (.slice .nil 0 []), (.slice .nil 0 []), (.slice .nil 0 []), (.slice .nil 0 []), (.slice .nil 0 []), (.slice .nil 0 []), (.slice .nil 0 []), (.slice .nil 0 []), (.slice .nil 0 []), (.slice .nil 0 []), (.slice .nil 0 []), (.slice .nil 0 []), (.slice .nil 0 []), (.slice .nil 0 []), (.slice .nil 0 []), (.slice .nil 0 []), (.slice .nil 0 []), (.slice .nil 0 []), (.slice .nil 0 []), (.slice .nil 0 []), (.slice .nil 0 []), (.slice .nil 0 []), (.slice .nil 0 []), (.slice .nil 0 []), (.slice .nil 0 []), (.slice .nil 0 []), (.slice .nil 0 []), (.slice .nil 0 []), (.slice .nil 0 []), (.slice .nil 0 []), (.slice .nil 0 []), (.slice .nil 0 []), (.slice .nil 0 []), (.slice .nil 0 []), (.slice .nil 0 []), (.slice .nil 0 []), (.slice .nil 0 []), (.slice .nil 0 []), (.slice .nil 0 []), (.slice .nil 0 []), (.slice .nil 0 []), (.slice .nil 0 []), (.slice .nil 0 []), (.slice .nil 0 []), (.slice .nil 0 []), (.slice .nil 0 []), (.slice .nil 0 [])]), none⟩, ⟨none, (.store 257 (.t 11) (.t 95)), none⟩] (some [3, 11])) (.seq (.seq (.region [⟨(some 96), (.mv (.t 3)), none⟩, ⟨(some 97), (.len false (.t 96)), none⟩, ⟨(some 98), (.bin .sub (.t 97) (.c (.int .i64 2))), none⟩, ⟨(some 12), (.mv (.t 98)), none⟩] (some [3, 11, 12])) (.block 6 (.loop (.seq (.seq (.region [⟨(some 99), (.mv (.t 12)), none⟩, ⟨(some 100), (.bin .geq (.t 99) (.c (.int .i64 0))), none⟩] (some [3, 11, 12, 100])) (.cond (.t 100) (some [3, 11, 12]) .skip (.exit 6))) (.seq (.block 7 (.seq (.region [⟨(some 103), (.mv (.t 3)), none⟩, ⟨(some 104), (.mv (.t 12)), none⟩, ⟨(some 105), (.iaddr 1 (.t 103) (.t 104)), none⟩, ⟨(some 106), (.load false 1 (.t 105)), none⟩, ⟨(some 107), (.idxs (.t 106) (.c (.int .i64 0))), none⟩, ⟨(some 13), (.mv (.t 107)), none⟩] (some [3, 11, 12, 13])) (.seq (.region [⟨(some 108), (.mv (.t 3)), none⟩, ⟨(some 109), (.mv (.t 12)), none⟩, ⟨(some 110), (.bin .add (.t 109) (.c (.int .i64 1))), none⟩, ⟨(some 111), (.iaddr 1 (.t 108) (.t 110)), none⟩, ⟨(some 112), (.load false 1 (.t 111)), none⟩, ⟨(some 14), (.mv (.t 112)), none⟩] (some [3, 11, 12, 13, 14])) (.seq (.seq (.region [⟨(some 113), (.mv (.t 13)), none⟩, ⟨(some 114), (.faddr 0 (.t 11)), none⟩, ⟨(some 115), (.iaddrA 1 256 (.t 114) (.t 113)), none⟩, ⟨(some 116), (.load false 1 (.t 115)), none⟩, ⟨(some 117), (.eqn false (.t 116) (.c (.slice .nil 0 []))), none⟩] (some [3, 11, 12, 13, 14, 117])) (.cond (.t 117) (some [3, 11, 12, 13, 14]) (.region [⟨(some 118), (.faddr 256 (.t 11)), none⟩, ⟨(some 119), (.load false 1 (.t 118)), none⟩, ⟨(some 120), (.mv (.t 13)), none⟩, ⟨(some 121), (.mkslice 1 [(.t 120)]), none⟩, ⟨(some 122), (.b2s (.t 121)), none⟩, ⟨(some 123), (.mkslice 1 [(.t 122)]), none⟩, ⟨(some 124), (.append 1 16 (.t 119) (.t 123)), none⟩, ⟨(some 125), (.faddr 256 (.t 11)), none⟩, ⟨none, (.store 1 (.t 125) (.t 124)), none⟩] (some [3, 11, 12, 13, 14])) .skip)) (.region [⟨(some 126), (.mv (.t 13)), none⟩, ⟨(some 127), (.mv (.t 14)), none⟩, ⟨(some 128), (.s2b (.t 127)), none⟩, ⟨(some 129), (.faddr 0 (.t 11)), none⟩, ⟨(some 130), (.iaddrA 1 256 (.t 129) (.t 126)), none⟩, ⟨none, (.store 1 (.t 130) (.t 128)), none⟩] (some [3, 11, 12])))))) (.region [⟨(some 101), (.mv (.t 12)), none⟩, ⟨(some 102), (.bin .sub (.t 101) (.c (.int .i64 2))), none⟩, ⟨(some 12), (.mv (.t 102)), none⟩] (some [3, 11, 12]))))))) (.seq (.region [⟨(some 131), (.mkif 128 (.t 11)), none⟩, ⟨(some 2), (.mv (.t 131)), none⟩] (some [2])) .ret)))))))))
theorem code59 : IsCode Tryz.prog 59 sc59 [(2, none)] 132 := .mk' Tryz.func59 (by kernel_rfl) (by kernel_rfl) (by kernel_rfl) (by kernel_rfl)
/-- (*sync.Mutex).Lock -/
def sc74 : SC := (.region [⟨(some 2), (.mv (.t 0)), none⟩, ⟨(some 3), (.nilchk (.t 2)), none⟩, ⟨(some 4), (.faddr 0 (.t 3)), none⟩, ⟨(some 5), (.call 93 [(.t 4)]), none⟩] (some []))
theorem code74 : IsCode Tryz.prog 74 sc74 [] 6 := .mk' Tryz.func74 (by kernel_rfl) (by kernel_rfl) (by kernel_rfl) (by kernel_rfl)
/-- (*sync.Mutex).Unlock -/
def sc75 : SC := (.region [⟨(some 2), (.mv (.t 0)), none⟩, ⟨(some 3), (.nilchk (.t 2)), none⟩, ⟨(some 4), (.faddr 0 (.t 3)), none⟩, ⟨(some 5), (.call 94 [(.t 4)]), none⟩] (some []))
theorem code75 : IsCode Tryz.prog 75 sc75 [] 6 := .mk' Tryz.func75 (by kernel_rfl) (by kernel_rfl) (by kernel_rfl) (by kernel_rfl)
/-- (*sync/atomic.Bool).Store -/
def sc76 : SC := (.region [⟨(some 4), (.mv (.t 0)), none⟩, ⟨(some 5), (.nilchk (.t 4)), none⟩, ⟨(some 6), (.faddr 0 (.t 5)), none⟩, ⟨(some 7), (.mv (.t 1)), none⟩, ⟨(some 8), (.call 96 [(.t 7)]), none⟩, ⟨(some 9), (.call 95 [(.t 6), (.t 8)]), none⟩] (some []))
theorem code76 : IsCode Tryz.prog 76 sc76 [] 10 := .mk' Tryz.func76 (by kernel_rfl) (by kernel_rfl) (by kernel_rfl) (by kernel_rfl)
/-- (*internal/sync.Mutex).Lock -/
def sc93 : SC := (.seq (.region [⟨(some 2), (.call 109 []), none⟩] (some [0])) (.seq (.seq (.region [⟨(some 3), (.mv (.t 0)), none⟩, ⟨(some 4), (.nilchk (.t 3)), none⟩, ⟨(some 5), (.faddr 0 (.t 4)), none⟩, ⟨(some 6), (.call 110 [(.t 5), (.c (.int .i32 0)), (.c (.int .i32 1))]), none⟩] (some [0, 6])) (.cond (.t 6) (some [0]) (.seq (.cond (.c (.bool true)) (some [0]) (.seq (.region [⟨(some 7), (.call 111 []), none⟩] (some [0])) (.region [⟨(some 8), (.mv (.t 0)), none⟩, ⟨(some 9), (.conv2u (.t 8)), none⟩, ⟨(some 10), (.call 112 [(.t 9)]), none⟩] (some []))) .skip) .ret) .skip)) (.region [⟨(some 11), (.mv (.t 0)), none⟩, ⟨(some 12), (.call 113 [(.t 11)]), none⟩] (some []))))
theorem code93 : IsCode Tryz.prog 93 sc93 [] 13 := .mk' Tryz.func93 (by kernel_rfl) (by kernel_rfl) (by kernel_rfl) (by kernel_rfl)
/-- (*internal/sync.Mutex).Unlock -/
def sc94 : SC := (.seq (.cond (.c (.bool true)) (some [0]) (.seq (.region [⟨(some 3), (.mv (.t 0)), none⟩, ⟨(some 4), (.nilchk (.t 3)), none⟩, ⟨(some 5), (.faddr 0 (.t 4)), none⟩, ⟨(some 6), (.load false 1 (.t 5)), none⟩] (some [0])) (.seq (.region [⟨(some 7), (.mv (.t 0)), none⟩, ⟨(some 8), (.conv2u (.t 7)), none⟩, ⟨(some 9), (.call 114 [(.t 8)]), none⟩] (some [0])) (.region [⟨(some 10), (.call 109 []), none⟩] (some [0])))) .skip) (.seq (.region [⟨(some 11), (.mv (.t 0)), none⟩, ⟨(some 12), (.nilchk (.t 11)), none⟩, ⟨(some 13), (.faddr 0 (.t 12)), none⟩, ⟨(some 14), (.call 115 [(.t 13), (.c (.int .i32 (-1)))]), none⟩, ⟨(some 2), (.mv (.t 14)), none⟩] (some [0, 2])) (.seq (.seq (.region [⟨(some 15), (.mv (.t 2)), none⟩, ⟨(some 16), (.bin .neq (.t 15) (.c (.int .i32 0))), none⟩] (some [0, 2, 16])) (.cond (.t 16) (some [0, 2]) (.region [⟨(some 17), (.mv (.t 0)), none⟩, ⟨(some 18), (.mv (.t 2)), none⟩, ⟨(some 19), (.call 116 [(.t 17), (.t 18)]), none⟩] (some [])) .skip)) (.region [⟨(some 20), (.call 111 []), none⟩] (some [])))))
theorem code94 : IsCode Tryz.prog 94 sc94 [] 21 := .mk' Tryz.func94 (by kernel_rfl) (by kernel_rfl) (by kernel_rfl) (by kernel_rfl)
/-- sync/atomic.b32 -/
def sc96 : SC := (.seq (.region [⟨(some 2), (.mv (.c (.int .u32 0))), none⟩] (some [0])) (.seq (.seq (.region [⟨(some 3), (.mv (.t 0)), none⟩] (some [3])) (.cond (.t 3) (some []) (.seq (.region [⟨(some 2), (.mv (.c (.int .u32 1))), none⟩] (some [2])) .ret) .skip)) (.seq (.region [⟨(some 2), (.mv (.c (.int .u32 0))), none⟩] (some [2])) .ret)))
theorem code96 : IsCode Tryz.prog 96 sc96 [(2, none)] 4 := .mk' Tryz.func96 (by kernel_rfl) (by kernel_rfl) (by kernel_rfl) (by kernel_rfl)
/-- (*strings.byteStringReplacer).Replace -/
def sc153 : SC := (.seq (.region [⟨(some 4), (.mv (.c (.str []))), none⟩] (some [0, 1])) (.seq (.region [⟨(some 16), (.mv (.t 1)), none⟩, ⟨(some 17), (.len true (.t 16)), none⟩, ⟨(some 5), (.mv (.t 17)), none⟩] (some [0, 1, 5])) (.seq (.region [⟨(some 6), (.mv (.c (.bool false))), none⟩] (some [0, 1, 5, 6])) (.seq (.seq (.region [⟨(some 18), (.mv (.t 0)), none⟩, ⟨(some 19), (.nilchk (.t 18)), none⟩, ⟨(some 20), (.faddr 256 (.t 19)), none⟩, ⟨(some 21), (.load false 1 (.t 20)), none⟩, ⟨(some 22), (.len false (.t 21)), none⟩, ⟨(some 23), (.bin .mul (.t 22) (.c (.int .i64 8))), none⟩, ⟨(some 24), (.mv (.t 1)), none⟩, ⟨(some 25), (.len true (.t 24)), none⟩, ⟨(some 26), (.bin .leq (.t 23) (.t 25)), none⟩] (some [0, 1, 5, 6, 26])) (.cond (.t 26) (some [0, 1, 5, 6]) (.seq (.region [⟨(some 27), (.mv (.t 0)), none⟩, ⟨(some 28), (.nilchk (.t 27)), none⟩, ⟨(some 29), (.faddr 256 (.t 28)), none⟩, ⟨(some 30), (.load false 1 (.t 29)), none⟩, ⟨(some 31), (.len false (.t 30)), none⟩, ⟨(some 32), (.mv (.c (.int .i64 0))), none⟩] (some [0, 1, 5, 6, 30, 31, 32])) (.block 0 (.loop (.seq (.region [⟨(some 33), (.bin .lss (.t 32) (.t 31)), none⟩] (some [0, 1, 5, 6, 30, 31, 32, 33])) (.seq (.cond (.t 33) (some [0, 1, 5, 6, 30, 31, 32]) .skip (.exit 0)) (.seq (.block 1 (.seq (.region [⟨(some 34), (.iaddr 1 (.t 30) (.t 32)), none⟩, ⟨(some 35), (.load false 1 (.t 34)), none⟩, ⟨(some 8), (.mv (.t 35)), none⟩] (some [0, 1, 5, 6, 8, 30, 31, 32])) (.seq (.region [⟨(some 36), (.mv (.t 1)), none⟩, ⟨(some 37), (.mv (.t 8)), none⟩, ⟨(some 38), (.call 155 [(.t 36), (.t 37)]), none⟩, ⟨(some 9), (.mv (.t 38)), none⟩] (some [0, 1, 5, 6, 8, 9, 30, 31, 32])) (.seq (.region [⟨(some 39), (.mv (.t 9)), none⟩, ⟨(some 40), (.bin .neq (.t 39) (.c (.int .i64 0))), none⟩] (some [0, 1, 5, 6, 8, 9, 30, 31, 32, 40])) (.cond (.t 40) (some [0, 1, 5, 6, 8, 9, 30, 31, 32]) (.seq (.region [⟨(some 41), (.mv (.t 5)), none⟩, ⟨(some 42), (.mv (.t 9)), none⟩, ⟨(some 43), (.mv (.t 0)), none⟩, ⟨(some 44), (.mv (.t 8)), none⟩, ⟨(some 45), (.idxs (.t 44) (.c (.int .i64 0))), none⟩, ⟨(some 46), (.nilchk (.t 43)), none⟩, ⟨(some 47), (.faddr 0 (.t 46)), none⟩, ⟨(some 48), (.iaddrA 1 256 (.t 47) (.t 45)), none⟩, ⟨(some 49), (.load false 1 (.t 48)), none⟩, ⟨(some 50), (.len false (.t 49)), none⟩, ⟨(some 51), (.bin .sub (.t 50) (.c (.int .i64 1))), none⟩, ⟨(some 52), (.bin .mul (.t 42) (.t 51)), none⟩, ⟨(some 53), (.bin .add (.t 41) (.t 52)), none⟩, ⟨(some 5), (.mv (.t 53)), none⟩] (some [0, 1, 5, 30, 31, 32])) (.region [⟨(some 6), (.mv (.c (.bool true))), none⟩] (some [0, 1, 5, 6, 30, 31, 32]))) .skip))))) (.region [⟨(some 54), (.bin .add (.t 32) (.c (.int .i64 1))), none⟩, ⟨(some 32), (.mv (.t 54)), none⟩] (some [0, 1, 5, 6, 30, 31, 32])))))))) (.seq (.region [⟨(some 10), (.mv (.c (.int .i64 0))), none⟩] (some [0, 1, 5, 6, 10])) (.block 2 (.loop (.seq (.seq (.region [⟨(some 55), (.mv (.t 10)), none⟩, ⟨(some 56), (.mv (.t 1)), none⟩, ⟨(some 57), (.len true (.t 56)), none⟩, ⟨(some 58), (.bin .lss (.t 55) (.t 57)), none⟩] (some [0, 1, 5, 6, 10, 58])) (.cond (.t 58) (some [0, 1, 5, 6, 10]) .skip (.exit 2))) (.seq (.block 3 (.seq (.region [⟨(some 61), (.mv (.t 1)), none⟩, ⟨(some 62), (.mv (.t 10)), none⟩, ⟨(some 63), (.idxs (.t 61) (.t 62)), none⟩, ⟨(some 11), (.mv (.t 63)), none⟩] (some [0, 1, 5, 6, 10, 11])) (.seq (.region [⟨(some 64), (.mv (.t 0)), none⟩, ⟨(some 65), (.mv (.t 11)), none⟩, ⟨(some 66), (.nilchk (.t 64)), none⟩, ⟨(some 67), (.faddr 0 (.t 66)), none⟩, ⟨(some 68), (.iaddrA 1 256 (.t 67) (.t 65)), none⟩, ⟨(some 69), (.load false 1 (.t 68)), none⟩, ⟨(some 70), (.eqn true (.t 69) (.c (.slice .nil 0 []))), none⟩] (some [0, 1, 5, 6, 10, 11, 70])) (.cond (.t 70) (some [0, 1, 5, 6, 10, 11]) (.seq (.region [⟨(some 71), (.mv (.t 5)), none⟩, ⟨(some 72), (.mv (.t 0)), none⟩, ⟨(some 73), (.mv (.t 11)), none⟩, ⟨(some 74), (.nilchk (.t 72)), none⟩, ⟨(some 75), (.faddr 0 (.t 74)), none⟩, ⟨(some 76), (.iaddrA 1 256 (.t 75) (.t 73)), none⟩, ⟨(some 77), (.load false 1 (.t 76)), none⟩, ⟨(some 78), (.len false (.t 77)), none⟩, ⟨(some 79), (.bin .sub (.t 78) (.c (.int .i64 1))), none⟩, ⟨(some 80), (.bin .add (.t 71) (.t 79)), none⟩, ⟨(some 5), (.mv (.t 80)), none⟩] (some [0, 1, 5, 10])) (.region [⟨(some 6), (.mv (.c (.bool true))), none⟩] (some [0, 1, 5, 6, 10]))) .skip)))) (.region [⟨(some 59), (.mv (.t 10)), none⟩, ⟨(some 60), (.bin .add (.t 59) (.c (.int .i64 1))), none⟩, ⟨(some 10), (.mv (.t 60)), none⟩] (some [0, 1, 5, 6, 10]))))))))) (.seq (.seq (.region [⟨(some 81), (.mv (.t 6)), none⟩, ⟨(some 82), (.un .not (.t 81)), none⟩] (some [0, 1, 5, 82])) (.cond (.t 82) (some [0, 1, 5]) (.seq (.region [⟨(some 83), (.mv (.t 1)), none⟩, ⟨(some 4), (.mv (.t 83)), none⟩] (some [4])) .ret) .skip)) (.seq (.region [⟨(some 84), (.mv (.t 5)), none⟩, ⟨(some 85), (.mkmsl 1 1 [(.int .u8 0)] (.t 84) (.t 84)), none⟩, ⟨(some 12), (.mv (.t 85)), none⟩] (some [0, 1, 12])) (.seq (.region [⟨(some 13), (.mv (.c (.int .i64 0))), none⟩] (some [0, 1, 12, 13])) (.seq (.seq (.region [⟨(some 14), (.mv (.c (.int .i64 0))), none⟩] (some [0, 1, 12, 13, 14])) (.block 4 (.loop (.seq (.seq (.region [⟨(some 86), (.mv (.t 14)), none⟩, ⟨(some 87), (.mv (.t 1)), none⟩, ⟨(some 88), (.len true (.t 87)), none⟩, ⟨(some 89), (.bin .lss (.t 86) (.t 88)), none⟩] (some [0, 1, 12, 13, 14, 89])) (.cond (.t 89) (some [0, 1, 12, 13, 14]) .skip (.exit 4))) (.seq (.block 5 (.seq (.region [⟨(some 92), (.mv (.t 1)), none⟩, ⟨(some 93), (.mv (.t 14)), none⟩, ⟨(some 94), (.idxs (.t 92) (.t 93)), none⟩, ⟨(some 15), (.mv (.t 94)), none⟩] (some [0, 1, 12, 13, 14, 15])) (.seq (.region [⟨(some 95), (.mv (.t 0)), none⟩, ⟨(some 96), (.mv (.t 15)), none⟩, ⟨(some 97), (.nilchk (.t 95)), none⟩, ⟨(some 98), (.faddr 0 (.t 97)), none⟩, ⟨(some 99), (.iaddrA 1 256 (.t 98) (.t 96)), none⟩, ⟨(some 100), (.load false 1 (.t 99)), none⟩, ⟨(some 101), (.eqn true (.t 100) (.c (.slice .nil 0 []))), none⟩] (some [0, 1, 12, 13, 14, 15, 101])) (.cond (.t 101) (some [0, 1, 12, 13, 14, 15]) (.region [⟨(some 102), (.mv (.t 13)), none⟩, ⟨(some 103), (.mv (.t 12)), none⟩, ⟨(some 104), (.mv (.t 13)), none⟩, ⟨(some 105), (.slice 1 (.t 103) (some (.t 104)) none), none⟩, ⟨(some 106), (.mv (.t 0)), none⟩, ⟨(some 107), (.mv (.t 15)), none⟩, ⟨(some 108), (.nilchk (.t 106)), none⟩, ⟨(some 109), (.faddr 0 (.t 108)), none⟩, ⟨(some 110), (.iaddrA 1 256 (.t 109) (.t 107)), none⟩, ⟨(some 111), (.load false 1 (.t 110)), none⟩, ⟨(some 112), (.copy (.t 105) (.t 111)), none⟩, ⟨(some 113), (.bin .add (.t 102) (.t 112)), none⟩, ⟨(some 13), (.mv (.t 113)), none⟩] (some [0, 1, 12, 13, 14])) (.seq (.region [⟨(some 114), (.mv (.t 12)), none⟩, ⟨(some 115), (.mv (.t 13)), none⟩, ⟨(some 116), (.mv (.t 15)), none⟩, ⟨(some 117), (.iaddr 1 (.t 114) (.t 115)), none⟩, ⟨none, (.store 1 (.t 117) (.t 116)), none⟩] (some [0, 1, 12, 13, 14])) (.region [⟨(some 118), (.mv (.t 13)), none⟩, ⟨(some 119), (.bin .add (.t 118) (.c (.int .i64 1))), none⟩, ⟨(some 13), (.mv (.t 119)), none⟩] (some [0, 1, 12, 13, 14]))))))) (.region [⟨(some 90), (.mv (.t 14)), none⟩, ⟨(some 91), (.bin .add (.t 90) (.c (.int .i64 1))), none⟩, ⟨(some 14), (.mv (.t 91)), none⟩] (some [0, 1, 12, 13, 14]))))))) (.seq (.region [⟨(some 120), (.mv (.t 12)), none⟩, ⟨(some 121), (.b2s (.t 120)), none⟩, ⟨(some 4), (.mv (.t 121)), none⟩] (some [4])) .ret)))))))))
theorem code153 : IsCode Tryz.prog 153 sc153 [(4, none)] 122 := .mk' Tryz.func153 (by kernel_rfl) (by kernel_rfl) (by kernel_rfl) (by kernel_rfl)
/-- strings.Count -/
def sc155 : SC := (.seq (.region [⟨(some 4), (.mv (.c (.int .i64 0))), none⟩] (some [0, 1])) (.seq (.seq (.region [⟨(some 7), (.mv (.t 1)), none⟩, ⟨(some 8), (.len true (.t 7)), none⟩, ⟨(some 9), (.bin .eql (.t 8) (.c (.int .i64 0))), none⟩] (some [0, 1, 9])) (.cond (.t 9) (some [0, 1]) (.seq (.region [⟨(some 10), (.mv (.t 0)), none⟩, ⟨(some 11), (.call 156 [(.t 10)]), none⟩, ⟨(some 12), (.bin .add (.t 11) (.c (.int .i64 1))), none⟩, ⟨(some 4), (.mv (.t 12)), none⟩] (some [4])) .ret) .skip)) (.seq (.seq (.region [⟨(some 13), (.mv (.t 1)), none⟩, ⟨(some 14), (.len true (.t 13)), none⟩, ⟨(some 15), (.bin .eql (.t 14) (.c (.int .i64 1))), none⟩] (some [0, 1, 15])) (.cond (.t 15) (some [0, 1]) (.seq (.region [⟨(some 16), (.mv (.t 0)), none⟩, ⟨(some 17), (.mv (.t 1)), none⟩, ⟨(some 18), (.idxs (.t 17) (.c (.int .i64 0))), none⟩, ⟨(some 19), (.call 157 [(.t 16), (.t 18)]), none⟩, ⟨(some 4), (.mv (.t 19)), none⟩] (some [4])) .ret) .skip)) (.seq (.region [⟨(some 5), (.mv (.c (.int .i64 0))), none⟩] (some [0, 1, 5])) (.block 0 (.loop (.block 1 (.seq (.region [⟨(some 20), (.mv (.t 0)), none⟩, ⟨(some 21), (.mv (.t 1)), none⟩, ⟨(some 22), (.call 68 [(.t 20), (.t 21)]), none⟩, ⟨(some 6), (.mv (.t 22)), none⟩] (some [0, 1, 5, 6])) (.seq (.seq (.region [⟨(some 23), (.mv (.t 6)), none⟩, ⟨(some 24), (.bin .eql (.t 23) (.c (.int .i64 (-1)))), none⟩] (some [0, 1, 5, 6, 24])) (.cond (.t 24) (some [0, 1, 5, 6]) (.seq (.region [⟨(some 25), (.mv (.t 5)), none⟩, ⟨(some 4), (.mv (.t 25)), none⟩] (some [4])) .ret) .skip)) (.seq (.region [⟨(some 26), (.mv (.t 5)), none⟩, ⟨(some 27), (.bin .add (.t 26) (.c (.int .i64 1))), none⟩, ⟨(some 5), (.mv (.t 27)), none⟩] (some [0, 1, 5, 6])) (.region [⟨(some 28), (.mv (.t 0)), none⟩, ⟨(some 29), (.mv (.t 6)), none⟩, ⟨(some 30), (.mv (.t 1)), none⟩, ⟨(some 31), (.len true (.t 30)), none⟩, ⟨(some 32), (.bin .add (.t 29) (.t 31)), none⟩, ⟨(some 33), (.cuts (.t 28) (some (.t 32)) none), none⟩, ⟨(some 0), (.mv (.t 33)), none⟩] (some [0, 1, 5]))))))))))))
theorem code155 : IsCode Tryz.prog 155 sc155 [(4, none)] 34 := .mk' Tryz.func155 (by kernel_rfl) (by kernel_rfl) (by kernel_rfl) (by kernel_rfl)
end Go.Shadow.Lex

/- THE SHADOW LOGIC, part 20: the library's own operations on single cells (sync/atomic, internal/race). -/
namespace Go.Shadow
open Go Go.RowKit
section
variable {P : Program} {G : Globs} {w0 w : World} {γ : Gh} {σ : St} {f : FuncId} {fn : Func}

theorem Inv.box_cell (hI : Inv G w0 γ σ w) {b o : Nat} {cs : List V} {v : V} (hb : σ.box b = some cs) (ho : cs[o]? = some v) : ∃ x, w.cell? ⟨b, o, none⟩ = some x ∧ w.frozen? ⟨b, o, none⟩ = false ∧ R w0.heap.size γ w v x := by
  obtain ⟨_, _, h1, vs, ty, hh, hRL⟩ := hI.box b cs hb
  have hlt : o < cs.length := (List.getElem?_eq_some_iff.1 ho).1
  have hvl : o < vs.size := by have := hRL.1; simp at this; omega
  have hR := hRL.2 o v vs[o] ho (by simp [hvl])
  obtain ⟨_, hf, _⟩ := hI.box_set hb hlt hR (h1 o v ho)
  exact ⟨vs[o], by simp [World.cell?, hh, hvl], hf, hR⟩

theorem ext_load (hf : P.funcs[f]? = some fn) (hname : (fn.name == "runtime.NumGoroutine") = false) (hb : fn.body.isNone = true) (hn : Extern.findNext fn = none) (k : IntKind)
    (he : Extern.find fn = some (Extern.Atomic.loadT (.int k))) {b o : Nat} {cs : List V} {n : Int} (hbx : σ.box b = some cs) (ho : cs[o]? = some (.int k n)) :
    SCall P G f [.loc b o] σ fun e σ' => σ' = σ ∧ e = .ret (.int k n) := by
  intro w0 γ w xs hI hRL
  obtain ⟨x, rfl, hx⟩ := hRL.inv1
  cases hx
  obtain ⟨y, hc, _, hy⟩ := hI.box_cell hbx ho
  cases hy
  exact .inr ⟨_, w, run_call_load hf hname hb hn k he hc, γ, σ, .refl _ _ _, hI, .int k n, _, .int _ _, .inl ⟨rfl, rfl, rfl⟩⟩
theorem ext_store (hf : P.funcs[f]? = some fn) (hname : (fn.name == "runtime.NumGoroutine") = false) (hb : fn.body.isNone = true) (hn : Extern.findNext fn = none)
    (he : Extern.find fn = some Extern.Atomic.storeT) {b o : Nat} {cs : List V} {k : IntKind} {y : Int} (hbx : σ.box b = some cs) (ho : o < cs.length) :
    SCall P G f [.loc b o, .int k y] σ fun e σ' => σ' = σ.put b (cs.set o (.int k y)) ∧ e = .ret (.tup []) := by
  intro w0 γ w xs hI hRL
  obtain ⟨x, z, rfl, hx, hz⟩ := hRL.inv2
  cases hx; cases hz
  obtain ⟨⟨u, hc⟩, hfr, hI', hE⟩ := hI.box_set hbx ho (R.int k y) rfl
  exact .inr ⟨_, _, run_call_store hf hname hb hn he hc hfr, γ, _, hE, hI', .tup [], _, .undef, .inl ⟨rfl, rfl, rfl⟩⟩
theorem ext_cas (hf : P.funcs[f]? = some fn) (hname : (fn.name == "runtime.NumGoroutine") = false) (hb : fn.body.isNone = true) (hn : Extern.findNext fn = none) (k : IntKind)
    (he : Extern.find fn = some (Extern.Atomic.casT (.int k))) {b o : Nat} {cs : List V} {n y : Int} (hbx : σ.box b = some cs) (ho : cs[o]? = some (.int k n)) :
    SCall P G f [.loc b o, .int k n, .int k y] σ fun e σ' => σ' = σ.put b (cs.set o (.int k y)) ∧ e = .ret (.bool true) := by
  intro w0 γ w xs hI hRL
  obtain ⟨x, z, u, rfl, hx, hz, hu⟩ := hRL.inv3
  cases hx; cases hz; cases hu
  obtain ⟨q, hc, hfr, hq⟩ := hI.box_cell hbx ho
  cases hq
  obtain ⟨_, _, hI', hE⟩ := hI.box_set hbx (List.getElem?_eq_some_iff.1 ho).1 (R.int k y) rfl
  exact .inr ⟨_, _, run_call_cas_hit hf hname hb hn k he hc hfr, γ, _, hE, hI', .bool true, _, .bool _, .inl ⟨rfl, rfl, rfl⟩⟩
theorem ext_add (hf : P.funcs[f]? = some fn) (hname : (fn.name == "runtime.NumGoroutine") = false) (hb : fn.body.isNone = true) (hn : Extern.findNext fn = none) (k : IntKind)
    (he : Extern.find fn = some (Extern.Atomic.update (Op.intArith .add) k true)) {b o : Nat} {cs : List V} {n y s : Int} (hbx : σ.box b = some cs) (ho : cs[o]? = some (.int k n)) (hs : k.wrap (n + y) = s) :
    SCall P G f [.loc b o, .int k y] σ fun e σ' => σ' = σ.put b (cs.set o (.int k s)) ∧ e = .ret (.int k s) := by
  intro w0 γ w xs hI hRL
  obtain ⟨x, z, rfl, hx, hz⟩ := hRL.inv2
  cases hx; cases hz
  obtain ⟨q, hc, hfr, hq⟩ := hI.box_cell hbx ho
  cases hq
  obtain ⟨_, _, hI', hE⟩ := hI.box_set hbx (List.getElem?_eq_some_iff.1 ho).1 (R.int k s) rfl
  exact .inr ⟨_, _, run_call_add hf hname hb hn k he hc hfr (by subst hs; simp [Op.intArith]), γ, _, hE, hI', .int k s, _, .int _ _, .inl ⟨rfl, rfl, rfl⟩⟩
theorem ext_mark0 (hf : P.funcs[f]? = some fn) (hname : (fn.name == "runtime.NumGoroutine") = false) (hb : fn.body.isNone = true) (hn : Extern.findNext fn = none) (m : Mark)
    (he : Extern.find fn = some (fun _ => do mark m; pure Extern.Race.none_)) : SRet P G f [] (.tup []) := by
  intro σ w0 γ w xs hI hRL
  have hx : xs = #[] := by have := hRL.1; apply Array.eq_empty_of_size_eq_zero; simpa using this.symm
  subst hx
  exact .inr ⟨_, w, run_call_mark0 hf hname hb hn m he w, γ, σ, .refl _ _ _, hI, .tup [], _, .undef, .inl ⟨rfl, rfl, rfl⟩⟩
theorem ext_marked (hf : P.funcs[f]? = some fn) (hname : (fn.name == "runtime.NumGoroutine") = false) (hb : fn.body.isNone = true) (hn : Extern.findNext fn = none) (m : Addr → Mark)
    (he : Extern.find fn = some (Extern.Race.marked m)) (b o : Nat) : SRet P G f [.loc b o] (.tup []) := by
  intro σ w0 γ w xs hI hRL
  obtain ⟨x, rfl, hx⟩ := hRL.inv1
  cases hx
  exact .inr ⟨_, w, run_call_marked hf hname hb hn m he _ w, γ, σ, .refl _ _ _, hI, .tup [], _, .undef, .inl ⟨rfl, rfl, rfl⟩⟩
end
end Go.Shadow

/- Proved: the law LexerFindsPositions returns true, as a shadow contract. Conditions: none but a string's greatest length. -/
namespace Go.Shadow.Lex
open Go Go.RowKit Go.Proofs

theorem put_ne {σ : St} {b b' : Nat} {cs : List V} (h : b' ≠ b) : (σ.put b cs).box b' = σ.box b' := by simp [St.put, h]
theorem over_none {σ σ' : St} (h : Over σ σ') {b : Nat} (hb : σ'.box b = none) : σ.box b = none := by
  cases hbb : σ.box b with
  | none => rfl
  | some cs => rw [h.box b cs hbb] at hb; cases hb

theorem refPosition_ret (l : List UInt8) (k : Int) (hl : l.length ≤ 70000) : SRet Tryz.prog LG 17 [.str l, .int .i64 k] (.agg [.int .i64 (posV l k).1, .int .i64 (posV l k).2]) := by
  intro σ
  refine code17.call hm (by simp) ?_
  intro b4 h4
  obtain ⟨o1, g4⟩ := new_box h4 [.int .i64 0, .int .i64 0]
  generalize σ.put b4 [.int .i64 0, .int .i64 0] = σ1 at *
  have hout : (k < 0 ∨ (l.length : Int) < k) → posV l k = (0, 0) := fun h => if_pos h
  refine Test.split (fun h => ?_) (fun h => ?_)
  · refine Sure.mk' rfl ?_
    refine Store.mk' [.int .i64 0, .int .i64 0] g4 (Nat.le_of_ble_eq_true rfl) rfl (fun σ2 h2 => ?_)
    subst h2
    refine Load.mk' put_box (Nat.le_of_ble_eq_true rfl) ?_
    refine Ret.weak (r := .agg [.int .i64 0, .int .i64 0]) (σ' := σ) (.refl _) (over_put o1 h4) ⟨rfl, ?_⟩
    rw [hout (.inl h)]
  · refine Test.split (fun h5 => ?_) (fun h5 => ?_)
    · refine Sure.mk' rfl ?_
      refine Store.mk' [.int .i64 0, .int .i64 0] g4 (Nat.le_of_ble_eq_true rfl) rfl (fun σ2 h2 => ?_)
      subst h2
      refine Load.mk' put_box (Nat.le_of_ble_eq_true rfl) ?_
      refine Ret.weak (r := .agg [.int .i64 0, .int .i64 0]) (σ' := σ) (.refl _) (over_put o1 h4) ⟨rfl, ?_⟩
      rw [hout (.inr h5)]
    · obtain ⟨n, rfl⟩ : ∃ n : Nat, k = n := ⟨k.toNat, by omega⟩
      have hpos : posV l n = (((lineAt l n : Nat) : Int) + 1, (n : Int) - (firstAt l n : Nat) + 1) := by unfold posV; rw [if_neg (by omega)]; simp
      rw [hpos]
      have hln := lineAt_le l
      have hfn := firstAt_le l
      intro b5 hb5
      have hne : b4 ≠ b5 := by rintro rfl; rw [g4] at hb5; cases hb5
      refine Sure.mk' rfl ?_
      refine Store.mk' [.int .i64 1, .int .i64 1] put_box (Nat.le_of_ble_eq_true rfl) rfl (fun σ2 h2 => ?_)
      rw [put_put] at h2
      refine ⟨fun m sl σ' => ∃ j : Nat, sl = ofL [(0, some (.str l)), (1, some (.int .i64 n)), (4, some (.loc b4 0)), (5, some (.loc b5 0)), (6, some (.int .i64 j))] ∧ Over σ1 σ' ∧ σ'.box b5 = some [.int .i64 ((lineAt l j : Nat) + 1), .int .i64 ((j : Int) - (firstAt l j : Nat) + 1)] ∧ j ≤ n ∧ m = n - j, _,
        ⟨0, rfl, by rw [h2]; exact over_put (.refl _) hb5, by rw [h2]; exact put_box, by omega, rfl⟩, ?_⟩
      rintro m sl σ' ⟨j, rfl, o2, g5, hj, rfl⟩
      have hl1 := hln j
      have hf1 := hfn j
      refine Test.split (fun h6 => ?_) (fun h6 => ?_)
      · refine Load.mk' g5 (Nat.le_of_ble_eq_true rfl) ?_
        refine Arith.i64 ((j : Int) - (firstAt l j : Nat) + 1 + 1) rfl (by omega) ?_
        refine Sure.mk' rfl ?_
        refine Store.mk' [.int .i64 ((lineAt l j : Nat) + 1), .int .i64 ((j : Int) - (firstAt l j : Nat) + 1 + 1)] g5 (Nat.le_of_ble_eq_true rfl) rfl (fun σ3 h3 => ?_)
        have o3 : Over σ1 σ3 := by rw [h3]; exact over_put o2 hb5
        have g5' : σ3.box b5 = some [.int .i64 ((lineAt l j : Nat) + 1), .int .i64 ((j : Int) - (firstAt l j : Nat) + 1 + 1)] := by rw [h3]; exact put_box
        obtain ⟨c, hc⟩ : ∃ c, l[j]? = some c := ⟨l[j]'(by omega), by simp [show j < l.length by omega]⟩
        have h10 : l[j]? = some 10 ↔ c.toNat = 10 := by rw [hc, Option.some.injEq, ← UInt8.toNat_inj]; rfl
        refine Idx.mk' j c rfl hc ?_
        refine Test.split (fun h7 => ?_) (fun h7 => ?_)
        · have h8 : l[j]? = some 10 := h10.2 (by omega)
          refine Load.mk' g5' (Nat.le_of_ble_eq_true rfl) ?_
          refine Arith.i64 (((lineAt l j : Nat) : Int) + 1 + 1) rfl (by omega) ?_
          refine Sure.mk' rfl ?_
          refine Store.mk' [.int .i64 ((lineAt l j : Nat) + 1 + 1), .int .i64 1] g5' (Nat.le_of_ble_eq_true rfl) rfl (fun σ4 h4' => ?_)
          refine Arith.i64 ((j + 1 : Nat) : Int) (by simp) (by omega) ?_
          refine ⟨_, _, ?_, Forget.refl _, j + 1, rfl, by rw [h4']; exact over_put o3 hb5, ?_, by omega, rfl⟩
          · omega
          · rw [h4', put_box]
            simp only [lineAt, firstAt, h8, if_true]
            congr 2
            congr 2
            omega
        · have h8 : ¬ l[j]? = some 10 := fun h => h7 (by have := h10.1 h; omega)
          refine Arith.i64 ((j + 1 : Nat) : Int) (by simp) (by omega) ?_
          refine ⟨_, _, ?_, Forget.refl _, j + 1, rfl, o3, ?_, by omega, rfl⟩
          · omega
          · rw [g5']
            simp only [lineAt, firstAt, h8, if_false]
            congr 2
            congr 2; omega
      · have hjn : j = n := by omega
        subst hjn
        refine Load.mk' g5 (Nat.le_of_ble_eq_true rfl) ?_
        refine Sure.mk' rfl ?_
        refine Store.mk' [.int .i64 ((lineAt l j : Nat) + 1), .int .i64 ((j : Int) - (firstAt l j : Nat) + 1)] (o2.box _ _ g4) (Nat.le_of_ble_eq_true rfl) rfl (fun σ3 h3 => ?_)
        subst h3
        refine Load.mk' put_box (Nat.le_of_ble_eq_true rfl) ?_
        exact Ret.weak (.refl _) (over_put (over_trans o1 o2) h4) ⟨rfl, rfl⟩

theorem law5 (l : List UInt8) (k : Int) (hl : l.length ≤ 9223372036854775807) : SRet Tryz.prog LG 5 [.str l, .int .i64 k] (.bool true) := by
  intro σ
  refine code5.call hm (by simp) ?_
  refine Test.split (fun h => ?_) (fun h => ?_)
  · refine CallK.pure sanity_ret ?_
    exact Ret.mk' ⟨rfl, rfl⟩
  · refine CallK.pure (position_ret l k (by omega)) ?_
    refine CallK.pure sanity_ret ?_
    refine CallK.pure (refPosition_ret l k (by omega)) ?_
    refine BTest.yes (by simp) ?_
    exact Ret.mk' ⟨rfl, rfl⟩
end Go.Shadow.Lex

/- Proved: what strings.NewReplacer of the lexer's three pairs does, up to its table, as shadow contracts. Conditions: none. -/
namespace Go.Shadow.Lex
open Go Go.RowKit Go.Proofs

theorem Load.one {σ : St} {b off : Nat} {K : List V → Prop} {cs : List V} {v : V} (hb : σ.box b = some cs) (hv : cs[off]? = some v) (k : K [v]) : Load σ b off 1 K := by
  obtain ⟨hlt, he⟩ := List.getElem?_eq_some_iff.1 hv
  refine Load.mk' hb (by omega) ?_
  rw [List.drop_eq_getElem_cons hlt, he]
  exact k

/-! ### the lock -/
theorem bload {σ : St} {b o : Nat} {cs : List V} {n : Int} (hb : σ.box b = some cs) (ho : cs[o]? = some (.int .u32 n)) : SCall Tryz.prog LG 57 [.loc b o] σ fun e σ' => σ' = σ ∧ e = .ret (.bool (decide (n ≠ 0))) := by
  refine code57.call hm (by simp) ?_
  refine CallK.mk' (ext_load Tryz.func73 (by kernel_rfl) (by kernel_rfl) (by kernel_rfl) .u32 (by kernel_rfl) hb ho) ?_
  rintro e σ' ⟨rfl, rfl⟩
  refine Test.split (fun h => ?_) (fun h => ?_)
  · exact Ret.mk' ⟨rfl, by simp [h]⟩
  · exact Ret.mk' ⟨rfl, by simp at h; simp [h]⟩
theorem lock93 {σ : St} {b o : Nat} {cs : List V} (hb : σ.box b = some cs) (ho : cs[o]? = some (.int .i32 0)) : SCall Tryz.prog LG 93 [.loc b o] σ fun e σ' => σ' = σ.put b (cs.set o (.int .i32 1)) ∧ e = .ret (.tup []) := by
  have hlt := (List.getElem?_eq_some_iff.1 ho).1
  refine code93.call hm (by simp) ?_
  refine CallK.pure (ext_mark0 Tryz.func109 (by kernel_rfl) (by kernel_rfl) (by kernel_rfl) .disable (by kernel_rfl)) ?_
  refine CallK.mk' (ext_cas Tryz.func110 (by kernel_rfl) (by kernel_rfl) (by kernel_rfl) .i32 (by kernel_rfl) hb ho) ?_
  rintro e σ' ⟨rfl, rfl⟩
  refine CallK.pure (ext_mark0 Tryz.func111 (by kernel_rfl) (by kernel_rfl) (by kernel_rfl) .enable (by kernel_rfl)) ?_
  refine Load.mk' put_box (by simp; omega) ?_
  refine CallK.pure (ext_marked Tryz.func112 (by kernel_rfl) (by kernel_rfl) (by kernel_rfl) .acquire (by kernel_rfl) b o) ?_
  exact Ret.mk' ⟨rfl, rfl⟩
theorem lock74 {σ : St} {b o : Nat} {cs : List V} (hb : σ.box b = some cs) (ho : cs[o]? = some (.int .i32 0)) : SCall Tryz.prog LG 74 [.loc b o] σ fun e σ' => σ' = σ.put b (cs.set o (.int .i32 1)) ∧ e = .ret (.tup []) := by
  refine code74.call hm (by simp) ?_
  refine CallK.mk' (lock93 hb ho) ?_
  rintro e σ' ⟨rfl, rfl⟩
  exact Ret.mk' ⟨rfl, rfl⟩
theorem unlock94 {σ : St} {b o : Nat} {cs : List V} (hb : σ.box b = some cs) (ho : cs[o]? = some (.int .i32 1)) : SCall Tryz.prog LG 94 [.loc b o] σ fun e σ' => σ' = σ.put b (cs.set o (.int .i32 0)) ∧ e = .ret (.tup []) := by
  have hlt := (List.getElem?_eq_some_iff.1 ho).1
  refine code94.call hm (by simp) ?_
  refine Load.one hb ho ?_
  refine Load.mk' hb (by omega) ?_
  refine CallK.pure (ext_marked Tryz.func114 (by kernel_rfl) (by kernel_rfl) (by kernel_rfl) .releaseMerge (by kernel_rfl) b o) ?_
  refine CallK.pure (ext_mark0 Tryz.func109 (by kernel_rfl) (by kernel_rfl) (by kernel_rfl) .disable (by kernel_rfl)) ?_
  refine CallK.mk' (ext_add (s := 0) Tryz.func115 (by kernel_rfl) (by kernel_rfl) (by kernel_rfl) .i32 (by kernel_rfl) hb ho (by decide)) ?_
  rintro e σ' ⟨rfl, rfl⟩
  refine Test.no (by decide) ?_
  refine CallK.pure (ext_mark0 Tryz.func111 (by kernel_rfl) (by kernel_rfl) (by kernel_rfl) .enable (by kernel_rfl)) ?_
  exact Ret.mk' ⟨rfl, rfl⟩
theorem unlock75 {σ : St} {b o : Nat} {cs : List V} (mode : Option V) (hb : σ.box b = some cs) (ho : cs[o]? = some (.int .i32 1)) : SDCall Tryz.prog LG 75 [.loc b o] mode σ fun r σ' => r = false ∧ σ' = σ.put b (cs.set o (.int .i32 0)) := by
  refine SDCall.of_code hm code75 (by simp) ?_
  refine CallK.mk' (unlock94 hb ho) ?_
  rintro e σ' ⟨rfl, rfl⟩
  exact Ret.mk' ⟨⟨_, rfl⟩, rfl, rfl⟩
theorem b32_ret : SRet Tryz.prog LG 96 [.bool true] (.int .u32 1) := by
  intro σ
  refine code96.call hm (by simp) ?_
  exact Ret.mk' ⟨rfl, rfl⟩
theorem store76 {σ : St} {b o : Nat} {cs : List V} (mode : Option V) (hb : σ.box b = some cs) (ho : o < cs.length) : SDCall Tryz.prog LG 76 [.loc b o, .bool true] mode σ fun r σ' => r = false ∧ σ' = σ.put b (cs.set o (.int .u32 1)) := by
  refine SDCall.of_code hm code76 (by simp) ?_
  refine CallK.pure b32_ret ?_
  refine CallK.mk' (ext_store (k := .u32) (y := 1) Tryz.func95 (by kernel_rfl) (by kernel_rfl) (by kernel_rfl) (by kernel_rfl) hb ho) ?_
  rintro e σ' ⟨rfl, rfl⟩
  exact Ret.mk' ⟨⟨_, rfl⟩, rfl, rfl⟩

/-! ### the table -/
def cellOf (m : Nat → Option (List UInt8)) (i : Nat) : V := match m i with
  | some n => .slice .foreign 1 (byteEls n)
  | none => .slice .nil 0 []
def tabOf (m : Nat → Option (List UInt8)) (k : Nat) : List V := (List.range k).map (cellOf m)
theorem tab_length (m : Nat → Option (List UInt8)) (k : Nat) : (tabOf m k).length = k := by simp [tabOf]
theorem tab_get {m : Nat → Option (List UInt8)} {k i : Nat} {r : V} (h : i < k) : (tabOf m k ++ [r])[i]? = some (cellOf m i) := by
  rw [List.getElem?_append_left (by rw [tab_length]; exact h)]
  simp [tabOf, h]
theorem tab_last {m : Nat → Option (List UInt8)} {k : Nat} {r : V} : (tabOf m k ++ [r])[k]? = some r := by
  rw [List.getElem?_append_right (by rw [tab_length]; exact Nat.le_refl _)]
  simp [tab_length]
theorem tab_set {m m' : Nat → Option (List UInt8)} {k i : Nat} {r : V} {n : List UInt8} (h : i < k) (hm : ∀ j, m' j = if j = i then some n else m j) : (tabOf m k ++ [r]).set i (.slice .foreign 1 (byteEls n)) = tabOf m' k ++ [r] := by
  rw [List.set_append_left _ _ (by rw [tab_length]; exact h)]
  congr 1
  apply List.ext_getElem?
  intro j
  rw [List.getElem?_set]
  by_cases hj : i = j
  · subst hj
    simp [tab_length, h]
    simp [tabOf, h, cellOf, hm]
  · simp only [if_neg hj]
    simp only [tabOf, List.getElem?_map]
    by_cases hk : j < k
    · simp [hk, cellOf, hm, Ne.symm hj]
    · simp [hk]
theorem tab_set_last {m : Nat → Option (List UInt8)} {k : Nat} {r r' : V} : (tabOf m k ++ [r]).set k r' = tabOf m k ++ [r'] := by
  rw [List.set_append_right _ _ (by rw [tab_length]; exact Nat.le_refl _)]
  simp [tab_length]
/-- The table behind j pairs, from the last one. -/
def mJ (j : Nat) (i : Nat) : Option (List UInt8) := if i = 10 ∧ 1 ≤ j then some [92, 110] else if i = 92 ∧ 2 ≤ j then some [92, 92] else if i = 34 ∧ 3 ≤ j then some [92, 34] else none
def pairs6 : List (List UInt8) := [[34], [92, 34], [92], [92, 92], [10], [92, 110]]
def reps (j : Nat) : List (List UInt8) := [[10], [92], [34]].take j

theorem mJ_step10 (j : Nat) : mJ 1 j = if j = 10 then some [92, 110] else mJ 0 j := by simp [mJ]
theorem mJ_step92 (j : Nat) : mJ 2 j = if j = 92 then some [92, 92] else mJ 1 j := by
  simp only [mJ]; by_cases h : j = 10 <;> by_cases h2 : j = 92 <;> simp_all
theorem mJ_step34 (j : Nat) : mJ 3 j = if j = 34 then some [92, 34] else mJ 2 j := by
  simp only [mJ]; by_cases h : j = 10 <;> by_cases h2 : j = 92 <;> by_cases h3 : j = 34 <;> simp_all

def BuildPost (σ : St) (e : SEnd) (σ' : St) : Prop := ∃ b2 t', e = .ret (.iface 128 (.loc b2 0)) ∧ Over σ σ' ∧ σ.box b2 = none ∧ σ'.box b2 = some (tabOf (mJ 3) 256 ++ [.slice (.tip t') 1 (strEls (reps 3))])

set_option maxRecDepth 100000 in
set_option maxHeartbeats 4000000 in
theorem build_call {σ : St} {b : Nat} {x0 x1 x2 r : V} {tag : Tag} (hb : σ.box b = some [x0, x1, x2, r, .slice tag 1 (strEls pairs6)]) : SCall Tryz.prog LG 59 [.loc b 0] σ (BuildPost σ) := by
  refine code59.call hm (by simp) ?_
  refine Load.mk' hb (Nat.le_of_ble_eq_true rfl) ?_
  refine Test.no (by decide) ?_
  -- all of one byte
  refine ⟨fun m sl σ' => σ' = σ ∧ ∃ j : Nat, j ≤ 3 ∧ sl = ofL [(3, some (.slice tag 1 (strEls pairs6))), (4, some (.bool (decide (j = 0)))), (5, some (.int .i64 (2 * j : Nat)))] ∧ m = 3 - j, 3, ⟨rfl, 0, by omega, rfl, rfl⟩, ?_⟩
  rintro m sl σ' ⟨rfl, j, hj, rfl, rfl⟩
  have hstep : ∀ j' : Nat, j' < 3 → ∀ (x : List UInt8) (y : List UInt8), pairs6[2 * j']? = some x → pairs6[2 * j' + 1]? = some y → x.length = 1 → y.length = 2 → True := fun _ _ _ _ _ _ _ _ => trivial
  obtain rfl | rfl | rfl | rfl : j = 0 ∨ j = 1 ∨ j = 2 ∨ j = 3 := by omega
  · refine Test.yes (by decide) ?_
    refine Sure.mk' (.inl rfl) ?_
    refine IdxE.mk' 0 _ rfl rfl ?_
    refine ⟨⟨Nat.le_of_ble_eq_true rfl, ?_⟩⟩
    refine Test.no (by decide) ?_
    refine Arith.i64 1 (by decide) (by decide) ?_
    refine Sure.mk' (.inl rfl) ?_
    refine IdxE.mk' 1 _ rfl rfl ?_
    refine ⟨⟨Nat.le_of_ble_eq_true rfl, ?_⟩⟩
    refine Test.yes (by decide) ?_
    refine Arith.i64 2 (by decide) (by decide) ?_
    exact ⟨_, _, by omega, Forget.refl _, rfl, 1, by omega, rfl, rfl⟩
  · refine Test.yes (by decide) ?_
    refine Sure.mk' (.inl rfl) ?_
    refine IdxE.mk' 2 _ rfl rfl ?_
    refine ⟨⟨Nat.le_of_ble_eq_true rfl, ?_⟩⟩
    refine Test.no (by decide) ?_
    refine Arith.i64 3 (by decide) (by decide) ?_
    refine Sure.mk' (.inl rfl) ?_
    refine IdxE.mk' 3 _ rfl rfl ?_
    refine ⟨⟨Nat.le_of_ble_eq_true rfl, ?_⟩⟩
    refine Test.yes (by decide) ?_
    refine Arith.i64 4 (by decide) (by decide) ?_
    exact ⟨_, _, by omega, Forget.refl _, rfl, 2, by omega, rfl, rfl⟩
  · refine Test.yes (by decide) ?_
    refine Sure.mk' (.inl rfl) ?_
    refine IdxE.mk' 4 _ rfl rfl ?_
    refine ⟨⟨Nat.le_of_ble_eq_true rfl, ?_⟩⟩
    refine Test.no (by decide) ?_
    refine Arith.i64 5 (by decide) (by decide) ?_
    refine Sure.mk' (.inl rfl) ?_
    refine IdxE.mk' 5 _ rfl rfl ?_
    refine ⟨⟨Nat.le_of_ble_eq_true rfl, ?_⟩⟩
    refine Test.yes (by decide) ?_
    refine Arith.i64 6 (by decide) (by decide) ?_
    exact ⟨_, _, by omega, Forget.refl _, rfl, 3, by omega, rfl, rfl⟩
  · refine Test.no (by decide) ?_
    -- the table
    refine Sure.mk' (by decide) ?_
    refine Arith.i64 3 (by decide) (by decide) ?_
    refine MkSl.empty (by decide) (by decide) (by decide) (by decide) ?_
    intro t0 ht0
    intro b2 h2
    refine Sure.mk' rfl ?_
    refine Store.mk' (tabOf (mJ 0) 256 ++ [.slice (.tip t0) 1 (strEls (reps 0))]) put_box (Nat.le_of_ble_eq_true rfl) (by kernel_rfl) (fun σ1 e1 => ?_)
    rw [put_put] at e1
    have o1 : Over σ' σ1 := by
      rw [e1]
      exact over_put ⟨fun _ _ h => h, fun t h => by simp [St.on, h]⟩ h2
    have hm1 : Mine σ' σ1 (.tip t0) := by rw [e1]; exact ⟨by simp [St.on, St.put], ht0⟩
    have g1 : σ1.box b2 = some (tabOf (mJ 0) 256 ++ [.slice (.tip t0) 1 (strEls (reps 0))]) := by rw [e1]; exact put_box
    have h2' : σ'.box b2 = none := h2
    clear e1
    refine Arith.i64 4 (by decide) (by decide) ?_
    refine ⟨fun m sl σ2 => ∃ (j t' : Nat), j ≤ 3 ∧ sl = ofL [(3, some (.slice tag 1 (strEls pairs6))), (11, some (.loc b2 0)), (12, some (.int .i64 (4 - 2 * (j : Int))))] ∧ Over σ' σ2 ∧ Mine σ' σ2 (.tip t') ∧ σ2.box b2 = some (tabOf (mJ j) 256 ++ [.slice (.tip t') 1 (strEls (reps j))]) ∧ m = 3 - j, 3,
      ⟨0, t0, by omega, rfl, o1, hm1, g1, rfl⟩, ?_⟩
    rintro m sl σ2 ⟨j, t', hj, rfl, o2, hm2, g2, rfl⟩
    obtain rfl | rfl | rfl | rfl : j = 0 ∨ j = 1 ∨ j = 2 ∨ j = 3 := by omega
    · refine Test.yes (by decide) ?_
      refine Sure.mk' (.inl rfl) ?_
      refine IdxE.mk' 4 _ (by decide) rfl ?_
      refine ⟨⟨Nat.le_of_ble_eq_true rfl, ?_⟩⟩
      refine Idx.mk' 0 10 rfl rfl ?_
      refine Arith.i64 5 (by decide) (by decide) ?_
      refine Sure.mk' (.inl rfl) ?_
      refine IdxE.mk' 5 _ (by decide) rfl ?_
      refine ⟨⟨Nat.le_of_ble_eq_true rfl, ?_⟩⟩
      refine Sure.mk' (by decide) ?_
      refine Load.one g2 (tab_get (by decide)) ?_
      refine Load.one g2 tab_last ?_
      refine Sure.mk' (.inl rfl) ?_
      refine B2S.mk' (l := [10]) ?_
      refine App.mk' o2 hm2 (.inr rfl) rfl (by decide) (by decide) (by simp) (fun t2 σ3 o3 hm3 hbox _ => ?_)
      refine Sure.mk' rfl ?_
      refine Store.mk' (tabOf (mJ 0) 256 ++ [.slice (.tip t2) 1 (strEls (reps 1))]) (by rw [hbox]; exact g2) (by simp [tab_length, V.cells]) (by simp only [setL, V.cells]; exact tab_set_last) (fun σ4 e4 => ?_)
      have o4 : Over σ' σ4 := by rw [e4]; exact over_put o3 h2'
      have g4 : σ4.box b2 = some (tabOf (mJ 0) 256 ++ [.slice (.tip t2) 1 (strEls (reps 1))]) := by rw [e4]; exact put_box
      have hm4 : Mine σ' σ4 (.tip t2) := by rw [e4]; exact hm3
      clear e4
      refine Sure.mk' (by decide) ?_
      refine Sure.mk' rfl ?_
      refine Store.mk' (tabOf (mJ 1) 256 ++ [.slice (.tip t2) 1 (strEls (reps 1))]) g4 (by simp [tab_length, V.cells]) (by simp only [setL, V.cells]; exact tab_set (by decide) mJ_step10) (fun σ5 e5 => ?_)
      have o5 : Over σ' σ5 := by rw [e5]; exact over_put o4 h2'
      have g5 : σ5.box b2 = some (tabOf (mJ 1) 256 ++ [.slice (.tip t2) 1 (strEls (reps 1))]) := by rw [e5]; exact put_box
      have hm5 : Mine σ' σ5 (.tip t2) := by rw [e5]; exact hm4
      refine Arith.i64 (4 - 2 * ((1 : Nat) : Int)) (by decide) (by decide) ?_
      exact ⟨_, _, by omega, Forget.refl _, 1, t2, by omega, rfl, o5, hm5, g5, rfl⟩
    · refine Test.yes (by decide) ?_
      refine Sure.mk' (.inl rfl) ?_
      refine IdxE.mk' 2 _ (by decide) rfl ?_
      refine ⟨⟨Nat.le_of_ble_eq_true rfl, ?_⟩⟩
      refine Idx.mk' 0 92 rfl rfl ?_
      refine Arith.i64 3 (by decide) (by decide) ?_
      refine Sure.mk' (.inl rfl) ?_
      refine IdxE.mk' 3 _ (by decide) rfl ?_
      refine ⟨⟨Nat.le_of_ble_eq_true rfl, ?_⟩⟩
      refine Sure.mk' (by decide) ?_
      refine Load.one g2 (tab_get (by decide)) ?_
      refine Load.one g2 tab_last ?_
      refine Sure.mk' (.inl rfl) ?_
      refine B2S.mk' (l := [92]) ?_
      refine App.mk' o2 hm2 (.inr rfl) rfl (by decide) (by decide) (by simp) (fun t2 σ3 o3 hm3 hbox _ => ?_)
      refine Sure.mk' rfl ?_
      refine Store.mk' (tabOf (mJ 1) 256 ++ [.slice (.tip t2) 1 (strEls (reps 2))]) (by rw [hbox]; exact g2) (by simp [tab_length, V.cells]) (by simp only [setL, V.cells]; exact tab_set_last) (fun σ4 e4 => ?_)
      have o4 : Over σ' σ4 := by rw [e4]; exact over_put o3 h2'
      have g4 : σ4.box b2 = some (tabOf (mJ 1) 256 ++ [.slice (.tip t2) 1 (strEls (reps 2))]) := by rw [e4]; exact put_box
      have hm4 : Mine σ' σ4 (.tip t2) := by rw [e4]; exact hm3
      clear e4
      refine Sure.mk' (by decide) ?_
      refine Sure.mk' rfl ?_
      refine Store.mk' (tabOf (mJ 2) 256 ++ [.slice (.tip t2) 1 (strEls (reps 2))]) g4 (by simp [tab_length, V.cells]) (by simp only [setL, V.cells]; exact tab_set (by decide) mJ_step92) (fun σ5 e5 => ?_)
      have o5 : Over σ' σ5 := by rw [e5]; exact over_put o4 h2'
      have g5 : σ5.box b2 = some (tabOf (mJ 2) 256 ++ [.slice (.tip t2) 1 (strEls (reps 2))]) := by rw [e5]; exact put_box
      have hm5 : Mine σ' σ5 (.tip t2) := by rw [e5]; exact hm4
      refine Arith.i64 (4 - 2 * ((2 : Nat) : Int)) (by decide) (by decide) ?_
      exact ⟨_, _, by omega, Forget.refl _, 2, t2, by omega, rfl, o5, hm5, g5, rfl⟩
    · refine Test.yes (by decide) ?_
      refine Sure.mk' (.inl rfl) ?_
      refine IdxE.mk' 0 _ (by decide) rfl ?_
      refine ⟨⟨Nat.le_of_ble_eq_true rfl, ?_⟩⟩
      refine Idx.mk' 0 34 rfl rfl ?_
      refine Arith.i64 1 (by decide) (by decide) ?_
      refine Sure.mk' (.inl rfl) ?_
      refine IdxE.mk' 1 _ (by decide) rfl ?_
      refine ⟨⟨Nat.le_of_ble_eq_true rfl, ?_⟩⟩
      refine Sure.mk' (by decide) ?_
      refine Load.one g2 (tab_get (by decide)) ?_
      refine Load.one g2 tab_last ?_
      refine Sure.mk' (.inl rfl) ?_
      refine B2S.mk' (l := [34]) ?_
      refine App.mk' o2 hm2 (.inr rfl) rfl (by decide) (by decide) (by simp) (fun t2 σ3 o3 hm3 hbox _ => ?_)
      refine Sure.mk' rfl ?_
      refine Store.mk' (tabOf (mJ 2) 256 ++ [.slice (.tip t2) 1 (strEls (reps 3))]) (by rw [hbox]; exact g2) (by simp [tab_length, V.cells]) (by simp only [setL, V.cells]; exact tab_set_last) (fun σ4 e4 => ?_)
      have o4 : Over σ' σ4 := by rw [e4]; exact over_put o3 h2'
      have g4 : σ4.box b2 = some (tabOf (mJ 2) 256 ++ [.slice (.tip t2) 1 (strEls (reps 3))]) := by rw [e4]; exact put_box
      have hm4 : Mine σ' σ4 (.tip t2) := by rw [e4]; exact hm3
      clear e4
      refine Sure.mk' (by decide) ?_
      refine Sure.mk' rfl ?_
      refine Store.mk' (tabOf (mJ 3) 256 ++ [.slice (.tip t2) 1 (strEls (reps 3))]) g4 (by simp [tab_length, V.cells]) (by simp only [setL, V.cells]; exact tab_set (by decide) mJ_step34) (fun σ5 e5 => ?_)
      have o5 : Over σ' σ5 := by rw [e5]; exact over_put o4 h2'
      have g5 : σ5.box b2 = some (tabOf (mJ 3) 256 ++ [.slice (.tip t2) 1 (strEls (reps 3))]) := by rw [e5]; exact put_box
      have hm5 : Mine σ' σ5 (.tip t2) := by rw [e5]; exact hm4
      refine Arith.i64 (4 - 2 * ((3 : Nat) : Int)) (by decide) (by decide) ?_
      exact ⟨_, _, by omega, Forget.refl _, 3, t2, by omega, rfl, o5, hm5, g5, rfl⟩
    · refine Test.no (by decide) ?_
      exact Ret.mk' ⟨b2, t', rfl, o2, h2', g2⟩

/-! ### once -/
def DonePost (σ0 : St) (b : Nat) (x2 : V) (e : SEnd) (σ' : St) : Prop := e = .ret (.tup []) ∧ ∃ b2 t', Over σ0 σ' ∧ σ0.box b2 = none ∧ σ'.box b2 = some (tabOf (mJ 3) 256 ++ [.slice (.tip t') 1 (strEls (reps 3))]) ∧
  ∃ x0 x1 s, σ'.box b = some [x0, x1, x2, .iface 128 (.loc b2 0), s]
theorem buildOnce_call {σ0 σ : St} {b : Nat} {x0 x1 x2 r : V} {tag : Tag} (o : Over σ0 σ) (hf : σ0.box b = none) (hb : σ.box b = some [x0, x1, x2, r, .slice tag 1 (strEls pairs6)]) :
    SCall Tryz.prog LG 44 [.loc b 0] σ fun e σ' => e = .ret (.tup []) ∧ ∃ b2 t', Over σ0 σ' ∧ σ0.box b2 = none ∧ σ'.box b2 = some (tabOf (mJ 3) 256 ++ [.slice (.tip t') 1 (strEls (reps 3))]) ∧ σ'.box b = some [x0, x1, x2, .iface 128 (.loc b2 0), .slice .nil 0 []] := by
  refine code44.call hm (by simp) ?_
  refine CallK.mk' (build_call hb) ?_
  rintro e σ1 ⟨b2, t', rfl, o1, h2, g2⟩
  have hne : b ≠ b2 := by rintro rfl; rw [hb] at h2; cases h2
  refine Sure.mk' rfl ?_
  refine Store.mk' [x0, x1, x2, .iface 128 (.loc b2 0), .slice tag 1 (strEls pairs6)] (o1.box _ _ hb) (Nat.le_of_ble_eq_true rfl) rfl (fun σ2 e2 => ?_)
  refine Sure.mk' rfl ?_
  refine Store.mk' [x0, x1, x2, .iface 128 (.loc b2 0), .slice .nil 0 []] (by rw [e2]; exact put_box) (Nat.le_of_ble_eq_true rfl) rfl (fun σ3 e3 => ?_)
  rw [e2, put_put] at e3
  refine Ret.mk' ⟨rfl, b2, t', ?_, over_none o h2, ?_, ?_⟩
  · rw [e3]; exact over_put (over_trans o o1) hf
  · rw [e3]; simp [St.put, hne.symm, g2]
  · rw [e3]; exact put_box

theorem doSlow_call {σ0 σ : St} {b : Nat} {x2 r : V} {tag : Tag} (o : Over σ0 σ) (hf : σ0.box b = none) (hb : σ.box b = some [.int .u32 0, .int .i32 0, x2, r, .slice tag 1 (strEls pairs6)]) :
    SCall Tryz.prog LG 58 [.loc b 0, .func 44 [.loc b 0] []] σ (DonePost σ0 b x2) := by
  refine code58.call hm (by simp) ?_
  refine CallK.mk' (lock74 hb rfl) ?_
  rintro e σ1 ⟨rfl, rfl⟩
  refine CallK.mk' (bload put_box rfl) ?_
  rintro e σ1 ⟨rfl, rfl⟩
  refine CallK.mk' (buildOnce_call (over_put o hf) hf put_box) ?_
  rintro e σ2 ⟨rfl, b2, t', o2, h2, g2, gb⟩
  have hne : b2 ≠ b := by rintro rfl; rw [gb] at g2; have := congrArg (fun x => (x.getD []).length) g2; simp [tab_length] at this
  refine DefK.mk' (store76 none gb (by simp)) ?_
  rintro r1 σ3 ⟨rfl, rfl⟩
  refine DefK.mk' (unlock75 none put_box rfl) ?_
  rintro r1 σ3 ⟨rfl, rfl⟩
  refine Ret.mk' ⟨rfl, b2, t', ?_, h2, ?_, _, _, _, put_box⟩
  · rw [put_put]; exact over_put o2 hf
  · rw [put_put]; simp [St.put, hne, g2]

theorem do_call43 {σ0 σ : St} {b : Nat} {x2 r : V} {tag : Tag} (o : Over σ0 σ) (hf : σ0.box b = none) (hb : σ.box b = some [.int .u32 0, .int .i32 0, x2, r, .slice tag 1 (strEls pairs6)]) :
    SCall Tryz.prog LG 43 [.loc b 0, .func 44 [.loc b 0] []] σ (DonePost σ0 b x2) := by
  refine code43.call hm (by simp) ?_
  refine CallK.mk' (bload hb rfl) ?_
  rintro e σ1 ⟨rfl, rfl⟩
  refine CallK.mk' (doSlow_call o hf hb) ?_
  rintro e σ2 ⟨rfl, h⟩
  exact Ret.mk' ⟨rfl, h⟩

def NewPost (σ : St) (e : SEnd) (σ' : St) : Prop := ∃ b t, e = .ret (.loc b 0) ∧ Over σ σ' ∧ σ.box b = none ∧ σ'.box b = some [.int .u32 0, .int .i32 0, .int .u32 0, .nilIface, .slice (.tip t) 1 (strEls pairs6)]
theorem newReplacer_call (σ : St) : SCall Tryz.prog LG 25 [.slice .full 1 (strEls pairs6)] σ (NewPost σ) := by
  refine code25.call hm (by simp) ?_
  refine Sure.mk' (by decide) ?_
  refine Test.no (by decide) ?_
  refine App.mk' (σ1 := σ) (.refl _) trivial (.inl rfl) rfl (by decide) (by decide) (by simp [strEls, pairs6]) (fun t σ1 o1 hm1 _ _ => ?_)
  refine ⟨rfl, ?_⟩
  intro b hb
  exact Ret.mk' ⟨b, t, rfl, over_put o1 (over_none o1 hb), over_none o1 hb, put_box⟩
end Go.Shadow.Lex

/- Proved: what the lexer's replacer of strings does, as a shadow contract. Conditions: texts of at most 1000000 bytes. -/
namespace Go.Shadow.Lex
open Go Go.RowKit Go.Proofs

theorem getS {l : List UInt8} {j : Nat} (h : j < l.length) : ∃ c, l[j]? = some c := ⟨l[j], by simp [h]⟩
/-- A byte as it is quoted. -/
def qOf (c : UInt8) : List UInt8 := match mJ 3 c.toNat with
  | some n => n
  | none => [c]
def quoteB (s : List UInt8) : List UInt8 := s.flatMap qOf
def isSp (c : UInt8) : Bool := (mJ 3 c.toNat).isSome
theorem mJ3_some {i : Nat} {n : List UInt8} (h : mJ 3 i = some n) : ∃ y, n = [92, y] := by
  simp only [mJ] at h
  split at h
  · injection h with h; exact ⟨_, h.symm⟩
  · split at h
    · injection h with h; exact ⟨_, h.symm⟩
    · split at h
      · injection h with h; exact ⟨_, h.symm⟩
      · cases h
theorem qOf_length (c : UInt8) : (qOf c).length = 1 + (if isSp c then 1 else 0) := by
  unfold qOf isSp
  cases h : mJ 3 c.toNat with
  | none => rfl
  | some n => obtain ⟨y, rfl⟩ := mJ3_some h; rfl
theorem quoteB_length (s : List UInt8) : (quoteB s).length = s.length + s.countP isSp := by
  induction s with
  | nil => rfl
  | cons c s ih =>
    have : quoteB (c :: s) = qOf c ++ quoteB s := rfl
    rw [this, List.length_append, ih, qOf_length, List.countP_cons, List.length_cons]
    omega
theorem quoteB_snoc (s : List UInt8) (c : UInt8) : quoteB (s ++ [c]) = quoteB s ++ qOf c := by simp [quoteB]
theorem isSp_iff (c : UInt8) : isSp c = true ↔ (c = 10 ∨ c = 92 ∨ c = 34) := by
  unfold isSp
  have e1 : c.toNat = 10 ↔ c = 10 := ⟨fun h => UInt8.toNat_inj.1 (by simpa using h), fun h => by rw [h]; rfl⟩
  have e2 : c.toNat = 92 ↔ c = 92 := ⟨fun h => UInt8.toNat_inj.1 (by simpa using h), fun h => by rw [h]; rfl⟩
  have e3 : c.toNat = 34 ↔ c = 34 := ⟨fun h => UInt8.toNat_inj.1 (by simpa using h), fun h => by rw [h]; rfl⟩
  simp only [mJ]
  by_cases h1 : c.toNat = 10
  · simp [h1, e1.1 h1]
  · by_cases h2 : c.toNat = 92
    · simp [h2, e2.1 h2]
    · by_cases h3 : c.toNat = 34
      · simp [h3, e3.1 h3]
      · simp [h1, h2, h3, ← e1, ← e2, ← e3]
theorem quoteB_none {s : List UInt8} (h : s.countP isSp = 0) : quoteB s = s := by
  induction s with
  | nil => rfl
  | cons c s ih =>
    rw [List.countP_cons] at h
    have hc : isSp c = false := by cases hc : isSp c with | false => rfl | true => rw [hc] at h; simp at h
    have : quoteB (c :: s) = qOf c ++ quoteB s := rfl
    rw [this, ih (by omega)]
    unfold isSp at hc
    unfold qOf
    cases hm : mJ 3 c.toNat with
    | none => rfl
    | some n => rw [hm] at hc; cases hc
theorem sp_sum (s : List UInt8) : s.countP isSp = s.count 10 + s.count 92 + s.count 34 := by
  induction s with
  | nil => rfl
  | cons c s ih =>
    rw [List.countP_cons, List.count_cons, List.count_cons, List.count_cons, ih]
    by_cases h1 : c = 10
    · subst h1; simp [(isSp_iff 10).2 (.inl rfl)]; omega
    · by_cases h2 : c = 92
      · subst h2; simp [(isSp_iff 92).2 (.inr (.inl rfl))]; omega
      · by_cases h3 : c = 34
        · subst h3; simp [(isSp_iff 34).2 (.inr (.inr rfl))]; omega
        · have : isSp c = false := by
            cases hc : isSp c with
            | false => rfl
            | true => have := (isSp_iff c).1 hc; simp [h1, h2, h3] at this
          simp [this, h1, h2, h3]

theorem countS_ret (s : List UInt8) (c : UInt8) : SRet Tryz.prog LG 157 [.str s, .int .u8 c.toNat] (.int .i64 (s.count c)) := by
  intro σ w0 γ w xs hI hRL
  obtain ⟨x, y, rfl, hx, hy⟩ := hRL.inv2
  obtain rfl := hx.inv_str
  obtain rfl := hy.inv_int
  refine .inr ⟨_, w, ?_, γ, σ, .refl _ _ _, hI, .int .i64 (s.count c), _, .int _ _, .inl ⟨rfl, rfl, rfl⟩⟩
  rw [run_callFunc_extern Tryz.func157 (by kernel_rfl) (by kernel_rfl) (by kernel_rfl) (e := Extern.BytealgCount.count) (by kernel_rfl), Lib.run_countString]
  simp [Result.andThen, Lib.countByte]
theorem count_ret (s : List UInt8) (c : UInt8) : SRet Tryz.prog LG 155 [.str s, .str [c]] (.int .i64 (s.count c)) := by
  intro σ
  refine code155.call hm (by simp) ?_
  refine Test.no (by simp) ?_
  refine Test.yes (by simp) ?_
  refine Idx.mk' 0 c rfl rfl ?_
  refine CallK.pure (countS_ret s c) ?_
  exact Ret.mk' ⟨rfl, rfl⟩

def TAB (t : Nat) : List V := tabOf (mJ 3) 256 ++ [.slice (.tip t) 1 (strEls (reps 3))]
theorem TAB_none {t : Nat} {c : UInt8} (h : mJ 3 c.toNat = none) : (TAB t)[0 + ((c.toNat : Nat) : Int).toNat * 1]? = some (.slice .nil 0 []) := by
  have hc := c.toNat_lt
  rw [show 0 + ((c.toNat : Nat) : Int).toNat * 1 = c.toNat by simp]
  rw [TAB, tab_get (by omega)]
  simp [cellOf, h]
theorem TAB_some {t : Nat} {c y : UInt8} (h : mJ 3 c.toNat = some [92, y]) : (TAB t)[0 + ((c.toNat : Nat) : Int).toNat * 1]? = some (.slice .foreign 1 (byteEls [92, y])) := by
  have hc := c.toNat_lt
  rw [show 0 + ((c.toNat : Nat) : Int).toNat * 1 = c.toNat by simp]
  rw [TAB, tab_get (by omega)]
  simp [cellOf, h]
theorem TAB_last {t : Nat} : (TAB t)[256]? = some (.slice (.tip t) 1 (strEls (reps 3))) := tab_last
def bytesV (l : List UInt8) : List V := l.map fun b => V.int .u8 b.toNat
theorem bytesV_els (l : List UInt8) : (bytesV l).map ([·]) = byteEls l := by simp [bytesV, byteEls]
theorem bytesV_append (a b : List UInt8) : bytesV (a ++ b) = bytesV a ++ bytesV b := by simp [bytesV]
theorem zeros_flat (n : Nat) : (List.replicate n [V.int .u8 0]).flatten = List.replicate n (V.int .u8 0) := by
  induction n with
  | zero => rfl
  | succ n ih => rw [List.replicate_succ, List.flatten_cons, ih]; rfl
theorem buf_set (q x : List UInt8) (n : Nat) (h : x.length ≤ n) : setL (bytesV q ++ List.replicate n (V.int .u8 0)) q.length (bytesV x) = bytesV (q ++ x) ++ List.replicate (n - x.length) (V.int .u8 0) := by
  have := setL_mid (bytesV q) (List.replicate x.length (V.int .u8 0)) (List.replicate (n - x.length) (V.int .u8 0)) (bytesV x) (by simp [bytesV])
  rw [show (bytesV q).length = q.length by simp [bytesV]] at this
  rw [bytesV_append, ← this, List.append_assoc, List.replicate_append_replicate]
  congr 3
  omega

def cnt (s : List UInt8) : Nat → Nat
  | 0 => 0
  | 1 => s.count 10
  | 2 => s.count 10 + s.count 92
  | _ => s.count 10 + s.count 92 + s.count 34

set_option maxHeartbeats 16000000 in
theorem replace153 {σ : St} {b2 t : Nat} (s : List UInt8) (hs : s.length ≤ 1000000) (hb : σ.box b2 = some (TAB t)) : SCall Tryz.prog LG 153 [.loc b2 0, .str s] σ fun e σ' => e = .ret (.str (quoteB s)) ∧ Over σ σ' := by
  have hql := quoteB_length s
  have hcl : s.countP isSp ≤ s.length := List.countP_le_length
  refine code153.call hm (by simp) ?_
  refine Load.one hb TAB_last ?_
  refine Arith.i64 24 (by decide) (by decide) ?_
  refine Test.split (fun h1 => ?_) (fun h1 => ?_)
  · refine Load.one hb TAB_last ?_
    refine ⟨fun m sl σ' => σ' = σ ∧ ∃ j : Nat, j ≤ 3 ∧ sl = ofL [(0, some (.loc b2 0)), (1, some (.str s)), (5, some (.int .i64 (s.length + cnt s j : Nat))), (6, some (.bool (decide (0 < cnt s j)))), (30, some (.slice (.tip t) 1 (strEls (reps 3)))), (31, some (.int .i64 3)), (32, some (.int .i64 j))] ∧ m = 3 - j, 3, ⟨rfl, 0, by omega, rfl, rfl⟩, ?_⟩
    rintro m sl σ' ⟨rfl, j, hj, rfl, rfl⟩
    have hc1 : s.count 10 ≤ s.length := List.count_le_length
    have hc2 : s.count 92 ≤ s.length := List.count_le_length
    have hc3 : s.count 34 ≤ s.length := List.count_le_length
    obtain rfl | rfl | rfl | rfl : j = 0 ∨ j = 1 ∨ j = 2 ∨ j = 3 := by omega
    · refine Test.yes (by decide) ?_
      refine Sure.mk' (.inl rfl) ?_
      refine IdxE.mk' 0 [.str [10]] rfl rfl ?_
      refine ⟨⟨Nat.le_of_ble_eq_true rfl, ?_⟩⟩
      refine CallK.pure (count_ret s 10) ?_
      have hcj : cnt s 1 = cnt s 0 + s.count 10 := by simp [cnt]
      refine Test.split (fun h2 => ?_) (fun h2 => ?_)
      · refine Idx.mk' 0 10 rfl rfl ?_
        refine Sure.mk' (by decide) ?_
        refine Load.one hb (TAB_some (c := 10) rfl) ?_
        refine Arith.i64 1 rfl (by decide) ?_
        refine Arith.i64 ((s.count 10 : Nat) : Int) (by simp) (by omega) ?_
        refine Arith.i64 ((s.length + cnt s 1 : Nat) : Int) (by simp [cnt] <;> omega) (by simp only [cnt]; omega) ?_
        refine Arith.i64 ((1 : Nat) : Int) (by decide) (by decide) ?_
        exact ⟨_, _, by omega, Forget.refl _, rfl, 1, by omega, by rw [decide_eq_true (show 0 < cnt s 1 by omega)]; rfl, rfl⟩
      · refine Arith.i64 ((1 : Nat) : Int) (by decide) (by decide) ?_
        exact ⟨_, _, by omega, Forget.refl _, rfl, 1, by omega, by rw [hcj, show s.count 10 = 0 by omega]; rfl, rfl⟩
    · refine Test.yes (by decide) ?_
      refine Sure.mk' (.inl rfl) ?_
      refine IdxE.mk' 1 [.str [92]] rfl rfl ?_
      refine ⟨⟨Nat.le_of_ble_eq_true rfl, ?_⟩⟩
      refine CallK.pure (count_ret s 92) ?_
      have hcj : cnt s 2 = cnt s 1 + s.count 92 := by simp [cnt]
      refine Test.split (fun h2 => ?_) (fun h2 => ?_)
      · refine Idx.mk' 0 92 rfl rfl ?_
        refine Sure.mk' (by decide) ?_
        refine Load.one hb (TAB_some (c := 92) rfl) ?_
        refine Arith.i64 1 rfl (by decide) ?_
        refine Arith.i64 ((s.count 92 : Nat) : Int) (by simp) (by omega) ?_
        refine Arith.i64 ((s.length + cnt s 2 : Nat) : Int) (by simp [cnt] <;> omega) (by simp only [cnt]; omega) ?_
        refine Arith.i64 ((2 : Nat) : Int) (by decide) (by decide) ?_
        exact ⟨_, _, by omega, Forget.refl _, rfl, 2, by omega, by rw [decide_eq_true (show 0 < cnt s 2 by omega)]; rfl, rfl⟩
      · refine Arith.i64 ((2 : Nat) : Int) (by decide) (by decide) ?_
        exact ⟨_, _, by omega, Forget.refl _, rfl, 2, by omega, by rw [hcj, show s.count 92 = 0 by omega]; rfl, rfl⟩
    · refine Test.yes (by decide) ?_
      refine Sure.mk' (.inl rfl) ?_
      refine IdxE.mk' 2 [.str [34]] rfl rfl ?_
      refine ⟨⟨Nat.le_of_ble_eq_true rfl, ?_⟩⟩
      refine CallK.pure (count_ret s 34) ?_
      have hcj : cnt s 3 = cnt s 2 + s.count 34 := by simp [cnt]
      refine Test.split (fun h2 => ?_) (fun h2 => ?_)
      · refine Idx.mk' 0 34 rfl rfl ?_
        refine Sure.mk' (by decide) ?_
        refine Load.one hb (TAB_some (c := 34) rfl) ?_
        refine Arith.i64 1 rfl (by decide) ?_
        refine Arith.i64 ((s.count 34 : Nat) : Int) (by simp) (by omega) ?_
        refine Arith.i64 ((s.length + cnt s 3 : Nat) : Int) (by simp [cnt] <;> omega) (by simp only [cnt]; omega) ?_
        refine Arith.i64 ((3 : Nat) : Int) (by decide) (by decide) ?_
        exact ⟨_, _, by omega, Forget.refl _, rfl, 3, by omega, by rw [decide_eq_true (show 0 < cnt s 3 by omega)]; rfl, rfl⟩
      · refine Arith.i64 ((3 : Nat) : Int) (by decide) (by decide) ?_
        exact ⟨_, _, by omega, Forget.refl _, rfl, 3, by omega, by rw [hcj, show s.count 34 = 0 by omega]; rfl, rfl⟩
    · refine Test.no (by decide) ?_
      rw [show cnt s 3 = s.countP isSp from (sp_sum s).symm]
      by_cases h0 : 0 < s.countP isSp
      · rw [decide_eq_true h0]
        refine MkSl.full (s.length + s.countP isSp) rfl (by omega) (by omega) (by omega) ?_
        intro bb hbb
        obtain ⟨o1, g1⟩ := new_box hbb (List.replicate (s.length + s.countP isSp) [V.int .u8 0]).flatten
        generalize σ'.put bb (List.replicate (s.length + s.countP isSp) [V.int .u8 0]).flatten = σ1 at *
        rw [zeros_flat] at g1
        refine ⟨fun m sl σ2 => ∃ i : Nat, i ≤ s.length ∧ sl = ofL [(0, some (.loc b2 0)), (1, some (.str s)), (12, some (.mslice bb 0 (s.length + s.countP isSp) (s.length + s.countP isSp))), (13, some (.int .i64 (quoteB (s.take i)).length)), (14, some (.int .i64 i))] ∧
            Over σ' σ2 ∧ σ2.box bb = some (bytesV (quoteB (s.take i)) ++ List.replicate (s.length + s.countP isSp - (quoteB (s.take i)).length) (V.int .u8 0)) ∧ m = s.length - i, _, ⟨0, by omega, rfl, o1, by simpa [quoteB, bytesV] using g1, rfl⟩, ?_⟩
        rintro m sl σ2 ⟨i, hi, rfl, o2, g2, rfl⟩
        have hb2 := o2.box _ _ hb
        refine Test.split (fun h5 => ?_) (fun h5 => ?_)
        · obtain ⟨c, hc⟩ := getS (l := s) (j := i) (by omega)
          have hcl2 := c.toNat_lt
          have htk : s.take (i + 1) = s.take i ++ [c] := by rw [List.take_add_one, hc]; rfl
          have hq2 : quoteB (s.take (i + 1)) = quoteB (s.take i) ++ qOf c := by rw [htk, quoteB_snoc]
          have hle : (quoteB (s.take (i + 1))).length ≤ s.length + s.countP isSp := by
            rw [quoteB_length]
            have h7 : (s.take (i + 1)).countP isSp ≤ s.countP isSp := (List.take_sublist _ _).countP_le
            have h8 : (s.take (i + 1)).length ≤ s.length := by simp; omega
            omega
          generalize hq : quoteB (s.take i) = q at *
          rw [hq2, List.length_append] at hle
          refine Idx.mk' i c rfl hc ?_
          refine Sure.mk' (by omega) ?_
          cases hm' : mJ 3 c.toNat with
          | none =>
            have hqc : qOf c = [c] := by unfold qOf; rw [hm']
            rw [hqc] at hq2 hle
            simp only [List.length_cons, List.length_nil] at hle
            refine Load.one hb2 (TAB_none hm') ?_
            refine Sure.mk' (by omega) ?_
            refine Sure.mk' rfl ?_
            refine Store.mk' (bytesV (q ++ [c]) ++ List.replicate (s.length + s.countP isSp - (q ++ [c]).length) (V.int .u8 0)) g2 (by simp [bytesV, V.cells]; omega) ?_ (fun σ3 e3 => ?_)
            · rw [show 0 + ((q.length : Nat) : Int).toNat * 1 = q.length by simp]
              have := buf_set q [c] (s.length + s.countP isSp - q.length) (by simp; omega)
              rw [show s.length + s.countP isSp - (q ++ [c]).length = s.length + s.countP isSp - q.length - [c].length by simp; omega]
              exact this
            · have o3 : Over σ' σ3 := by rw [e3]; exact over_put o2 hbb
              have g3 : σ3.box bb = some (bytesV (q ++ [c]) ++ List.replicate (s.length + s.countP isSp - (q ++ [c]).length) (V.int .u8 0)) := by rw [e3]; exact put_box
              refine Arith.i64 (((q ++ [c]).length : Nat) : Int) (by simp) (by simp; omega) ?_
              refine Arith.i64 ((i + 1 : Nat) : Int) (by simp) (by omega) ?_
              exact ⟨_, _, by omega, Forget.refl _, i + 1, by omega, by rw [hq2]; rfl, o3, by rw [hq2]; exact g3, rfl⟩
          | some n =>
            obtain ⟨y, rfl⟩ := mJ3_some hm'
            have hqc : qOf c = [92, y] := by unfold qOf; rw [hm']
            rw [hqc] at hq2 hle
            simp only [List.length_cons, List.length_nil] at hle
            refine Load.one hb2 (TAB_some hm') ?_
            refine Sure.mk' (by omega) ?_
            refine Sure.mk' (by omega) ?_
            refine Load.one hb2 (TAB_some hm') ?_
            refine CopyK.mk' (bytesV (q ++ [92, y]) ++ List.replicate (s.length + s.countP isSp - (q ++ [92, y]).length) (V.int .u8 0)) g2 rfl (by simp [bytesV] <;> omega) (by simp [byteEls] <;> omega) (by simp [byteEls]) ?_ (fun σ3 e3 => ?_)
            · rw [show 0 + ((q.length : Nat) : Int).toNat * 1 = q.length by simp]
              have := buf_set q [92, y] (s.length + s.countP isSp - q.length) (by simp; omega)
              rw [show s.length + s.countP isSp - (q ++ [92, y]).length = s.length + s.countP isSp - q.length - [92, y].length by simp; omega]
              exact this
            · have o3 : Over σ' σ3 := by rw [e3]; exact over_put o2 hbb
              have g3 : σ3.box bb = some (bytesV (q ++ [92, y]) ++ List.replicate (s.length + s.countP isSp - (q ++ [92, y]).length) (V.int .u8 0)) := by rw [e3]; exact put_box
              refine Arith.i64 (((q ++ [92, y]).length : Nat) : Int) (by simp [byteEls]) (by simp; omega) ?_
              refine Arith.i64 ((i + 1 : Nat) : Int) (by simp) (by omega) ?_
              exact ⟨_, _, by omega, Forget.refl _, i + 1, by omega, by rw [hq2]; rfl, o3, by rw [hq2]; exact g3, rfl⟩
        · have hi' : i = s.length := by omega
          subst hi'
          rw [List.take_length, hql, Nat.sub_self, List.replicate_zero, List.append_nil] at g2
          have hbl : (bytesV (quoteB s)).length = s.length + s.countP isSp := by simp [bytesV, hql]
          refine Load.mk' g2 (by omega) ?_
          rw [List.drop_zero, List.take_of_length_le (by omega)]
          show B2S ((bytesV (quoteB s)).map ([·])) _
          rw [bytesV_els]
          refine B2S.mk' ?_
          exact Ret.mk' ⟨rfl, o2⟩
      · rw [decide_eq_false h0]
        exact Ret.mk' ⟨by rw [quoteB_none (by omega)], .refl _⟩
  · refine ⟨fun m sl σ' => σ' = σ ∧ ∃ i : Nat, i ≤ s.length ∧ sl = ofL [(0, some (.loc b2 0)), (1, some (.str s)), (5, some (.int .i64 (s.length + (s.take i).countP isSp : Nat))), (6, some (.bool (decide (0 < (s.take i).countP isSp)))), (10, some (.int .i64 i))] ∧ m = s.length - i, _, ⟨rfl, 0, by omega, rfl, rfl⟩, ?_⟩
    rintro m sl σ' ⟨rfl, i, hi, rfl, rfl⟩
    refine Test.split (fun h5 => ?_) (fun h5 => ?_)
    · obtain ⟨c, hc⟩ := getS (l := s) (j := i) (by omega)
      have hcl2 := c.toNat_lt
      have htk : s.take (i + 1) = s.take i ++ [c] := by rw [List.take_add_one, hc]; rfl
      have hct : (s.take (i + 1)).countP isSp = (s.take i).countP isSp + (if isSp c then 1 else 0) := by rw [htk, List.countP_append, List.countP_singleton]
      have h7 : (s.take i).countP isSp ≤ s.countP isSp := (List.take_sublist _ _).countP_le
      refine Idx.mk' i c rfl hc ?_
      refine Sure.mk' (by omega) ?_
      cases hm' : mJ 3 c.toNat with
      | none =>
        have hsp : isSp c = false := by unfold isSp; rw [hm']; rfl
        rw [hsp] at hct
        refine Load.one hb (TAB_none hm') ?_
        refine Arith.i64 ((i + 1 : Nat) : Int) (by simp) (by omega) ?_
        exact ⟨_, _, by omega, Forget.refl _, rfl, i + 1, by omega, by rw [hct]; rfl, rfl⟩
      | some n =>
        obtain ⟨y, rfl⟩ := mJ3_some hm'
        have hsp : isSp c = true := by unfold isSp; rw [hm']; rfl
        rw [hsp] at hct
        simp only [if_true] at hct
        refine Load.one hb (TAB_some hm') ?_
        refine Sure.mk' (by omega) ?_
        refine Load.one hb (TAB_some hm') ?_
        refine Arith.i64 1 rfl (by decide) ?_
        refine Arith.i64 ((s.length + (s.take (i + 1)).countP isSp : Nat) : Int) (by rw [hct]; simp <;> omega) (by omega) ?_
        refine Arith.i64 ((i + 1 : Nat) : Int) (by simp) (by omega) ?_
        exact ⟨_, _, by omega, Forget.refl _, rfl, i + 1, by omega, by rw [decide_eq_true (show 0 < (s.take (i + 1)).countP isSp by omega)]; rfl, rfl⟩
    · rw [show s.take i = s from List.take_of_length_le (by omega)]
      by_cases h0 : 0 < s.countP isSp
      · rw [decide_eq_true h0]
        refine MkSl.full (s.length + s.countP isSp) rfl (by omega) (by omega) (by omega) ?_
        intro bb hbb
        obtain ⟨o1, g1⟩ := new_box hbb (List.replicate (s.length + s.countP isSp) [V.int .u8 0]).flatten
        generalize σ'.put bb (List.replicate (s.length + s.countP isSp) [V.int .u8 0]).flatten = σ1 at *
        rw [zeros_flat] at g1
        refine ⟨fun m sl σ2 => ∃ i : Nat, i ≤ s.length ∧ sl = ofL [(0, some (.loc b2 0)), (1, some (.str s)), (12, some (.mslice bb 0 (s.length + s.countP isSp) (s.length + s.countP isSp))), (13, some (.int .i64 (quoteB (s.take i)).length)), (14, some (.int .i64 i))] ∧
            Over σ' σ2 ∧ σ2.box bb = some (bytesV (quoteB (s.take i)) ++ List.replicate (s.length + s.countP isSp - (quoteB (s.take i)).length) (V.int .u8 0)) ∧ m = s.length - i, _, ⟨0, by omega, rfl, o1, by simpa [quoteB, bytesV] using g1, rfl⟩, ?_⟩
        rintro m sl σ2 ⟨i, hi, rfl, o2, g2, rfl⟩
        have hb2 := o2.box _ _ hb
        refine Test.split (fun h5 => ?_) (fun h5 => ?_)
        · obtain ⟨c, hc⟩ := getS (l := s) (j := i) (by omega)
          have hcl2 := c.toNat_lt
          have htk : s.take (i + 1) = s.take i ++ [c] := by rw [List.take_add_one, hc]; rfl
          have hq2 : quoteB (s.take (i + 1)) = quoteB (s.take i) ++ qOf c := by rw [htk, quoteB_snoc]
          have hle : (quoteB (s.take (i + 1))).length ≤ s.length + s.countP isSp := by
            rw [quoteB_length]
            have h7 : (s.take (i + 1)).countP isSp ≤ s.countP isSp := (List.take_sublist _ _).countP_le
            have h8 : (s.take (i + 1)).length ≤ s.length := by simp; omega
            omega
          generalize hq : quoteB (s.take i) = q at *
          rw [hq2, List.length_append] at hle
          refine Idx.mk' i c rfl hc ?_
          refine Sure.mk' (by omega) ?_
          cases hm' : mJ 3 c.toNat with
          | none =>
            have hqc : qOf c = [c] := by unfold qOf; rw [hm']
            rw [hqc] at hq2 hle
            simp only [List.length_cons, List.length_nil] at hle
            refine Load.one hb2 (TAB_none hm') ?_
            refine Sure.mk' (by omega) ?_
            refine Sure.mk' rfl ?_
            refine Store.mk' (bytesV (q ++ [c]) ++ List.replicate (s.length + s.countP isSp - (q ++ [c]).length) (V.int .u8 0)) g2 (by simp [bytesV, V.cells]; omega) ?_ (fun σ3 e3 => ?_)
            · rw [show 0 + ((q.length : Nat) : Int).toNat * 1 = q.length by simp]
              have := buf_set q [c] (s.length + s.countP isSp - q.length) (by simp; omega)
              rw [show s.length + s.countP isSp - (q ++ [c]).length = s.length + s.countP isSp - q.length - [c].length by simp; omega]
              exact this
            · have o3 : Over σ' σ3 := by rw [e3]; exact over_put o2 hbb
              have g3 : σ3.box bb = some (bytesV (q ++ [c]) ++ List.replicate (s.length + s.countP isSp - (q ++ [c]).length) (V.int .u8 0)) := by rw [e3]; exact put_box
              refine Arith.i64 (((q ++ [c]).length : Nat) : Int) (by simp) (by simp; omega) ?_
              refine Arith.i64 ((i + 1 : Nat) : Int) (by simp) (by omega) ?_
              exact ⟨_, _, by omega, Forget.refl _, i + 1, by omega, by rw [hq2]; rfl, o3, by rw [hq2]; exact g3, rfl⟩
          | some n =>
            obtain ⟨y, rfl⟩ := mJ3_some hm'
            have hqc : qOf c = [92, y] := by unfold qOf; rw [hm']
            rw [hqc] at hq2 hle
            simp only [List.length_cons, List.length_nil] at hle
            refine Load.one hb2 (TAB_some hm') ?_
            refine Sure.mk' (by omega) ?_
            refine Sure.mk' (by omega) ?_
            refine Load.one hb2 (TAB_some hm') ?_
            refine CopyK.mk' (bytesV (q ++ [92, y]) ++ List.replicate (s.length + s.countP isSp - (q ++ [92, y]).length) (V.int .u8 0)) g2 rfl (by simp [bytesV] <;> omega) (by simp [byteEls] <;> omega) (by simp [byteEls]) ?_ (fun σ3 e3 => ?_)
            · rw [show 0 + ((q.length : Nat) : Int).toNat * 1 = q.length by simp]
              have := buf_set q [92, y] (s.length + s.countP isSp - q.length) (by simp; omega)
              rw [show s.length + s.countP isSp - (q ++ [92, y]).length = s.length + s.countP isSp - q.length - [92, y].length by simp; omega]
              exact this
            · have o3 : Over σ' σ3 := by rw [e3]; exact over_put o2 hbb
              have g3 : σ3.box bb = some (bytesV (q ++ [92, y]) ++ List.replicate (s.length + s.countP isSp - (q ++ [92, y]).length) (V.int .u8 0)) := by rw [e3]; exact put_box
              refine Arith.i64 (((q ++ [92, y]).length : Nat) : Int) (by simp [byteEls]) (by simp; omega) ?_
              refine Arith.i64 ((i + 1 : Nat) : Int) (by simp) (by omega) ?_
              exact ⟨_, _, by omega, Forget.refl _, i + 1, by omega, by rw [hq2]; rfl, o3, by rw [hq2]; exact g3, rfl⟩
        · have hi' : i = s.length := by omega
          subst hi'
          rw [List.take_length, hql, Nat.sub_self, List.replicate_zero, List.append_nil] at g2
          have hbl : (bytesV (quoteB s)).length = s.length + s.countP isSp := by simp [bytesV, hql]
          refine Load.mk' g2 (by omega) ?_
          rw [List.drop_zero, List.take_of_length_le (by omega)]
          show B2S ((bytesV (quoteB s)).map ([·])) _
          rw [bytesV_els]
          refine B2S.mk' ?_
          exact Ret.mk' ⟨rfl, o2⟩
      · rw [decide_eq_false h0]
        exact Ret.mk' ⟨by rw [quoteB_none (by omega)], .refl _⟩

theorem replace_call {σ0 σ : St} {b : Nat} {t : Nat} (s : List UInt8) (hs : s.length ≤ 1000000) (o : Over σ0 σ) (hf : σ0.box b = none) (hb : σ.box b = some [.int .u32 0, .int .i32 0, .int .u32 0, .nilIface, .slice (.tip t) 1 (strEls pairs6)]) :
    SCall Tryz.prog LG 26 [.loc b 0, .str s] σ fun e σ' => e = .ret (.str (quoteB s)) ∧ Over σ0 σ' := by
  refine code26.call hm (by simp) ?_
  refine CallK.mk' (do_call43 o hf hb) ?_
  rintro e σ1 ⟨rfl, b2, t', o1, h2, g2, x0, x1, x, gb⟩
  refine Load.mk' gb (Nat.le_of_ble_eq_true rfl) ?_
  refine CallK.mk' (replace153 s hs g2) ?_
  rintro e σ2 ⟨rfl, o2⟩
  exact Ret.mk' ⟨rfl, over_trans o1 o2⟩
end Go.Shadow.Lex

/- Proved: what the lexer's Text does, as a shadow contract. Conditions: the lists' and texts' sizes, as the theorem says. -/
namespace Go.Shadow.Lex
open Go Go.RowKit Go.Proofs

/-- The word of a token. -/
def wordT (t : Tok) : Option (List UInt8) := if t.kind = 1 ∨ t.kind = 4 then some t.s else if t.kind = 2 then some (Lib.itoa t.n) else if t.kind = 3 then some ([34] ++ quoteB t.s ++ [34]) else none

set_option maxHeartbeats 4000000 in
theorem text_ret (tag : Tag) (ts : List Tok) (h3 : ∀ t ∈ ts, t.s.length ≤ 1000000) (hn : ∀ t ∈ ts, -9223372036854775808 ≤ t.n ∧ t.n ≤ 9223372036854775807) (hl : ts.length ≤ 100000) (hj : (Lib.join (ts.filterMap wordT) [32]).length ≤ 140737488355328) :
    SRet Tryz.prog LG 14 [.slice tag 4 (ts.map tokV)] (.str (Lib.join (ts.filterMap wordT) [32])) := by
  intro σ
  refine code14.call hm (by simp) ?_
  have hlen : (ts.map tokV).length = ts.length := by simp
  refine ⟨fun m sl σ' => ∃ (i : Nat) (ws : List (List UInt8)) (tag' : Tag) (z : Nat), sl = ofL [(3, some (.slice tag' z (strEls ws))), (6, some (.slice tag 4 (ts.map tokV))), (7, some (.int .i64 (ts.map tokV).length)), (8, some (.int .i64 i))] ∧
      Over σ σ' ∧ Mine σ σ' tag' ∧ (tag' = .nil ∨ z = 1) ∧ i ≤ ts.length ∧ ws.length ≤ i ∧ ws ++ (ts.drop i).filterMap wordT = ts.filterMap wordT ∧ m = ts.length - i, _,
      ⟨0, [], .nil, 0, rfl, .refl _, trivial, .inl rfl, by omega, by simp, by simp, rfl⟩, ?_⟩
  rintro m sl σ' ⟨i, ws, tag', z, rfl, ho, hm2, hz, hi, hws, heq, rfl⟩
  have hwl : (strEls ws).length = ws.length := by simp [strEls]
  refine Test.split (fun h => ?_) (fun h => ?_)
  · rw [hlen] at h
    obtain ⟨t, ht⟩ : ∃ t, ts[i]? = some t := ⟨ts[i]'(by omega), by simp [show i < ts.length by omega]⟩
    have htm : t ∈ ts := List.mem_of_getElem? ht
    have hdrop : ts.drop i = t :: ts.drop (i + 1) := by
      obtain ⟨h1, h2⟩ := List.getElem?_eq_some_iff.1 ht
      rw [List.drop_eq_getElem_cons h1, h2]
    have hnext : ∀ (b : Nat) (σ2 : St), Over σ σ2 → ∀ (tag2 : Tag) (z2 : Nat) (ws2 : List (List UInt8)), Mine σ σ2 tag2 → (tag2 = .nil ∨ z2 = 1) → ws2 = ws ++ (wordT t).toList → ∃ m σ3, m < ts.length - i ∧ Forget σ2 σ3 ∧
        ∃ (i' : Nat) (ws' : List (List UInt8)) (tag' : Tag) (z : Nat), ofL [(3, some (.slice tag2 z2 (strEls ws2))), (6, some (.slice tag 4 (ts.map tokV))), (7, some (.int .i64 (ts.map tokV).length)), (8, some (.int .i64 (i + 1 : Nat)))] = ofL [(3, some (.slice tag' z (strEls ws'))), (6, some (.slice tag 4 (ts.map tokV))), (7, some (.int .i64 (ts.map tokV).length)), (8, some (.int .i64 i'))] ∧
      Over σ σ3 ∧ Mine σ σ3 tag' ∧ (tag' = .nil ∨ z = 1) ∧ i' ≤ ts.length ∧ ws'.length ≤ i' ∧ ws' ++ (ts.drop i').filterMap wordT = ts.filterMap wordT ∧ m = ts.length - i' := by
      intro b σ2 ho2 tag2 z2 ws2 hm3 hz3 hw2
      refine ⟨_, _, ?_, Forget.refl _, i + 1, ws2, tag2, z2, rfl, ho2, hm3, hz3, by omega, ?_, ?_, rfl⟩
      · omega
      · rw [hw2]; cases wordT t <;> simp <;> omega
      · rw [hw2, ← heq, hdrop, List.filterMap_cons]; cases wordT t <;> simp
    refine Sure.mk' (.inl rfl) ?_
    refine IdxE.mk' i (tokV t) rfl (by simp [ht]) ?_
    refine ⟨⟨by simp [tokV], ?_⟩⟩
    intro b hb
    refine Sure.mk' rfl ?_
    refine Store.mk' (tokV t) put_box (Nat.le_of_ble_eq_true rfl) rfl (fun σ2 h2 => ?_)
    rw [put_put] at h2
    have hb2 : σ2.box b = some (tokV t) := by rw [h2]; exact put_box
    have ho2 : Over σ σ2 := by
      rw [h2]
      refine over_put ho ?_
      cases hbb : σ.box b with
      | none => rfl
      | some cs => rw [ho.box b cs hbb] at hb; cases hb
    have hm3 : Mine σ σ2 tag' := by rw [h2]; exact hm2
    have happ : ∀ (x : List UInt8) (K : V → St → Prop), (∀ (t' : Nat) (σ4 : St), Over σ σ4 → Mine σ σ4 (.tip t') → K (.slice (.tip t') 1 (strEls (ws ++ [x]))) σ4) → App 1 16 tag' z (strEls ws) 1 [[V.str x]] σ2 K := by
      intro x K hk
      refine App.mk' ho2 hm3 hz rfl (by simp [hwl]; omega) (by simp [hwl]; omega) (by simp) (fun t' σ4 h4 h5 _ _ => ?_)
      have := hk t' σ4 h4 h5
      simpa [strEls] using this
    refine Load.mk' hb2 (by simp [tokV]) ?_
    have hsome : ∀ x, wordT t = some x → ws ++ [x] = ws ++ (wordT t).toList := fun x hx => by rw [hx]; rfl
    refine Test.split (fun h1 => ?_) (fun h1 => ?_)
    · refine Load.mk' hb2 (by simp [tokV]) ?_
      refine happ t.s _ (fun t' σ4 h4 h5 => ?_)
      refine Arith.i64 ((i + 1 : Nat) : Int) (by simp) (by omega) ?_
      exact hnext b σ4 h4 (.tip t') 1 _ h5 (.inr rfl) (hsome _ (by unfold wordT; rw [if_pos (.inl h1)]))
    · refine Test.split (fun h4 => ?_) (fun h4 => ?_)
      · refine Load.mk' hb2 (by simp [tokV]) ?_
        refine happ t.s _ (fun t' σ4 h5 h6 => ?_)
        refine Arith.i64 ((i + 1 : Nat) : Int) (by simp) (by omega) ?_
        exact hnext b σ4 h5 (.tip t') 1 _ h6 (.inr rfl) (hsome _ (by unfold wordT; rw [if_pos (.inr h4)]))
      · refine Test.split (fun h2' => ?_) (fun h2' => ?_)
        · refine Load.mk' hb2 (by simp [tokV]) ?_
          refine CallK.pure (itoa_ret _ (hn t htm)) ?_
          refine happ (Lib.itoa t.n) _ (fun t' σ4 h5 h6 => ?_)
          refine Arith.i64 ((i + 1 : Nat) : Int) (by simp) (by omega) ?_
          exact hnext b σ4 h5 (.tip t') 1 _ h6 (.inr rfl) (hsome _ (by unfold wordT; rw [if_neg (by omega), if_pos h2']))
        · refine Test.split (fun h4' => ?_) (fun h4' => ?_)
          · have h3t := h3 t htm
            have hql : (quoteB t.s).length ≤ 2000000 := by
              have := quoteB_length t.s
              have : t.s.countP isSp ≤ t.s.length := List.countP_le_length
              omega
            refine Load.mk' hb2 (by simp [tokV]) ?_
            refine CallK.mk' (newReplacer_call σ2) ?_
            rintro e σ3 ⟨b', t', rfl, o3, hn', g3⟩
            refine Kept.mk' (fun b cs h => o3.box b cs h) ?_
            refine CallK.mk' (replace_call t.s h3t o3 hn' g3) ?_
            rintro e σ4 ⟨rfl, o4⟩
            refine Sure.mk' (by simp; omega) ?_
            refine Sure.mk' (by simp; omega) ?_
            refine App.mk' (over_trans ho2 o4) (hm3.over o4) hz rfl (by simp [hwl]; omega) (by simp [hwl]; omega) (by simp) (fun t' σ5 h5 h6 _ _ => ?_)
            refine Arith.i64 ((i + 1 : Nat) : Int) (by simp) (by omega) ?_
            have e1 : strEls ws ++ [[V.str ([34] ++ quoteB t.s ++ [34])]] = strEls (ws ++ [[34] ++ quoteB t.s ++ [34]]) := by simp [strEls]
            have := hnext b σ5 h5 (.tip t') 1 _ h6 (.inr rfl) (hsome ([34] ++ quoteB t.s ++ [34]) (by unfold wordT; rw [if_neg (by omega), if_neg h2', if_pos h4']))
            rw [← e1] at this
            exact this
          · refine Arith.i64 ((i + 1 : Nat) : Int) (by simp) (by omega) ?_
            exact hnext b σ2 ho2 tag' z ws hm3 hz (by unfold wordT; rw [if_neg (by omega), if_neg h2', if_neg h4']; simp)
  · rw [hlen] at h
    have hd : ts.drop i = [] := List.drop_eq_nil_of_le (by omega)
    rw [hd] at heq
    simp only [List.filterMap_nil, List.append_nil] at heq
    rw [← heq] at hj ⊢
    refine CallK.mk' (join_call tag' ws [32] (by omega) hj z σ') ?_
    rintro e σ4 ⟨rfl, rfl⟩
    exact Ret.weak (.refl _) ho ⟨rfl, rfl⟩
end Go.Shadow.Lex

/- Pure laws of the lexer: a token stands in its source as it is printed; what is printed is read back. -/
namespace Go.Shadow.Lex

/-! ### numbers -/
theorem digitsVal_snoc2 (s : List UInt8) (c : UInt8) : digitsVal (s ++ [c]) = 10 * digitsVal s + (c.toNat - 48) := by
  simp [digitsVal, List.foldl_append]
theorem digitsVal_pos : ∀ (s : List UInt8), s.all isDigit = true → s ≠ [] → s.head? ≠ some 48 → 1 ≤ digitsVal s := by
  intro s
  induction hn : s.length using Nat.strongRecOn generalizing s with
  | _ n ih =>
    intro ha hne hh
    rcases List.eq_nil_or_concat s with h | ⟨s', c, h⟩
    · exact absurd h hne
    · rw [List.concat_eq_append] at h
      subst h
      rw [digitsVal_snoc2]
      rw [List.all_append, Bool.and_eq_true] at ha
      by_cases hs : s' = []
      · subst hs
        have hc : 48 ≤ c.toNat ∧ c.toNat ≤ 57 := by simpa [isDigit] using ha.2
        have : c ≠ 48 := fun e => hh (by simp [e])
        have : c.toNat ≠ 48 := fun e => this (UInt8.toNat_inj.1 (by simpa using e))
        simp only [digitsVal, List.foldl_nil]; omega
      · have := ih s'.length (by rw [← hn]; simp) s' rfl ha.1 hs (by
          cases s' with
          | nil => exact absurd rfl hs
          | cons a s' => simpa using hh)
        omega
theorem dec_digits : ∀ (s : List UInt8), s.all isDigit = true → s ≠ [] → ¬ (1 < s.length ∧ s.head? = some 48) → Lib.decDigits (digitsVal s) = s := by
  intro s
  induction hn : s.length using Nat.strongRecOn generalizing s with
  | _ n ih =>
    intro ha hne hh
    rcases List.eq_nil_or_concat s with h | ⟨s', c, h⟩
    · exact absurd h hne
    · rw [List.concat_eq_append] at h
      subst h
      rw [digitsVal_snoc2]
      rw [List.all_append, Bool.and_eq_true] at ha
      have hc : 48 ≤ c.toNat ∧ c.toNat ≤ 57 := by simpa [isDigit] using ha.2
      have hcc : UInt8.ofNat (48 + (c.toNat - 48)) = c := by
        rw [show 48 + (c.toNat - 48) = c.toNat by omega]; simp
      by_cases hs : s' = []
      · subst hs
        have h0 : 10 * digitsVal [] + (c.toNat - 48) = c.toNat - 48 := by simp [digitsVal]
        rw [h0, Lib.decDigits, dif_pos (by omega), hcc]; rfl
      · have hl : 0 < s'.length := List.length_pos_iff.2 hs
        have hhd : s'.head? ≠ some 48 := by
          intro e
          refine hh ⟨by rw [← hn, List.length_append, List.length_singleton]; omega, ?_⟩
          cases s' with
          | nil => exact absurd rfl hs
          | cons a s' => simpa using e
        have hp := digitsVal_pos s' ha.1 hs hhd
        rw [Lib.decDigits, dif_neg (by omega), show (10 * digitsVal s' + (c.toNat - 48)) / 10 = digitsVal s' by omega, show (10 * digitsVal s' + (c.toNat - 48)) % 10 = c.toNat - 48 by omega, hcc,
          ih s'.length (by rw [← hn]; simp) s' rfl ha.1 hs (fun h => hhd h.2)]
theorem numVal_spec {s : List UInt8} {n : Nat} (h : numVal s = some n) (hne : s ≠ []) : Lib.itoa (n : Int) = s ∧ n < 1000000000000000 := by
  unfold numVal at h
  split at h
  · rename_i hc
    injection h with h; subst h
    refine ⟨?_, ?_⟩
    · rw [Lib.itoa_nonneg, dec_digits s hc.1 hne hc.2.2]
    · have := digitsVal_bound s 0 hc.1
      have h2 : 10 ^ s.length ≤ 10 ^ 15 := Nat.pow_le_pow_right (by omega) hc.2.1
      have h3 : digitsVal s < (0 + 1) * 10 ^ s.length := this
      omega
  · cases h

/-! ### texts -/
theorem esc_quote {d e : UInt8} (h : esc d = some e) : qOf e = [92, d] := by
  unfold esc at h
  split at h
  · rename_i h1; injection h with h; subst h
    have : d = 34 := UInt8.toNat_inj.1 (by simpa using h1)
    subst this; rfl
  · split at h
    · rename_i h1; injection h with h; subst h
      have : d = 92 := UInt8.toNat_inj.1 (by simpa using h1)
      subst this; rfl
    · split at h
      · rename_i h1; injection h with h; subst h
        have : d = 110 := UInt8.toNat_inj.1 (by simpa using h1)
        subst this; rfl
      · cases h
theorem plain_quote {c : UInt8} (h1 : ¬ c.toNat = 34) (h2 : ¬ c.toNat = 92) (h3 : ¬ (c.toNat < 32 ∨ 126 < c.toNat)) : qOf c = [c] := by
  have : mJ 3 c.toNat = none := by
    simp only [mJ]
    rw [if_neg (by omega), if_neg (by omega), if_neg (by omega)]
  unfold qOf; rw [this]
theorem quoteB_append (a b : List UInt8) : quoteB (a ++ b) = quoteB a ++ quoteB b := by simp [quoteB]
theorem quoteB_cons (c : UInt8) (b : List UInt8) : quoteB (c :: b) = qOf c ++ quoteB b := rfl
theorem text_quote : ∀ (r b0 b : List UInt8) (left : Nat), textScan r b0 = .inr (b, left) → ∃ b', b = b0 ++ b' ∧ left ≤ r.length ∧ r.take (r.length - left) = quoteB b' ++ [34] := by
  intro r
  induction hn : r.length using Nat.strongRecOn generalizing r with
  | _ n ih =>
    intro b0 b left h
    cases r with
    | nil => rw [textScan_nil] at h; split at h <;> cases h
    | cons c r =>
      subst hn
      rw [textScan_cons] at h
      split at h
      · cases h
      · split at h
        · rename_i hc
          injection h with h; injection h with h1 h2; subst h1; subst h2
          have : c = 34 := UInt8.toNat_inj.1 (by simpa using hc)
          subst this
          exact ⟨[], by simp, by simp, by simp [quoteB]⟩
        · rename_i hc1
          split at h
          · rename_i hc2
            have hc2' : c = 92 := UInt8.toNat_inj.1 (by simpa using hc2)
            subst hc2'
            split at h
            · cases h
            · rename_i d r'
              split at h
              · cases h
              · rename_i e he
                obtain ⟨b', h1, h2, h3⟩ := ih r'.length (by simp only [List.length_cons]; omega) r' rfl _ _ _ h
                refine ⟨e :: b', by rw [h1]; simp, by simp; omega, ?_⟩
                rw [quoteB_cons, esc_quote he]
                rw [show (92 :: d :: r').length - left = (r'.length - left) + 1 + 1 by simp; omega, List.take_succ_cons, List.take_succ_cons, h3]
                simp
          · rename_i hc2
            split at h
            · cases h
            · rename_i hc3
              obtain ⟨b', h1, h2, h3⟩ := ih r.length (by simp) r rfl _ _ _ h
              refine ⟨c :: b', by rw [h1]; simp, by simp; omega, ?_⟩
              rw [quoteB_cons, plain_quote hc1 hc2 hc3]
              rw [show (c :: r).length - left = (r.length - left) + 1 by simp; omega, List.take_succ_cons, h3]
              simp

/-! ### a token's word -/
theorem signAt_prefix {r s : List UInt8} (h : signAt r = some s) : r.take s.length = s := by
  unfold signAt at h
  split at h
  · rename_i p hp
    injection h with h; subst h
    have := List.find?_some hp
    rw [List.isPrefixOf_iff_prefix] at this
    exact (List.prefix_iff_eq_take.1 this).symm
  · split at h
    · cases h
    · split at h
      · injection h with h; subst h; rfl
      · cases h
/-- The token at k, its word, and the bytes in which it stands. -/
theorem lexOne_word {l : List UInt8} {k e2 : Nat} {t : Tok} (h : lexOne l k = .inr (t, e2)) :
    t.at_ = (k : Int) ∧ t.kind ≠ 5 ∧ -1000000000000000 ≤ t.n ∧ t.n ≤ 1000000000000000 ∧ t.s.length ≤ l.length ∧ ∃ w, wordT t = some w ∧ w ≠ [] ∧ e2 = k + w.length ∧ (l.drop k).take w.length = w := by
  have hp := lexOne_pos h
  have cut : ∀ z, k ≤ z → z ≤ l.length → ((l.take z).drop k).length = z - k ∧ (l.drop k).take (z - k) = (l.take z).drop k := by
    intro z h1 h2
    refine ⟨by simp; omega, by rw [List.take_drop]; congr 2; omega⟩
  unfold lexOne at h
  split at h
  · cases h
  · rename_i c hc
    have hk : k < l.length := (List.getElem?_eq_some_iff.1 hc).1
    split at h
    · simp only at h
      split at h
      · cases h
      · injection h with h; injection h with h1 h2; subst h1
        have hle := spanTo_le isWord l k (by omega)
        obtain ⟨c1, c2⟩ := cut (spanTo isWord l k) (by omega) hle
        refine ⟨rfl, by simp, by simp, by simp, ?_, _, rfl, ?_, ?_, ?_⟩
        · show ((l.take (spanTo isWord l k)).drop k).length ≤ l.length; omega
        · intro e; have := congrArg List.length e; rw [c1] at this; simp at this; omega
        · rw [c1]; omega
        · rw [c1, c2]
    · split at h
      · simp only at h
        split at h
        · rename_i n hnv
          injection h with h; injection h with h1 h2; subst h1
          have hle := spanTo_le isWord l k (by omega)
          obtain ⟨c1, c2⟩ := cut (spanTo isWord l k) (by omega) hle
          have hne : (l.take (spanTo isWord l k)).drop k ≠ [] := by
            intro e; have := congrArg List.length e; rw [c1] at this; simp at this; omega
          obtain ⟨i1, i2⟩ := numVal_spec hnv hne
          have hw : wordT ⟨2, k, [], n⟩ = some ((l.take (spanTo isWord l k)).drop k) := by
            unfold wordT
            simp only
            rw [if_neg (by decide), if_pos trivial, i1]
          exact ⟨rfl, by simp, by simp only; omega, by simp only; omega, by simp, _, hw, hne, by rw [c1]; omega, by rw [c1, c2]⟩
        · cases h
      · split at h
        · rename_i hq
          split at h
          · cases h
          · rename_i b left hsc
            injection h with h; injection h with h1 h2; subst h1
            have hcq : c = 34 := UInt8.toNat_inj.1 (by simpa using hq)
            subst hcq
            obtain ⟨b', hb1, hb2, hb3⟩ := text_quote _ _ _ _ hsc
            rw [List.nil_append] at hb1
            subst hb1
            have hleft := textScan_left _ _ _ _ hsc
            simp only [List.length_drop] at hb2 hb3 hleft
            have hlen := congrArg List.length hb3
            simp only [List.length_take, List.length_drop, List.length_append, List.length_cons, List.length_nil] at hlen
            have hql := quoteB_length b
            have hw : wordT ⟨3, k, b, 0⟩ = some ([34] ++ quoteB b ++ [34]) := by
              unfold wordT
              simp only
              rw [if_neg (by decide), if_neg (by decide), if_pos trivial]
            refine ⟨rfl, by simp, by simp, by simp, by simp only; omega, _, hw, by simp, by simp; omega, ?_⟩
            rw [drop_cons hc]
            rw [show ([34] ++ quoteB b ++ [34] : List UInt8).length = (l.length - (k + 1) - left) + 1 by simp; omega, List.take_succ_cons, hb3]
            simp
        · split at h
          · rename_i s hs
            injection h with h; injection h with h1 h2; subst h1
            have hsl := signAt_length hs
            have hw : wordT ⟨4, k, s, 0⟩ = some s := rfl
            refine ⟨rfl, by simp, by simp, by simp, by simp only; simp at hsl; omega, _, hw, ?_, by omega, signAt_prefix hs⟩
            intro e; subst e; simp at hsl
          · cases h
end Go.Shadow.Lex

/- Pure laws of the lexer: what is printed is read back; the tokens cover their source. -/
namespace Go.Shadow.Lex

theorem stops_sp (w : List UInt8) : Stops (32 :: w) := .inr ⟨_, _, rfl, by decide⟩
theorem lexOne_at {l : List UInt8} {k e2 : Nat} {t : Tok} (h : lexOne l k = .inr (t, e2)) : ∃ c, l[k]? = some c ∧ isBlank c = false ∧ c.toNat ≠ 35 := by
  unfold lexOne at h
  split at h
  · cases h
  · rename_i c hc
    refine ⟨c, hc, ?_⟩
    split at h
    · rename_i hL
      simp only [isLetter, Bool.or_eq_true, Bool.and_eq_true, beq_iff_eq, decide_eq_true_eq] at hL
      constructor
      · simp only [isBlank, Bool.or_eq_false_iff, beq_eq_false_iff_ne]; omega
      · omega
    · split at h
      · rename_i hD
        simp only [isDigit, Bool.and_eq_true, decide_eq_true_eq] at hD
        constructor
        · simp only [isBlank, Bool.or_eq_false_iff, beq_eq_false_iff_ne]; omega
        · omega
      · split at h
        · rename_i hq
          constructor
          · simp only [isBlank, Bool.or_eq_false_iff, beq_eq_false_iff_ne]; omega
          · omega
        · split at h
          · rename_i s hs
            unfold signAt at hs
            rw [drop_cons hc] at hs
            have key : ∀ x ∈ signs2, ∀ a b, x = [a, b] → isBlank a = false ∧ a.toNat ≠ 35 := by
              intro x hx
              simp only [signs2, List.mem_cons, List.not_mem_nil, or_false] at hx
              rcases hx with rfl | rfl | rfl | rfl | rfl | rfl | rfl | rfl | rfl <;> (rintro a b e; injection e with e1 e2; subst e1; decide)
            have key1 : ∀ a ∈ signs1, isBlank a = false ∧ a.toNat ≠ 35 := by decide
            split at hs
            · rename_i p hp
              have h1 := List.find?_some hp
              have h2 := List.mem_of_find?_eq_some hp
              obtain ⟨a, b, rfl, _⟩ := signs2_second p h2
              have : a = c := by simp [List.isPrefixOf] at h1; exact h1.1
              subst this
              exact key _ h2 _ _ rfl
            · simp only at hs
              split at hs
              · rename_i hm; exact key1 _ hm
              · cases hs
          · cases h

/-- A token's word, wherever it stands, is that token. -/
theorem word_lex {l : List UInt8} {k e2 : Nat} {t : Tok} {w : List UInt8} (h : lexOne l k = .inr (t, e2)) (hw : wordT t = some w) (u v : List UInt8) (hv : Stops v) :
    lexOne (u ++ (w ++ v)) u.length = .inr (⟨t.kind, u.length, t.s, t.n⟩, u.length + w.length) ∧ ∃ c r, w = c :: r ∧ isBlank c = false ∧ c.toNat ≠ 35 := by
  obtain ⟨hat, _, _, _, _, w', hw', hne, he2, hcut⟩ := lexOne_word h
  rw [hw] at hw'; injection hw' with hw'; subst hw'
  have hp := lexOne_pos h
  have hl : l = l.take k ++ (w ++ l.drop (k + w.length)) := by
    conv => lhs; rw [← List.take_append_drop k l]
    congr 1
    conv => lhs; rw [← List.take_append_drop w.length (l.drop k), hcut]
    rw [List.drop_drop]
  have hkl : (l.take k).length = k := by simp; omega
  have h0 := lexOne_shift (l.take k) (w ++ l.drop (k + w.length)) 0
  rw [← hl, hkl, Nat.add_zero, h] at h0
  cases hz : lexOne (w ++ l.drop (k + w.length)) 0 with
  | inl e => rw [hz] at h0; cases h0
  | inr x =>
    obtain ⟨t0, e0⟩ := x
    rw [hz] at h0
    injection h0 with h0; injection h0 with q1 q2
    have e0w : e0 = w.length := by omega
    subst e0w
    have h1 := lexOne_tail hz (Nat.le_refl _) hv
    have h2 := lexOne_shift u (w ++ v) 0
    rw [h1, Nat.add_zero] at h2
    refine ⟨?_, ?_⟩
    · rw [h2, q1]
      have ht0 := (lexOne_word hz).1
      simp only [shTok]
      rw [ht0]
      simp
    · obtain ⟨c, hc, h3, h4⟩ := lexOne_at hz
      cases w with
      | nil => exact absurd rfl hne
      | cons c' r =>
        simp at hc; subst hc
        exact ⟨_, _, rfl, h3, h4⟩

theorem join_cons2 (x y : List UInt8) (r : List (List UInt8)) : Lib.join (x :: y :: r) [32] = x ++ 32 :: Lib.join (y :: r) [32] := by
  rw [Lib.join_cons, Lib.join_cons]
  simp [Lib.joinTail]
/-- A run's words, joined, are read as its tokens. -/
theorem run_join {l : List UInt8} : ∀ {j k : Nat} {ts : List Tok}, Run l j ts k → ∀ (u : List UInt8), ∃ ts' z, lexJ (u ++ Lib.join (ts.filterMap wordT) [32]) u.length = .inr (ts' ++ [⟨5, z, [], 0⟩]) ∧ ts'.map noAt = ts.map noAt := by
  intro j k ts h
  induction h with
  | nil => intro u; exact ⟨[], _, by rw [lexJ_end (by simp [Lib.join, List.intercalate])]; rfl, rfl⟩
  | @cons j e2 k t ts h1 h2 ih =>
    intro u
    obtain ⟨_, _, _, _, _, w, hw, hne, _, _⟩ := lexOne_word h1
    cases ts with
    | nil =>
      obtain ⟨g1, _⟩ := word_lex h1 hw u [] (.inl rfl)
      rw [List.append_nil] at g1
      have e1 : Lib.join ([t].filterMap wordT) [32] = w := by
        rw [List.filterMap_cons_some hw]; exact Lib.join_one _ _
      rw [e1]
      refine ⟨[⟨t.kind, u.length, t.s, t.n⟩], ((u ++ w).length : Nat), ?_, by simp [noAt]⟩
      rw [lexJ_one g1, skipTo_end (by simp), lexJ_end (by simp)]
      rfl
    | cons t2 ts =>
      cases h2 with
      | cons h3 h4 =>
        obtain ⟨_, _, _, _, _, w2, hw2, _, _, _⟩ := lexOne_word h3
        have e1 : Lib.join ((t :: t2 :: ts).filterMap wordT) [32] = w ++ 32 :: Lib.join ((t2 :: ts).filterMap wordT) [32] := by
          rw [List.filterMap_cons_some hw, List.filterMap_cons_some hw2, join_cons2]
        rw [e1]
        obtain ⟨g1, _⟩ := word_lex h1 hw u (32 :: Lib.join ((t2 :: ts).filterMap wordT) [32]) (stops_sp _)
        obtain ⟨ts', z, g2, g3⟩ := ih (u ++ (w ++ [32]))
        have e2' : u ++ (w ++ 32 :: Lib.join ((t2 :: ts).filterMap wordT) [32]) = (u ++ (w ++ [32])) ++ Lib.join ((t2 :: ts).filterMap wordT) [32] := by simp
        refine ⟨⟨t.kind, u.length, t.s, t.n⟩ :: ts', z, ?_, by simp [g3, noAt]⟩
        rw [lexJ_one g1]
        have hsk : skipTo (u ++ (w ++ 32 :: Lib.join ((t2 :: ts).filterMap wordT) [32])) (u.length + w.length) = (u ++ (w ++ [32])).length := by
          obtain ⟨_, c, r, hcr, hb, h35⟩ := word_lex h3 hw2 [] [] (.inl rfl)
          have hjc : ∃ r', Lib.join ((t2 :: ts).filterMap wordT) [32] = c :: r' := by
            rw [List.filterMap_cons_some hw2, hcr, Lib.join_cons]; exact ⟨_, rfl⟩
          obtain ⟨r', hr'⟩ := hjc
          rw [hr']
          have := skip_shift u (w ++ 32 :: c :: r') w.length
          rw [this]
          have h5 := skip_shift w (32 :: c :: r') 0
          rw [Nat.add_zero] at h5
          rw [h5]
          have h6 : skipTo (32 :: c :: r') 0 = 1 := by simp [skipTo, sk, hb, h35, (show isBlank 32 = true from rfl)]
          rw [h6]
          simp
        rw [hsk, e2', g2]
        rfl
theorem run_words {l : List UInt8} : ∀ {j k : Nat} {ts : List Tok}, Run l j ts k → (Lib.join (ts.filterMap wordT) [32]).length + j ≤ k + ts.length ∧ ts.length + j ≤ k := by
  intro j k ts h
  induction h with
  | nil => simp [Lib.join, List.intercalate]
  | @cons j e2 k t ts h1 h2 ih =>
    obtain ⟨_, _, _, _, _, w, hw, hne, he2, _⟩ := lexOne_word h1
    have hge := skipTo_ge l j
    have hwl : 0 < w.length := List.length_pos_iff.2 hne
    cases ts with
    | nil =>
      rw [List.filterMap_cons_some hw, List.filterMap_nil, Lib.join_one]
      have := h2.le
      simp; omega
    | cons t2 ts =>
      cases h2 with
      | cons h3 h4 =>
        obtain ⟨_, _, _, _, _, w2, hw2, _, _, _⟩ := lexOne_word h3
        have e1 : Lib.join ((t :: t2 :: ts).filterMap wordT) [32] = w ++ 32 :: Lib.join ((t2 :: ts).filterMap wordT) [32] := by
          rw [List.filterMap_cons_some hw, List.filterMap_cons_some hw2, join_cons2]
        rw [e1]
        simp only [List.length_append, List.length_cons] at ih ⊢
        omega
theorem wordT_end (z : Int) : wordT ⟨5, z, [], 0⟩ = none := rfl
theorem wordT_noAt {t u : Tok} (h : noAt t = noAt u) : wordT t = wordT u := by
  simp only [noAt, Prod.mk.injEq] at h
  unfold wordT
  rw [h.1, h.2.1, h.2.2]
theorem words_noAt : ∀ {ts us : List Tok}, ts.map noAt = us.map noAt → ts.filterMap wordT = us.filterMap wordT
  | [], [], _ => rfl
  | [], u :: us, h => by simp at h
  | t :: ts, [], h => by simp at h
  | t :: ts, u :: us, h => by
    simp only [List.map_cons, List.cons.injEq] at h
    rw [List.filterMap_cons, List.filterMap_cons, wordT_noAt h.1, words_noAt h.2]
/-- What is printed is read back. -/
theorem reads_pure {l : List UInt8} {ts : List Tok} (hl : l.length ≤ 2000) (h : lex l = .inr ts) :
    (∀ t ∈ ts, t.s.length ≤ 2000 ∧ -1000000000000000 ≤ t.n ∧ t.n ≤ 1000000000000000) ∧ ts.length ≤ 2001 ∧ (Lib.join (ts.filterMap wordT) [32]).length ≤ 4001 ∧
    ∃ ms, lex (Lib.join (ts.filterMap wordT) [32]) = .inr ms ∧ ms.map noAt = ts.map noAt ∧ ms.filterMap wordT = ts.filterMap wordT := by
  rw [lex_J (by omega)] at h
  have hne : 0 < ts.length := List.length_pos_iff.2 fun e => by subst e; exact J_ne h
  obtain ⟨k, t, hr, ht, hk, hat, hrest, hlast, _⟩ := J_ok _ 0 ts (Nat.le_refl _) (by omega) h (ts.length - 1) (by omega)
  obtain ⟨h1, h2⟩ := hlast (by omega)
  generalize ts.take (ts.length - 1) = ts0 at h1 hr
  subst h1
  have hw := run_words hr
  have hf : (ts0 ++ [(⟨5, l.length, [], 0⟩ : Tok)]).filterMap wordT = ts0.filterMap wordT := by simp [wordT_end]
  rw [hf]
  have hall : ∀ {j k : Nat} {us : List Tok}, Run l j us k → ∀ t ∈ us, t.s.length ≤ 2000 ∧ -1000000000000000 ≤ t.n ∧ t.n ≤ 1000000000000000 := by
    intro j k us hr
    induction hr with
    | nil => intro t ht; cases ht
    | @cons j e2 k t us h1 h2 ih =>
      intro t' ht'
      rcases List.mem_cons.1 ht' with rfl | ht'
      · obtain ⟨_, _, g1, g2, g3, _⟩ := lexOne_word h1; exact ⟨by omega, g1, g2⟩
      · exact ih t' ht'
  refine ⟨fun t ht => ?_, by simp; omega, by omega, ?_⟩
  · rcases List.mem_append.1 ht with ht | ht
    · exact hall hr t ht
    · simp at ht; subst ht; simp
  · obtain ⟨ts', z, g1, g2⟩ := run_join hr []
    rw [List.nil_append] at g1
    refine ⟨ts' ++ [⟨5, z, [], 0⟩], ?_, by simp [g2, noAt], by simp [wordT_end, words_noAt g2]⟩
    rw [lex_J (by omega)]
    unfold J
    have hsk : skipTo (Lib.join (ts0.filterMap wordT) [32]) 0 = 0 := by
      cases hr with
      | nil => simp [Lib.join, List.intercalate, skipTo, sk]
      | cons h3 h4 =>
        obtain ⟨_, _, _, _, _, w2, hw2, _, _, _⟩ := lexOne_word h3
        obtain ⟨_, c, r, hcr, hb, h35⟩ := word_lex h3 hw2 [] [] (.inl rfl)
        rw [List.filterMap_cons_some hw2, hcr, Lib.join_cons]
        simp [skipTo, sk, hb, h35]
    rw [hsk]
    exact g1
theorem Run.det {l : List UInt8} : ∀ {j k k' : Nat} {ts : List Tok}, Run l j ts k → Run l j ts k' → k = k' := by
  intro j k k' ts h
  induction h generalizing k' with
  | nil => intro h2; cases h2; rfl
  | cons h1 _ ih =>
    intro h2
    cases h2 with
    | cons h3 h4 =>
      rw [h1] at h3
      injection h3 with h3; injection h3 with _ h3; subst h3
      exact ih h4
/-- The tokens cover their source. -/
theorem covers_pure {l : List UInt8} {ts : List Tok} (hl : l.length ≤ 2000) (h : lex l = .inr ts) (i k : Nat) (hi : i < ts.length) (hr : Run l 0 (ts.take i) k) :
    ∃ (t : Tok) (w : List UInt8), ts[i]? = some t ∧ k ≤ l.length ∧ t.at_ = (skipTo l k : Nat) ∧ Lib.join ([t].filterMap wordT) [32] = w ∧ skipTo l k + w.length ≤ l.length ∧ (l.take (skipTo l k + w.length)).drop (skipTo l k) = w ∧
      (w = [] ↔ i + 1 = ts.length) ∧ (t.s.length ≤ 2000 ∧ -1000000000000000 ≤ t.n ∧ t.n ≤ 1000000000000000) ∧ (i + 1 = ts.length → skipTo l k + w.length = l.length) ∧ (i + 1 < ts.length → Run l 0 (ts.take (i + 1)) (skipTo l k + w.length)) := by
  obtain ⟨hall, _, _, _⟩ := reads_pure hl h
  rw [lex_J (by omega)] at h
  obtain ⟨k', t, hr', ht, hk, hat, hrest, hlast, hmid⟩ := J_ok _ 0 ts (Nat.le_refl _) (by omega) h i hi
  obtain rfl := hr'.det hr
  have hb := hall t (List.mem_of_getElem? ht)
  by_cases hil : i + 1 = ts.length
  · obtain ⟨h1, h2⟩ := hlast hil
    have hte : t = ⟨5, l.length, [], 0⟩ := by
      rw [h1, List.getElem?_append_right (by simp; omega)] at ht
      have : i - (ts.take i).length = 0 := by simp; omega
      rw [this] at ht
      injection ht with ht; exact ht.symm
    refine ⟨t, [], ht, hk, hat.symm, ?_, by simp; omega, by simp, ⟨fun _ => hil, fun _ => rfl⟩, hb, fun _ => by simp; omega, fun h => by omega⟩
    rw [hte]; rfl
  · have hlt := hmid (by omega)
    have hd : ts.drop i = t :: ts.drop (i + 1) := by
      obtain ⟨q1, q2⟩ := List.getElem?_eq_some_iff.1 ht
      rw [List.drop_eq_getElem_cons q1, q2]
    unfold J at hrest
    cases hone : lexOne l (skipTo l k') with
    | inl e => rw [lexJ_bad hlt hone] at hrest; cases hrest
    | inr x =>
      obtain ⟨t', e2⟩ := x
      have hone' := hone
      rw [lexJ_one hone, hd] at hrest
      have htt : t' = t := by
        cases hx : lexJ l (skipTo l e2) with
        | inl p => rw [hx] at hrest; cases hrest
        | inr us => rw [hx] at hrest; injection hrest with hrest; simp at hrest; exact hrest.1
      subst htt
      obtain ⟨_, _, _, _, _, w, hw, hne, he2, hcut⟩ := lexOne_word hone
      have hp := lexOne_pos hone
      refine ⟨t', w, ht, hk, hat.symm, ?_, by omega, ?_, ⟨fun e => absurd e hne, fun e => absurd e hil⟩, hb, fun e => absurd e hil, fun _ => ?_⟩
      · rw [List.filterMap_cons_some hw, List.filterMap_nil, Lib.join_one]
      · have := hcut
        rw [List.take_drop] at this
        exact this
      · have : ts.take (i + 1) = ts.take i ++ [t'] := by rw [List.take_add_one, ht]; rfl
        rw [this]
        refine hr.trans (.cons hone ?_)
        rw [he2]; exact .nil _
end Go.Shadow.Lex

/- The functions of the lexer's specification, as shadow contracts: letter, digit, Blank, pair, name, number. No condition but the sources' lengths. -/
namespace Go.Shadow.Lex
open Go Go.RowKit Go.Proofs

theorem letter_ret (c : UInt8) : SRet Tryz.prog LG 36 [.int .u8 c.toNat] (.bool (isLetter c)) := by
  intro σ
  refine code36.call hm (by simp) ?_
  have hc := c.toNat_lt
  repeat' (first
    | refine Test.split (fun h => ?_) (fun h => ?_)
    | refine Ret.mk' ⟨rfl, ?_⟩)
  all_goals (refine congrArg (fun x => SEnd.ret (V.bool x)) ?_; simp only [isLetter]; grind)
theorem digit_ret (c : UInt8) : SRet Tryz.prog LG 38 [.int .u8 c.toNat] (.bool (isDigit c)) := by
  intro σ
  refine code38.call hm (by simp) ?_
  have hc := c.toNat_lt
  repeat' (first
    | refine Test.split (fun h => ?_) (fun h => ?_)
    | refine Ret.mk' ⟨rfl, ?_⟩)
  all_goals (refine congrArg (fun x => SEnd.ret (V.bool x)) ?_; simp only [isDigit]; grind)
def pairV (c : UInt8) : Int := match esc c with
  | some e => e.toNat
  | none => 0
theorem pair_ret (c : UInt8) : SRet Tryz.prog LG 54 [.int .u8 c.toNat] (.int .u8 (pairV c)) := by
  intro σ
  refine code54.call hm (by simp) ?_
  have hc := c.toNat_lt
  repeat' (first
    | refine Test.split (fun h => ?_) (fun h => ?_)
    | refine Ret.mk' ⟨rfl, ?_⟩)
  all_goals (refine congrArg (fun x => SEnd.ret (V.int .u8 x)) ?_; simp only [pairV, esc])
  · rw [if_pos (by omega)]; simp; omega
  · rw [if_neg (by omega), if_pos (by omega)]; simp; omega
  · rw [if_neg (by omega), if_neg (by omega), if_pos (by omega)]; rfl
  · rw [if_neg (by omega), if_neg (by omega), if_neg (by omega)]

theorem get_some {l : List UInt8} {j : Nat} (h : j < l.length) : ∃ c, l[j]? = some c := ⟨l[j], by simp [h]⟩

/-- A comment, byte by byte: where it ends. -/
def lineTo (l : List UInt8) (k : Nat) : Nat := k + ((l.drop k).takeWhile (·.toNat != 10)).length
theorem lineTo_eq (l : List UInt8) (k : Nat) : lineTo l k = spanTo (·.toNat != 10) l k := rfl

set_option maxHeartbeats 4000000 in
theorem blank_ret (l : List UInt8) (k : Nat) (hl : l.length ≤ 70000) (hk : k ≤ l.length) : SRet Tryz.prog LG 19 [.str l, .int .i64 k] (.int .i64 (skipTo l k)) := by
  intro σ
  refine code19.call hm (by simp) ?_
  refine ⟨fun m sl σ' => σ' = σ ∧ ∃ j : Nat, sl = ofL [(0, some (.str l)), (1, some (.int .i64 j))] ∧ j ≤ l.length ∧ skipTo l j = skipTo l k ∧ m = l.length - j, _, ⟨rfl, k, rfl, hk, rfl, rfl⟩, ?_⟩
  rintro m sl σ' ⟨rfl, j, rfl, hj, hsp, rfl⟩
  refine Test.split (fun h => ?_) (fun h => ?_)
  · obtain ⟨c, hc⟩ := get_some (l := l) (j := j) (by omega)
    have hstep : isBlank c = true → ∃ m σ'', m < l.length - j ∧ Forget σ' σ'' ∧ σ'' = σ' ∧ ∃ j' : Nat, ofL [(0, some (.str l)), (1, some (.int .i64 (j + 1 : Nat)))] = ofL [(0, some (.str l)), (1, some (V.int .i64 j'))] ∧ j' ≤ l.length ∧ skipTo l j' = skipTo l k ∧ m = l.length - j' := by
      intro hb
      exact ⟨_, _, by omega, .refl _, rfl, j + 1, rfl, by omega, by rw [skipTo_blank hc hb, hsp], rfl⟩
    refine Idx.mk' j c rfl hc ?_
    refine Test.split (fun h1 => ?_) (fun h1 => ?_)
    · refine Arith.i64 ((j + 1 : Nat) : Int) (by simp) (by omega) ?_
      exact hstep (by simp [isBlank]; omega)
    · refine Idx.mk' j c rfl hc ?_
      refine Test.split (fun h2 => ?_) (fun h2 => ?_)
      · refine Arith.i64 ((j + 1 : Nat) : Int) (by simp) (by omega) ?_
        exact hstep (by simp [isBlank]; omega)
      · refine Idx.mk' j c rfl hc ?_
        refine Test.split (fun h3 => ?_) (fun h3 => ?_)
        · refine Arith.i64 ((j + 1 : Nat) : Int) (by simp) (by omega) ?_
          exact hstep (by simp [isBlank]; omega)
        · refine Idx.mk' j c rfl hc ?_
          refine Test.split (fun h4 => ?_) (fun h4 => ?_)
          · refine Arith.i64 ((j + 1 : Nat) : Int) (by simp) (by omega) ?_
            exact hstep (by simp [isBlank]; omega)
          · have hb : isBlank c = false := by simp [isBlank]; omega
            refine Idx.mk' j c rfl hc ?_
            refine Test.split (fun h5 => ?_) (fun h5 => ?_)
            · have hcm := skipTo_comment hc (by omega)
              refine ⟨fun m sl σ1 => σ1 = σ' ∧ ∃ i : Nat, sl = ofL [(0, some (.str l)), (1, some (.int .i64 i))] ∧ j ≤ i ∧ i ≤ l.length ∧ lineTo l i = lineTo l j ∧ m = l.length - i, _, ⟨rfl, j, rfl, by omega, by omega, rfl, rfl⟩, ?_⟩
              rintro m sl σ1 ⟨rfl, i, rfl, hji, hi, hli, rfl⟩
              refine Test.split (fun h6 => ?_) (fun h6 => ?_)
              · obtain ⟨d, hd⟩ := get_some (l := l) (j := i) (by omega)
                refine Idx.mk' i d rfl hd ?_
                refine Test.split (fun h7 => ?_) (fun h7 => ?_)
                · refine Arith.i64 ((i + 1 : Nat) : Int) (by simp) (by omega) ?_
                  refine ⟨_, _, ?_, Forget.refl _, rfl, i + 1, rfl, by omega, by omega, ?_, rfl⟩
                  · omega
                  · rw [lineTo_eq, spanTo_step hd (by simp; omega), ← lineTo_eq, hli]
                · have he : lineTo l j = i := by rw [← hli, lineTo_eq, spanTo_stop hd (by simp; omega)]
                  refine ⟨_, _, ?_, Forget.refl _, rfl, i, rfl, by omega, ?_, rfl⟩
                  · have := hcm.2; unfold lineTo at he; omega
                  · rw [← hsp, ← he]; exact hcm.1
              · have he : lineTo l j = i := by rw [← hli, lineTo_eq, spanTo_end (by omega)]
                refine ⟨_, _, ?_, Forget.refl _, rfl, i, rfl, by omega, ?_, rfl⟩
                · have := hcm.2; unfold lineTo at he; omega
                · rw [← hsp, ← he]; exact hcm.1
            · refine Ret.mk' ⟨rfl, ?_⟩
              rw [← hsp, skipTo_stop hc hb (by omega)]
  · refine Ret.mk' ⟨rfl, ?_⟩
    rw [← hsp, skipTo_end (by omega)]

def oneC : Sum Nat (Tok × Nat) → List V
  | .inl e => [.int .i64 0, .int .i64 0, .str [], .int .i64 0, .int .i64 0, .int .i64 e]
  | .inr (t, e2) => [.int .i64 t.kind, .int .i64 t.at_, .str t.s, .int .i64 t.n, .int .i64 e2, .int .i64 0]

def oneV (x : Sum Nat (Tok × Nat)) : V := .agg (oneC x)
theorem oneC_length (x : Sum Nat (Tok × Nat)) : (oneC x).length = 6 := by rcases x with e | ⟨t, e2⟩ <;> rfl

set_option maxHeartbeats 4000000 in
theorem refName_ret (l : List UInt8) (k : Nat) (hl : l.length ≤ 70000) (hk : k ≤ l.length) :
    SRet Tryz.prog LG 37 [.str l, .int .i64 k] (oneV (if 32 < spanTo isWord l k - k then .inl 2 else .inr (⟨1, k, (l.take (spanTo isWord l k)).drop k, 0⟩, spanTo isWord l k))) := by
  intro σ
  have h1 := spanTo_ge isWord l k
  have h2 := spanTo_le isWord l k hk
  refine code37.call hm (by simp) ?_
  intro b4 h4
  obtain ⟨o1, g4⟩ := new_box h4 [.int .i64 0, .int .i64 0, .str [], .int .i64 0, .int .i64 0, .int .i64 0]
  generalize σ.put b4 [.int .i64 0, .int .i64 0, .str [], .int .i64 0, .int .i64 0, .int .i64 0] = σ1 at *
  refine ⟨fun m sl σ' => σ' = σ1 ∧ ∃ j : Nat, sl = ofL [(0, some (.str l)), (1, some (.int .i64 k)), (4, some (.loc b4 0)), (5, some (.int .i64 j))] ∧ j ≤ l.length ∧ spanTo isWord l j = spanTo isWord l k ∧ m = l.length - j, _, ⟨rfl, k, rfl, hk, rfl, rfl⟩, ?_⟩
  rintro m sl σ' ⟨rfl, j, rfl, hj, hsp, rfl⟩
  have hnext : ∀ c, l[j]? = some c → isWord c = true → ∃ m σ'', m < l.length - j ∧ Forget σ' σ'' ∧ σ'' = σ' ∧ ∃ j' : Nat, ofL [(0, some (.str l)), (1, some (.int .i64 k)), (4, some (.loc b4 0)), (5, some (.int .i64 (j + 1 : Nat)))] = ofL [(0, some (.str l)), (1, some (.int .i64 k)), (4, some (.loc b4 0)), (5, some (V.int .i64 j'))] ∧ j' ≤ l.length ∧ spanTo isWord l j' = spanTo isWord l k ∧ m = l.length - j' := by
    intro c hc hw
    have := (List.getElem?_eq_some_iff.1 hc).1
    exact ⟨_, _, by omega, .refl _, rfl, j + 1, rfl, by omega, by rw [spanTo_step hc hw, hsp], rfl⟩
  refine Test.split (fun h => ?_) (fun h => ?_)
  · obtain ⟨c, hc⟩ := get_some (l := l) (j := j) (by omega)
    refine Idx.mk' j c rfl hc ?_
    refine CallK.pure (letter_ret c) ?_
    cases hL : isLetter c with
    | true =>
      refine Arith.i64 ((j + 1 : Nat) : Int) (by simp) (by omega) ?_
      exact hnext c hc (by simp [isWord, hL])
    | false =>
      refine Idx.mk' j c rfl hc ?_
      refine CallK.pure (digit_ret c) ?_
      cases hD : isDigit c with
      | true =>
        refine Arith.i64 ((j + 1 : Nat) : Int) (by simp) (by omega) ?_
        exact hnext c hc (by simp [isWord, hD])
      | false =>
        have hjk : spanTo isWord l k = j := by rw [← hsp, spanTo_stop hc (by simp [isWord, hL, hD])]
        rw [hjk] at h1 h2 ⊢
        refine Arith.i64 ((j - k : Nat) : Int) (by omega) (by omega) ?_
        refine Test.split (fun h9 => ?_) (fun h9 => ?_)
        · refine Sure.mk' rfl ?_
          refine Store.mk' [.int .i64 0, .int .i64 0, .str [], .int .i64 0, .int .i64 0, .int .i64 2] g4 (Nat.le_of_ble_eq_true rfl) rfl (fun σ2 e2 => ?_)
          subst e2
          refine Load.mk' put_box (Nat.le_of_ble_eq_true rfl) ?_
          refine Ret.weak (.refl _) (over_put o1 h4) ⟨rfl, ?_⟩
          rw [if_pos (by omega)]; rfl
        · refine Cut.mk' k j rfl rfl (by omega) (by omega) ?_
          refine Sure.mk' rfl ?_
          refine Store.mk' [.int .i64 1, .int .i64 k, .str ((l.take j).drop k), .int .i64 0, .int .i64 j, .int .i64 0] g4 (Nat.le_of_ble_eq_true rfl) rfl (fun σ2 e2 => ?_)
          subst e2
          refine Load.mk' put_box (Nat.le_of_ble_eq_true rfl) ?_
          refine Ret.weak (.refl _) (over_put o1 h4) ⟨rfl, ?_⟩
          rw [if_neg (by omega)]; rfl
  · have hjk : spanTo isWord l k = j := by rw [← hsp, spanTo_end (by omega)]
    rw [hjk] at h1 h2 ⊢
    refine Arith.i64 ((j - k : Nat) : Int) (by omega) (by omega) ?_
    refine Test.split (fun h9 => ?_) (fun h9 => ?_)
    · refine Sure.mk' rfl ?_
      refine Store.mk' [.int .i64 0, .int .i64 0, .str [], .int .i64 0, .int .i64 0, .int .i64 2] g4 (Nat.le_of_ble_eq_true rfl) rfl (fun σ2 e2 => ?_)
      subst e2
      refine Load.mk' put_box (Nat.le_of_ble_eq_true rfl) ?_
      refine Ret.weak (.refl _) (over_put o1 h4) ⟨rfl, ?_⟩
      rw [if_pos (by omega)]; rfl
    · refine Cut.mk' k j rfl rfl (by omega) (by omega) ?_
      refine Sure.mk' rfl ?_
      refine Store.mk' [.int .i64 1, .int .i64 k, .str ((l.take j).drop k), .int .i64 0, .int .i64 j, .int .i64 0] g4 (Nat.le_of_ble_eq_true rfl) rfl (fun σ2 e2 => ?_)
      subst e2
      refine Load.mk' put_box (Nat.le_of_ble_eq_true rfl) ?_
      refine Ret.weak (.refl _) (over_put o1 h4) ⟨rfl, ?_⟩
      rw [if_neg (by omega)]; rfl
end Go.Shadow.Lex

/- The specification's 'number', 'text' and 'Sign', as shadow contracts. No condition but the sources' lengths. -/
namespace Go.Shadow.Lex
open Go Go.RowKit Go.Proofs

theorem takeWhile_take (p : UInt8 → Bool) : ∀ r : List UInt8, r.take (r.takeWhile p).length = r.takeWhile p
  | [] => rfl
  | c :: r => by
    simp only [List.takeWhile_cons]
    split
    · simp [takeWhile_take p r]
    · rfl
theorem slice_span (p : UInt8 → Bool) (l : List UInt8) (k : Nat) : (l.take (spanTo p l k)).drop k = (l.drop k).takeWhile p := by
  rw [spanTo, List.drop_take, Nat.add_sub_cancel_left, takeWhile_take]
theorem letter_after {e : UInt8} : ∀ r : List UInt8, r[(r.takeWhile isDigit).length]? = some e → isLetter e = true → (r.takeWhile isWord).all isDigit = false
  | [], h, _ => by simp at h
  | c :: r, h, he => by
    by_cases hd : isDigit c = true
    · simp only [List.takeWhile_cons, hd, if_true, List.length_cons, List.getElem?_cons_succ] at h
      simp [List.takeWhile_cons, isWord, hd, letter_after r h he]
    · simp only [List.takeWhile_cons, hd, Bool.false_eq_true, if_false, List.length_nil, List.getElem?_cons_zero, Option.some.injEq] at h
      subst h
      simp [List.takeWhile_cons, isWord, he, hd]
theorem no_letter_after : ∀ r : List UInt8, (∀ e, r[(r.takeWhile isDigit).length]? = some e → isLetter e = false) → r.takeWhile isWord = r.takeWhile isDigit
  | [], _ => rfl
  | c :: r, h => by
    by_cases hd : isDigit c = true
    · simp only [List.takeWhile_cons, hd, if_true, List.length_cons, List.getElem?_cons_succ] at h
      simp [List.takeWhile_cons, isWord, hd, no_letter_after r h]
    · have := h c (by simp [List.takeWhile_cons, hd])
      simp [List.takeWhile_cons, isWord, hd, this]
theorem all_takeWhile (p : UInt8 → Bool) : ∀ r : List UInt8, (r.takeWhile p).all p = true
  | [] => rfl
  | c :: r => by
    simp only [List.takeWhile_cons]
    split
    · rename_i h; simp [h, all_takeWhile p r]
    · rfl
theorem slice_snoc {l : List UInt8} {k i : Nat} {c : UInt8} (hk : k ≤ i) (hc : l[i]? = some c) : (l.take (i + 1)).drop k = (l.take i).drop k ++ [c] := by
  have hi := (List.getElem?_eq_some_iff.1 hc).1
  rw [List.take_add_one, hc, List.drop_append_of_le_length (by simp; omega)]
  rfl
theorem digitsVal_snoc (s : List UInt8) (c : UInt8) : digitsVal (s ++ [c]) = 10 * digitsVal s + (c.toNat - 48) := by simp [digitsVal]

set_option maxHeartbeats 4000000 in
theorem refNumber_ret (l : List UInt8) (k : Nat) (c0 : UInt8) (hl : l.length ≤ 70000) (hc0 : l[k]? = some c0) (hd0 : isDigit c0 = true) :
    SRet Tryz.prog LG 39 [.str l, .int .i64 k] (oneV (match numVal ((l.take (spanTo isWord l k)).drop k) with
      | some n => .inr (⟨2, k, [], n⟩, spanTo isWord l k)
      | none => .inl 27)) := by
  intro σ
  have hk : k < l.length := (List.getElem?_eq_some_iff.1 hc0).1
  have h1 := spanTo_ge isDigit l k
  have h2 := spanTo_le isDigit l k (by omega)
  have hr : l.drop k = c0 :: l.drop (k + 1) := drop_cons hc0
  have hat : ∀ e : UInt8, (l.drop k)[((l.drop k).takeWhile isDigit).length]? = some e ↔ l[spanTo isDigit l k]? = some e := by
    intro e; rw [List.getElem?_drop]; rfl
  have hbad : (15 < spanTo isDigit l k - k ∨ (1 < spanTo isDigit l k - k ∧ c0.toNat = 48) ∨ ∃ d, l[spanTo isDigit l k]? = some d ∧ isLetter d = true) → numVal ((l.take (spanTo isWord l k)).drop k) = none := by
    intro h
    rw [slice_span]
    unfold numVal
    rw [if_neg]
    rintro ⟨ha, hlen, hz⟩
    have hnl : ∀ e, (l.drop k)[((l.drop k).takeWhile isDigit).length]? = some e → isLetter e = false := by
      intro e he
      cases hL : isLetter e with
      | false => rfl
      | true => rw [letter_after _ he hL] at ha; cases ha
    have heq := no_letter_after _ hnl
    have hld : ((l.drop k).takeWhile isDigit).length = spanTo isDigit l k - k := by simp [spanTo]
    rw [heq, hld] at hlen hz
    rcases h with h | ⟨h, h48⟩ | ⟨d, hd, hL⟩
    · omega
    · refine hz ⟨h, ?_⟩
      rw [hr]
      simp only [List.takeWhile_cons, hd0, if_true, List.head?_cons, Option.some.injEq]
      exact UInt8.toNat_inj.1 h48
    · rw [hnl d ((hat d).2 hd)] at hL; cases hL
  have hgood : ¬ 15 < spanTo isDigit l k - k → ¬ (1 < spanTo isDigit l k - k ∧ c0.toNat = 48) → (∀ e, l[spanTo isDigit l k]? = some e → isLetter e = false) →
      (match numVal ((l.take (spanTo isWord l k)).drop k) with
        | some n => (Sum.inr ((⟨2, k, [], n⟩ : Tok), spanTo isWord l k) : Sum Nat (Tok × Nat))
        | none => .inl 27) = .inr (⟨2, k, [], (digitsVal ((l.take (spanTo isDigit l k)).drop k) : Nat)⟩, spanTo isDigit l k) := by
    intro g1 g2 g3
    have heq := no_letter_after (l.drop k) (fun e he => g3 e ((hat e).1 he))
    have hsp : spanTo isWord l k = spanTo isDigit l k := by simp only [spanTo, heq]
    rw [hsp]
    have hld : ((l.drop k).takeWhile isDigit).length = spanTo isDigit l k - k := by simp [spanTo]
    rw [show numVal ((l.take (spanTo isDigit l k)).drop k) = some (digitsVal ((l.take (spanTo isDigit l k)).drop k)) from by
      unfold numVal
      rw [if_pos]
      rw [slice_span]
      refine ⟨all_takeWhile _ _, by omega, ?_⟩
      rintro ⟨h3, h4⟩
      refine g2 ⟨by omega, ?_⟩
      rw [hr] at h4
      simp only [List.takeWhile_cons, hd0, if_true, List.head?_cons, Option.some.injEq] at h4
      subst h4; rfl]
  have hdig : ∀ i c, k ≤ i → i < spanTo isDigit l k → l[i]? = some c → isDigit c = true := by
    intro i c hi1 hi2 hc
    have h3 := all_takeWhile isDigit (l.drop k)
    rw [← slice_span] at h3
    rw [List.all_eq_true] at h3
    refine h3 c (List.mem_of_getElem? (i := i - k) ?_)
    rw [List.getElem?_drop, List.getElem?_take, if_pos (by omega), show k + (i - k) = i from by omega, hc]
  have hpre : ∀ i, k ≤ i → i ≤ spanTo isDigit l k → ((l.take i).drop k).all isDigit = true := by
    intro i hi1 hi2
    rw [List.all_eq_true]
    intro c hc
    obtain ⟨m, hm, hmc⟩ := List.mem_iff_getElem.1 hc
    have hm' : ((l.take i).drop k)[m]? = some c := by rw [List.getElem?_eq_getElem hm, hmc]
    rw [List.getElem?_drop, List.getElem?_take] at hm'
    split at hm'
    · exact hdig _ c (by omega) (by omega) hm'
    · cases hm'
  refine code39.call hm (by simp) ?_
  intro b4 h4
  obtain ⟨o1, g4⟩ := new_box h4 [.int .i64 0, .int .i64 0, .str [], .int .i64 0, .int .i64 0, .int .i64 0]
  generalize σ.put b4 [.int .i64 0, .int .i64 0, .str [], .int .i64 0, .int .i64 0, .int .i64 0] = σ1 at *
  refine ⟨fun m sl σ' => σ' = σ1 ∧ ∃ j : Nat, sl = ofL [(0, some (.str l)), (1, some (.int .i64 k)), (4, some (.loc b4 0)), (5, some (.int .i64 j))] ∧ j ≤ l.length ∧ spanTo isDigit l j = spanTo isDigit l k ∧ m = l.length - j, _, ⟨rfl, k, rfl, by omega, rfl, rfl⟩, ?_⟩
  rintro m sl σ' ⟨rfl, j, rfl, hj, hsp, rfl⟩
  refine Test.split (fun h => ?_) (fun h => ?_)
  · obtain ⟨c, hc⟩ := get_some (l := l) (j := j) (by omega)
    refine Idx.mk' j c rfl hc ?_
    refine CallK.pure (digit_ret c) ?_
    cases hD : isDigit c with
    | true =>
      refine Arith.i64 ((j + 1 : Nat) : Int) (by simp) (by omega) ?_
      exact ⟨_, _, by omega, .refl _, rfl, j + 1, rfl, by omega, by rw [spanTo_step hc hD, hsp], rfl⟩
    | false =>
      have hjk : spanTo isDigit l k = j := by rw [← hsp, spanTo_stop hc hD]
      rw [hjk] at h1 h2 hbad hgood hdig hpre
      refine Arith.i64 ((j - k : Nat) : Int) (by omega) (by omega) ?_
      refine Test.split (fun h9 => ?_) (fun h9 => ?_)
      · refine Sure.mk' rfl ?_
        refine Store.mk' [.int .i64 0, .int .i64 0, .str [], .int .i64 0, .int .i64 0, .int .i64 27] g4 (Nat.le_of_ble_eq_true rfl) rfl (fun σ2 e2 => ?_)
        subst e2
        refine Load.mk' put_box (Nat.le_of_ble_eq_true rfl) ?_
        refine Ret.weak (.refl _) (over_put o1 h4) ⟨rfl, ?_⟩
        rw [hbad (.inl (by omega))]; rfl
      · refine Arith.i64 ((j - k : Nat) : Int) (by omega) (by omega) ?_
        refine Test.split (fun h10 => ?_) (fun h10 => ?_)
        · refine Idx.mk' k c0 rfl hc0 ?_
          refine Test.split (fun h11 => ?_) (fun h11 => ?_)
          · refine Sure.mk' rfl ?_
            refine Store.mk' [.int .i64 0, .int .i64 0, .str [], .int .i64 0, .int .i64 0, .int .i64 27] g4 (Nat.le_of_ble_eq_true rfl) rfl (fun σ2 e2 => ?_)
            subst e2
            refine Load.mk' put_box (Nat.le_of_ble_eq_true rfl) ?_
            refine Ret.weak (.refl _) (over_put o1 h4) ⟨rfl, ?_⟩
            rw [hbad (.inr (.inl ⟨by omega, by omega⟩))]; rfl
          · have h1z : ¬ (1 < j - k ∧ c0.toNat = 48) := by omega
            refine Test.split (fun h12 => ?_) (fun h12 => ?_)
            · obtain ⟨d, hd⟩ := get_some (l := l) (j := j) (by omega)
              refine Idx.mk' j d rfl hd ?_
              refine CallK.pure (letter_ret d) ?_
              cases hL : isLetter d with
              | true =>
                refine Sure.mk' rfl ?_
                refine Store.mk' [.int .i64 0, .int .i64 0, .str [], .int .i64 0, .int .i64 0, .int .i64 27] g4 (Nat.le_of_ble_eq_true rfl) rfl (fun σ2 e2 => ?_)
                subst e2
                refine Load.mk' put_box (Nat.le_of_ble_eq_true rfl) ?_
                refine Ret.weak (.refl _) (over_put o1 h4) ⟨rfl, ?_⟩
                rw [hbad (.inr (.inr ⟨d, hd, hL⟩))]; rfl
              | false =>
                have hnl : ∀ e, l[j]? = some e → isLetter e = false := fun e he => by rw [hd] at he; injection he with he; rw [← he]; exact hL
                refine ⟨fun m sl σ3 => σ3 = σ' ∧ ∃ i : Nat, sl = ofL [(0, some (.str l)), (1, some (.int .i64 k)), (4, some (.loc b4 0)), (5, some (.int .i64 j)), (6, some (.int .i64 (digitsVal ((l.take i).drop k)))), (7, some (.int .i64 i))] ∧ k ≤ i ∧ i ≤ j ∧ m = j - i, _, ⟨rfl, k, by rw [show (l.take k).drop k = [] from by simp]; rfl, by omega, by omega, rfl⟩, ?_⟩
                rintro m sl σ3 ⟨rfl, i, rfl, hki, hij, rfl⟩
                refine Test.split (fun h6 => ?_) (fun h6 => ?_)
                · obtain ⟨c, hc⟩ := get_some (l := l) (j := i) (by omega)
                  have hall : ((l.take i).drop k).all isDigit = true := hpre i hki hij
                  have hcd : isDigit c = true := hdig i c hki (by omega) hc
                  have hcd' : 48 ≤ c.toNat ∧ c.toNat ≤ 57 := by simpa [isDigit] using hcd
                  have hb := digitsVal_bound ((l.take i).drop k) 0 hall
                  have hl2 : ((l.take i).drop k).length ≤ 15 := by simp; omega
                  have hp : 10 ^ ((l.take i).drop k).length ≤ 10 ^ 15 := Nat.pow_le_pow_right (by omega) hl2
                  have hb2 : digitsVal ((l.take i).drop k) < 10 ^ 15 := by
                    have : digitsVal ((l.take i).drop k) < (0 + 1) * 10 ^ ((l.take i).drop k).length := hb
                    omega
                  refine Arith.i64 (10 * (digitsVal ((l.take i).drop k) : Int)) rfl (by omega) ?_
                  refine Idx.mk' i c rfl hc ?_
                  refine Arith.u8 ((c.toNat - 48 : Nat) : Int) (by omega) (by omega) ?_
                  refine Arith.i64 ((c.toNat - 48 : Nat) : Int) rfl (by omega) ?_
                  refine Arith.i64 ((digitsVal ((l.take (i + 1)).drop k) : Nat) : Int) (by rw [slice_snoc hki hc, digitsVal_snoc]; omega) (by rw [slice_snoc hki hc, digitsVal_snoc]; omega) ?_
                  refine Arith.i64 ((i + 1 : Nat) : Int) (by simp) (by omega) ?_
                  exact ⟨_, _, by omega, Forget.refl _, rfl, i + 1, rfl, by omega, by omega, rfl⟩
                · have hij2 : i = j := by omega
                  subst hij2
                  refine Sure.mk' rfl ?_
                  refine Store.mk' [.int .i64 2, .int .i64 k, .str [], .int .i64 (digitsVal ((l.take i).drop k)), .int .i64 i, .int .i64 0] g4 (Nat.le_of_ble_eq_true rfl) rfl (fun σ2 e2 => ?_)
                  subst e2
                  refine Load.mk' put_box (Nat.le_of_ble_eq_true rfl) ?_
                  refine Ret.weak (.refl _) (over_put o1 h4) ⟨rfl, ?_⟩
                  rw [hgood (by omega) h1z hnl]; rfl
            · have hnl : ∀ e, l[j]? = some e → isLetter e = false := fun e he => by have := (List.getElem?_eq_some_iff.1 he).1; omega
              refine ⟨fun m sl σ3 => σ3 = σ' ∧ ∃ i : Nat, sl = ofL [(0, some (.str l)), (1, some (.int .i64 k)), (4, some (.loc b4 0)), (5, some (.int .i64 j)), (6, some (.int .i64 (digitsVal ((l.take i).drop k)))), (7, some (.int .i64 i))] ∧ k ≤ i ∧ i ≤ j ∧ m = j - i, _, ⟨rfl, k, by rw [show (l.take k).drop k = [] from by simp]; rfl, by omega, by omega, rfl⟩, ?_⟩
              rintro m sl σ3 ⟨rfl, i, rfl, hki, hij, rfl⟩
              refine Test.split (fun h6 => ?_) (fun h6 => ?_)
              · obtain ⟨c, hc⟩ := get_some (l := l) (j := i) (by omega)
                have hall : ((l.take i).drop k).all isDigit = true := hpre i hki hij
                have hcd : isDigit c = true := hdig i c hki (by omega) hc
                have hcd' : 48 ≤ c.toNat ∧ c.toNat ≤ 57 := by simpa [isDigit] using hcd
                have hb := digitsVal_bound ((l.take i).drop k) 0 hall
                have hl2 : ((l.take i).drop k).length ≤ 15 := by simp; omega
                have hp : 10 ^ ((l.take i).drop k).length ≤ 10 ^ 15 := Nat.pow_le_pow_right (by omega) hl2
                have hb2 : digitsVal ((l.take i).drop k) < 10 ^ 15 := by
                  have : digitsVal ((l.take i).drop k) < (0 + 1) * 10 ^ ((l.take i).drop k).length := hb
                  omega
                refine Arith.i64 (10 * (digitsVal ((l.take i).drop k) : Int)) rfl (by omega) ?_
                refine Idx.mk' i c rfl hc ?_
                refine Arith.u8 ((c.toNat - 48 : Nat) : Int) (by omega) (by omega) ?_
                refine Arith.i64 ((c.toNat - 48 : Nat) : Int) rfl (by omega) ?_
                refine Arith.i64 ((digitsVal ((l.take (i + 1)).drop k) : Nat) : Int) (by rw [slice_snoc hki hc, digitsVal_snoc]; omega) (by rw [slice_snoc hki hc, digitsVal_snoc]; omega) ?_
                refine Arith.i64 ((i + 1 : Nat) : Int) (by simp) (by omega) ?_
                exact ⟨_, _, by omega, Forget.refl _, rfl, i + 1, rfl, by omega, by omega, rfl⟩
              · have hij2 : i = j := by omega
                subst hij2
                refine Sure.mk' rfl ?_
                refine Store.mk' [.int .i64 2, .int .i64 k, .str [], .int .i64 (digitsVal ((l.take i).drop k)), .int .i64 i, .int .i64 0] g4 (Nat.le_of_ble_eq_true rfl) rfl (fun σ2 e2 => ?_)
                subst e2
                refine Load.mk' put_box (Nat.le_of_ble_eq_true rfl) ?_
                refine Ret.weak (.refl _) (over_put o1 h4) ⟨rfl, ?_⟩
                rw [hgood (by omega) h1z hnl]; rfl
        · have h1z : ¬ (1 < j - k ∧ c0.toNat = 48) := by omega
          refine Test.split (fun h12 => ?_) (fun h12 => ?_)
          · obtain ⟨d, hd⟩ := get_some (l := l) (j := j) (by omega)
            refine Idx.mk' j d rfl hd ?_
            refine CallK.pure (letter_ret d) ?_
            cases hL : isLetter d with
            | true =>
              refine Sure.mk' rfl ?_
              refine Store.mk' [.int .i64 0, .int .i64 0, .str [], .int .i64 0, .int .i64 0, .int .i64 27] g4 (Nat.le_of_ble_eq_true rfl) rfl (fun σ2 e2 => ?_)
              subst e2
              refine Load.mk' put_box (Nat.le_of_ble_eq_true rfl) ?_
              refine Ret.weak (.refl _) (over_put o1 h4) ⟨rfl, ?_⟩
              rw [hbad (.inr (.inr ⟨d, hd, hL⟩))]; rfl
            | false =>
              have hnl : ∀ e, l[j]? = some e → isLetter e = false := fun e he => by rw [hd] at he; injection he with he; rw [← he]; exact hL
              refine ⟨fun m sl σ3 => σ3 = σ' ∧ ∃ i : Nat, sl = ofL [(0, some (.str l)), (1, some (.int .i64 k)), (4, some (.loc b4 0)), (5, some (.int .i64 j)), (6, some (.int .i64 (digitsVal ((l.take i).drop k)))), (7, some (.int .i64 i))] ∧ k ≤ i ∧ i ≤ j ∧ m = j - i, _, ⟨rfl, k, by rw [show (l.take k).drop k = [] from by simp]; rfl, by omega, by omega, rfl⟩, ?_⟩
              rintro m sl σ3 ⟨rfl, i, rfl, hki, hij, rfl⟩
              refine Test.split (fun h6 => ?_) (fun h6 => ?_)
              · obtain ⟨c, hc⟩ := get_some (l := l) (j := i) (by omega)
                have hall : ((l.take i).drop k).all isDigit = true := hpre i hki hij
                have hcd : isDigit c = true := hdig i c hki (by omega) hc
                have hcd' : 48 ≤ c.toNat ∧ c.toNat ≤ 57 := by simpa [isDigit] using hcd
                have hb := digitsVal_bound ((l.take i).drop k) 0 hall
                have hl2 : ((l.take i).drop k).length ≤ 15 := by simp; omega
                have hp : 10 ^ ((l.take i).drop k).length ≤ 10 ^ 15 := Nat.pow_le_pow_right (by omega) hl2
                have hb2 : digitsVal ((l.take i).drop k) < 10 ^ 15 := by
                  have : digitsVal ((l.take i).drop k) < (0 + 1) * 10 ^ ((l.take i).drop k).length := hb
                  omega
                refine Arith.i64 (10 * (digitsVal ((l.take i).drop k) : Int)) rfl (by omega) ?_
                refine Idx.mk' i c rfl hc ?_
                refine Arith.u8 ((c.toNat - 48 : Nat) : Int) (by omega) (by omega) ?_
                refine Arith.i64 ((c.toNat - 48 : Nat) : Int) rfl (by omega) ?_
                refine Arith.i64 ((digitsVal ((l.take (i + 1)).drop k) : Nat) : Int) (by rw [slice_snoc hki hc, digitsVal_snoc]; omega) (by rw [slice_snoc hki hc, digitsVal_snoc]; omega) ?_
                refine Arith.i64 ((i + 1 : Nat) : Int) (by simp) (by omega) ?_
                exact ⟨_, _, by omega, Forget.refl _, rfl, i + 1, rfl, by omega, by omega, rfl⟩
              · have hij2 : i = j := by omega
                subst hij2
                refine Sure.mk' rfl ?_
                refine Store.mk' [.int .i64 2, .int .i64 k, .str [], .int .i64 (digitsVal ((l.take i).drop k)), .int .i64 i, .int .i64 0] g4 (Nat.le_of_ble_eq_true rfl) rfl (fun σ2 e2 => ?_)
                subst e2
                refine Load.mk' put_box (Nat.le_of_ble_eq_true rfl) ?_
                refine Ret.weak (.refl _) (over_put o1 h4) ⟨rfl, ?_⟩
                rw [hgood (by omega) h1z hnl]; rfl
          · have hnl : ∀ e, l[j]? = some e → isLetter e = false := fun e he => by have := (List.getElem?_eq_some_iff.1 he).1; omega
            refine ⟨fun m sl σ3 => σ3 = σ' ∧ ∃ i : Nat, sl = ofL [(0, some (.str l)), (1, some (.int .i64 k)), (4, some (.loc b4 0)), (5, some (.int .i64 j)), (6, some (.int .i64 (digitsVal ((l.take i).drop k)))), (7, some (.int .i64 i))] ∧ k ≤ i ∧ i ≤ j ∧ m = j - i, _, ⟨rfl, k, by rw [show (l.take k).drop k = [] from by simp]; rfl, by omega, by omega, rfl⟩, ?_⟩
            rintro m sl σ3 ⟨rfl, i, rfl, hki, hij, rfl⟩
            refine Test.split (fun h6 => ?_) (fun h6 => ?_)
            · obtain ⟨c, hc⟩ := get_some (l := l) (j := i) (by omega)
              have hall : ((l.take i).drop k).all isDigit = true := hpre i hki hij
              have hcd : isDigit c = true := hdig i c hki (by omega) hc
              have hcd' : 48 ≤ c.toNat ∧ c.toNat ≤ 57 := by simpa [isDigit] using hcd
              have hb := digitsVal_bound ((l.take i).drop k) 0 hall
              have hl2 : ((l.take i).drop k).length ≤ 15 := by simp; omega
              have hp : 10 ^ ((l.take i).drop k).length ≤ 10 ^ 15 := Nat.pow_le_pow_right (by omega) hl2
              have hb2 : digitsVal ((l.take i).drop k) < 10 ^ 15 := by
                have : digitsVal ((l.take i).drop k) < (0 + 1) * 10 ^ ((l.take i).drop k).length := hb
                omega
              refine Arith.i64 (10 * (digitsVal ((l.take i).drop k) : Int)) rfl (by omega) ?_
              refine Idx.mk' i c rfl hc ?_
              refine Arith.u8 ((c.toNat - 48 : Nat) : Int) (by omega) (by omega) ?_
              refine Arith.i64 ((c.toNat - 48 : Nat) : Int) rfl (by omega) ?_
              refine Arith.i64 ((digitsVal ((l.take (i + 1)).drop k) : Nat) : Int) (by rw [slice_snoc hki hc, digitsVal_snoc]; omega) (by rw [slice_snoc hki hc, digitsVal_snoc]; omega) ?_
              refine Arith.i64 ((i + 1 : Nat) : Int) (by simp) (by omega) ?_
              exact ⟨_, _, by omega, Forget.refl _, rfl, i + 1, rfl, by omega, by omega, rfl⟩
            · have hij2 : i = j := by omega
              subst hij2
              refine Sure.mk' rfl ?_
              refine Store.mk' [.int .i64 2, .int .i64 k, .str [], .int .i64 (digitsVal ((l.take i).drop k)), .int .i64 i, .int .i64 0] g4 (Nat.le_of_ble_eq_true rfl) rfl (fun σ2 e2 => ?_)
              subst e2
              refine Load.mk' put_box (Nat.le_of_ble_eq_true rfl) ?_
              refine Ret.weak (.refl _) (over_put o1 h4) ⟨rfl, ?_⟩
              rw [hgood (by omega) h1z hnl]; rfl
  · have hjk : spanTo isDigit l k = j := by rw [← hsp, spanTo_end (by omega)]
    rw [hjk] at h1 h2 hbad hgood hdig hpre
    refine Arith.i64 ((j - k : Nat) : Int) (by omega) (by omega) ?_
    refine Test.split (fun h9 => ?_) (fun h9 => ?_)
    · refine Sure.mk' rfl ?_
      refine Store.mk' [.int .i64 0, .int .i64 0, .str [], .int .i64 0, .int .i64 0, .int .i64 27] g4 (Nat.le_of_ble_eq_true rfl) rfl (fun σ2 e2 => ?_)
      subst e2
      refine Load.mk' put_box (Nat.le_of_ble_eq_true rfl) ?_
      refine Ret.weak (.refl _) (over_put o1 h4) ⟨rfl, ?_⟩
      rw [hbad (.inl (by omega))]; rfl
    · refine Arith.i64 ((j - k : Nat) : Int) (by omega) (by omega) ?_
      refine Test.split (fun h10 => ?_) (fun h10 => ?_)
      · refine Idx.mk' k c0 rfl hc0 ?_
        refine Test.split (fun h11 => ?_) (fun h11 => ?_)
        · refine Sure.mk' rfl ?_
          refine Store.mk' [.int .i64 0, .int .i64 0, .str [], .int .i64 0, .int .i64 0, .int .i64 27] g4 (Nat.le_of_ble_eq_true rfl) rfl (fun σ2 e2 => ?_)
          subst e2
          refine Load.mk' put_box (Nat.le_of_ble_eq_true rfl) ?_
          refine Ret.weak (.refl _) (over_put o1 h4) ⟨rfl, ?_⟩
          rw [hbad (.inr (.inl ⟨by omega, by omega⟩))]; rfl
        · have h1z : ¬ (1 < j - k ∧ c0.toNat = 48) := by omega
          refine Test.split (fun h12 => ?_) (fun h12 => ?_)
          · obtain ⟨d, hd⟩ := get_some (l := l) (j := j) (by omega)
            refine Idx.mk' j d rfl hd ?_
            refine CallK.pure (letter_ret d) ?_
            cases hL : isLetter d with
            | true =>
              refine Sure.mk' rfl ?_
              refine Store.mk' [.int .i64 0, .int .i64 0, .str [], .int .i64 0, .int .i64 0, .int .i64 27] g4 (Nat.le_of_ble_eq_true rfl) rfl (fun σ2 e2 => ?_)
              subst e2
              refine Load.mk' put_box (Nat.le_of_ble_eq_true rfl) ?_
              refine Ret.weak (.refl _) (over_put o1 h4) ⟨rfl, ?_⟩
              rw [hbad (.inr (.inr ⟨d, hd, hL⟩))]; rfl
            | false =>
              have hnl : ∀ e, l[j]? = some e → isLetter e = false := fun e he => by rw [hd] at he; injection he with he; rw [← he]; exact hL
              refine ⟨fun m sl σ3 => σ3 = σ' ∧ ∃ i : Nat, sl = ofL [(0, some (.str l)), (1, some (.int .i64 k)), (4, some (.loc b4 0)), (5, some (.int .i64 j)), (6, some (.int .i64 (digitsVal ((l.take i).drop k)))), (7, some (.int .i64 i))] ∧ k ≤ i ∧ i ≤ j ∧ m = j - i, _, ⟨rfl, k, by rw [show (l.take k).drop k = [] from by simp]; rfl, by omega, by omega, rfl⟩, ?_⟩
              rintro m sl σ3 ⟨rfl, i, rfl, hki, hij, rfl⟩
              refine Test.split (fun h6 => ?_) (fun h6 => ?_)
              · obtain ⟨c, hc⟩ := get_some (l := l) (j := i) (by omega)
                have hall : ((l.take i).drop k).all isDigit = true := hpre i hki hij
                have hcd : isDigit c = true := hdig i c hki (by omega) hc
                have hcd' : 48 ≤ c.toNat ∧ c.toNat ≤ 57 := by simpa [isDigit] using hcd
                have hb := digitsVal_bound ((l.take i).drop k) 0 hall
                have hl2 : ((l.take i).drop k).length ≤ 15 := by simp; omega
                have hp : 10 ^ ((l.take i).drop k).length ≤ 10 ^ 15 := Nat.pow_le_pow_right (by omega) hl2
                have hb2 : digitsVal ((l.take i).drop k) < 10 ^ 15 := by
                  have : digitsVal ((l.take i).drop k) < (0 + 1) * 10 ^ ((l.take i).drop k).length := hb
                  omega
                refine Arith.i64 (10 * (digitsVal ((l.take i).drop k) : Int)) rfl (by omega) ?_
                refine Idx.mk' i c rfl hc ?_
                refine Arith.u8 ((c.toNat - 48 : Nat) : Int) (by omega) (by omega) ?_
                refine Arith.i64 ((c.toNat - 48 : Nat) : Int) rfl (by omega) ?_
                refine Arith.i64 ((digitsVal ((l.take (i + 1)).drop k) : Nat) : Int) (by rw [slice_snoc hki hc, digitsVal_snoc]; omega) (by rw [slice_snoc hki hc, digitsVal_snoc]; omega) ?_
                refine Arith.i64 ((i + 1 : Nat) : Int) (by simp) (by omega) ?_
                exact ⟨_, _, by omega, Forget.refl _, rfl, i + 1, rfl, by omega, by omega, rfl⟩
              · have hij2 : i = j := by omega
                subst hij2
                refine Sure.mk' rfl ?_
                refine Store.mk' [.int .i64 2, .int .i64 k, .str [], .int .i64 (digitsVal ((l.take i).drop k)), .int .i64 i, .int .i64 0] g4 (Nat.le_of_ble_eq_true rfl) rfl (fun σ2 e2 => ?_)
                subst e2
                refine Load.mk' put_box (Nat.le_of_ble_eq_true rfl) ?_
                refine Ret.weak (.refl _) (over_put o1 h4) ⟨rfl, ?_⟩
                rw [hgood (by omega) h1z hnl]; rfl
          · have hnl : ∀ e, l[j]? = some e → isLetter e = false := fun e he => by have := (List.getElem?_eq_some_iff.1 he).1; omega
            refine ⟨fun m sl σ3 => σ3 = σ' ∧ ∃ i : Nat, sl = ofL [(0, some (.str l)), (1, some (.int .i64 k)), (4, some (.loc b4 0)), (5, some (.int .i64 j)), (6, some (.int .i64 (digitsVal ((l.take i).drop k)))), (7, some (.int .i64 i))] ∧ k ≤ i ∧ i ≤ j ∧ m = j - i, _, ⟨rfl, k, by rw [show (l.take k).drop k = [] from by simp]; rfl, by omega, by omega, rfl⟩, ?_⟩
            rintro m sl σ3 ⟨rfl, i, rfl, hki, hij, rfl⟩
            refine Test.split (fun h6 => ?_) (fun h6 => ?_)
            · obtain ⟨c, hc⟩ := get_some (l := l) (j := i) (by omega)
              have hall : ((l.take i).drop k).all isDigit = true := hpre i hki hij
              have hcd : isDigit c = true := hdig i c hki (by omega) hc
              have hcd' : 48 ≤ c.toNat ∧ c.toNat ≤ 57 := by simpa [isDigit] using hcd
              have hb := digitsVal_bound ((l.take i).drop k) 0 hall
              have hl2 : ((l.take i).drop k).length ≤ 15 := by simp; omega
              have hp : 10 ^ ((l.take i).drop k).length ≤ 10 ^ 15 := Nat.pow_le_pow_right (by omega) hl2
              have hb2 : digitsVal ((l.take i).drop k) < 10 ^ 15 := by
                have : digitsVal ((l.take i).drop k) < (0 + 1) * 10 ^ ((l.take i).drop k).length := hb
                omega
              refine Arith.i64 (10 * (digitsVal ((l.take i).drop k) : Int)) rfl (by omega) ?_
              refine Idx.mk' i c rfl hc ?_
              refine Arith.u8 ((c.toNat - 48 : Nat) : Int) (by omega) (by omega) ?_
              refine Arith.i64 ((c.toNat - 48 : Nat) : Int) rfl (by omega) ?_
              refine Arith.i64 ((digitsVal ((l.take (i + 1)).drop k) : Nat) : Int) (by rw [slice_snoc hki hc, digitsVal_snoc]; omega) (by rw [slice_snoc hki hc, digitsVal_snoc]; omega) ?_
              refine Arith.i64 ((i + 1 : Nat) : Int) (by simp) (by omega) ?_
              exact ⟨_, _, by omega, Forget.refl _, rfl, i + 1, rfl, by omega, by omega, rfl⟩
            · have hij2 : i = j := by omega
              subst hij2
              refine Sure.mk' rfl ?_
              refine Store.mk' [.int .i64 2, .int .i64 k, .str [], .int .i64 (digitsVal ((l.take i).drop k)), .int .i64 i, .int .i64 0] g4 (Nat.le_of_ble_eq_true rfl) rfl (fun σ2 e2 => ?_)
              subst e2
              refine Load.mk' put_box (Nat.le_of_ble_eq_true rfl) ?_
              refine Ret.weak (.refl _) (over_put o1 h4) ⟨rfl, ?_⟩
              rw [hgood (by omega) h1z hnl]; rfl
      · have h1z : ¬ (1 < j - k ∧ c0.toNat = 48) := by omega
        refine Test.split (fun h12 => ?_) (fun h12 => ?_)
        · obtain ⟨d, hd⟩ := get_some (l := l) (j := j) (by omega)
          refine Idx.mk' j d rfl hd ?_
          refine CallK.pure (letter_ret d) ?_
          cases hL : isLetter d with
          | true =>
            refine Sure.mk' rfl ?_
            refine Store.mk' [.int .i64 0, .int .i64 0, .str [], .int .i64 0, .int .i64 0, .int .i64 27] g4 (Nat.le_of_ble_eq_true rfl) rfl (fun σ2 e2 => ?_)
            subst e2
            refine Load.mk' put_box (Nat.le_of_ble_eq_true rfl) ?_
            refine Ret.weak (.refl _) (over_put o1 h4) ⟨rfl, ?_⟩
            rw [hbad (.inr (.inr ⟨d, hd, hL⟩))]; rfl
          | false =>
            have hnl : ∀ e, l[j]? = some e → isLetter e = false := fun e he => by rw [hd] at he; injection he with he; rw [← he]; exact hL
            refine ⟨fun m sl σ3 => σ3 = σ' ∧ ∃ i : Nat, sl = ofL [(0, some (.str l)), (1, some (.int .i64 k)), (4, some (.loc b4 0)), (5, some (.int .i64 j)), (6, some (.int .i64 (digitsVal ((l.take i).drop k)))), (7, some (.int .i64 i))] ∧ k ≤ i ∧ i ≤ j ∧ m = j - i, _, ⟨rfl, k, by rw [show (l.take k).drop k = [] from by simp]; rfl, by omega, by omega, rfl⟩, ?_⟩
            rintro m sl σ3 ⟨rfl, i, rfl, hki, hij, rfl⟩
            refine Test.split (fun h6 => ?_) (fun h6 => ?_)
            · obtain ⟨c, hc⟩ := get_some (l := l) (j := i) (by omega)
              have hall : ((l.take i).drop k).all isDigit = true := hpre i hki hij
              have hcd : isDigit c = true := hdig i c hki (by omega) hc
              have hcd' : 48 ≤ c.toNat ∧ c.toNat ≤ 57 := by simpa [isDigit] using hcd
              have hb := digitsVal_bound ((l.take i).drop k) 0 hall
              have hl2 : ((l.take i).drop k).length ≤ 15 := by simp; omega
              have hp : 10 ^ ((l.take i).drop k).length ≤ 10 ^ 15 := Nat.pow_le_pow_right (by omega) hl2
              have hb2 : digitsVal ((l.take i).drop k) < 10 ^ 15 := by
                have : digitsVal ((l.take i).drop k) < (0 + 1) * 10 ^ ((l.take i).drop k).length := hb
                omega
              refine Arith.i64 (10 * (digitsVal ((l.take i).drop k) : Int)) rfl (by omega) ?_
              refine Idx.mk' i c rfl hc ?_
              refine Arith.u8 ((c.toNat - 48 : Nat) : Int) (by omega) (by omega) ?_
              refine Arith.i64 ((c.toNat - 48 : Nat) : Int) rfl (by omega) ?_
              refine Arith.i64 ((digitsVal ((l.take (i + 1)).drop k) : Nat) : Int) (by rw [slice_snoc hki hc, digitsVal_snoc]; omega) (by rw [slice_snoc hki hc, digitsVal_snoc]; omega) ?_
              refine Arith.i64 ((i + 1 : Nat) : Int) (by simp) (by omega) ?_
              exact ⟨_, _, by omega, Forget.refl _, rfl, i + 1, rfl, by omega, by omega, rfl⟩
            · have hij2 : i = j := by omega
              subst hij2
              refine Sure.mk' rfl ?_
              refine Store.mk' [.int .i64 2, .int .i64 k, .str [], .int .i64 (digitsVal ((l.take i).drop k)), .int .i64 i, .int .i64 0] g4 (Nat.le_of_ble_eq_true rfl) rfl (fun σ2 e2 => ?_)
              subst e2
              refine Load.mk' put_box (Nat.le_of_ble_eq_true rfl) ?_
              refine Ret.weak (.refl _) (over_put o1 h4) ⟨rfl, ?_⟩
              rw [hgood (by omega) h1z hnl]; rfl
        · have hnl : ∀ e, l[j]? = some e → isLetter e = false := fun e he => by have := (List.getElem?_eq_some_iff.1 he).1; omega
          refine ⟨fun m sl σ3 => σ3 = σ' ∧ ∃ i : Nat, sl = ofL [(0, some (.str l)), (1, some (.int .i64 k)), (4, some (.loc b4 0)), (5, some (.int .i64 j)), (6, some (.int .i64 (digitsVal ((l.take i).drop k)))), (7, some (.int .i64 i))] ∧ k ≤ i ∧ i ≤ j ∧ m = j - i, _, ⟨rfl, k, by rw [show (l.take k).drop k = [] from by simp]; rfl, by omega, by omega, rfl⟩, ?_⟩
          rintro m sl σ3 ⟨rfl, i, rfl, hki, hij, rfl⟩
          refine Test.split (fun h6 => ?_) (fun h6 => ?_)
          · obtain ⟨c, hc⟩ := get_some (l := l) (j := i) (by omega)
            have hall : ((l.take i).drop k).all isDigit = true := hpre i hki hij
            have hcd : isDigit c = true := hdig i c hki (by omega) hc
            have hcd' : 48 ≤ c.toNat ∧ c.toNat ≤ 57 := by simpa [isDigit] using hcd
            have hb := digitsVal_bound ((l.take i).drop k) 0 hall
            have hl2 : ((l.take i).drop k).length ≤ 15 := by simp; omega
            have hp : 10 ^ ((l.take i).drop k).length ≤ 10 ^ 15 := Nat.pow_le_pow_right (by omega) hl2
            have hb2 : digitsVal ((l.take i).drop k) < 10 ^ 15 := by
              have : digitsVal ((l.take i).drop k) < (0 + 1) * 10 ^ ((l.take i).drop k).length := hb
              omega
            refine Arith.i64 (10 * (digitsVal ((l.take i).drop k) : Int)) rfl (by omega) ?_
            refine Idx.mk' i c rfl hc ?_
            refine Arith.u8 ((c.toNat - 48 : Nat) : Int) (by omega) (by omega) ?_
            refine Arith.i64 ((c.toNat - 48 : Nat) : Int) rfl (by omega) ?_
            refine Arith.i64 ((digitsVal ((l.take (i + 1)).drop k) : Nat) : Int) (by rw [slice_snoc hki hc, digitsVal_snoc]; omega) (by rw [slice_snoc hki hc, digitsVal_snoc]; omega) ?_
            refine Arith.i64 ((i + 1 : Nat) : Int) (by simp) (by omega) ?_
            exact ⟨_, _, by omega, Forget.refl _, rfl, i + 1, rfl, by omega, by omega, rfl⟩
          · have hij2 : i = j := by omega
            subst hij2
            refine Sure.mk' rfl ?_
            refine Store.mk' [.int .i64 2, .int .i64 k, .str [], .int .i64 (digitsVal ((l.take i).drop k)), .int .i64 i, .int .i64 0] g4 (Nat.le_of_ble_eq_true rfl) rfl (fun σ2 e2 => ?_)
            subst e2
            refine Load.mk' put_box (Nat.le_of_ble_eq_true rfl) ?_
            refine Ret.weak (.refl _) (over_put o1 h4) ⟨rfl, ?_⟩
            rw [hgood (by omega) h1z hnl]; rfl
end Go.Shadow.Lex

/- The specification's text, Sign and token, as shadow contracts. Conditions: sources of at most 70000 bytes. -/
namespace Go.Shadow.Lex
open Go Go.RowKit Go.Proofs

theorem esc_pos {d e : UInt8} (h : esc d = some e) : e.toNat ≠ 0 := by
  unfold esc at h
  repeat' split at h
  all_goals first | (injection h with h; subst h; decide) | cases h

set_option maxHeartbeats 4000000 in
theorem refText_ret (l : List UInt8) (k : Nat) (hl : l.length ≤ 70000) (hk : k < l.length) :
    SRet Tryz.prog LG 40 [.str l, .int .i64 k] (oneV (match textScan (l.drop (k + 1)) [] with
      | .inl e => .inl e
      | .inr (s, left) => .inr (⟨3, k, s, 0⟩, l.length - left))) := by
  intro σ
  refine code40.call hm (by simp) ?_
  intro b4 h4
  obtain ⟨o1, g4⟩ := new_box h4 [.int .i64 0, .int .i64 0, .str [], .int .i64 0, .int .i64 0, .int .i64 0]
  generalize σ.put b4 [.int .i64 0, .int .i64 0, .str [], .int .i64 0, .int .i64 0, .int .i64 0] = σ1 at *
  refine Arith.i64 ((k + 1 : Nat) : Int) (by simp) (by omega) ?_
  refine ⟨fun m sl σ' => ∃ (j : Nat) (bs : List UInt8) (tag' : Tag) (z : Nat), sl = ofL [(0, some (.str l)), (1, some (.int .i64 k)), (4, some (.loc b4 0)), (5, some (.slice tag' z (byteEls bs))), (6, some (.int .i64 j))] ∧
    Over σ1 σ' ∧ Mine σ1 σ' tag' ∧ (tag' = .nil ∨ z = 1) ∧ (tag' = .nil → bs = []) ∧ j ≤ l.length ∧ bs.length ≤ j ∧ textScan (l.drop j) bs = textScan (l.drop (k + 1)) [] ∧ m = l.length - j, _,
    ⟨k + 1, [], .nil, 0, rfl, .refl _, trivial, .inl rfl, fun _ => rfl, by omega, by simp, rfl, rfl⟩, ?_⟩
  rintro m sl σ' ⟨j, bs, tag', z, rfl, ho', hm2, hz, hz2, hj, hbs, hsc, rfl⟩
  have g4' := ho'.box b4 _ g4
  have hlen : (byteEls bs).length = bs.length := by simp [byteEls]
  rw [← hsc]
  refine Test.split (fun h1 => ?_) (fun h1 => ?_)
  · obtain ⟨c, hc⟩ := get_some (l := l) (j := j) (by omega)
    rw [drop_cons hc, textScan_cons]
    refine Test.split (fun h2 => ?_) (fun h2 => ?_)
    · rw [hlen] at h2
      refine Sure.mk' rfl ?_
      refine Store.mk' [.int .i64 0, .int .i64 0, .str [], .int .i64 0, .int .i64 0, .int .i64 2] g4' (Nat.le_of_ble_eq_true rfl) rfl (fun σ2 e2 => ?_)
      subst e2
      refine Load.mk' put_box (Nat.le_of_ble_eq_true rfl) ?_
      refine Ret.weak (.refl _) (over_put (over_trans o1 ho') h4) ⟨rfl, ?_⟩
      rw [if_pos (show 200 < bs.length by omega)]; rfl
    · rw [hlen] at h2
      rw [if_neg (show ¬ 200 < bs.length by omega)]
      refine Idx.mk' j c rfl hc ?_
      refine Test.split (fun h3 => ?_) (fun h3 => ?_)
      · refine Sure.mk' (hz.elim (fun h => .inr (by rw [hz2 h]; rfl)) .inl) ?_
        refine B2S.mk' ?_
        refine Arith.i64 ((j + 1 : Nat) : Int) (by simp) (by omega) ?_
        refine Sure.mk' rfl ?_
        refine Store.mk' [.int .i64 3, .int .i64 k, .str bs, .int .i64 0, .int .i64 (j + 1 : Nat), .int .i64 0] g4' (Nat.le_of_ble_eq_true rfl) rfl (fun σ2 e2 => ?_)
        subst e2
        refine Load.mk' put_box (Nat.le_of_ble_eq_true rfl) ?_
        refine Ret.weak (.refl _) (over_put (over_trans o1 ho') h4) ⟨rfl, ?_⟩
        rw [if_pos (by omega)]
        simp only []
        rw [show l.length - (l.drop (j + 1)).length = j + 1 from by simp; omega]
        rfl
      · rw [if_neg (show ¬ c.toNat = 34 by omega)]
        refine Idx.mk' j c rfl hc ?_
        refine Test.split (fun h4' => ?_) (fun h4' => ?_)
        · rw [if_pos (show c.toNat = 92 by omega)]
          refine Arith.i64 ((j + 1 : Nat) : Int) (by simp) (by omega) ?_
          refine Test.split (fun h5 => ?_) (fun h5 => ?_)
          · obtain ⟨d, hd⟩ := get_some (l := l) (j := j + 1) (by omega)
            rw [drop_cons hd]
            refine Arith.i64 ((j + 1 : Nat) : Int) (by simp) (by omega) ?_
            refine Idx.mk' (j + 1) d rfl hd ?_
            refine CallK.pure (pair_ret d) ?_
            cases he : esc d with
            | none =>
              rw [show pairV d = 0 from by unfold pairV; rw [he]]
              refine Test.no (by omega) ?_
              refine Idx.mk' j c rfl hc ?_
              refine Test.yes (by omega) ?_
              refine Sure.mk' rfl ?_
              refine Store.mk' [.int .i64 0, .int .i64 0, .str [], .int .i64 0, .int .i64 0, .int .i64 28] g4' (Nat.le_of_ble_eq_true rfl) rfl (fun σ2 e2 => ?_)
              subst e2
              refine Load.mk' put_box (Nat.le_of_ble_eq_true rfl) ?_
              refine Ret.weak (.refl _) (over_put (over_trans o1 ho') h4) ⟨rfl, ?_⟩
              first | rfl | (simp only [he]; rfl)
            | some e =>
              have hpv : pairV d = e.toNat := by unfold pairV; rw [he]
              rw [hpv]
              refine Test.yes (by have := esc_pos he; omega) ?_
              refine Arith.i64 ((j + 1 : Nat) : Int) (by simp) (by omega) ?_
              refine Idx.mk' (j + 1) d rfl hd ?_
              refine CallK.pure (pair_ret d) ?_
              rw [hpv]
              refine App.mk' ho' hm2 hz rfl (by simp [hlen]; omega) (by simp [hlen]; omega) (by simp) (fun t' σ2 ho2 hm3 _ _ => ?_)
              refine Arith.i64 ((j + 2 : Nat) : Int) (by omega) (by omega) ?_
              refine ⟨_, _, ?_, Forget.refl _, j + 2, bs ++ [e], .tip t', 1, by rw [byteEls_snoc]; rfl, ho2, hm3, .inr rfl, fun h => (by cases h), by omega, by simp; omega, by simp only [he], rfl⟩
              omega
          · rw [List.drop_eq_nil_of_le (show l.length ≤ j + 1 by omega)]
            refine Idx.mk' j c rfl hc ?_
            refine Test.yes (by omega) ?_
            refine Sure.mk' rfl ?_
            refine Store.mk' [.int .i64 0, .int .i64 0, .str [], .int .i64 0, .int .i64 0, .int .i64 28] g4' (Nat.le_of_ble_eq_true rfl) rfl (fun σ2 e2 => ?_)
            subst e2
            refine Load.mk' put_box (Nat.le_of_ble_eq_true rfl) ?_
            refine Ret.weak (.refl _) (over_put (over_trans o1 ho') h4) ⟨rfl, ?_⟩
            first | rfl | (simp only [he]; rfl)
        · rw [if_neg (show ¬ c.toNat = 92 by omega)]
          refine Idx.mk' j c rfl hc ?_
          refine Test.no (by omega) ?_
          refine Idx.mk' j c rfl hc ?_
          refine Test.split (fun h5 => ?_) (fun h5 => ?_)
          · refine Sure.mk' rfl ?_
            refine Store.mk' [.int .i64 0, .int .i64 0, .str [], .int .i64 0, .int .i64 0, .int .i64 28] g4' (Nat.le_of_ble_eq_true rfl) rfl (fun σ2 e2 => ?_)
            subst e2
            refine Load.mk' put_box (Nat.le_of_ble_eq_true rfl) ?_
            refine Ret.weak (.refl _) (over_put (over_trans o1 ho') h4) ⟨rfl, ?_⟩
            rw [if_pos (show c.toNat < 32 ∨ 126 < c.toNat by omega)]; rfl
          · refine Idx.mk' j c rfl hc ?_
            refine Test.split (fun h6 => ?_) (fun h6 => ?_)
            · refine Sure.mk' rfl ?_
              refine Store.mk' [.int .i64 0, .int .i64 0, .str [], .int .i64 0, .int .i64 0, .int .i64 28] g4' (Nat.le_of_ble_eq_true rfl) rfl (fun σ2 e2 => ?_)
              subst e2
              refine Load.mk' put_box (Nat.le_of_ble_eq_true rfl) ?_
              refine Ret.weak (.refl _) (over_put (over_trans o1 ho') h4) ⟨rfl, ?_⟩
              rw [if_pos (show c.toNat < 32 ∨ 126 < c.toNat by omega)]; rfl
            · rw [if_neg (show ¬ (c.toNat < 32 ∨ 126 < c.toNat) by omega)]
              refine Idx.mk' j c rfl hc ?_
              refine App.mk' ho' hm2 hz rfl (by simp [hlen]; omega) (by simp [hlen]; omega) (by simp) (fun t' σ2 ho2 hm3 _ _ => ?_)
              refine Arith.i64 ((j + 1 : Nat) : Int) (by omega) (by omega) ?_
              refine ⟨_, _, ?_, Forget.refl _, j + 1, bs ++ [c], .tip t', 1, by rw [byteEls_snoc]; rfl, ho2, hm3, .inr rfl, fun h => (by cases h), by omega, by simp; omega, rfl, rfl⟩
              omega
  · rw [List.drop_eq_nil_of_le (show l.length ≤ j by omega), textScan_nil]
    refine Test.split (fun h2 => ?_) (fun h2 => ?_)
    · rw [hlen] at h2
      refine Sure.mk' rfl ?_
      refine Store.mk' [.int .i64 0, .int .i64 0, .str [], .int .i64 0, .int .i64 0, .int .i64 2] g4' (Nat.le_of_ble_eq_true rfl) rfl (fun σ2 e2 => ?_)
      subst e2
      refine Load.mk' put_box (Nat.le_of_ble_eq_true rfl) ?_
      refine Ret.weak (.refl _) (over_put (over_trans o1 ho') h4) ⟨rfl, ?_⟩
      rw [if_pos (show 200 < bs.length by omega)]; rfl
    · rw [hlen] at h2
      refine Sure.mk' rfl ?_
      refine Store.mk' [.int .i64 0, .int .i64 0, .str [], .int .i64 0, .int .i64 0, .int .i64 28] g4' (Nat.le_of_ble_eq_true rfl) rfl (fun σ2 e2 => ?_)
      subst e2
      refine Load.mk' put_box (Nat.le_of_ble_eq_true rfl) ?_
      refine Ret.weak (.refl _) (over_put (over_trans o1 ho') h4) ⟨rfl, ?_⟩
      rw [if_neg (show ¬ 200 < bs.length by omega)]; rfl

theorem has_ret (tag : Tag) (ls : List (List UInt8)) (s : List UInt8) (hl : ls.length ≤ 1000) : SRet Tryz.prog LG 55 [.slice tag 1 (strEls ls), .str s] (.bool (decide (s ∈ ls))) := by
  intro σ
  have hlen : (strEls ls).length = ls.length := by simp [strEls]
  refine code55.call hm (by simp) ?_
  refine ⟨fun m sl σ' => σ' = σ ∧ ∃ i : Nat, sl = ofL [(0, some (.slice tag 1 (strEls ls))), (1, some (.str s)), (5, some (.int .i64 i))] ∧ i ≤ ls.length ∧ s ∉ ls.take i ∧ m = ls.length - i, _, ⟨rfl, 0, rfl, by omega, by simp, rfl⟩, ?_⟩
  rintro m sl σ' ⟨rfl, i, rfl, hi, hnot, rfl⟩
  refine Test.split (fun h => ?_) (fun h => ?_)
  · rw [hlen] at h
    obtain ⟨x, hx⟩ : ∃ x, ls[i]? = some x := ⟨ls[i]'(by omega), by simp [show i < ls.length by omega]⟩
    refine Sure.mk' (.inl rfl) ?_
    refine IdxE.mk' i [.str x] rfl (by simp [strEls, hx]) ?_
    refine ⟨⟨Nat.le_of_ble_eq_true rfl, ?_⟩⟩
    refine Test.split (fun h1 => ?_) (fun h1 => ?_)
    · refine Ret.mk' ⟨rfl, ?_⟩
      subst h1
      rw [decide_eq_true (List.mem_of_getElem? hx)]
    · refine Arith.i64 ((i + 1 : Nat) : Int) (by simp) (by omega) ?_
      refine ⟨_, _, ?_, Forget.refl _, rfl, i + 1, rfl, by omega, ?_, rfl⟩
      · omega
      · rw [List.take_add_one, hx]
        simp only [Option.toList_some, List.mem_append, List.mem_singleton, not_or]
        exact ⟨hnot, fun e => h1 e.symm⟩
  · rw [hlen] at h
    refine Ret.mk' ⟨rfl, ?_⟩
    rw [List.take_of_length_le (by omega)] at hnot
    rw [decide_eq_false hnot]

theorem find_two (r : List UInt8) (h : 2 ≤ r.length) : ∀ L : List (List UInt8), (∀ p ∈ L, p.length = 2) → L.find? (·.isPrefixOf r) = if r.take 2 ∈ L then some (r.take 2) else none
  | [], _ => by simp
  | p :: L, hL => by
    have hp : p.isPrefixOf r = true ↔ p = r.take 2 := by
      rw [List.isPrefixOf_iff_prefix, List.prefix_iff_eq_take, hL p (by simp)]
    rw [List.find?_cons]
    by_cases e : p = r.take 2
    · rw [hp.2 e]; simp [e]
    · rw [show p.isPrefixOf r = false from by rw [← Bool.not_eq_true, hp]; exact e]
      simp only [find_two r h L (fun q hq => hL q (by simp [hq])), List.mem_cons, show ¬ r.take 2 = p from fun e' => e e'.symm, false_or]
theorem find_short (r : List UInt8) (h : r.length < 2) : ∀ L : List (List UInt8), (∀ p ∈ L, p.length = 2) → L.find? (·.isPrefixOf r) = none := by
  intro L hL
  rw [List.find?_eq_none]
  intro p hp h2
  have := isPrefixOf_length h2
  have := hL p hp
  omega
theorem signs2_two : ∀ p ∈ signs2, p.length = 2 := by decide
def singles : List (List UInt8) := signs1.map fun c => [c]
theorem single_mem (c : UInt8) : [c] ∈ singles ↔ c ∈ signs1 := by simp [singles]

theorem refSign_ret (r : List UInt8) (hl : r.length ≤ 70000) : SRet Tryz.prog LG 41 [.str r] (.str ((signAt r).getD [])) := by
  intro σ
  refine code41.call hm (by simp) ?_
  refine Test.split (fun h => ?_) (fun h => ?_)
  · refine CutL.mk' 2 rfl (by omega) ?_
    refine CallK.pure (has_ret .full signs2 _ (by decide)) ?_
    have hf := find_two r (by omega) signs2 signs2_two
    by_cases h2 : r.take 2 ∈ signs2
    · rw [if_pos h2] at hf
      rw [decide_eq_true h2]
      refine CutL.mk' 2 rfl (by omega) ?_
      refine Ret.mk' ⟨rfl, ?_⟩
      unfold signAt; rw [hf]; rfl
    · rw [if_neg h2] at hf
      rw [decide_eq_false h2]
      refine Test.yes (by omega) ?_
      obtain ⟨c, r', rfl⟩ : ∃ c r', r = c :: r' := by
        cases r with
        | nil => simp at h
        | cons c r' => exact ⟨c, r', rfl⟩
      refine CutL.mk' 1 rfl (by simp) ?_
      refine CallK.pure (has_ret .full singles _ (by decide)) ?_
      rw [show (c :: r').take 1 = [c] from rfl]
      by_cases hc : c ∈ signs1
      · rw [decide_eq_true ((single_mem c).2 hc)]
        refine CutL.mk' 1 rfl (by simp) ?_
        refine Ret.mk' ⟨rfl, ?_⟩
        unfold signAt; rw [hf]; simp [hc]
      · rw [decide_eq_false (fun h => hc ((single_mem c).1 h))]
        refine Ret.mk' ⟨rfl, ?_⟩
        unfold signAt; rw [hf]; simp [hc]
  · have hf := find_short r (by omega) signs2 signs2_two
    refine Test.split (fun h1 => ?_) (fun h1 => ?_)
    · obtain ⟨c, r', rfl⟩ : ∃ c r', r = c :: r' := by
        cases r with
        | nil => simp at h1
        | cons c r' => exact ⟨c, r', rfl⟩
      refine CutL.mk' 1 rfl (by simp) ?_
      refine CallK.pure (has_ret .full singles _ (by decide)) ?_
      rw [show (c :: r').take 1 = [c] from rfl]
      by_cases hc : c ∈ signs1
      · rw [decide_eq_true ((single_mem c).2 hc)]
        refine CutL.mk' 1 rfl (by simp) ?_
        refine Ret.mk' ⟨rfl, ?_⟩
        unfold signAt; rw [hf]; simp [hc]
      · rw [decide_eq_false (fun h => hc ((single_mem c).1 h))]
        refine Ret.mk' ⟨rfl, ?_⟩
        unfold signAt; rw [hf]; simp [hc]
    · refine Ret.mk' ⟨rfl, ?_⟩
      have : r = [] := List.eq_nil_of_length_eq_zero (by omega)
      subst this; rfl

theorem refToken_ret (l : List UInt8) (k : Nat) (c : UInt8) (hl : l.length ≤ 70000) (hc : l[k]? = some c) : SRet Tryz.prog LG 23 [.str l, .int .i64 k] (oneV (lexOne l k)) := by
  intro σ
  have hk : k < l.length := (List.getElem?_eq_some_iff.1 hc).1
  refine code23.call hm (by simp) ?_
  intro b4 h4
  obtain ⟨o1, g4⟩ := new_box h4 [.int .i64 0, .int .i64 0, .str [], .int .i64 0, .int .i64 0, .int .i64 0]
  generalize σ.put b4 [.int .i64 0, .int .i64 0, .str [], .int .i64 0, .int .i64 0, .int .i64 0] = σ1 at *
  have hset : ∀ x, setL [.int .i64 0, .int .i64 0, .str [], .int .i64 0, .int .i64 0, .int .i64 0] 0 (oneC x) = oneC x := by intro x; rcases x with e | ⟨t, e2⟩ <;> rfl
  have htake : ∀ x, ((oneC x).drop 0).take 6 = oneC x := by intro x; rcases x with e | ⟨t, e2⟩ <;> rfl
  refine Idx.mk' k c rfl hc ?_
  refine CallK.pure (letter_ret c) ?_
  simp only [lexOne, hc]
  cases hL : isLetter c with
  | true =>
    refine CallK.pure (refName_ret l k hl (by omega)) ?_
    refine Sure.mk' (oneC_length _) ?_
    refine Store.mk' (oneC _) g4 (by rw [show V.cells (oneV _) = oneC _ from rfl, oneC_length]; decide) (hset _) (fun σ2 e2 => ?_)
    subst e2
    refine Load.mk' put_box (by rw [oneC_length]; decide) ?_
    rw [htake]
    refine Ret.weak (.refl _) (over_put o1 h4) ⟨rfl, ?_⟩
    rfl
  | false =>
    refine Idx.mk' k c rfl hc ?_
    refine CallK.pure (digit_ret c) ?_
    cases hD : isDigit c with
    | true =>
      refine CallK.pure (refNumber_ret l k c hl hc hD) ?_
      refine Sure.mk' (oneC_length _) ?_
      refine Store.mk' (oneC _) g4 (by rw [show V.cells (oneV _) = oneC _ from rfl, oneC_length]; decide) (hset _) (fun σ2 e2 => ?_)
      subst e2
      refine Load.mk' put_box (by rw [oneC_length]; decide) ?_
      rw [htake]
      refine Ret.weak (.refl _) (over_put o1 h4) ⟨rfl, ?_⟩
      rfl
    | false =>
      refine Idx.mk' k c rfl hc ?_
      refine Test.split (fun h34 => ?_) (fun h34 => ?_)
      · refine CallK.pure (refText_ret l k hl hk) ?_
        refine Sure.mk' (oneC_length _) ?_
        refine Store.mk' (oneC _) g4 (by rw [show V.cells (oneV _) = oneC _ from rfl, oneC_length]; decide) (hset _) (fun σ2 e2 => ?_)
        subst e2
        refine Load.mk' put_box (by rw [oneC_length]; decide) ?_
        rw [htake]
        refine Ret.weak (.refl _) (over_put o1 h4) ⟨rfl, ?_⟩
        rw [if_pos (show c.toNat = 34 by omega)]; rfl
      · refine CutR.mk' k rfl (by omega) ?_
        refine CallK.pure (refSign_ret (l.drop k) (by simp; omega)) ?_
        cases hS : signAt (l.drop k) with
        | none =>
          refine Test.yes rfl ?_
          refine Sure.mk' rfl ?_
          refine Store.mk' [.int .i64 0, .int .i64 0, .str [], .int .i64 0, .int .i64 0, .int .i64 26] g4 (Nat.le_of_ble_eq_true rfl) rfl (fun σ2 e2 => ?_)
          subst e2
          refine Load.mk' put_box (Nat.le_of_ble_eq_true rfl) ?_
          refine Ret.weak (.refl _) (over_put o1 h4) ⟨rfl, ?_⟩
          rw [if_neg (show ¬ c.toNat = 34 by omega)]; rfl
        | some s =>
          have hs := signAt_length hS
          refine Test.no (by intro e; rw [show (some s).getD [] = s from rfl] at e; rw [e] at hs; simp at hs) ?_
          simp only [List.length_drop] at hs
          refine Arith.i64 ((k + s.length : Nat) : Int) (by simp) (by omega) ?_
          refine Sure.mk' rfl ?_
          refine Store.mk' [.int .i64 4, .int .i64 k, .str s, .int .i64 0, .int .i64 (k + s.length : Nat), .int .i64 0] g4 (Nat.le_of_ble_eq_true rfl) rfl (fun σ2 e2 => ?_)
          subst e2
          refine Load.mk' put_box (Nat.le_of_ble_eq_true rfl) ?_
          refine Ret.weak (.refl _) (over_put o1 h4) ⟨rfl, ?_⟩
          rw [if_neg (show ¬ c.toNat = 34 by omega)]; rfl
end Go.Shadow.Lex

/- The specification's Tokens, and the law LexerReadsAsSpecified, as shadow contracts. Conditions: sources of at most 70000 bytes; the law's: none. -/
namespace Go.Shadow.Lex
open Go Go.RowKit Go.Proofs

theorem textScan_err : ∀ (r b : List UInt8) (n : Nat), textScan r b = .inl n → n ≠ 0 := by
  intro r
  induction hn : r.length using Nat.strongRecOn generalizing r with
  | _ n ih =>
    intro b m h
    cases r with
    | nil => rw [textScan_nil] at h; split at h <;> (injection h with h; omega)
    | cons c r =>
      subst hn
      rw [textScan_cons] at h
      split at h
      · injection h with h; omega
      · split at h
        · cases h
        · split at h
          · split at h
            · injection h with h; omega
            · split at h
              · injection h with h; omega
              · exact ih _ (by simp; omega) _ rfl _ _ h
          · split at h
            · injection h with h; omega
            · exact ih _ (by simp) _ rfl _ _ h
theorem lexOne_err {l : List UInt8} {k n : Nat} (h : lexOne l k = .inl n) : n ≠ 0 := by
  unfold lexOne at h
  split at h
  · injection h with h; omega
  · split at h
    · simp only at h
      split at h
      · injection h with h; omega
      · cases h
    · split at h
      · simp only at h
        split at h
        · cases h
        · injection h with h; omega
      · split at h
        · split at h
          · rename_i e he
            injection h with h; subst h
            exact textScan_err _ _ _ he
          · cases h
        · split at h
          · cases h
          · injection h with h; omega

theorem lexJ_len {l : List UInt8} : ∀ (n k : Nat) (ts : List Tok), l.length - k ≤ n → k ≤ l.length → lexJ l k = .inr ts → ts.length ≤ l.length - k + 1 := by
  intro n
  induction n with
  | zero =>
    intro k ts hn hk h
    rw [lexJ_end (by omega)] at h
    injection h with h; subst h; simp
  | succ n ih =>
    intro k ts hn hk h
    by_cases hkl : k < l.length
    · cases hone : lexOne l k with
      | inl e => rw [lexJ_bad hkl hone] at h; cases h
      | inr x =>
        obtain ⟨t, e2⟩ := x
        have hp := lexOne_pos hone
        have hge := skipTo_ge l e2
        have hle := skipTo_le l e2 hp.2
        rw [lexJ_one hone] at h
        cases hr : lexJ l (skipTo l e2) with
        | inl p => rw [hr] at h; cases h
        | inr ts' =>
          rw [hr] at h
          injection h with h; subst h
          have := ih (skipTo l e2) ts' (by omega) hle hr
          simp; omega
    · rw [lexJ_end (by omega)] at h
      injection h with h; subst h; simp
theorem lex_len {l : List UInt8} {ts : List Tok} (h : lex l = .inr ts) : ts.length ≤ l.length + 1 := by
  unfold lex at h
  split at h
  · cases h
  · have := lexJ_len _ _ ts (Nat.le_refl _) (skipTo_le l 0 (by omega)) h
    omega

theorem Weak.agg_head {a b : V} {r : List V} (h : Weak a b) (hb : b.one = true) : Weak (.agg (a :: r)) (.agg (b :: r)) := by
  intro B γ w x hx
  cases hx with
  | agg _ vs hl h1 hr =>
    refine .agg _ _ hl (fun j y hj => ?_) (fun i y z hy hz => ?_)
    · cases j with
      | zero => injection hj with hj; subst hj; exact hb
      | succ j => exact h1 (j + 1) y hj
    · cases i with
      | zero => injection hy with hy; subst hy; exact h _ _ _ _ (hr 0 _ _ rfl hz)
      | succ i => exact hr (i + 1) y z hy hz

def refRes : Sum (Nat × Nat) (List Tok) → V
  | .inl (a, e) => .agg [.slice .nil 0 [], .int .i64 a, .int .i64 e]
  | .inr ts => .agg [.slice .foreign 4 (ts.map tokV), .int .i64 0, .int .i64 0]

set_option maxHeartbeats 4000000 in
theorem refTokens_ret (src : List UInt8) (hs : src.length ≤ 70000) : SRet Tryz.prog LG 13 [.str src] (refRes (lex src)) := by
  intro σ
  refine code13.call hm (by simp) ?_
  intro b2 h2
  obtain ⟨o1, g2⟩ := new_box h2 [.slice .nil 0 [], .int .i64 0, .int .i64 0]
  generalize σ.put b2 [.slice .nil 0 [], .int .i64 0, .int .i64 0] = σ1 at *
  refine Test.split (fun h => ?_) (fun h => ?_)
  · refine Sure.mk' rfl ?_
    refine Store.mk' [.slice .nil 0 [], .int .i64 0, .int .i64 2] g2 (Nat.le_of_ble_eq_true rfl) rfl (fun σ2 e2 => ?_)
    subst e2
    refine Load.mk' put_box (Nat.le_of_ble_eq_true rfl) ?_
    refine Ret.weak (r := refRes (lex src)) (σ' := σ) ?_ (over_put o1 h2) ⟨rfl, rfl⟩
    rw [show lex src = .inl (0, 2) from by unfold lex; rw [if_pos (by omega)]]
    exact .refl _
  · have hlex : lex src = lexJ src (skipTo src 0) := by unfold lex; rw [if_neg (by omega)]
    rw [hlex]
    refine CallK.pure (blank_ret src 0 hs (by omega)) ?_
    refine ⟨fun m sl σ' => ∃ (k : Nat) (toks : List Tok) (tag' : Tag) (z : Nat), sl = ofL [(0, some (.str src)), (2, some (.loc b2 0)), (3, some (.slice tag' z (toks.map tokV))), (4, some (.int .i64 k))] ∧ Over σ1 σ' ∧ Mine σ1 σ' tag' ∧ (tag' = .nil ∨ z = 4) ∧
        toks.length ≤ k ∧ k ≤ src.length ∧ addAll toks (lexJ src k) = lexJ src (skipTo src 0) ∧ m = src.length - k, _,
      ⟨skipTo src 0, [], .nil, 0, rfl, .refl _, trivial, .inl rfl, by simp, skipTo_le _ _ (by omega), by cases lexJ src (skipTo src 0) <;> rfl, rfl⟩, ?_⟩
    rintro m sl σ' ⟨k, toks, tag', z, rfl, ho, hm2, hz, htk, hk, hadd, rfl⟩
    have hlen : (toks.map tokV).length = toks.length := by simp
    rw [← hadd]
    refine Test.split (fun h5 => ?_) (fun h5 => ?_)
    · obtain ⟨c, hc⟩ := get_some (l := src) (j := k) (by omega)
      refine CallK.pure (refToken_ret src k c hs hc) ?_
      intro b5 h5'
      have hb5 : σ1.box b5 = none := over_none ho h5'
      cases hone : lexOne src k with
      | inl n =>
        have hn0 := lexOne_err hone
        refine Sure.mk' rfl ?_
        refine Store.mk' [.int .i64 0, .int .i64 0, .str [], .int .i64 0, .int .i64 0, .int .i64 n] put_box (Nat.le_of_ble_eq_true rfl) rfl (fun σ2 e2 => ?_)
        rw [put_put] at e2
        have ho2 : Over σ1 σ2 := by rw [e2]; exact over_put ho hb5
        have g5 : σ2.box b5 = some [.int .i64 0, .int .i64 0, .str [], .int .i64 0, .int .i64 0, .int .i64 n] := by rw [e2]; exact put_box
        refine Load.mk' g5 (Nat.le_of_ble_eq_true rfl) ?_
        refine Test.yes (by omega) ?_
        refine Load.mk' g5 (Nat.le_of_ble_eq_true rfl) ?_
        refine Sure.mk' rfl ?_
        refine Store.mk' [.slice .nil 0 [], .int .i64 k, .int .i64 n] (ho2.box _ _ g2) (Nat.le_of_ble_eq_true rfl) rfl (fun σ3 e3 => ?_)
        subst e3
        refine Load.mk' put_box (Nat.le_of_ble_eq_true rfl) ?_
        refine Ret.weak (r := refRes (addAll toks (lexJ src k))) (σ' := σ) ?_ (over_put (over_trans o1 ho2) h2) ⟨rfl, rfl⟩
        rw [lexJ_bad (by omega) hone]; exact .refl _
      | inr x =>
        obtain ⟨t, e2⟩ := x
        have hp := lexOne_pos hone
        have hge := skipTo_ge src e2
        have hle := skipTo_le src e2 hp.2
        refine Sure.mk' rfl ?_
        refine Store.mk' [.int .i64 t.kind, .int .i64 t.at_, .str t.s, .int .i64 t.n, .int .i64 e2, .int .i64 0] put_box (Nat.le_of_ble_eq_true rfl) rfl (fun σ2 q2 => ?_)
        rw [put_put] at q2
        have ho2 : Over σ1 σ2 := by rw [q2]; exact over_put ho hb5
        have hm3 : Mine σ1 σ2 tag' := by rw [q2]; exact hm2
        have g5 : σ2.box b5 = some [.int .i64 t.kind, .int .i64 t.at_, .str t.s, .int .i64 t.n, .int .i64 e2, .int .i64 0] := by rw [q2]; exact put_box
        refine Load.mk' g5 (Nat.le_of_ble_eq_true rfl) ?_
        refine Test.no (by omega) ?_
        refine Load.mk' g5 (Nat.le_of_ble_eq_true rfl) ?_
        refine App.mk' ho2 hm3 hz rfl (by simp; omega) (by simp; omega) (by simp) (fun t' σ3 ho3 hm4 hbox _ => ?_)
        rw [← hbox] at g5
        refine Load.mk' g5 (Nat.le_of_ble_eq_true rfl) ?_
        refine CallK.pure (blank_ret src e2 hs hp.2) ?_
        refine ⟨_, _, ?_, Forget.refl _, skipTo src e2, toks ++ [t], .tip t', 4, by rw [List.map_append]; rfl, ho3, hm4, .inr rfl, by simp; omega, hle, ?_, rfl⟩
        · omega
        · rw [lexJ_one hone, addAll_addAll]
    · have hkl : k = src.length := by omega
      refine App.mk' ho hm2 hz rfl (by simp; omega) (by simp; omega) (by simp) (fun t' σ3 ho3 hm4 hbox _ => ?_)
      refine Sure.mk' rfl ?_
      refine Store.mk' [.slice (.tip t') 4 ((toks ++ [(⟨5, src.length, [], 0⟩ : Tok)]).map tokV), .int .i64 0, .int .i64 0] (ho3.box _ _ g2) (Nat.le_of_ble_eq_true rfl) (by rw [List.map_append]; rfl) (fun σ4 e4 => ?_)
      subst e4
      refine Load.mk' put_box (Nat.le_of_ble_eq_true rfl) ?_
      refine Ret.weak (r := refRes (addAll toks (lexJ src k))) (σ' := σ) ?_ (over_put (over_trans o1 ho3) h2) ⟨rfl, rfl⟩
      rw [lexJ_end (by omega)]
      exact Weak.agg_head (Weak.foreign _ _ _) rfl

set_option maxHeartbeats 4000000 in
theorem law3 (src : List UInt8) : SRet Tryz.prog LG 3 [.str src] (.bool true) := by
  intro σ
  refine code3.call hm (by simp) ?_
  refine Test.split (fun h => ?_) (fun h => ?_)
  · refine CallK.pure sanity_ret ?_
    exact Ret.mk' ⟨rfl, rfl⟩
  · refine CallK.pure (tokens_ret src (by omega)) ?_
    have hcall := refTokens_ret src (by omega)
    cases hlex : lex src with
    | inl x =>
      obtain ⟨a, e⟩ := x
      rw [hlex] at hcall
      intro b4 h4
      refine Sure.mk' rfl ?_
      refine Store.mk' [.int .i64 a, .int .i64 e] put_box (Nat.le_of_ble_eq_true rfl) rfl (fun σ1 e1 => ?_)
      rw [put_put] at e1; obtain ⟨o1, g4⟩ := new_box h4 [.int .i64 a, .int .i64 e]; rw [← e1] at o1 g4; clear e1
      refine CallK.pure hcall ?_
      intro b5 h5
      refine Sure.mk' rfl ?_
      refine Store.mk' [.slice .nil 0 [], .int .i64 a, .int .i64 e] put_box (Nat.le_of_ble_eq_true rfl) rfl (fun σ2 e2 => ?_)
      rw [put_put] at e2; obtain ⟨o2, g5⟩ := new_box h5 [.slice .nil 0 [], .int .i64 a, .int .i64 e]; rw [← e2] at o2 g5; clear e2
      refine Load.mk' (o2.box _ _ g4) (Nat.le_of_ble_eq_true rfl) ?_
      refine Load.mk' g5 (Nat.le_of_ble_eq_true rfl) ?_
      refine BTest.no (by simp) ?_
      refine Load.mk' g5 (Nat.le_of_ble_eq_true rfl) ?_
      refine Test.no (by simp) ?_
      refine ⟨fun m sl σ' => σ' = σ2 ∧ sl = ofL [(3, some (.slice .nil 0 [])), (5, some (.loc b5 0)), (6, some (.int .i64 0))], 0, ⟨rfl, rfl⟩, ?_⟩
      rintro m sl σ' ⟨rfl, rfl⟩
      refine Test.no (by simp) ?_
      refine CallK.pure sanity_ret ?_
      exact Ret.weak (.refl _) (over_trans o1 o2) ⟨rfl, rfl⟩
    | inr ts =>
      rw [hlex] at hcall
      have hlen : (ts.map tokV).length = ts.length := by simp
      have hts := lex_len hlex
      intro b4 h4
      refine Sure.mk' rfl ?_
      refine Store.mk' [.int .i64 0, .int .i64 0] put_box (Nat.le_of_ble_eq_true rfl) rfl (fun σ1 e1 => ?_)
      rw [put_put] at e1; obtain ⟨o1, g4⟩ := new_box h4 [.int .i64 0, .int .i64 0]; rw [← e1] at o1 g4; clear e1
      refine CallK.pure hcall ?_
      intro b5 h5
      refine Sure.mk' rfl ?_
      refine Store.mk' [.slice .foreign 4 (ts.map tokV), .int .i64 0, .int .i64 0] put_box (Nat.le_of_ble_eq_true rfl) rfl (fun σ2 e2 => ?_)
      rw [put_put] at e2; obtain ⟨o2, g5⟩ := new_box h5 [.slice .foreign 4 (ts.map tokV), .int .i64 0, .int .i64 0]; rw [← e2] at o2 g5; clear e2
      refine Load.mk' (o2.box _ _ g4) (Nat.le_of_ble_eq_true rfl) ?_
      refine Load.mk' g5 (Nat.le_of_ble_eq_true rfl) ?_
      refine BTest.no (by simp) ?_
      refine Load.mk' g5 (Nat.le_of_ble_eq_true rfl) ?_
      refine Test.no (by simp) ?_
      refine ⟨fun m sl σ' => σ' = σ2 ∧ ∃ i : Nat, sl = ofL [(3, some (.slice .foreign 4 (ts.map tokV))), (5, some (.loc b5 0)), (6, some (.int .i64 i))] ∧ i ≤ ts.length ∧ m = ts.length - i, _, ⟨rfl, 0, rfl, by omega, rfl⟩, ?_⟩
      rintro m sl σ' ⟨rfl, i, rfl, hi, rfl⟩
      refine Test.split (fun h6 => ?_) (fun h6 => ?_)
      · rw [hlen] at h6
        obtain ⟨t, ht⟩ : ∃ t, ts[i]? = some t := ⟨ts[i]'(by omega), by simp [show i < ts.length by omega]⟩
        refine Sure.mk' (.inl rfl) ?_
        refine IdxE.mk' i (tokV t) rfl (by simp [ht]) ?_
        refine ⟨⟨by simp [tokV], ?_⟩⟩
        refine Load.mk' g5 (Nat.le_of_ble_eq_true rfl) ?_
        refine Sure.mk' (.inl rfl) ?_
        refine IdxE.mk' i (tokV t) rfl (by simp [ht]) ?_
        refine ⟨⟨by simp [tokV], ?_⟩⟩
        refine BTest.no (by simp) ?_
        refine Arith.i64 ((i + 1 : Nat) : Int) (by simp) (by omega) ?_
        exact ⟨_, _, by omega, Forget.refl _, rfl, i + 1, rfl, by omega, rfl⟩
      · refine CallK.pure sanity_ret ?_
        exact Ret.weak (.refl _) (over_trans o1 o2) ⟨rfl, rfl⟩
end Go.Shadow.Lex

/- Proved: the law LexerStopsAtTheFirstProblem and LexerJoinsSources, as shadow contracts. Conditions: none. -/
namespace Go.Shadow.Lex
open Go Go.RowKit Go.Proofs

theorem lex_err {l : List UInt8} {p e : Nat} (hl : l.length ≤ 65536) (h : lex l = .inl (p, e)) : e ≠ 0 := by
  rw [lex_J hl] at h
  obtain ⟨_, _, _, _, _, _, ho⟩ := J_bad _ 0 p e (Nat.le_refl _) (by omega) h
  exact lexOne_err ho

set_option maxHeartbeats 4000000 in
theorem law9 (src : List UInt8) : SRet Tryz.prog LG 9 [.str src] (.bool true) := by
  intro σ
  refine code9.call hm (by simp) ?_
  refine Test.split (fun h => ?_) (fun h => ?_)
  · refine CallK.pure sanity_ret ?_
    exact Ret.mk' ⟨rfl, rfl⟩
  · refine CallK.pure (tokens_ret src (by omega)) ?_
    cases hlex : lex src with
    | inl x =>
      obtain ⟨a, e⟩ := x
      obtain ⟨hp, ts, hts, hpos⟩ := stops_pure (by omega) hlex
      have he := lex_err (by omega) hlex
      intro b4 h4
      refine Sure.mk' rfl ?_
      refine Store.mk' [.int .i64 a, .int .i64 e] put_box (Nat.le_of_ble_eq_true rfl) rfl (fun σ1 e1 => ?_)
      rw [put_put] at e1; obtain ⟨o1, g4⟩ := new_box h4 [.int .i64 a, .int .i64 e]; rw [← e1] at o1 g4; clear e1
      refine Load.mk' g4 (Nat.le_of_ble_eq_true rfl) ?_
      refine Test.no (by omega) ?_
      refine Load.mk' g4 (Nat.le_of_ble_eq_true rfl) ?_
      refine Test.no (by omega) ?_
      refine Load.mk' g4 (Nat.le_of_ble_eq_true rfl) ?_
      refine Test.no (by omega) ?_
      refine Load.mk' g4 (Nat.le_of_ble_eq_true rfl) ?_
      refine CutL.mk' a rfl (by omega) ?_
      refine CallK.pure (tokens_ret (src.take a) (by simp; omega)) ?_
      rw [hts]
      intro b6 h6
      refine Sure.mk' rfl ?_
      refine Store.mk' [.int .i64 0, .int .i64 0] put_box (Nat.le_of_ble_eq_true rfl) rfl (fun σ2 e2 => ?_)
      rw [put_put] at e2; obtain ⟨o2, g6⟩ := new_box h6 [.int .i64 0, .int .i64 0]; rw [← e2] at o2 g6; clear e2
      refine CallK.pure sanity_ret ?_
      refine Load.mk' (o2.box _ _ g4) (Nat.le_of_ble_eq_true rfl) ?_
      refine Test.split (fun h7 => ?_) (fun h7 => ?_)
      · exact Ret.weak (.refl _) (over_trans o1 o2) ⟨rfl, rfl⟩
      · refine Load.mk' g6 (Nat.le_of_ble_eq_true rfl) ?_
        refine Test.yes rfl ?_
        refine Test.yes (by simp; omega) ?_
        exact Ret.weak (.refl _) (over_trans o1 o2) ⟨rfl, rfl⟩
    | inr ts =>
      intro b4 h4
      refine Sure.mk' rfl ?_
      refine Store.mk' [.int .i64 0, .int .i64 0] put_box (Nat.le_of_ble_eq_true rfl) rfl (fun σ1 e1 => ?_)
      rw [put_put] at e1; obtain ⟨o1, g4⟩ := new_box h4 [.int .i64 0, .int .i64 0]; rw [← e1] at o1 g4; clear e1
      refine Load.mk' g4 (Nat.le_of_ble_eq_true rfl) ?_
      refine Test.yes rfl ?_
      refine CallK.pure sanity_ret ?_
      exact Ret.weak (.refl _) o1 ⟨rfl, rfl⟩

set_option maxHeartbeats 4000000 in
theorem law7 (a b : List UInt8) : SRet Tryz.prog LG 7 [.str a, .str b] (.bool true) := by
  intro σ
  refine code7.call hm (by simp) ?_
  have big : CallK Tryz.prog LG 11 [] σ (fun v σ' => Ret v σ' (fun e σ' => σ' = σ ∧ e = SEnd.ret (.bool true))) (fun _ _ => True) := by
    refine CallK.pure sanity_ret ?_
    exact Ret.mk' ⟨rfl, rfl⟩
  refine Test.split (fun h => ?_) (fun h => ?_)
  · refine CallK.pure sanity_ret ?_
    exact Ret.mk' ⟨rfl, rfl⟩
  refine Test.split (fun h' => ?_) (fun h' => ?_)
  · refine CallK.pure sanity_ret ?_
    exact Ret.mk' ⟨rfl, rfl⟩
  have hcat : (a ++ [10]) ++ b = a ++ 10 :: b := by simp
  refine CallK.pure (tokens_ret a (by omega)) ?_
  cases hla : lex a with
  | inl x =>
    obtain ⟨p, e⟩ := x
    have he := lex_err (by omega) hla
    have hall := joins_bad (b := b) (by omega) hla
    intro b6 h6
    refine Sure.mk' rfl ?_
    refine Store.mk' [.int .i64 p, .int .i64 e] put_box (Nat.le_of_ble_eq_true rfl) rfl (fun σ1 e1 => ?_)
    rw [put_put] at e1; obtain ⟨o1, g6⟩ := new_box h6 [.int .i64 p, .int .i64 e]; rw [← e1] at o1 g6; clear e1
    refine CallK.pure (tokens_ret b (by omega)) ?_
    have hb : ∃ t c1 c2, lexRes (lex b) = .tup [t, .agg [.int .i64 c1, .int .i64 c2]] := by
      cases lex b with
      | inl x => exact ⟨_, _, _, rfl⟩
      | inr x => exact ⟨_, _, _, rfl⟩
    obtain ⟨t, c1, c2, hb⟩ := hb
    rw [hb]
    intro b8 h8
    refine Sure.mk' rfl ?_
    refine Store.mk' [.int .i64 c1, .int .i64 c2] put_box (Nat.le_of_ble_eq_true rfl) rfl (fun σ2 e2 => ?_)
    rw [put_put] at e2; obtain ⟨o2, g8⟩ := new_box h8 [.int .i64 c1, .int .i64 c2]; rw [← e2] at o2 g8; clear e2
    refine Sure.mk' (by simp; omega) ?_
    refine Sure.mk' (by simp; omega) ?_
    refine CallK.pure (tokens_ret _ (by simp; omega)) ?_
    rw [hcat, hall]
    intro b10 h10
    refine Sure.mk' rfl ?_
    refine Store.mk' [.int .i64 p, .int .i64 e] put_box (Nat.le_of_ble_eq_true rfl) rfl (fun σ3 e3 => ?_)
    rw [put_put] at e3; obtain ⟨o3, g10⟩ := new_box h10 [.int .i64 p, .int .i64 e]; rw [← e3] at o3 g10; clear e3
    refine Load.mk' (o3.box _ _ (o2.box _ _ g6)) (Nat.le_of_ble_eq_true rfl) ?_
    refine Test.yes (by omega) ?_
    refine CallK.pure sanity_ret ?_
    refine Load.mk' g10 (Nat.le_of_ble_eq_true rfl) ?_
    refine Load.mk' (o3.box _ _ (o2.box _ _ g6)) (Nat.le_of_ble_eq_true rfl) ?_
    refine BTest.yes (by simp) ?_
    exact Ret.weak (.refl _) (over_trans (over_trans o1 o2) o3) ⟨rfl, rfl⟩
  | inr ls =>
    obtain ⟨ts', hls, hall⟩ := joins_ok (b := b) (by omega) hla
    have hlsn := lex_len hla
    intro b6 h6
    refine Sure.mk' rfl ?_
    refine Store.mk' [.int .i64 0, .int .i64 0] put_box (Nat.le_of_ble_eq_true rfl) rfl (fun σ1 e1 => ?_)
    rw [put_put] at e1; obtain ⟨o1, g6⟩ := new_box h6 [.int .i64 0, .int .i64 0]; rw [← e1] at o1 g6; clear e1
    refine CallK.pure (tokens_ret b (by omega)) ?_
    cases hlb : lex b with
    | inl x =>
      obtain ⟨p, e⟩ := x
      have he := lex_err (by omega) hlb
      have hp := (stops_pure (by omega) hlb).1
      rw [hlb] at hall
      intro b8 h8
      refine Sure.mk' rfl ?_
      refine Store.mk' [.int .i64 p, .int .i64 e] put_box (Nat.le_of_ble_eq_true rfl) rfl (fun σ2 e2 => ?_)
      rw [put_put] at e2; obtain ⟨o2, g8⟩ := new_box h8 [.int .i64 p, .int .i64 e]; rw [← e2] at o2 g8; clear e2
      refine Sure.mk' (by simp; omega) ?_
      refine Sure.mk' (by simp; omega) ?_
      refine CallK.pure (tokens_ret _ (by simp; omega)) ?_
      rw [hcat, hall]
      intro b10 h10
      refine Sure.mk' rfl ?_
      refine Store.mk' [.int .i64 (a.length + 1 + p : Nat), .int .i64 e] put_box (Nat.le_of_ble_eq_true rfl) rfl (fun σ3 e3 => ?_)
      rw [put_put] at e3; obtain ⟨o3, g10⟩ := new_box h10 [.int .i64 (a.length + 1 + p : Nat), .int .i64 e]; rw [← e3] at o3 g10; clear e3
      refine Load.mk' (o3.box _ _ (o2.box _ _ g6)) (Nat.le_of_ble_eq_true rfl) ?_
      refine Test.no (by simp) ?_
      refine Load.mk' (o3.box _ _ g8) (Nat.le_of_ble_eq_true rfl) ?_
      refine Test.yes (by omega) ?_
      refine CallK.pure sanity_ret ?_
      refine Load.mk' g10 (Nat.le_of_ble_eq_true rfl) ?_
      refine Load.mk' (o3.box _ _ g8) (Nat.le_of_ble_eq_true rfl) ?_
      refine Arith.i64 ((p + a.length : Nat) : Int) (by simp) (by omega) ?_
      refine Arith.i64 ((a.length + 1 + p : Nat) : Int) (by omega) (by omega) ?_
      refine Load.mk' (o3.box _ _ g8) (Nat.le_of_ble_eq_true rfl) ?_
      refine BTest.yes (by simp) ?_
      exact Ret.weak (.refl _) (over_trans (over_trans o1 o2) o3) ⟨rfl, rfl⟩
    | inr ms =>
      rw [hlb] at hall
      have hmsn := lex_len hlb
      intro b8 h8
      refine Sure.mk' rfl ?_
      refine Store.mk' [.int .i64 0, .int .i64 0] put_box (Nat.le_of_ble_eq_true rfl) rfl (fun σ2 e2 => ?_)
      rw [put_put] at e2; obtain ⟨o2, g8⟩ := new_box h8 [.int .i64 0, .int .i64 0]; rw [← e2] at o2 g8; clear e2
      refine Sure.mk' (by simp; omega) ?_
      refine Sure.mk' (by simp; omega) ?_
      refine CallK.pure (tokens_ret _ (by simp; omega)) ?_
      rw [hcat, hall]
      intro b10 h10
      refine Sure.mk' rfl ?_
      refine Store.mk' [.int .i64 0, .int .i64 0] put_box (Nat.le_of_ble_eq_true rfl) rfl (fun σ3 e3 => ?_)
      rw [put_put] at e3; obtain ⟨o3, g10⟩ := new_box h10 [.int .i64 0, .int .i64 0]; rw [← e3] at o3 g10; clear e3
      refine Load.mk' (o3.box _ _ (o2.box _ _ g6)) (Nat.le_of_ble_eq_true rfl) ?_
      refine Test.no (by simp) ?_
      refine Load.mk' (o3.box _ _ g8) (Nat.le_of_ble_eq_true rfl) ?_
      refine Test.no (by simp) ?_
      have hn : ls.length = ts'.length + 1 := by rw [hls]; simp
      generalize hA : ts' ++ ms.map (shTok (a.length + 1)) = al
      have hnA : al.length = ts'.length + ms.length := by rw [← hA]; simp
      refine Arith.i64 ((ts'.length : Nat) : Int) (by simp [hn]) (by omega) ?_
      refine Load.mk' g10 (Nat.le_of_ble_eq_true rfl) ?_
      refine Test.no (by simp) ?_
      refine Test.no (by omega) ?_
      refine Arith.i64 ((al.length : Nat) : Int) (by simp [hnA]) (by omega) ?_
      refine Test.no (by simp) ?_
      refine ⟨fun m sl σ' => σ' = σ3 ∧ ∃ i : Nat, sl = ofL [(0, some (.str a)), (5, some (.slice .foreign 4 (ls.map tokV))), (7, some (.slice .foreign 4 (ms.map tokV))), (9, some (.slice .foreign 4 (al.map tokV))), (11, some (.int .i64 ts'.length)), (12, some (.int .i64 i))] ∧ i ≤ al.length ∧ m = al.length - i, _, ⟨rfl, 0, rfl, by omega, rfl⟩, ?_⟩
      rintro m sl σ' ⟨rfl, i, rfl, hi, rfl⟩
      have hlenA : (al.map tokV).length = al.length := by simp
      refine Test.split (fun h9 => ?_) (fun h9 => ?_)
      · rw [hlenA] at h9
        obtain ⟨t, ht⟩ : ∃ t, al[i]? = some t := ⟨al[i]'(by omega), by simp [show i < al.length by omega]⟩
        intro b13 h13
        refine Test.split (fun h12 => ?_) (fun h12 => ?_)
        · have ht' : ls[i]? = some t := by
            rw [hls, List.getElem?_append_left (by omega), ← ht, ← hA, List.getElem?_append_left (by omega)]
          refine Sure.mk' (.inl rfl) ?_
          refine IdxE.mk' i (tokV t) rfl (by simp [ht']) ?_
          refine ⟨⟨by simp [tokV], ?_⟩⟩
          refine Sure.mk' rfl ?_
          refine Store.mk' (tokV t) put_box (Nat.le_of_ble_eq_true rfl) rfl (fun σ4 e4 => ?_)
          rw [put_put] at e4; obtain ⟨o4, g13⟩ := new_box h13 (tokV t); rw [← e4] at o4 g13; clear e4
          refine Sure.mk' (.inl rfl) ?_
          refine IdxE.mk' i (tokV t) rfl (by simp [ht]) ?_
          refine ⟨⟨by simp [tokV], ?_⟩⟩
          refine Load.mk' g13 (Nat.le_of_ble_eq_true rfl) ?_
          refine BTest.no (by simp) ?_
          refine Arith.i64 ((i + 1 : Nat) : Int) (by simp) (by omega) ?_
          exact ⟨_, _, by omega, o4, rfl, i + 1, rfl, by omega, rfl⟩
        · obtain ⟨u, hu, rfl⟩ : ∃ u, ms[i - ts'.length]? = some u ∧ shTok (a.length + 1) u = t := by
            rw [← hA, List.getElem?_append_right (by omega), List.getElem?_map, Option.map_eq_some_iff] at ht
            exact ht
          have hat : -9223372036854775808 ≤ u.at_ + (a.length + 1 : Nat) ∧ u.at_ + (a.length + 1 : Nat) ≤ 9223372036854775807 := by
            have hm0 : ms = ms := rfl
            have hJ := hlb
            rw [lex_J (by omega)] at hJ
            have hiu : i - ts'.length < ms.length := (List.getElem?_eq_some_iff.1 hu).1
            obtain ⟨k, t2, _, h2, h3, h4', _, _⟩ := J_ok _ 0 ms (Nat.le_refl _) (by omega) hJ (i - ts'.length) hiu
            rw [hu] at h2; injection h2 with h2; subst h2
            have := skipTo_le b k h3
            omega
          refine Arith.i64 ((i - ts'.length : Nat) : Int) (by omega) (by omega) ?_
          refine Sure.mk' (.inl rfl) ?_
          refine IdxE.mk' (i - ts'.length) (tokV u) rfl (by simp [hu]) ?_
          refine ⟨⟨by simp [tokV], ?_⟩⟩
          refine Sure.mk' rfl ?_
          refine Store.mk' (tokV u) put_box (Nat.le_of_ble_eq_true rfl) rfl (fun σ4 e4 => ?_)
          rw [put_put] at e4
          refine Load.mk' (by rw [e4]; exact put_box) (Nat.le_of_ble_eq_true rfl) ?_
          refine Arith.i64 ((a.length + 1 : Nat) : Int) (by simp) (by omega) ?_
          refine Arith.i64 (u.at_ + (a.length + 1 : Nat)) rfl hat ?_
          refine Sure.mk' rfl ?_
          refine Store.mk' (tokV (shTok (a.length + 1) u)) (by rw [e4]; exact put_box) (Nat.le_of_ble_eq_true rfl) rfl (fun σ5 e5 => ?_)
          rw [e4, put_put] at e5
          obtain ⟨o4, g13⟩ := new_box h13 (tokV (shTok (a.length + 1) u)); rw [← e5] at o4 g13; clear e5
          refine Sure.mk' (.inl rfl) ?_
          refine IdxE.mk' i (tokV (shTok (a.length + 1) u)) rfl (by simp [ht]) ?_
          refine ⟨⟨by simp [tokV], ?_⟩⟩
          refine Load.mk' g13 (Nat.le_of_ble_eq_true rfl) ?_
          refine BTest.no (by simp) ?_
          refine Arith.i64 ((i + 1 : Nat) : Int) (by simp) (by omega) ?_
          exact ⟨_, _, by omega, o4, rfl, i + 1, rfl, by omega, rfl⟩
      · refine CallK.pure sanity_ret ?_
        exact Ret.weak (.refl _) (over_trans (over_trans o1 o2) o3) ⟨rfl, rfl⟩
end Go.Shadow.Lex
