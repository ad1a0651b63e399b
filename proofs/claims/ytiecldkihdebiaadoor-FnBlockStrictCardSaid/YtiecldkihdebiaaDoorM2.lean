/- A part of the proof: Written by codes.py: the compact codes of functions; each is what compF makes of the program's own. All the codes. The program logic over the seat's program: functions by their codes, calls read off a table. DERIVED: THE SHELF's CONTRACTS AT THIS DUMP, IN PLAIN WORDS (tools/lay-plain.mjs out of 'YtiecldkihdebiaaDoorSi0.lean', which tools/lay-shelf.mjs wrote): THE SAME DECLARATIONS UNDER THE SAME NAMES: 'import', 'namespace', 'open', 'def', 'theorem' AND NOTHING ELSE: no command of the shelf's: FOR A HAND-IN. Each laying: the table of numbers ('.._ren') and one theorem, a field a fact of the dump's own or the kernel's comparison; each contract: ONE APPLICATION. strconv.Itoa, out of its contract in the library. DERIVED: THE SHELF's CONTRACTS AT THIS DUMP, IN PLAIN WORDS (tools/lay-plain.mjs out of 'YtiecldkihdebiaaDoorSj0.lean', which tools/lay-shelf.mjs wrote): THE SAME DECLARATIONS UNDER THE SAME NAMES: 'import', 'namespace', 'open', 'def', 'theorem' AND NOTHING ELSE: no command of the shelf's: FOR A HAND-IN. Each laying: the table of numbers ('.._ren') and one theorem, a field a fact of the dump's own or the kernel's comparison; each contract: ONE APPLICATION. The reference's small functions, and the table of calls that touch no memory. The reference's functions for keys, runs and texts. The reference's reader of codes, and what it draws. What the reference draws: keys and runs. The law FnBlockSum. Runs, sieves and stores, in plain Lean. The program's small functions, and a table of calls that touch no memory. The texts of deeds: of the reference. Deeds have texts of their own, in plain Lean. The reference's blocks: texts. The reference's blocks: texts are cut. Words of a text, in plain Lean: what is cut, by the reference and by the library. The reference's blocks: numbers are read. Numbers that are read are those that were written. Deeds are read, in plain Lean. The reference's blocks: entries are read. The reference's blocks: blocks are read. Blocks are read, in plain Lean. strings.Cut, strings.Split, strings.TrimPrefix, strconv.Atoi: out of their contracts in the library. The texts of deeds: of the program. Numbers are read: the program's way. The program's runs: is one. A string is appended to bytes: what it does to memory. strings.Builder: its copies are looked for. There is no condition. -/
import Derived.Test.YtiecldkihdebiaaDoorProg
import Derived.Shelf.Strconv.Itoa3
import Derived.Ground.NamesProg
import Derived.Shelf.Strings.Cut
import Derived.Shelf.Strings.SplitShaped
import Derived.Shelf.Strings.Prefix
import Derived.Shelf.Strconv.ErrVarAll
import Derived.Shelf.LaysC
import Derived.Lib.SplitLaws
import Derived.Lib.CutLaws
import Derived.Lib.AtoiAll
import Derived.Lib.AppendStr
import Derived.Lib.Builder
import Derived.Shelf.Strings.Builder1
import Derived.Test.YtiecldkihdebiaaDoorM0
import Derived.Test.YtiecldkihdebiaaDoorM1
namespace Go.Proofs.YtiecldkihdebiaaDoor.B
open Go.Proofs
def c_laws_FnBlockNone : CF := ⟨60, (.seq (.plan (.st (some 2) (.mv (.c (.bool false))) none [] .fin)) (.seq (.seq (.plan (.st (some 12) (.mv (.t 0)) none [] (.st (some 13) (.len (.t 12)) none [] (.st (some 14) (.bin .gtr (.t 13) (.c (.int .i64 1048576))) none [] .fin)))) (.cond (.t 14) (.seq (.plan (.st (some 2) (.mv (.c (.bool true))) none [] .fin)) .ret) .skip)) (.seq (.plan (.st (some 15) (.mv (.t 0)) none [] (.st (some 16) (.call 28 [(.t 15)]) none [] (.st (some 3) (.mv (.t 16)) none [] .fin)))) (.seq (.plan (.st (some 18) (.mv (.t 3)) none [] (.st (some 19) (.call 19 [(.t 18)]) none [] (.st (some 17) (.mv (.t 19)) none [] (.st (some 20) (.ext 0 (.t 17)) none [] (.st (some 21) (.ext 1 (.t 17)) none [] (.st (some 4) (.mv (.t 20)) none [] (.st (some 5) (.mv (.t 21)) none [] .fin)))))))) (.seq (.plan (.st (some 23) (.mv (.t 3)) none [] (.st (some 24) (.call 20 [(.t 23)]) none [] (.st (some 22) (.mv (.t 24)) none [] (.st (some 25) (.ext 0 (.t 22)) none [] (.st (some 26) (.ext 1 (.t 22)) none [] (.st (some 6) (.mv (.t 25)) none [] (.st (some 7) (.mv (.t 26)) none [] .fin)))))))) (.seq (.plan (.st (some 28) (.call 25 [(.c .nils)]) none [] (.st (some 29) (.call 20 [(.t 28)]) none [] (.st (some 27) (.mv (.t 29)) none [] (.st (some 30) (.ext 0 (.t 27)) none [] (.st (some 31) (.ext 1 (.t 27)) none [] (.st (some 8) (.mv (.t 30)) none [] (.st (some 9) (.mv (.t 31)) none [] .fin)))))))) (.seq (.plan (.st (some 33) (.call 20 [(.c (.str ⟨#[]⟩))]) none [] (.st (some 32) (.mv (.t 33)) none [] (.st (some 34) (.ext 0 (.t 32)) none [] (.st (some 35) (.ext 1 (.t 32)) none [] (.st (some 10) (.mv (.t 34)) none [] (.st (some 11) (.mv (.t 35)) none [] .fin))))))) (.seq (.plan (.st (some 36) (.mv (.t 7)) none [] (.st (some 37) (.mv (.t 5)) none [] (.st (some 38) (.eqb false (.t 36) (.t 37)) none [] (.st (some 39) (.mv (.t 38)) none [] (.st (some 40) (.mv (.t 6)) (some (39, true)) [] (.st (some 41) (.mv (.t 4)) (some (39, true)) [] (.st (some 42) (.call 27 [(.t 40), (.t 41)]) (some (39, true)) [] (.st (some 43) (.pick (.t 39) (.t 42) (.c (.bool false))) none [] (.st (some 44) (.mv (.t 43)) none [] (.st (some 45) (.mv (.t 9)) (some (44, true)) [] (.st (some 46) (.pick (.t 44) (.t 45) (.c (.bool false))) none [] (.st (some 47) (.mv (.t 46)) none [] (.st (some 48) (.mv (.t 8)) (some (47, true)) [] (.st (some 49) (.len (.t 48)) (some (47, true)) [] (.st (some 50) (.bin .eql (.t 49) (.c (.int .i64 0))) (some (47, true)) [] (.st (some 51) (.pick (.t 47) (.t 50) (.c (.bool false))) none [] (.st (some 52) (.mv (.t 51)) none [] (.st (some 53) (.mv (.t 11)) (some (52, true)) [] (.st (some 54) (.not (.t 53)) (some (52, true)) [] (.st (some 55) (.pick (.t 52) (.t 54) (.c (.bool false))) none [] (.st (some 56) (.mv (.t 55)) none [] (.st (some 57) (.call 25 [(.c .nils)]) (some (56, true)) [] (.st (some 58) (.bin .neq (.t 57) (.c (.str ⟨#[]⟩))) (some (56, true)) [] (.st (some 59) (.pick (.t 56) (.t 58) (.c (.bool false))) none [] (.st (some 2) (.mv (.t 59)) none [] .fin)))))))))))))))))))))))))) .ret)))))))), [(.t 2)]⟩
theorem h_laws_FnBlockNone : compF Tryd.prog 10 = some c_laws_FnBlockNone := by kernel_rfl
def c_laws_FnBlockStrict : CF := ⟨52, (.seq (.plan (.st (some 2) (.mv (.c (.bool false))) none [] .fin)) (.seq (.seq (.plan (.st (some 8) (.mv (.t 0)) none [] (.st (some 9) (.len (.t 8)) none [] (.st (some 10) (.bin .gtr (.t 9) (.c (.int .i64 1048576))) none [] .fin)))) (.cond (.t 10) (.seq (.plan (.st (some 2) (.mv (.c (.bool true))) none [] .fin)) .ret) .skip)) (.seq (.plan (.st (some 11) (.mv (.t 0)) none [] (.st (some 12) (.call 28 [(.t 11)]) none [] (.st (some 3) (.mv (.t 12)) none [] .fin)))) (.seq (.plan (.st (some 14) (.mv (.t 3)) none [] (.st (some 15) (.call 19 [(.t 14)]) none [] (.st (some 13) (.mv (.t 15)) none [] (.st (some 16) (.ext 0 (.t 13)) none [] (.st (some 17) (.ext 1 (.t 13)) none [] (.st (some 4) (.mv (.t 16)) none [] (.st (some 5) (.mv (.t 17)) none [] .fin)))))))) (.seq (.plan (.st (some 19) (.mv (.t 3)) none [] (.st (some 20) (.call 20 [(.t 19)]) none [] (.st (some 18) (.mv (.t 20)) none [] (.st (some 21) (.ext 0 (.t 18)) none [] (.st (some 22) (.ext 1 (.t 18)) none [] (.st (some 6) (.mv (.t 21)) none [] (.st (some 7) (.mv (.t 22)) none [] .fin)))))))) (.seq (.seq (.plan (.st (some 23) (.mv (.t 7)) none [] (.st (some 24) (.mv (.t 5)) none [] (.st (some 25) (.eqb true (.t 23) (.t 24)) none [] (.st (some 26) (.mv (.t 25)) none [] (.st (some 27) (.mv (.t 6)) (some (26, false)) [] (.st (some 28) (.mv (.t 4)) (some (26, false)) [] (.st (some 29) (.call 27 [(.t 27), (.t 28)]) (some (26, false)) [] (.st (some 30) (.not (.t 29)) (some (26, false)) [] (.st (some 31) (.pick (.t 26) (.c (.bool true)) (.t 30)) none [] .fin)))))))))) (.cond (.t 31) (.seq (.plan (.st (some 2) (.mv (.c (.bool false))) none [] .fin)) .ret) .skip)) (.seq (.plan (.st (some 32) (.mv (.t 7)) none [] (.st (some 33) (.not (.t 32)) none [] (.st (some 34) (.mv (.t 33)) none [] (.st (some 35) (.mv (.t 6)) (some (34, true)) [] (.st (some 36) (.len (.t 35)) (some (34, true)) [] (.st (some 37) (.bin .eql (.t 36) (.c (.int .i64 0))) (some (34, true)) [] (.st (some 38) (.pick (.t 34) (.t 37) (.c (.bool false))) none [] (.st (some 39) (.mv (.t 38)) none [] (.st (some 40) (.mv (.t 7)) (some (39, false)) [] (.st (some 41) (.mv (.t 40)) (some (39, false)) [] (.st (some 42) (.mv (.t 6)) (some (41, true)) [] (.st (some 43) (.call 25 [(.t 42)]) (some (41, true)) [] (.st (some 44) (.mv (.t 3)) (some (41, true)) [] (.st (some 45) (.bin .eql (.t 43) (.t 44)) (some (41, true)) [] (.st (some 46) (.pick (.t 41) (.t 45) (.c (.bool false))) (some (39, false)) [] (.st (some 47) (.mv (.t 46)) (some (39, false)) [] (.st (some 48) (.mv (.t 6)) (some (47, true)) [] (.st (some 49) (.call 29 [(.t 48)]) (some (47, true)) [] (.st (some 50) (.pick (.t 47) (.t 49) (.c (.bool false))) (some (39, false)) [] (.st (some 51) (.pick (.t 39) (.c (.bool true)) (.t 50)) none [] (.st (some 2) (.mv (.t 51)) none [] .fin)))))))))))))))))))))) .ret))))))), [(.t 2)]⟩
theorem h_laws_FnBlockStrict : compF Tryd.prog 11 = some c_laws_FnBlockStrict := by kernel_rfl
def c_strconv_baseError : CF := ⟨16, (.seq (.plan (.st (some 6) (.mv (.c .nilp)) none [] .fin)) (.seq (.plan (.st (some 7) (.mv (.t 0)) none [] (.st (some 8) (.mv (.t 1)) none [] (.st (some 9) (.call 109 [(.t 8)]) none [] (.st (some 10) (.mv (.t 2)) none [] (.st (some 11) (.call 46 [(.t 10)]) none [] (.st (some 12) (.bin .add (.c (.str ⟨#[105, 110, 118, 97, 108, 105, 100, 32, 98, 97, 115, 101, 32]⟩)) (.t 11)) none [] (.st (some 13) (.call 110 [(.t 12)]) none [] (.st (some 14) (.build [(.str ⟨#[]⟩), (.str ⟨#[]⟩), .nili] [(0, (1, (.t 7))), (1, (1, (.t 9))), (2, (1, (.t 13)))]) none [] (.st (some 15) (.box 112 3 (.t 14)) none [] (.st (some 6) (.mv (.t 15)) none [] .fin))))))))))) .ret)), [(.t 6)]⟩
theorem h_strconv_baseError : compF Tryd.prog 96 = some c_strconv_baseError := by kernel_rfl
def c_strconv_bitSizeError : CF := ⟨16, (.seq (.plan (.st (some 6) (.mv (.c .nilp)) none [] .fin)) (.seq (.plan (.st (some 7) (.mv (.t 0)) none [] (.st (some 8) (.mv (.t 1)) none [] (.st (some 9) (.call 109 [(.t 8)]) none [] (.st (some 10) (.mv (.t 2)) none [] (.st (some 11) (.call 46 [(.t 10)]) none [] (.st (some 12) (.bin .add (.c (.str ⟨#[105, 110, 118, 97, 108, 105, 100, 32, 98, 105, 116, 32, 115, 105, 122, 101, 32]⟩)) (.t 11)) none [] (.st (some 13) (.call 110 [(.t 12)]) none [] (.st (some 14) (.build [(.str ⟨#[]⟩), (.str ⟨#[]⟩), .nili] [(0, (1, (.t 7))), (1, (1, (.t 9))), (2, (1, (.t 13)))]) none [] (.st (some 15) (.box 112 3 (.t 14)) none [] (.st (some 6) (.mv (.t 15)) none [] .fin))))))))))) .ret)), [(.t 6)]⟩
theorem h_strconv_bitSizeError : compF Tryd.prog 97 = some c_strconv_bitSizeError := by kernel_rfl
def c_internal_strconv_small : CF := ⟨15, (.seq (.plan (.st (some 2) (.mv (.c (.str ⟨#[]⟩))) none [] .fin)) (.seq (.seq (.plan (.st (some 3) (.mv (.t 0)) none [] (.st (some 4) (.bin .lss (.t 3) (.c (.int .i64 10))) none [] .fin))) (.cond (.t 4) (.seq (.plan (.st (some 5) (.mv (.t 0)) none [] (.st (some 6) (.mv (.t 0)) none [] (.st (some 7) (.bin .add (.t 6) (.c (.int .i64 1))) none [] (.st (some 8) (.cuts (.c (.str ⟨#[48, 49, 50, 51, 52, 53, 54, 55, 56, 57, 97, 98, 99, 100, 101, 102, 103, 104, 105, 106, 107, 108, 109, 110, 111, 112, 113, 114, 115, 116, 117, 118, 119, 120, 121, 122]⟩)) (some (.t 5)) (some (.t 7))) none [] (.st (some 2) (.mv (.t 8)) none [] .fin)))))) .ret) .skip)) (.seq (.plan (.st (some 9) (.mv (.t 0)) none [] (.st (some 10) (.bin .mul (.t 9) (.c (.int .i64 2))) none [] (.st (some 11) (.mv (.t 0)) none [] (.st (some 12) (.bin .mul (.t 11) (.c (.int .i64 2))) none [] (.st (some 13) (.bin .add (.t 12) (.c (.int .i64 2))) none [] (.st (some 14) (.cuts (.c (.str ⟨#[48, 48, 48, 49, 48, 50, 48, 51, 48, 52, 48, 53, 48, 54, 48, 55, 48, 56, 48, 57, 49, 48, 49, 49, 49, 50, 49, 51, 49, 52, 49, 53, 49, 54, 49, 55, 49, 56, 49, 57, 50, 48, 50, 49, 50, 50, 50, 51, 50, 52, 50, 53, 50, 54, 50, 55, 50, 56, 50, 57, 51, 48, 51, 49, 51, 50, 51, 51, 51, 52, 51, 53, 51, 54, 51, 55, 51, 56, 51, 57, 52, 48, 52, 49, 52, 50, 52, 51, 52, 52, 52, 53, 52, 54, 52, 55, 52, 56, 52, 57, 53, 48, 53, 49, 53, 50, 53, 51, 53, 52, 53, 53, 53, 54, 53, 55, 53, 56, 53, 57, 54, 48, 54, 49, 54, 50, 54, 51, 54, 52, 54, 53, 54, 54, 54, 55, 54, 56, 54, 57, 55, 48, 55, 49, 55, 50, 55, 51, 55, 52, 55, 53, 55, 54, 55, 55, 55, 56, 55, 57, 56, 48, 56, 49, 56, 50, 56, 51, 56, 52, 56, 53, 56, 54, 56, 55, 56, 56, 56, 57, 57, 48, 57, 49, 57, 50, 57, 51, 57, 52, 57, 53, 57, 54, 57, 55, 57, 56, 57, 57]⟩)) (some (.t 10)) (some (.t 13))) none [] (.st (some 2) (.mv (.t 14)) none [] .fin)))))))) .ret))), [(.t 2)]⟩
theorem h_internal_strconv_small : compF Tryd.prog 98 = some c_internal_strconv_small := by kernel_rfl
def c_internal_strconv_formatBase10 : CF := ⟨167, (.seq (.plan (.st (some 17) (.mv (.t 0)) none [] (.st (some 18) (.len (.t 17)) none [] (.st (some 4) (.mv (.t 18)) none [] .fin)))) (.seq (.block 0 (.loop (.seq (.seq (.plan (.st (some 19) (.mv (.t 4)) none [] (.st (some 20) (.bin .geq (.t 19) (.c (.int .i64 8))) none [] .fin))) (.cond (.t 20) .skip (.exit 0))) (.block 1 (.seq (.plan (.st (some 21) (.mv (.t 1)) none [] (.st (some 22) (.bin .rem (.t 21) (.c (.int .u64 100000000))) none [] (.st (some 23) (.cv .u32 (.t 22)) none [] (.st (some 5) (.mv (.t 23)) none [] .fin))))) (.seq (.plan (.st (some 24) (.mv (.t 1)) none [] (.st (some 25) (.bin .quo (.t 24) (.c (.int .u64 100000000))) none [] (.st (some 1) (.mv (.t 25)) none [] .fin)))) (.seq (.plan (.st (some 26) (.mv (.t 5)) none [] (.st (some 27) (.bin .quo (.t 26) (.c (.int .u32 10000))) none [] (.st (some 28) (.mv (.t 5)) none [] (.st (some 29) (.bin .rem (.t 28) (.c (.int .u32 10000))) none [] (.st (some 6) (.mv (.t 27)) none [] (.st (some 7) (.mv (.t 29)) none [] .fin))))))) (.seq (.plan (.st (some 30) (.mv (.t 7)) none [] (.st (some 31) (.bin .quo (.t 30) (.c (.int .u32 100))) none [] (.st (some 32) (.bin .mul (.t 31) (.c (.int .u32 2))) none [] (.st (some 33) (.mv (.t 7)) none [] (.st (some 34) (.bin .rem (.t 33) (.c (.int .u32 100))) none [] (.st (some 35) (.bin .mul (.t 34) (.c (.int .u32 2))) none [] (.st (some 8) (.mv (.t 32)) none [] (.st (some 9) (.mv (.t 35)) none [] .fin))))))))) (.seq (.plan (.st (some 36) (.mv (.t 6)) none [] (.st (some 37) (.bin .quo (.t 36) (.c (.int .u32 100))) none [] (.st (some 38) (.bin .mul (.t 37) (.c (.int .u32 2))) none [] (.st (some 39) (.mv (.t 6)) none [] (.st (some 40) (.bin .rem (.t 39) (.c (.int .u32 100))) none [] (.st (some 41) (.bin .mul (.t 40) (.c (.int .u32 2))) none [] (.st (some 10) (.mv (.t 38)) none [] (.st (some 11) (.mv (.t 41)) none [] .fin))))))))) (.seq (.plan (.st (some 42) (.mv (.t 0)) none [] (.st (some 43) (.mv (.t 4)) none [] (.st (some 44) (.bin .sub (.t 43) (.c (.int .i64 1))) none [] (.st (some 45) (.mv (.t 0)) none [] (.st (some 46) (.mv (.t 4)) none [] (.st (some 47) (.bin .sub (.t 46) (.c (.int .i64 2))) none [] (.st (some 48) (.mv (.t 9)) none [] (.st (some 49) (.bin .add (.t 48) (.c (.int .u32 1))) none [] (.st (some 50) (.ix (.c (.str ⟨#[48, 48, 48, 49, 48, 50, 48, 51, 48, 52, 48, 53, 48, 54, 48, 55, 48, 56, 48, 57, 49, 48, 49, 49, 49, 50, 49, 51, 49, 52, 49, 53, 49, 54, 49, 55, 49, 56, 49, 57, 50, 48, 50, 49, 50, 50, 50, 51, 50, 52, 50, 53, 50, 54, 50, 55, 50, 56, 50, 57, 51, 48, 51, 49, 51, 50, 51, 51, 51, 52, 51, 53, 51, 54, 51, 55, 51, 56, 51, 57, 52, 48, 52, 49, 52, 50, 52, 51, 52, 52, 52, 53, 52, 54, 52, 55, 52, 56, 52, 57, 53, 48, 53, 49, 53, 50, 53, 51, 53, 52, 53, 53, 53, 54, 53, 55, 53, 56, 53, 57, 54, 48, 54, 49, 54, 50, 54, 51, 54, 52, 54, 53, 54, 54, 54, 55, 54, 56, 54, 57, 55, 48, 55, 49, 55, 50, 55, 51, 55, 52, 55, 53, 55, 54, 55, 55, 55, 56, 55, 57, 56, 48, 56, 49, 56, 50, 56, 51, 56, 52, 56, 53, 56, 54, 56, 55, 56, 56, 56, 57, 57, 48, 57, 49, 57, 50, 57, 51, 57, 52, 57, 53, 57, 54, 57, 55, 57, 56, 57, 57]⟩)) (.t 49)) none [] (.st (some 51) (.mv (.t 9)) none [] (.st (some 52) (.ix (.c (.str ⟨#[48, 48, 48, 49, 48, 50, 48, 51, 48, 52, 48, 53, 48, 54, 48, 55, 48, 56, 48, 57, 49, 48, 49, 49, 49, 50, 49, 51, 49, 52, 49, 53, 49, 54, 49, 55, 49, 56, 49, 57, 50, 48, 50, 49, 50, 50, 50, 51, 50, 52, 50, 53, 50, 54, 50, 55, 50, 56, 50, 57, 51, 48, 51, 49, 51, 50, 51, 51, 51, 52, 51, 53, 51, 54, 51, 55, 51, 56, 51, 57, 52, 48, 52, 49, 52, 50, 52, 51, 52, 52, 52, 53, 52, 54, 52, 55, 52, 56, 52, 57, 53, 48, 53, 49, 53, 50, 53, 51, 53, 52, 53, 53, 53, 54, 53, 55, 53, 56, 53, 57, 54, 48, 54, 49, 54, 50, 54, 51, 54, 52, 54, 53, 54, 54, 54, 55, 54, 56, 54, 57, 55, 48, 55, 49, 55, 50, 55, 51, 55, 52, 55, 53, 55, 54, 55, 55, 55, 56, 55, 57, 56, 48, 56, 49, 56, 50, 56, 51, 56, 52, 56, 53, 56, 54, 56, 55, 56, 56, 56, 57, 57, 48, 57, 49, 57, 50, 57, 51, 57, 52, 57, 53, 57, 54, 57, 55, 57, 56, 57, 57]⟩)) (.t 51)) none [] (.st (some 53) (.ia 1 (.t 42) (.t 44)) none [] (.st none (.st 1 (.t 53) (.t 50)) none [] (.st (some 54) (.ia 1 (.t 45) (.t 47)) none [] (.st none (.st 1 (.t 54) (.t 52)) none [] .fin)))))))))))))))) (.seq (.plan (.st (some 55) (.mv (.t 0)) none [] (.st (some 56) (.mv (.t 4)) none [] (.st (some 57) (.bin .sub (.t 56) (.c (.int .i64 3))) none [] (.st (some 58) (.mv (.t 0)) none [] (.st (some 59) (.mv (.t 4)) none [] (.st (some 60) (.bin .sub (.t 59) (.c (.int .i64 4))) none [] (.st (some 61) (.mv (.t 8)) none [] (.st (some 62) (.bin .add (.t 61) (.c (.int .u32 1))) none [] (.st (some 63) (.ix (.c (.str ⟨#[48, 48, 48, 49, 48, 50, 48, 51, 48, 52, 48, 53, 48, 54, 48, 55, 48, 56, 48, 57, 49, 48, 49, 49, 49, 50, 49, 51, 49, 52, 49, 53, 49, 54, 49, 55, 49, 56, 49, 57, 50, 48, 50, 49, 50, 50, 50, 51, 50, 52, 50, 53, 50, 54, 50, 55, 50, 56, 50, 57, 51, 48, 51, 49, 51, 50, 51, 51, 51, 52, 51, 53, 51, 54, 51, 55, 51, 56, 51, 57, 52, 48, 52, 49, 52, 50, 52, 51, 52, 52, 52, 53, 52, 54, 52, 55, 52, 56, 52, 57, 53, 48, 53, 49, 53, 50, 53, 51, 53, 52, 53, 53, 53, 54, 53, 55, 53, 56, 53, 57, 54, 48, 54, 49, 54, 50, 54, 51, 54, 52, 54, 53, 54, 54, 54, 55, 54, 56, 54, 57, 55, 48, 55, 49, 55, 50, 55, 51, 55, 52, 55, 53, 55, 54, 55, 55, 55, 56, 55, 57, 56, 48, 56, 49, 56, 50, 56, 51, 56, 52, 56, 53, 56, 54, 56, 55, 56, 56, 56, 57, 57, 48, 57, 49, 57, 50, 57, 51, 57, 52, 57, 53, 57, 54, 57, 55, 57, 56, 57, 57]⟩)) (.t 62)) none [] (.st (some 64) (.mv (.t 8)) none [] (.st (some 65) (.ix (.c (.str ⟨#[48, 48, 48, 49, 48, 50, 48, 51, 48, 52, 48, 53, 48, 54, 48, 55, 48, 56, 48, 57, 49, 48, 49, 49, 49, 50, 49, 51, 49, 52, 49, 53, 49, 54, 49, 55, 49, 56, 49, 57, 50, 48, 50, 49, 50, 50, 50, 51, 50, 52, 50, 53, 50, 54, 50, 55, 50, 56, 50, 57, 51, 48, 51, 49, 51, 50, 51, 51, 51, 52, 51, 53, 51, 54, 51, 55, 51, 56, 51, 57, 52, 48, 52, 49, 52, 50, 52, 51, 52, 52, 52, 53, 52, 54, 52, 55, 52, 56, 52, 57, 53, 48, 53, 49, 53, 50, 53, 51, 53, 52, 53, 53, 53, 54, 53, 55, 53, 56, 53, 57, 54, 48, 54, 49, 54, 50, 54, 51, 54, 52, 54, 53, 54, 54, 54, 55, 54, 56, 54, 57, 55, 48, 55, 49, 55, 50, 55, 51, 55, 52, 55, 53, 55, 54, 55, 55, 55, 56, 55, 57, 56, 48, 56, 49, 56, 50, 56, 51, 56, 52, 56, 53, 56, 54, 56, 55, 56, 56, 56, 57, 57, 48, 57, 49, 57, 50, 57, 51, 57, 52, 57, 53, 57, 54, 57, 55, 57, 56, 57, 57]⟩)) (.t 64)) none [] (.st (some 66) (.ia 1 (.t 55) (.t 57)) none [] (.st none (.st 1 (.t 66) (.t 63)) none [] (.st (some 67) (.ia 1 (.t 58) (.t 60)) none [] (.st none (.st 1 (.t 67) (.t 65)) none [] .fin)))))))))))))))) (.seq (.plan (.st (some 68) (.mv (.t 0)) none [] (.st (some 69) (.mv (.t 4)) none [] (.st (some 70) (.bin .sub (.t 69) (.c (.int .i64 5))) none [] (.st (some 71) (.mv (.t 0)) none [] (.st (some 72) (.mv (.t 4)) none [] (.st (some 73) (.bin .sub (.t 72) (.c (.int .i64 6))) none [] (.st (some 74) (.mv (.t 11)) none [] (.st (some 75) (.bin .add (.t 74) (.c (.int .u32 1))) none [] (.st (some 76) (.ix (.c (.str ⟨#[48, 48, 48, 49, 48, 50, 48, 51, 48, 52, 48, 53, 48, 54, 48, 55, 48, 56, 48, 57, 49, 48, 49, 49, 49, 50, 49, 51, 49, 52, 49, 53, 49, 54, 49, 55, 49, 56, 49, 57, 50, 48, 50, 49, 50, 50, 50, 51, 50, 52, 50, 53, 50, 54, 50, 55, 50, 56, 50, 57, 51, 48, 51, 49, 51, 50, 51, 51, 51, 52, 51, 53, 51, 54, 51, 55, 51, 56, 51, 57, 52, 48, 52, 49, 52, 50, 52, 51, 52, 52, 52, 53, 52, 54, 52, 55, 52, 56, 52, 57, 53, 48, 53, 49, 53, 50, 53, 51, 53, 52, 53, 53, 53, 54, 53, 55, 53, 56, 53, 57, 54, 48, 54, 49, 54, 50, 54, 51, 54, 52, 54, 53, 54, 54, 54, 55, 54, 56, 54, 57, 55, 48, 55, 49, 55, 50, 55, 51, 55, 52, 55, 53, 55, 54, 55, 55, 55, 56, 55, 57, 56, 48, 56, 49, 56, 50, 56, 51, 56, 52, 56, 53, 56, 54, 56, 55, 56, 56, 56, 57, 57, 48, 57, 49, 57, 50, 57, 51, 57, 52, 57, 53, 57, 54, 57, 55, 57, 56, 57, 57]⟩)) (.t 75)) none [] (.st (some 77) (.mv (.t 11)) none [] (.st (some 78) (.ix (.c (.str ⟨#[48, 48, 48, 49, 48, 50, 48, 51, 48, 52, 48, 53, 48, 54, 48, 55, 48, 56, 48, 57, 49, 48, 49, 49, 49, 50, 49, 51, 49, 52, 49, 53, 49, 54, 49, 55, 49, 56, 49, 57, 50, 48, 50, 49, 50, 50, 50, 51, 50, 52, 50, 53, 50, 54, 50, 55, 50, 56, 50, 57, 51, 48, 51, 49, 51, 50, 51, 51, 51, 52, 51, 53, 51, 54, 51, 55, 51, 56, 51, 57, 52, 48, 52, 49, 52, 50, 52, 51, 52, 52, 52, 53, 52, 54, 52, 55, 52, 56, 52, 57, 53, 48, 53, 49, 53, 50, 53, 51, 53, 52, 53, 53, 53, 54, 53, 55, 53, 56, 53, 57, 54, 48, 54, 49, 54, 50, 54, 51, 54, 52, 54, 53, 54, 54, 54, 55, 54, 56, 54, 57, 55, 48, 55, 49, 55, 50, 55, 51, 55, 52, 55, 53, 55, 54, 55, 55, 55, 56, 55, 57, 56, 48, 56, 49, 56, 50, 56, 51, 56, 52, 56, 53, 56, 54, 56, 55, 56, 56, 56, 57, 57, 48, 57, 49, 57, 50, 57, 51, 57, 52, 57, 53, 57, 54, 57, 55, 57, 56, 57, 57]⟩)) (.t 77)) none [] (.st (some 79) (.ia 1 (.t 68) (.t 70)) none [] (.st none (.st 1 (.t 79) (.t 76)) none [] (.st (some 80) (.ia 1 (.t 71) (.t 73)) none [] (.st none (.st 1 (.t 80) (.t 78)) none [] .fin)))))))))))))))) (.seq (.plan (.st (some 81) (.mv (.t 0)) none [] (.st (some 82) (.mv (.t 4)) none [] (.st (some 83) (.bin .sub (.t 82) (.c (.int .i64 7))) none [] (.st (some 84) (.mv (.t 0)) none [] (.st (some 85) (.mv (.t 4)) none [] (.st (some 86) (.bin .sub (.t 85) (.c (.int .i64 8))) none [] (.st (some 87) (.mv (.t 10)) none [] (.st (some 88) (.bin .add (.t 87) (.c (.int .u32 1))) none [] (.st (some 89) (.ix (.c (.str ⟨#[48, 48, 48, 49, 48, 50, 48, 51, 48, 52, 48, 53, 48, 54, 48, 55, 48, 56, 48, 57, 49, 48, 49, 49, 49, 50, 49, 51, 49, 52, 49, 53, 49, 54, 49, 55, 49, 56, 49, 57, 50, 48, 50, 49, 50, 50, 50, 51, 50, 52, 50, 53, 50, 54, 50, 55, 50, 56, 50, 57, 51, 48, 51, 49, 51, 50, 51, 51, 51, 52, 51, 53, 51, 54, 51, 55, 51, 56, 51, 57, 52, 48, 52, 49, 52, 50, 52, 51, 52, 52, 52, 53, 52, 54, 52, 55, 52, 56, 52, 57, 53, 48, 53, 49, 53, 50, 53, 51, 53, 52, 53, 53, 53, 54, 53, 55, 53, 56, 53, 57, 54, 48, 54, 49, 54, 50, 54, 51, 54, 52, 54, 53, 54, 54, 54, 55, 54, 56, 54, 57, 55, 48, 55, 49, 55, 50, 55, 51, 55, 52, 55, 53, 55, 54, 55, 55, 55, 56, 55, 57, 56, 48, 56, 49, 56, 50, 56, 51, 56, 52, 56, 53, 56, 54, 56, 55, 56, 56, 56, 57, 57, 48, 57, 49, 57, 50, 57, 51, 57, 52, 57, 53, 57, 54, 57, 55, 57, 56, 57, 57]⟩)) (.t 88)) none [] (.st (some 90) (.mv (.t 10)) none [] (.st (some 91) (.ix (.c (.str ⟨#[48, 48, 48, 49, 48, 50, 48, 51, 48, 52, 48, 53, 48, 54, 48, 55, 48, 56, 48, 57, 49, 48, 49, 49, 49, 50, 49, 51, 49, 52, 49, 53, 49, 54, 49, 55, 49, 56, 49, 57, 50, 48, 50, 49, 50, 50, 50, 51, 50, 52, 50, 53, 50, 54, 50, 55, 50, 56, 50, 57, 51, 48, 51, 49, 51, 50, 51, 51, 51, 52, 51, 53, 51, 54, 51, 55, 51, 56, 51, 57, 52, 48, 52, 49, 52, 50, 52, 51, 52, 52, 52, 53, 52, 54, 52, 55, 52, 56, 52, 57, 53, 48, 53, 49, 53, 50, 53, 51, 53, 52, 53, 53, 53, 54, 53, 55, 53, 56, 53, 57, 54, 48, 54, 49, 54, 50, 54, 51, 54, 52, 54, 53, 54, 54, 54, 55, 54, 56, 54, 57, 55, 48, 55, 49, 55, 50, 55, 51, 55, 52, 55, 53, 55, 54, 55, 55, 55, 56, 55, 57, 56, 48, 56, 49, 56, 50, 56, 51, 56, 52, 56, 53, 56, 54, 56, 55, 56, 56, 56, 57, 57, 48, 57, 49, 57, 50, 57, 51, 57, 52, 57, 53, 57, 54, 57, 55, 57, 56, 57, 57]⟩)) (.t 90)) none [] (.st (some 92) (.ia 1 (.t 81) (.t 83)) none [] (.st none (.st 1 (.t 92) (.t 89)) none [] (.st (some 93) (.ia 1 (.t 84) (.t 86)) none [] (.st none (.st 1 (.t 93) (.t 91)) none [] .fin)))))))))))))))) (.plan (.st (some 94) (.mv (.t 4)) none [] (.st (some 95) (.bin .sub (.t 94) (.c (.int .i64 8))) none [] (.st (some 4) (.mv (.t 95)) none [] .fin))))))))))))))))) (.seq (.plan (.st (some 96) (.mv (.t 1)) none [] (.st (some 97) (.cv .u32 (.t 96)) none [] (.st (some 12) (.mv (.t 97)) none [] .fin)))) (.seq (.seq (.plan (.st (some 98) (.mv (.t 4)) none [] (.st (some 99) (.bin .geq (.t 98) (.c (.int .i64 4))) none [] .fin))) (.cond (.t 99) (.seq (.plan (.st (some 100) (.mv (.t 12)) none [] (.st (some 101) (.bin .rem (.t 100) (.c (.int .u32 10000))) none [] (.st (some 13) (.mv (.t 101)) none [] .fin)))) (.seq (.plan (.st (some 102) (.mv (.t 12)) none [] (.st (some 103) (.bin .quo (.t 102) (.c (.int .u32 10000))) none [] (.st (some 12) (.mv (.t 103)) none [] .fin)))) (.seq (.plan (.st (some 104) (.mv (.t 13)) none [] (.st (some 105) (.bin .quo (.t 104) (.c (.int .u32 100))) none [] (.st (some 106) (.bin .mul (.t 105) (.c (.int .u32 2))) none [] (.st (some 107) (.mv (.t 13)) none [] (.st (some 108) (.bin .rem (.t 107) (.c (.int .u32 100))) none [] (.st (some 109) (.bin .mul (.t 108) (.c (.int .u32 2))) none [] (.st (some 14) (.mv (.t 106)) none [] (.st (some 15) (.mv (.t 109)) none [] .fin))))))))) (.seq (.plan (.st (some 110) (.mv (.t 0)) none [] (.st (some 111) (.mv (.t 4)) none [] (.st (some 112) (.bin .sub (.t 111) (.c (.int .i64 1))) none [] (.st (some 113) (.mv (.t 0)) none [] (.st (some 114) (.mv (.t 4)) none [] (.st (some 115) (.bin .sub (.t 114) (.c (.int .i64 2))) none [] (.st (some 116) (.mv (.t 15)) none [] (.st (some 117) (.bin .add (.t 116) (.c (.int .u32 1))) none [] (.st (some 118) (.ix (.c (.str ⟨#[48, 48, 48, 49, 48, 50, 48, 51, 48, 52, 48, 53, 48, 54, 48, 55, 48, 56, 48, 57, 49, 48, 49, 49, 49, 50, 49, 51, 49, 52, 49, 53, 49, 54, 49, 55, 49, 56, 49, 57, 50, 48, 50, 49, 50, 50, 50, 51, 50, 52, 50, 53, 50, 54, 50, 55, 50, 56, 50, 57, 51, 48, 51, 49, 51, 50, 51, 51, 51, 52, 51, 53, 51, 54, 51, 55, 51, 56, 51, 57, 52, 48, 52, 49, 52, 50, 52, 51, 52, 52, 52, 53, 52, 54, 52, 55, 52, 56, 52, 57, 53, 48, 53, 49, 53, 50, 53, 51, 53, 52, 53, 53, 53, 54, 53, 55, 53, 56, 53, 57, 54, 48, 54, 49, 54, 50, 54, 51, 54, 52, 54, 53, 54, 54, 54, 55, 54, 56, 54, 57, 55, 48, 55, 49, 55, 50, 55, 51, 55, 52, 55, 53, 55, 54, 55, 55, 55, 56, 55, 57, 56, 48, 56, 49, 56, 50, 56, 51, 56, 52, 56, 53, 56, 54, 56, 55, 56, 56, 56, 57, 57, 48, 57, 49, 57, 50, 57, 51, 57, 52, 57, 53, 57, 54, 57, 55, 57, 56, 57, 57]⟩)) (.t 117)) none [] (.st (some 119) (.mv (.t 15)) none [] (.st (some 120) (.ix (.c (.str ⟨#[48, 48, 48, 49, 48, 50, 48, 51, 48, 52, 48, 53, 48, 54, 48, 55, 48, 56, 48, 57, 49, 48, 49, 49, 49, 50, 49, 51, 49, 52, 49, 53, 49, 54, 49, 55, 49, 56, 49, 57, 50, 48, 50, 49, 50, 50, 50, 51, 50, 52, 50, 53, 50, 54, 50, 55, 50, 56, 50, 57, 51, 48, 51, 49, 51, 50, 51, 51, 51, 52, 51, 53, 51, 54, 51, 55, 51, 56, 51, 57, 52, 48, 52, 49, 52, 50, 52, 51, 52, 52, 52, 53, 52, 54, 52, 55, 52, 56, 52, 57, 53, 48, 53, 49, 53, 50, 53, 51, 53, 52, 53, 53, 53, 54, 53, 55, 53, 56, 53, 57, 54, 48, 54, 49, 54, 50, 54, 51, 54, 52, 54, 53, 54, 54, 54, 55, 54, 56, 54, 57, 55, 48, 55, 49, 55, 50, 55, 51, 55, 52, 55, 53, 55, 54, 55, 55, 55, 56, 55, 57, 56, 48, 56, 49, 56, 50, 56, 51, 56, 52, 56, 53, 56, 54, 56, 55, 56, 56, 56, 57, 57, 48, 57, 49, 57, 50, 57, 51, 57, 52, 57, 53, 57, 54, 57, 55, 57, 56, 57, 57]⟩)) (.t 119)) none [] (.st (some 121) (.ia 1 (.t 110) (.t 112)) none [] (.st none (.st 1 (.t 121) (.t 118)) none [] (.st (some 122) (.ia 1 (.t 113) (.t 115)) none [] (.st none (.st 1 (.t 122) (.t 120)) none [] .fin)))))))))))))))) (.seq (.plan (.st (some 123) (.mv (.t 0)) none [] (.st (some 124) (.mv (.t 4)) none [] (.st (some 125) (.bin .sub (.t 124) (.c (.int .i64 3))) none [] (.st (some 126) (.mv (.t 0)) none [] (.st (some 127) (.mv (.t 4)) none [] (.st (some 128) (.bin .sub (.t 127) (.c (.int .i64 4))) none [] (.st (some 129) (.mv (.t 14)) none [] (.st (some 130) (.bin .add (.t 129) (.c (.int .u32 1))) none [] (.st (some 131) (.ix (.c (.str ⟨#[48, 48, 48, 49, 48, 50, 48, 51, 48, 52, 48, 53, 48, 54, 48, 55, 48, 56, 48, 57, 49, 48, 49, 49, 49, 50, 49, 51, 49, 52, 49, 53, 49, 54, 49, 55, 49, 56, 49, 57, 50, 48, 50, 49, 50, 50, 50, 51, 50, 52, 50, 53, 50, 54, 50, 55, 50, 56, 50, 57, 51, 48, 51, 49, 51, 50, 51, 51, 51, 52, 51, 53, 51, 54, 51, 55, 51, 56, 51, 57, 52, 48, 52, 49, 52, 50, 52, 51, 52, 52, 52, 53, 52, 54, 52, 55, 52, 56, 52, 57, 53, 48, 53, 49, 53, 50, 53, 51, 53, 52, 53, 53, 53, 54, 53, 55, 53, 56, 53, 57, 54, 48, 54, 49, 54, 50, 54, 51, 54, 52, 54, 53, 54, 54, 54, 55, 54, 56, 54, 57, 55, 48, 55, 49, 55, 50, 55, 51, 55, 52, 55, 53, 55, 54, 55, 55, 55, 56, 55, 57, 56, 48, 56, 49, 56, 50, 56, 51, 56, 52, 56, 53, 56, 54, 56, 55, 56, 56, 56, 57, 57, 48, 57, 49, 57, 50, 57, 51, 57, 52, 57, 53, 57, 54, 57, 55, 57, 56, 57, 57]⟩)) (.t 130)) none [] (.st (some 132) (.mv (.t 14)) none [] (.st (some 133) (.ix (.c (.str ⟨#[48, 48, 48, 49, 48, 50, 48, 51, 48, 52, 48, 53, 48, 54, 48, 55, 48, 56, 48, 57, 49, 48, 49, 49, 49, 50, 49, 51, 49, 52, 49, 53, 49, 54, 49, 55, 49, 56, 49, 57, 50, 48, 50, 49, 50, 50, 50, 51, 50, 52, 50, 53, 50, 54, 50, 55, 50, 56, 50, 57, 51, 48, 51, 49, 51, 50, 51, 51, 51, 52, 51, 53, 51, 54, 51, 55, 51, 56, 51, 57, 52, 48, 52, 49, 52, 50, 52, 51, 52, 52, 52, 53, 52, 54, 52, 55, 52, 56, 52, 57, 53, 48, 53, 49, 53, 50, 53, 51, 53, 52, 53, 53, 53, 54, 53, 55, 53, 56, 53, 57, 54, 48, 54, 49, 54, 50, 54, 51, 54, 52, 54, 53, 54, 54, 54, 55, 54, 56, 54, 57, 55, 48, 55, 49, 55, 50, 55, 51, 55, 52, 55, 53, 55, 54, 55, 55, 55, 56, 55, 57, 56, 48, 56, 49, 56, 50, 56, 51, 56, 52, 56, 53, 56, 54, 56, 55, 56, 56, 56, 57, 57, 48, 57, 49, 57, 50, 57, 51, 57, 52, 57, 53, 57, 54, 57, 55, 57, 56, 57, 57]⟩)) (.t 132)) none [] (.st (some 134) (.ia 1 (.t 123) (.t 125)) none [] (.st none (.st 1 (.t 134) (.t 131)) none [] (.st (some 135) (.ia 1 (.t 126) (.t 128)) none [] (.st none (.st 1 (.t 135) (.t 133)) none [] .fin)))))))))))))))) (.plan (.st (some 136) (.mv (.t 4)) none [] (.st (some 137) (.bin .sub (.t 136) (.c (.int .i64 4))) none [] (.st (some 4) (.mv (.t 137)) none [] .fin))))))))) .skip)) (.seq (.seq (.plan (.st (some 138) (.mv (.t 4)) none [] (.st (some 139) (.bin .geq (.t 138) (.c (.int .i64 2))) none [] .fin))) (.cond (.t 139) (.seq (.plan (.st (some 140) (.mv (.t 12)) none [] (.st (some 141) (.bin .rem (.t 140) (.c (.int .u32 100))) none [] (.st (some 142) (.bin .mul (.t 141) (.c (.int .u32 2))) none [] (.st (some 16) (.mv (.t 142)) none [] .fin))))) (.seq (.plan (.st (some 143) (.mv (.t 12)) none [] (.st (some 144) (.bin .quo (.t 143) (.c (.int .u32 100))) none [] (.st (some 12) (.mv (.t 144)) none [] .fin)))) (.seq (.plan (.st (some 145) (.mv (.t 0)) none [] (.st (some 146) (.mv (.t 4)) none [] (.st (some 147) (.bin .sub (.t 146) (.c (.int .i64 1))) none [] (.st (some 148) (.mv (.t 0)) none [] (.st (some 149) (.mv (.t 4)) none [] (.st (some 150) (.bin .sub (.t 149) (.c (.int .i64 2))) none [] (.st (some 151) (.mv (.t 16)) none [] (.st (some 152) (.bin .add (.t 151) (.c (.int .u32 1))) none [] (.st (some 153) (.ix (.c (.str ⟨#[48, 48, 48, 49, 48, 50, 48, 51, 48, 52, 48, 53, 48, 54, 48, 55, 48, 56, 48, 57, 49, 48, 49, 49, 49, 50, 49, 51, 49, 52, 49, 53, 49, 54, 49, 55, 49, 56, 49, 57, 50, 48, 50, 49, 50, 50, 50, 51, 50, 52, 50, 53, 50, 54, 50, 55, 50, 56, 50, 57, 51, 48, 51, 49, 51, 50, 51, 51, 51, 52, 51, 53, 51, 54, 51, 55, 51, 56, 51, 57, 52, 48, 52, 49, 52, 50, 52, 51, 52, 52, 52, 53, 52, 54, 52, 55, 52, 56, 52, 57, 53, 48, 53, 49, 53, 50, 53, 51, 53, 52, 53, 53, 53, 54, 53, 55, 53, 56, 53, 57, 54, 48, 54, 49, 54, 50, 54, 51, 54, 52, 54, 53, 54, 54, 54, 55, 54, 56, 54, 57, 55, 48, 55, 49, 55, 50, 55, 51, 55, 52, 55, 53, 55, 54, 55, 55, 55, 56, 55, 57, 56, 48, 56, 49, 56, 50, 56, 51, 56, 52, 56, 53, 56, 54, 56, 55, 56, 56, 56, 57, 57, 48, 57, 49, 57, 50, 57, 51, 57, 52, 57, 53, 57, 54, 57, 55, 57, 56, 57, 57]⟩)) (.t 152)) none [] (.st (some 154) (.mv (.t 16)) none [] (.st (some 155) (.ix (.c (.str ⟨#[48, 48, 48, 49, 48, 50, 48, 51, 48, 52, 48, 53, 48, 54, 48, 55, 48, 56, 48, 57, 49, 48, 49, 49, 49, 50, 49, 51, 49, 52, 49, 53, 49, 54, 49, 55, 49, 56, 49, 57, 50, 48, 50, 49, 50, 50, 50, 51, 50, 52, 50, 53, 50, 54, 50, 55, 50, 56, 50, 57, 51, 48, 51, 49, 51, 50, 51, 51, 51, 52, 51, 53, 51, 54, 51, 55, 51, 56, 51, 57, 52, 48, 52, 49, 52, 50, 52, 51, 52, 52, 52, 53, 52, 54, 52, 55, 52, 56, 52, 57, 53, 48, 53, 49, 53, 50, 53, 51, 53, 52, 53, 53, 53, 54, 53, 55, 53, 56, 53, 57, 54, 48, 54, 49, 54, 50, 54, 51, 54, 52, 54, 53, 54, 54, 54, 55, 54, 56, 54, 57, 55, 48, 55, 49, 55, 50, 55, 51, 55, 52, 55, 53, 55, 54, 55, 55, 55, 56, 55, 57, 56, 48, 56, 49, 56, 50, 56, 51, 56, 52, 56, 53, 56, 54, 56, 55, 56, 56, 56, 57, 57, 48, 57, 49, 57, 50, 57, 51, 57, 52, 57, 53, 57, 54, 57, 55, 57, 56, 57, 57]⟩)) (.t 154)) none [] (.st (some 156) (.ia 1 (.t 145) (.t 147)) none [] (.st none (.st 1 (.t 156) (.t 153)) none [] (.st (some 157) (.ia 1 (.t 148) (.t 150)) none [] (.st none (.st 1 (.t 157) (.t 155)) none [] .fin)))))))))))))))) (.plan (.st (some 158) (.mv (.t 4)) none [] (.st (some 159) (.bin .sub (.t 158) (.c (.int .i64 2))) none [] (.st (some 4) (.mv (.t 159)) none [] .fin))))))) .skip)) (.seq (.plan (.st (some 160) (.mv (.t 4)) none [] (.st (some 161) (.bin .gtr (.t 160) (.c (.int .i64 0))) none [] .fin))) (.cond (.t 161) (.plan (.st (some 162) (.mv (.t 0)) none [] (.st (some 163) (.mv (.t 12)) none [] (.st (some 164) (.bin .add (.c (.int .u32 48)) (.t 163)) none [] (.st (some 165) (.cv .u8 (.t 164)) none [] (.st (some 166) (.ia 1 (.t 162) (.c (.int .i64 0))) none [] (.st none (.st 1 (.t 166) (.t 165)) none [] .fin))))))) .skip))))))), []⟩
theorem h_internal_strconv_formatBase10 : compF Tryd.prog 100 = some c_internal_strconv_formatBase10 := by kernel_rfl
def c_internal_stringslite_IndexByte : CF := ⟨8, (.seq (.plan (.st (some 4) (.mv (.c (.int .i64 0))) none [] .fin)) (.seq (.plan (.st (some 5) (.mv (.t 0)) none [] (.st (some 6) (.mv (.t 1)) none [] (.st (some 7) (.call 116 [(.t 5), (.t 6)]) none [] (.st (some 4) (.mv (.t 7)) none [] .fin))))) .ret)), [(.t 4)]⟩
theorem h_internal_stringslite_IndexByte : compF Tryd.prog 102 = some c_internal_stringslite_IndexByte := by kernel_rfl
def c_internal_bytealg_Cutover : CF := ⟨6, (.seq (.plan (.st (some 2) (.mv (.c (.int .i64 0))) none [] .fin)) (.seq (.plan (.st (some 3) (.mv (.t 0)) none [] (.st (some 4) (.bin .add (.t 3) (.c (.int .i64 16))) none [] (.st (some 5) (.bin .quo (.t 4) (.c (.int .i64 8))) none [] (.st (some 2) (.mv (.t 5)) none [] .fin))))) .ret)), [(.t 2)]⟩
theorem h_internal_bytealg_Cutover : compF Tryd.prog 104 = some c_internal_bytealg_Cutover := by kernel_rfl
def c_internal_bytealg_hashStr_string : CF := ⟨39, (.seq (.plan (.st (some 2) (.mv (.c (.int .u32 0))) none [] (.st (some 3) (.mv (.c (.int .u32 0))) none [] .fin))) (.seq (.plan (.st (some 4) (.mv (.c (.int .u32 0))) none [] .fin)) (.seq (.seq (.plan (.st (some 5) (.mv (.c (.int .i64 0))) none [] .fin)) (.block 0 (.loop (.seq (.seq (.plan (.st (some 9) (.mv (.t 5)) none [] (.st (some 10) (.mv (.t 0)) none [] (.st (some 11) (.lns (.t 10)) none [] (.st (some 12) (.bin .lss (.t 9) (.t 11)) none [] .fin))))) (.cond (.t 12) .skip (.exit 0))) (.seq (.block 1 (.plan (.st (some 15) (.mv (.t 4)) none [] (.st (some 16) (.bin .mul (.t 15) (.c (.int .u32 16777619))) none [] (.st (some 17) (.mv (.t 0)) none [] (.st (some 18) (.mv (.t 5)) none [] (.st (some 19) (.ix (.t 17) (.t 18)) none [] (.st (some 20) (.cv .u32 (.t 19)) none [] (.st (some 21) (.bin .add (.t 16) (.t 20)) none [] (.st (some 4) (.mv (.t 21)) none [] .fin)))))))))) (.plan (.st (some 13) (.mv (.t 5)) none [] (.st (some 14) (.bin .add (.t 13) (.c (.int .i64 1))) none [] (.st (some 5) (.mv (.t 14)) none [] .fin))))))))) (.seq (.plan (.st (some 6) (.mv (.c (.int .u32 1))) none [] (.st (some 7) (.mv (.c (.int .u32 16777619))) none [] .fin))) (.seq (.seq (.plan (.st (some 22) (.mv (.t 0)) none [] (.st (some 23) (.lns (.t 22)) none [] (.st (some 8) (.mv (.t 23)) none [] .fin)))) (.block 2 (.loop (.seq (.seq (.plan (.st (some 24) (.mv (.t 8)) none [] (.st (some 25) (.bin .gtr (.t 24) (.c (.int .i64 0))) none [] .fin))) (.cond (.t 25) .skip (.exit 2))) (.seq (.block 3 (.seq (.seq (.plan (.st (some 28) (.mv (.t 8)) none [] (.st (some 29) (.bin .and (.t 28) (.c (.int .i64 1))) none [] (.st (some 30) (.bin .neq (.t 29) (.c (.int .i64 0))) none [] .fin)))) (.cond (.t 30) (.plan (.st (some 31) (.mv (.t 6)) none [] (.st (some 32) (.mv (.t 7)) none [] (.st (some 33) (.bin .mul (.t 31) (.t 32)) none [] (.st (some 6) (.mv (.t 33)) none [] .fin))))) .skip)) (.plan (.st (some 34) (.mv (.t 7)) none [] (.st (some 35) (.mv (.t 7)) none [] (.st (some 36) (.bin .mul (.t 34) (.t 35)) none [] (.st (some 7) (.mv (.t 36)) none [] .fin))))))) (.plan (.st (some 26) (.mv (.t 8)) none [] (.st (some 27) (.bin .shr (.t 26) (.c (.int .u64 1))) none [] (.st (some 8) (.mv (.t 27)) none [] .fin))))))))) (.seq (.plan (.st (some 37) (.mv (.t 4)) none [] (.st (some 38) (.mv (.t 6)) none [] (.st (some 2) (.mv (.t 37)) none [] (.st (some 3) (.mv (.t 38)) none [] .fin))))) .ret)))))), [(.t 2), (.t 3)]⟩
theorem h_internal_bytealg_hashStr_string : compF Tryd.prog 117 = some c_internal_bytealg_hashStr_string := by kernel_rfl
def c_internal_bytealg_IndexRabinKarp_string : CF := ⟨81, (.seq (.plan (.st (some 4) (.mv (.c (.int .i64 0))) none [] .fin)) (.seq (.plan (.st (some 12) (.mv (.t 1)) none [] (.st (some 13) (.call 117 [(.t 12)]) none [] (.st (some 11) (.mv (.t 13)) none [] (.st (some 14) (.ext 0 (.t 11)) none [] (.st (some 15) (.ext 1 (.t 11)) none [] (.st (some 5) (.mv (.t 14)) none [] (.st (some 6) (.mv (.t 15)) none [] .fin)))))))) (.seq (.plan (.st (some 16) (.mv (.t 1)) none [] (.st (some 17) (.lns (.t 16)) none [] (.st (some 7) (.mv (.t 17)) none [] .fin)))) (.seq (.plan (.st (some 8) (.mv (.c (.int .u32 0))) none [] .fin)) (.seq (.seq (.plan (.st (some 9) (.mv (.c (.int .i64 0))) none [] .fin)) (.block 0 (.loop (.seq (.seq (.plan (.st (some 18) (.mv (.t 9)) none [] (.st (some 19) (.mv (.t 7)) none [] (.st (some 20) (.bin .lss (.t 18) (.t 19)) none [] .fin)))) (.cond (.t 20) .skip (.exit 0))) (.seq (.block 1 (.plan (.st (some 23) (.mv (.t 8)) none [] (.st (some 24) (.bin .mul (.t 23) (.c (.int .u32 16777619))) none [] (.st (some 25) (.mv (.t 0)) none [] (.st (some 26) (.mv (.t 9)) none [] (.st (some 27) (.ix (.t 25) (.t 26)) none [] (.st (some 28) (.cv .u32 (.t 27)) none [] (.st (some 29) (.bin .add (.t 24) (.t 28)) none [] (.st (some 8) (.mv (.t 29)) none [] .fin)))))))))) (.plan (.st (some 21) (.mv (.t 9)) none [] (.st (some 22) (.bin .add (.t 21) (.c (.int .i64 1))) none [] (.st (some 9) (.mv (.t 22)) none [] .fin))))))))) (.seq (.seq (.plan (.st (some 30) (.mv (.t 8)) none [] (.st (some 31) (.mv (.t 5)) none [] (.st (some 32) (.bin .eql (.t 30) (.t 31)) none [] (.st (some 33) (.mv (.t 32)) none [] (.st (some 34) (.mv (.t 0)) (some (33, true)) [] (.st (some 35) (.mv (.t 7)) (some (33, true)) [] (.st (some 36) (.cuts (.t 34) none (some (.t 35))) (some (33, true)) [] (.st (some 37) (.mv (.t 1)) (some (33, true)) [] (.st (some 38) (.bin .eql (.t 36) (.t 37)) (some (33, true)) [] (.st (some 39) (.pick (.t 33) (.t 38) (.c (.bool false))) none [] .fin))))))))))) (.cond (.t 39) (.seq (.plan (.st (some 4) (.mv (.c (.int .i64 0))) none [] .fin)) .ret) .skip)) (.seq (.seq (.plan (.st (some 40) (.mv (.t 7)) none [] (.st (some 10) (.mv (.t 40)) none [] .fin))) (.block 2 (.loop (.seq (.seq (.plan (.st (some 41) (.mv (.t 10)) none [] (.st (some 42) (.mv (.t 0)) none [] (.st (some 43) (.lns (.t 42)) none [] (.st (some 44) (.bin .lss (.t 41) (.t 43)) none [] .fin))))) (.cond (.t 44) .skip (.exit 2))) (.block 3 (.seq (.plan (.st (some 45) (.mv (.t 8)) none [] (.st (some 46) (.bin .mul (.t 45) (.c (.int .u32 16777619))) none [] (.st (some 8) (.mv (.t 46)) none [] .fin)))) (.seq (.plan (.st (some 47) (.mv (.t 8)) none [] (.st (some 48) (.mv (.t 0)) none [] (.st (some 49) (.mv (.t 10)) none [] (.st (some 50) (.ix (.t 48) (.t 49)) none [] (.st (some 51) (.cv .u32 (.t 50)) none [] (.st (some 52) (.bin .add (.t 47) (.t 51)) none [] (.st (some 8) (.mv (.t 52)) none [] .fin)))))))) (.seq (.plan (.st (some 53) (.mv (.t 8)) none [] (.st (some 54) (.mv (.t 6)) none [] (.st (some 55) (.mv (.t 0)) none [] (.st (some 56) (.mv (.t 10)) none [] (.st (some 57) (.mv (.t 7)) none [] (.st (some 58) (.bin .sub (.t 56) (.t 57)) none [] (.st (some 59) (.ix (.t 55) (.t 58)) none [] (.st (some 60) (.cv .u32 (.t 59)) none [] (.st (some 61) (.bin .mul (.t 54) (.t 60)) none [] (.st (some 62) (.bin .sub (.t 53) (.t 61)) none [] (.st (some 8) (.mv (.t 62)) none [] .fin)))))))))))) (.seq (.plan (.st (some 63) (.mv (.t 10)) none [] (.st (some 64) (.bin .add (.t 63) (.c (.int .i64 1))) none [] (.st (some 10) (.mv (.t 64)) none [] .fin)))) (.seq (.plan (.st (some 65) (.mv (.t 8)) none [] (.st (some 66) (.mv (.t 5)) none [] (.st (some 67) (.bin .eql (.t 65) (.t 66)) none [] (.st (some 68) (.mv (.t 67)) none [] (.st (some 69) (.mv (.t 0)) (some (68, true)) [] (.st (some 70) (.mv (.t 10)) (some (68, true)) [] (.st (some 71) (.mv (.t 7)) (some (68, true)) [] (.st (some 72) (.bin .sub (.t 70) (.t 71)) (some (68, true)) [] (.st (some 73) (.mv (.t 10)) (some (68, true)) [] (.st (some 74) (.cuts (.t 69) (some (.t 72)) (some (.t 73))) (some (68, true)) [] (.st (some 75) (.mv (.t 1)) (some (68, true)) [] (.st (some 76) (.bin .eql (.t 74) (.t 75)) (some (68, true)) [] (.st (some 77) (.pick (.t 68) (.t 76) (.c (.bool false))) none [] .fin)))))))))))))) (.cond (.t 77) (.seq (.plan (.st (some 78) (.mv (.t 10)) none [] (.st (some 79) (.mv (.t 7)) none [] (.st (some 80) (.bin .sub (.t 78) (.t 79)) none [] (.st (some 4) (.mv (.t 80)) none [] .fin))))) .ret) .skip))))))))))) (.seq (.plan (.st (some 4) (.mv (.c (.int .i64 (-1)))) none [] .fin)) .ret)))))))), [(.t 4)]⟩
theorem h_internal_bytealg_IndexRabinKarp_string : compF Tryd.prog 105 = some c_internal_bytealg_IndexRabinKarp_string := by kernel_rfl
def c_internal_strconv_log10Pow2 : CF := ⟨6, (.seq (.plan (.st (some 2) (.mv (.c (.int .i64 0))) none [] .fin)) (.seq (.plan (.st (some 3) (.mv (.t 0)) none [] (.st (some 4) (.bin .mul (.t 3) (.c (.int .i64 78913))) none [] (.st (some 5) (.bin .shr (.t 4) (.c (.int .u64 18))) none [] (.st (some 2) (.mv (.t 5)) none [] .fin))))) .ret)), [(.t 2)]⟩
theorem h_internal_strconv_log10Pow2 : compF Tryd.prog 111 = some c_internal_strconv_log10Pow2 := by kernel_rfl
def c_math_bits_Len64 : CF := ⟨25, (.seq (.plan (.st (some 2) (.mv (.c (.int .i64 0))) none [] .fin)) (.seq (.seq (.plan (.st (some 3) (.mv (.t 0)) none [] (.st (some 4) (.bin .geq (.t 3) (.c (.int .u64 4294967296))) none [] .fin))) (.cond (.t 4) (.seq (.plan (.st (some 5) (.mv (.t 0)) none [] (.st (some 6) (.bin .shr (.t 5) (.c (.int .u64 32))) none [] (.st (some 0) (.mv (.t 6)) none [] .fin)))) (.plan (.st (some 2) (.mv (.c (.int .i64 32))) none [] .fin))) .skip)) (.seq (.seq (.plan (.st (some 7) (.mv (.t 0)) none [] (.st (some 8) (.bin .geq (.t 7) (.c (.int .u64 65536))) none [] .fin))) (.cond (.t 8) (.seq (.plan (.st (some 9) (.mv (.t 0)) none [] (.st (some 10) (.bin .shr (.t 9) (.c (.int .u64 16))) none [] (.st (some 0) (.mv (.t 10)) none [] .fin)))) (.plan (.st (some 11) (.mv (.t 2)) none [] (.st (some 12) (.bin .add (.t 11) (.c (.int .i64 16))) none [] (.st (some 2) (.mv (.t 12)) none [] .fin))))) .skip)) (.seq (.seq (.plan (.st (some 13) (.mv (.t 0)) none [] (.st (some 14) (.bin .geq (.t 13) (.c (.int .u64 256))) none [] .fin))) (.cond (.t 14) (.seq (.plan (.st (some 15) (.mv (.t 0)) none [] (.st (some 16) (.bin .shr (.t 15) (.c (.int .u64 8))) none [] (.st (some 0) (.mv (.t 16)) none [] .fin)))) (.plan (.st (some 17) (.mv (.t 2)) none [] (.st (some 18) (.bin .add (.t 17) (.c (.int .i64 8))) none [] (.st (some 2) (.mv (.t 18)) none [] .fin))))) .skip)) (.seq (.plan (.st (some 19) (.mv (.t 2)) none [] (.st (some 20) (.mv (.t 0)) none [] (.st (some 21) (.cv .u8 (.t 20)) none [] (.st (some 22) (.ix (.c (.str ⟨#[0, 1, 2, 2, 3, 3, 3, 3, 4, 4, 4, 4, 4, 4, 4, 4, 5, 5, 5, 5, 5, 5, 5, 5, 5, 5, 5, 5, 5, 5, 5, 5, 6, 6, 6, 6, 6, 6, 6, 6, 6, 6, 6, 6, 6, 6, 6, 6, 6, 6, 6, 6, 6, 6, 6, 6, 6, 6, 6, 6, 6, 6, 6, 6, 7, 7, 7, 7, 7, 7, 7, 7, 7, 7, 7, 7, 7, 7, 7, 7, 7, 7, 7, 7, 7, 7, 7, 7, 7, 7, 7, 7, 7, 7, 7, 7, 7, 7, 7, 7, 7, 7, 7, 7, 7, 7, 7, 7, 7, 7, 7, 7, 7, 7, 7, 7, 7, 7, 7, 7, 7, 7, 7, 7, 7, 7, 7, 7, 8, 8, 8, 8, 8, 8, 8, 8, 8, 8, 8, 8, 8, 8, 8, 8, 8, 8, 8, 8, 8, 8, 8, 8, 8, 8, 8, 8, 8, 8, 8, 8, 8, 8, 8, 8, 8, 8, 8, 8, 8, 8, 8, 8, 8, 8, 8, 8, 8, 8, 8, 8, 8, 8, 8, 8, 8, 8, 8, 8, 8, 8, 8, 8, 8, 8, 8, 8, 8, 8, 8, 8, 8, 8, 8, 8, 8, 8, 8, 8, 8, 8, 8, 8, 8, 8, 8, 8, 8, 8, 8, 8, 8, 8, 8, 8, 8, 8, 8, 8, 8, 8, 8, 8, 8, 8, 8, 8, 8, 8, 8, 8, 8, 8, 8, 8, 8, 8, 8, 8, 8, 8, 8, 8, 8, 8, 8, 8]⟩)) (.t 21)) none [] (.st (some 23) (.cv .i64 (.t 22)) none [] (.st (some 24) (.bin .add (.t 19) (.t 23)) none [] (.st (some 2) (.mv (.t 24)) none [] .fin)))))))) .ret))))), [(.t 2)]⟩
theorem h_math_bits_Len64 : compF Tryd.prog 112 = some c_math_bits_Len64 := by kernel_rfl
def c_internal_strconv_bool2_int : CF := ⟨4, (.seq (.plan (.st (some 2) (.mv (.c (.int .i64 0))) none [] .fin)) (.seq (.seq (.plan (.st (some 3) (.mv (.t 0)) none [] .fin)) (.cond (.t 3) (.seq (.plan (.st (some 2) (.mv (.c (.int .i64 1))) none [] .fin)) .ret) .skip)) (.seq (.plan (.st (some 2) (.mv (.c (.int .i64 0))) none [] .fin)) .ret))), [(.t 2)]⟩
theorem h_internal_strconv_bool2_int : compF Tryd.prog 113 = some c_internal_strconv_bool2_int := by kernel_rfl
def c_internal_strconv_isPowerOfTwo : CF := ⟨8, (.seq (.plan (.st (some 2) (.mv (.c (.bool false))) none [] .fin)) (.seq (.plan (.st (some 3) (.mv (.t 0)) none [] (.st (some 4) (.mv (.t 0)) none [] (.st (some 5) (.bin .sub (.t 4) (.c (.int .i64 1))) none [] (.st (some 6) (.bin .and (.t 3) (.t 5)) none [] (.st (some 7) (.bin .eql (.t 6) (.c (.int .i64 0))) none [] (.st (some 2) (.mv (.t 7)) none [] .fin))))))) .ret)), [(.t 2)]⟩
theorem h_internal_strconv_isPowerOfTwo : compF Tryd.prog 114 = some c_internal_strconv_isPowerOfTwo := by kernel_rfl
def c_math_bits_TrailingZeros : CF := ⟨8, (.seq (.plan (.st (some 2) (.mv (.c (.int .i64 0))) none [] .fin)) (.seq (.cond (.c (.bool false)) (.seq (.plan (.st (some 3) (.mv (.t 0)) none [] (.st (some 4) (.cv .u32 (.t 3)) none [] (.st (some 5) (.call 120 [(.t 4)]) none [] (.st (some 2) (.mv (.t 5)) none [] .fin))))) .ret) .skip) (.seq (.plan (.st (some 6) (.mv (.t 0)) none [] (.st (some 7) (.call 121 [(.t 6)]) none [] (.st (some 2) (.mv (.t 7)) none [] .fin)))) .ret))), [(.t 2)]⟩
theorem h_math_bits_TrailingZeros : compF Tryd.prog 115 = some c_math_bits_TrailingZeros := by kernel_rfl
def c_internal_strconv_lower : CF := ⟨5, (.seq (.plan (.st (some 2) (.mv (.c (.int .u8 0))) none [] .fin)) (.seq (.plan (.st (some 3) (.mv (.t 0)) none [] (.st (some 4) (.bin .or (.t 3) (.c (.int .u8 32))) none [] (.st (some 2) (.mv (.t 4)) none [] .fin)))) .ret)), [(.t 2)]⟩
theorem h_internal_strconv_lower : compF Tryd.prog 118 = some c_internal_strconv_lower := by kernel_rfl
def c_internal_strconv_underscoreOK : CF := ⟨94, (.seq (.plan (.st (some 2) (.mv (.c (.bool false))) none [] .fin)) (.seq (.plan (.st (some 3) (.mv (.c (.int .i32 94))) none [] .fin)) (.seq (.plan (.st (some 4) (.mv (.c (.int .i64 0))) none [] .fin)) (.seq (.seq (.plan (.st (some 6) (.mv (.t 0)) none [] (.st (some 7) (.lns (.t 6)) none [] (.st (some 8) (.bin .geq (.t 7) (.c (.int .i64 1))) none [] (.st (some 9) (.mv (.t 8)) none [] (.st (some 10) (.mv (.t 0)) (some (9, true)) [] (.st (some 11) (.ix (.t 10) (.c (.int .i64 0))) (some (9, true)) [] (.st (some 12) (.bin .eql (.t 11) (.c (.int .u8 45))) (some (9, true)) [] (.st (some 13) (.mv (.t 12)) (some (9, true)) [] (.st (some 14) (.mv (.t 0)) (some (13, false)) [] (.st (some 15) (.ix (.t 14) (.c (.int .i64 0))) (some (13, false)) [] (.st (some 16) (.bin .eql (.t 15) (.c (.int .u8 43))) (some (13, false)) [] (.st (some 17) (.pick (.t 13) (.c (.bool true)) (.t 16)) (some (9, true)) [] (.st (some 18) (.pick (.t 9) (.t 17) (.c (.bool false))) none [] .fin)))))))))))))) (.cond (.t 18) (.plan (.st (some 19) (.mv (.t 0)) none [] (.st (some 20) (.cuts (.t 19) (some (.c (.int .i64 1))) none) none [] (.st (some 0) (.mv (.t 20)) none [] .fin)))) .skip)) (.seq (.plan (.st (some 5) (.mv (.c (.bool false))) none [] .fin)) (.seq (.seq (.plan (.st (some 21) (.mv (.t 0)) none [] (.st (some 22) (.lns (.t 21)) none [] (.st (some 23) (.bin .geq (.t 22) (.c (.int .i64 2))) none [] (.st (some 24) (.mv (.t 23)) none [] (.st (some 25) (.mv (.t 0)) (some (24, true)) [] (.st (some 26) (.ix (.t 25) (.c (.int .i64 0))) (some (24, true)) [] (.st (some 27) (.bin .eql (.t 26) (.c (.int .u8 48))) (some (24, true)) [] (.st (some 28) (.pick (.t 24) (.t 27) (.c (.bool false))) none [] (.st (some 29) (.mv (.t 28)) none [] (.st (some 30) (.mv (.t 0)) (some (29, true)) [] (.st (some 31) (.ix (.t 30) (.c (.int .i64 1))) (some (29, true)) [] (.st (some 32) (.call 118 [(.t 31)]) (some (29, true)) [] (.st (some 33) (.bin .eql (.t 32) (.c (.int .u8 98))) (some (29, true)) [] (.st (some 34) (.mv (.t 33)) (some (29, true)) [] (.st (some 35) (.mv (.t 0)) (some (34, false)) [] (.st (some 36) (.ix (.t 35) (.c (.int .i64 1))) (some (34, false)) [] (.st (some 37) (.call 118 [(.t 36)]) (some (34, false)) [] (.st (some 38) (.bin .eql (.t 37) (.c (.int .u8 111))) (some (34, false)) [] (.st (some 39) (.pick (.t 34) (.c (.bool true)) (.t 38)) (some (29, true)) [] (.st (some 40) (.mv (.t 39)) (some (29, true)) [] (.st (some 41) (.mv (.t 0)) (some (40, false)) [] (.st (some 42) (.ix (.t 41) (.c (.int .i64 1))) (some (40, false)) [] (.st (some 43) (.call 118 [(.t 42)]) (some (40, false)) [] (.st (some 44) (.bin .eql (.t 43) (.c (.int .u8 120))) (some (40, false)) [] (.st (some 45) (.pick (.t 40) (.c (.bool true)) (.t 44)) (some (29, true)) [] (.st (some 46) (.pick (.t 29) (.t 45) (.c (.bool false))) none [] .fin))))))))))))))))))))))))))) (.cond (.t 46) (.seq (.plan (.st (some 4) (.mv (.c (.int .i64 2))) none [] .fin)) (.seq (.plan (.st (some 3) (.mv (.c (.int .i32 48))) none [] .fin)) (.plan (.st (some 47) (.mv (.t 0)) none [] (.st (some 48) (.ix (.t 47) (.c (.int .i64 1))) none [] (.st (some 49) (.call 118 [(.t 48)]) none [] (.st (some 50) (.bin .eql (.t 49) (.c (.int .u8 120))) none [] (.st (some 5) (.mv (.t 50)) none [] .fin)))))))) .skip)) (.seq (.block 0 (.loop (.seq (.seq (.plan (.st (some 51) (.mv (.t 4)) none [] (.st (some 52) (.mv (.t 0)) none [] (.st (some 53) (.lns (.t 52)) none [] (.st (some 54) (.bin .lss (.t 51) (.t 53)) none [] .fin))))) (.cond (.t 54) .skip (.exit 0))) (.seq (.block 1 (.seq (.seq (.plan (.st (some 57) (.mv (.t 0)) none [] (.st (some 58) (.mv (.t 4)) none [] (.st (some 59) (.ix (.t 57) (.t 58)) none [] (.st (some 60) (.bin .leq (.c (.int .u8 48)) (.t 59)) none [] (.st (some 61) (.mv (.t 60)) none [] (.st (some 62) (.mv (.t 0)) (some (61, true)) [] (.st (some 63) (.mv (.t 4)) (some (61, true)) [] (.st (some 64) (.ix (.t 62) (.t 63)) (some (61, true)) [] (.st (some 65) (.bin .leq (.t 64) (.c (.int .u8 57))) (some (61, true)) [] (.st (some 66) (.pick (.t 61) (.t 65) (.c (.bool false))) none [] (.st (some 67) (.mv (.t 66)) none [] (.st (some 68) (.mv (.t 5)) (some (67, false)) [] (.st (some 69) (.mv (.t 68)) (some (67, false)) [] (.st (some 70) (.mv (.t 0)) (some (69, true)) [] (.st (some 71) (.mv (.t 4)) (some (69, true)) [] (.st (some 72) (.ix (.t 70) (.t 71)) (some (69, true)) [] (.st (some 73) (.call 118 [(.t 72)]) (some (69, true)) [] (.st (some 74) (.bin .leq (.c (.int .u8 97)) (.t 73)) (some (69, true)) [] (.st (some 75) (.pick (.t 69) (.t 74) (.c (.bool false))) (some (67, false)) [] (.st (some 76) (.mv (.t 75)) (some (67, false)) [] (.st (some 77) (.mv (.t 0)) (some (76, true)) [] (.st (some 78) (.mv (.t 4)) (some (76, true)) [] (.st (some 79) (.ix (.t 77) (.t 78)) (some (76, true)) [] (.st (some 80) (.call 118 [(.t 79)]) (some (76, true)) [] (.st (some 81) (.bin .leq (.t 80) (.c (.int .u8 102))) (some (76, true)) [] (.st (some 82) (.pick (.t 76) (.t 81) (.c (.bool false))) (some (67, false)) [] (.st (some 83) (.pick (.t 67) (.c (.bool true)) (.t 82)) none [] .fin)))))))))))))))))))))))))))) (.cond (.t 83) (.seq (.plan (.st (some 3) (.mv (.c (.int .i32 48))) none [] .fin)) (.exit 1)) .skip)) (.seq (.seq (.plan (.st (some 84) (.mv (.t 0)) none [] (.st (some 85) (.mv (.t 4)) none [] (.st (some 86) (.ix (.t 84) (.t 85)) none [] (.st (some 87) (.bin .eql (.t 86) (.c (.int .u8 95))) none [] .fin))))) (.cond (.t 87) (.seq (.seq (.plan (.st (some 88) (.mv (.t 3)) none [] (.st (some 89) (.bin .neq (.t 88) (.c (.int .i32 48))) none [] .fin))) (.cond (.t 89) (.seq (.plan (.st (some 2) (.mv (.c (.bool false))) none [] .fin)) .ret) .skip)) (.seq (.plan (.st (some 3) (.mv (.c (.int .i32 95))) none [] .fin)) (.exit 1))) .skip)) (.seq (.seq (.plan (.st (some 90) (.mv (.t 3)) none [] (.st (some 91) (.bin .eql (.t 90) (.c (.int .i32 95))) none [] .fin))) (.cond (.t 91) (.seq (.plan (.st (some 2) (.mv (.c (.bool false))) none [] .fin)) .ret) .skip)) (.plan (.st (some 3) (.mv (.c (.int .i32 33))) none [] .fin)))))) (.plan (.st (some 55) (.mv (.t 4)) none [] (.st (some 56) (.bin .add (.t 55) (.c (.int .i64 1))) none [] (.st (some 4) (.mv (.t 56)) none [] .fin)))))))) (.seq (.plan (.st (some 92) (.mv (.t 3)) none [] (.st (some 93) (.bin .neq (.t 92) (.c (.int .i32 95))) none [] (.st (some 2) (.mv (.t 93)) none [] .fin)))) .ret)))))))), [(.t 2)]⟩
theorem h_internal_strconv_underscoreOK : compF Tryd.prog 119 = some c_internal_strconv_underscoreOK := by kernel_rfl
end Go.Proofs.YtiecldkihdebiaaDoor.B



namespace Go.Proofs.YtiecldkihdebiaaDoor.B
open Go.RowKit Go.Proofs
set_option linter.unusedVariables false
set_option linter.unusedSimpArgs false
variable {E : Env}

/-- A function whose result holds no memory. -/
theorem AC_byp {C : CallP} (hC : CLe C (AC Tryd.prog E)) {f : Nat} {cf : CF} (hc : compF Tryd.prog f = some cf) {args : List AV} {H : Hp} {r : AV} (hp : r.plain = true) (h : W C cf.body (endX cf.res (fun v H' => v = r ∧ HLe H H')) (initT args) H) :
    AC Tryd.prog E f args H (fun v H' => v = r ∧ H' = H) := by
  refine AC.gc ((AC_by fol hC hc h).mono (fun v H' e => ⟨e.2, by rw [e.1]; exact hp, e.1, rfl⟩))
theorem CLe.refl (C : CallP) : CLe C C := fun _ _ _ _ h => h
theorem wrapN {i : Nat} (h : i < 9223372036854775807) : IntKind.i64.wrap ((i : Int) + 1) = ((i + 1 : Nat) : Int) := wrap64 (by omega) (by omega)

/-- Calls read off a table, else by what is known of them. -/
def tC (T : Nat → List AV → Option AV) (C : CallP) : CallP := fun f args H K => match T f args with | some r => K r H | none => C f args H K
def TabOK (T : Nat → List AV → Option AV) (P : Program) (E : Env) : Prop := ∀ f args r H, T f args = some r → AC P E f args H (fun v H' => v = r ∧ H' = H)
theorem tC_le {T : Nat → List AV → Option AV} {P : Program} (h : TabOK T P E) : CLe (tC T (AC P E)) (AC P E) := fun f args H K hk => by
  unfold tC at hk
  split at hk
  · rename_i r e
    exact (h f args r H e).mono (fun v H' hh => by rw [hh.1, hh.2]; exact hk)
  · exact hk
theorem tC_mono {T : Nat → List AV → Option AV} {C : CallP} (h : CMono C) : CMono (tC T C) := fun f args H K K' hk hh => by
  unfold tC at hh ⊢
  split at hh
  · exact hk _ _ hh
  · exact h f args H K K' hk hh

theorem cg_use {T : Nat → List AV → Option AV} {P : Program} {f : Nat} {args : List AV} {H H2 : Hp} {r : AV} {d : Option Nat} {ag} {p : Plan} {t : Tm} {K : Tm → Hp → Prop} (h : AC P E f args H (fun v H' => v = r ∧ H' = H2))
    (hk : againG ag (updO t d r) H2 ∧ RgP (tC T (AC P E)) p (updO t d r) H2 K) (hT : T f args = none := by rfl) : callG (tC T (AC P E)) f args d ag p t H K := by
  unfold callG tC
  rw [hT]
  exact h.mono (fun v H' e => by rw [e.1, e.2]; exact hk)
theorem cg_ex {T : Nat → List AV → Option AV} {P : Program} {f : Nat} {args : List AV} {H : Hp} {R : AV → Hp → Prop} {d : Option Nat} {ag} {p : Plan} {t : Tm} {K : Tm → Hp → Prop} (h : AC P E f args H R)
    (hk : ∀ v H', R v H' → againG ag (updO t d v) H' ∧ RgP (tC T (AC P E)) p (updO t d v) H' K) (hT : T f args = none := by rfl) : callG (tC T (AC P E)) f args d ag p t H K := by
  unfold callG tC
  rw [hT]
  exact h.mono hk

theorem callG_tab {T : Nat → List AV → Option AV} {C : CallP} {f : Nat} {args : List AV} {r : AV} (h : T f args = some r) {d : Option Nat} {ag} {p : Plan} {t : Tm} {H : Hp} {K : Tm → Hp → Prop} :
    callG (tC T C) f args d ag p t H K = (againG ag (updO t d r) H ∧ RgP (tC T C) p (updO t d r) H K) := by
  show (match T f args with | some r => againG ag (updO t d r) H ∧ RgP (tC T C) p (updO t d r) H K | none => _) = _
  rw [h]

theorem AC_use {f : Nat} {args : List AV} {H H2 : Hp} {r : AV} {K : AV → Hp → Prop} (h : AC Tryd.prog E f args H (fun v H' => v = r ∧ H' = H2)) (hk : K r H2) : AC Tryd.prog E f args H K := h.mono (fun v H' e => by rw [e.1, e.2]; exact hk)
theorem callG_use {P : Program} {f : Nat} {args : List AV} {H H2 : Hp} {r : AV} {d : Option Nat} {ag} {p : Plan} {t : Tm} {K : Tm → Hp → Prop} (h : AC P E f args H (fun v H' => v = r ∧ H' = H2))
    (hk : againG ag (updO t d r) H2 ∧ RgP (AC P E) p (updO t d r) H2 K) : callG (AC P E) f args d ag p t H K := h.mono (fun v H' e => by rw [e.1, e.2]; exact hk)
theorem callG_ex {P : Program} {f : Nat} {args : List AV} {H : Hp} {R : AV → Hp → Prop} {d : Option Nat} {ag} {p : Plan} {t : Tm} {K : Tm → Hp → Prop} (h : AC P E f args H R)
    (hk : ∀ v H', R v H' → againG ag (updO t d v) H' ∧ RgP (AC P E) p (updO t d v) H' K) : callG (AC P E) f args d ag p t H K := h.mono hk

end Go.Proofs.YtiecldkihdebiaaDoor.B

namespace Go.Proofs
open Go.Shelf
def Tryd.laysItoa_ren : Go.Shelf.Ren := ⟨fun | 171 => 46 | 243 => 67 | 246 => 85 | 283 => 98 | 284 => 99 | 285 => 100 | 286 => 101 | 129 => 112 | 317 => 111 | 318 => 113 | 319 => 114 | 320 => 115 | 337 => 120 | 338 => 121 | n => n, fun | 3 => 3 | 9 => 9 | 2 => 2 | 4 => 4 | 171 => 100 | 0 => 0 | 53 => 101 | 37 => 28 | 5 => 5 | 173 => 104 | 212 => 115 | 51 => 116 | 20 => 20 | 213 => 117 | 46 => 106 | 232 => 130 | 233 => 131 | n => n, fun | 17 => 3 | 18 => 6 | 19 => 7 | n => n⟩
theorem Tryd.laysItoa : Go.Proofs.LaysM.n171 Tryd.prog Tryd.laysItoa_ren := {
  mixed := by kernel_rfl
  f129 := Tryd.func112.trans (congrArg some (by kernel_rfl))
  f171 := Tryd.func46.trans (congrArg some (by kernel_rfl))
  f243 := Tryd.func67.trans (congrArg some (by kernel_rfl))
  f246 := Tryd.func85.trans (congrArg some (by kernel_rfl))
  f283 := Tryd.func98.trans (congrArg some (by kernel_rfl))
  f284 := Tryd.func99.trans (congrArg some (by kernel_rfl))
  f285 := Tryd.func100.trans (congrArg some (by kernel_rfl))
  f286 := Tryd.func101.trans (congrArg some (by kernel_rfl))
  f317 := Tryd.func111.trans (congrArg some (by kernel_rfl))
  f318 := Tryd.func113.trans (congrArg some (by kernel_rfl))
  f319 := Tryd.func114.trans (congrArg some (by kernel_rfl))
  f320 := Tryd.func115.trans (congrArg some (by kernel_rfl))
  f337 := Tryd.func120.trans (congrArg some (by kernel_rfl))
  f338 := Tryd.func121.trans (congrArg some (by kernel_rfl))
  t0 := Tryd.underlying0
  a0 := Tryd.isAgg0
  z0 := Tryd.sizeOf0
  v0 := Tryd.zeroValue0
  t2 := Tryd.underlying2
  a2 := Tryd.isAgg2
  z2 := Tryd.sizeOf2
  v2 := Tryd.zeroValue2
  t3 := Tryd.underlying3
  a3 := Tryd.isAgg3
  z3 := Tryd.sizeOf3
  v3 := Tryd.zeroValue3
  t4 := Tryd.underlying4
  a4 := Tryd.isAgg4
  z4 := Tryd.sizeOf4
  v4 := Tryd.zeroValue4
  t5 := Tryd.underlying5
  a5 := Tryd.isAgg5
  z5 := Tryd.sizeOf5
  v5 := Tryd.zeroValue5
  t9 := Tryd.underlying9
  a9 := Tryd.isAgg9
  z9 := Tryd.sizeOf9
  v9 := Tryd.zeroValue9
  t20 := Tryd.underlying20
  a20 := Tryd.isAgg20
  z20 := Tryd.sizeOf20
  v20 := Tryd.zeroValue20
  t37 := Tryd.underlying28
  a37 := Tryd.isAgg28
  z37 := Tryd.sizeOf28
  v37 := Tryd.zeroValue28
  t46 := Tryd.underlying106
  a46 := Tryd.isAgg106
  z46 := Tryd.sizeOf106
  v46 := Tryd.zeroValue106
  t51 := Tryd.underlying116
  a51 := Tryd.isAgg116
  z51 := Tryd.sizeOf116
  v51 := Tryd.zeroValue116
  t53 := Tryd.underlying101
  a53 := Tryd.isAgg101
  z53 := Tryd.sizeOf101
  v53 := Tryd.zeroValue101
  t171 := Tryd.underlying100
  a171 := Tryd.isAgg100
  z171 := Tryd.sizeOf100
  v171 := Tryd.zeroValue100
  t173 := Tryd.underlying104
  a173 := Tryd.isAgg104
  z173 := Tryd.sizeOf104
  v173 := Tryd.zeroValue104
  t212 := Tryd.underlying115
  a212 := Tryd.isAgg115
  z212 := Tryd.sizeOf115
  v212 := Tryd.zeroValue115
  t213 := Tryd.underlying117
  a213 := Tryd.isAgg117
  z213 := Tryd.sizeOf117
  t232 := Tryd.underlying130
  a232 := Tryd.isAgg130
  z232 := Tryd.sizeOf130
  v232 := Tryd.zeroValue130
  t233 := Tryd.underlying131
  a233 := Tryd.isAgg131
  z233 := Tryd.sizeOf131
  v233 := Tryd.zeroValue131
  g17 := by kernel_rfl
  g18 := by kernel_rfl
  g19 := by kernel_rfl
  i0 := by kernel_rfl
  i2 := by kernel_rfl
  i3 := by kernel_rfl
  i4 := by kernel_rfl
  i5 := by kernel_rfl
  i9 := by kernel_rfl
  i20 := by kernel_rfl
  i37 := by kernel_rfl
  i46 := by kernel_rfl
  i51 := by kernel_rfl
  i53 := by kernel_rfl
  i171 := by kernel_rfl
  i173 := by kernel_rfl
  i212 := by kernel_rfl
  i232 := by kernel_rfl
  i233 := by kernel_rfl
  m17 := by kernel_rfl
  m18 := by kernel_rfl
  m19 := by kernel_rfl }
end Go.Proofs

namespace Go.Proofs.YtiecldkihdebiaaDoor.B
open Go.RowKit Go.Proofs
set_option linter.unusedVariables false
set_option linter.unusedSimpArgs false
variable {E : Env}

/-- The table of the powers of ten lies as the program lays it. -/
def Tab10 (E : Env) : Prop := ∀ w, E.G w → Lib.TabIs Tryd.prog w "internal/strconv.uint64pow10" .u64 Lib.pow10Tab
theorem below_grow (w : World) (k : Nat) (os : Array Obj) : Below w.heap.size w (Sort.grow (w.drewN k) os) := by
  refine ⟨rfl, rfl, rfl, ?_, fun i hi => ?_⟩
  · show w.heap.size ≤ (w.heap ++ os).size
    rw [Array.size_append]
    omega
  · show (w.heap ++ os)[i]? = w.heap[i]?
    rw [Array.getElem?_append_left hi]
/-- A call that makes new blocks alone. -/
theorem HR.grown {φ : Phi} {H : Hp} {w w' : World} (h : HR E φ H w) (hb : Below w.heap.size w w') : HR E φ H w' ∧ Below E.B0 w w' := by
  have hb' := hb.mono h.base
  exact ⟨h.keep hb' (fun o ob p ho hp => hb.block p.b (h.blk o p hp)), hb'⟩
theorem Itoa_ok (hE : Tab10 E) (n : Int) (H : Hp) (h : -9223372036854775808 ≤ n ∧ n < 9223372036854775808) : AC Tryd.prog E 46 [.int .i64 n] H (fun v H' => v = .str (dec n) ∧ H' = H) := by
  refine ⟨?_, fun φ w vals hv hH => ?_⟩
  · exact ⟨_, _, Tryd.func46, by kernel_rfl, rfl⟩
  · have e : vals = [.int .i64 n] := by
      obtain ⟨v, vs, rfl, h1, h2⟩ := hv
      have h1 : v = .int .i64 n := h1
      have h2 : vs = [] := h2
      rw [h1, h2]
    subst e
    have hc := Any.strconv_Itoa Tryd.laysItoa n h.1 (by omega) w (hE w hH.glob)
    refine Calls.mono hc ?_
    rintro e w' ⟨rfl, k, os, rfl⟩
    obtain ⟨h1, h2⟩ := hH.grown (below_grow w k os)
    exact ⟨φ, H, .str (dec n), fun _ _ h => h, h1, h2, rfl, rfl, rfl⟩

end Go.Proofs.YtiecldkihdebiaaDoor.B

namespace Go.Proofs
open Go.Shelf
def Tryd.laysCut_ren : Go.Shelf.Ren := ⟨fun | 145 => 51 | 220 => 68 | 219 => 86 | 217 => 102 | 225 => 103 | 224 => 104 | 267 => 105 | 266 => 116 | 314 => 117 | n => n, fun | 9 => 9 | 4 => 4 | 59 => 61 | 3 => 3 | 5 => 5 | 46 => 106 | 146 => 119 | 51 => 116 | n => n, fun | 1 => 0 | n => n⟩
theorem Tryd.laysCut : Go.Proofs.LaysM.n145 Tryd.prog Tryd.laysCut_ren := {
  mixed := by kernel_rfl
  f145 := Tryd.func51.trans (congrArg some (by kernel_rfl))
  f217 := Tryd.func102.trans (congrArg some (by kernel_rfl))
  f219 := Tryd.func86.trans (congrArg some (by kernel_rfl))
  f220 := Tryd.func68.trans (congrArg some (by kernel_rfl))
  f224 := Tryd.func104.trans (congrArg some (by kernel_rfl))
  f225 := Tryd.func103.trans (congrArg some (by kernel_rfl))
  f266 := Tryd.func116.trans (congrArg some (by kernel_rfl))
  f267 := Tryd.func105.trans (congrArg some (by kernel_rfl))
  f314 := Tryd.func117.trans (congrArg some (by kernel_rfl))
  t3 := Tryd.underlying3
  a3 := Tryd.isAgg3
  z3 := Tryd.sizeOf3
  v3 := Tryd.zeroValue3
  t4 := Tryd.underlying4
  a4 := Tryd.isAgg4
  z4 := Tryd.sizeOf4
  v4 := Tryd.zeroValue4
  t5 := Tryd.underlying5
  a5 := Tryd.isAgg5
  z5 := Tryd.sizeOf5
  v5 := Tryd.zeroValue5
  t9 := Tryd.underlying9
  a9 := Tryd.isAgg9
  z9 := Tryd.sizeOf9
  v9 := Tryd.zeroValue9
  t46 := Tryd.underlying106
  a46 := Tryd.isAgg106
  z46 := Tryd.sizeOf106
  v46 := Tryd.zeroValue106
  t51 := Tryd.underlying116
  a51 := Tryd.isAgg116
  z51 := Tryd.sizeOf116
  v51 := Tryd.zeroValue116
  t59 := Tryd.underlying61
  a59 := Tryd.isAgg61
  z59 := Tryd.sizeOf61
  v59 := Tryd.zeroValue61
  t146 := Tryd.underlying119
  a146 := Tryd.isAgg119
  z146 := Tryd.sizeOf119
  v146 := Tryd.zeroValue119
  g1 := by kernel_rfl
  i3 := by kernel_rfl
  i4 := by kernel_rfl
  i5 := by kernel_rfl
  i9 := by kernel_rfl
  i46 := by kernel_rfl
  i51 := by kernel_rfl
  i59 := by kernel_rfl
  i146 := by kernel_rfl
  m1 := by kernel_rfl
  s1_3 := fun w h => Go.Proofs.cell_of_shapedOpen_int (zero := #[.int .i64 0]) (t := 3) h (of_decide_eq_true (by kernel_rfl)) (by kernel_rfl) rfl (by kernel_rfl) (by kernel_rfl) Tryd.underlying3 }
def Tryd.laysSplit_ren : Go.Shelf.Ren := ⟨fun | 146 => 34 | 221 => 63 | 268 => 78 | 138 => 79 | 143 => 80 | 195 => 90 | 197 => 91 | 218 => 92 | 219 => 86 | 260 => 107 | 217 => 102 | 225 => 103 | 224 => 104 | 267 => 105 | 266 => 116 | 314 => 117 | n => n, fun | 9 => 9 | 31 => 42 | 3 => 3 | 4 => 4 | 0 => 0 | 105 => 91 | 21 => 21 | 5 => 5 | 46 => 106 | 119 => 121 | 139 => 124 | 138 => 123 | 146 => 119 | 51 => 116 | n => n, fun | 1 => 0 | 3 => 4 | 4 => 5 | n => n⟩
theorem Tryd.laysSplit : Go.Proofs.LaysM.n146 Tryd.prog Tryd.laysSplit_ren := {
  mixed := by kernel_rfl
  f138 := Tryd.func79.trans (congrArg some (by kernel_rfl))
  f143 := Tryd.func80.trans (congrArg some (by kernel_rfl))
  f146 := Tryd.func34.trans (congrArg some (by kernel_rfl))
  f195 := Tryd.func90.trans (congrArg some (by kernel_rfl))
  f197 := Tryd.func91.trans (congrArg some (by kernel_rfl))
  f217 := Tryd.func102.trans (congrArg some (by kernel_rfl))
  f218 := Tryd.func92.trans (congrArg some (by kernel_rfl))
  f219 := Tryd.func86.trans (congrArg some (by kernel_rfl))
  f221 := Tryd.func63.trans (congrArg some (by kernel_rfl))
  f224 := Tryd.func104.trans (congrArg some (by kernel_rfl))
  f225 := Tryd.func103.trans (congrArg some (by kernel_rfl))
  f260 := Tryd.func107.trans (congrArg some (by kernel_rfl))
  f266 := Tryd.func116.trans (congrArg some (by kernel_rfl))
  f267 := Tryd.func105.trans (congrArg some (by kernel_rfl))
  f268 := Tryd.func78.trans (congrArg some (by kernel_rfl))
  f314 := Tryd.func117.trans (congrArg some (by kernel_rfl))
  t0 := Tryd.underlying0
  a0 := Tryd.isAgg0
  z0 := Tryd.sizeOf0
  v0 := Tryd.zeroValue0
  t3 := Tryd.underlying3
  a3 := Tryd.isAgg3
  z3 := Tryd.sizeOf3
  v3 := Tryd.zeroValue3
  t4 := Tryd.underlying4
  a4 := Tryd.isAgg4
  z4 := Tryd.sizeOf4
  v4 := Tryd.zeroValue4
  t5 := Tryd.underlying5
  a5 := Tryd.isAgg5
  z5 := Tryd.sizeOf5
  v5 := Tryd.zeroValue5
  t9 := Tryd.underlying9
  a9 := Tryd.isAgg9
  z9 := Tryd.sizeOf9
  v9 := Tryd.zeroValue9
  t21 := Tryd.underlying21
  a21 := Tryd.isAgg21
  z21 := Tryd.sizeOf21
  v21 := Tryd.zeroValue21
  t31 := Tryd.underlying42
  a31 := Tryd.isAgg42
  z31 := Tryd.sizeOf42
  v31 := Tryd.zeroValue42
  t46 := Tryd.underlying106
  a46 := Tryd.isAgg106
  z46 := Tryd.sizeOf106
  v46 := Tryd.zeroValue106
  t51 := Tryd.underlying116
  a51 := Tryd.isAgg116
  z51 := Tryd.sizeOf116
  v51 := Tryd.zeroValue116
  t105 := Tryd.underlying91
  a105 := Tryd.isAgg91
  z105 := Tryd.sizeOf91
  v105 := Tryd.zeroValue91
  t119 := Tryd.underlying121
  a119 := Tryd.isAgg121
  z119 := Tryd.sizeOf121
  t138 := Tryd.underlying123
  a138 := Tryd.isAgg123
  z138 := Tryd.sizeOf123
  v138 := Tryd.zeroValue123
  t139 := Tryd.underlying124
  a139 := Tryd.isAgg124
  z139 := Tryd.sizeOf124
  v139 := Tryd.zeroValue124
  t146 := Tryd.underlying119
  a146 := Tryd.isAgg119
  z146 := Tryd.sizeOf119
  v146 := Tryd.zeroValue119
  g1 := by kernel_rfl
  g3 := by kernel_rfl
  g4 := by kernel_rfl
  i0 := by kernel_rfl
  i3 := by kernel_rfl
  i4 := by kernel_rfl
  i5 := by kernel_rfl
  i9 := by kernel_rfl
  i21 := by kernel_rfl
  i31 := by kernel_rfl
  i46 := by kernel_rfl
  i51 := by kernel_rfl
  i105 := by kernel_rfl
  i138 := by kernel_rfl
  i139 := by kernel_rfl
  i146 := by kernel_rfl
  m1 := by kernel_rfl
  s1_3 := fun w h => Go.Proofs.cell_of_shapedOpen_int (zero := #[.int .i64 0]) (t := 3) h (of_decide_eq_true (by kernel_rfl)) (by kernel_rfl) rfl (by kernel_rfl) (by kernel_rfl) Tryd.underlying3
  m3 := by kernel_rfl
  m4 := by kernel_rfl }
def Tryd.laysTrimPrefix_ren : Go.Shelf.Ren := ⟨fun | 101 => 37 | 208 => 64 | 206 => 81 | n => n, fun | 9 => 9 | 4 => 4 | 3 => 3 | n => n, fun | n => n⟩
theorem Tryd.laysTrimPrefix : Go.Proofs.Lays.n101 Tryd.prog Tryd.laysTrimPrefix_ren := {
  mixed := by kernel_rfl
  f101 := Tryd.func37.trans (congrArg some (by kernel_rfl))
  f206 := Tryd.func81.trans (congrArg some (by kernel_rfl))
  f208 := Tryd.func64.trans (congrArg some (by kernel_rfl))
  t3 := Tryd.underlying3
  a3 := Tryd.isAgg3
  z3 := Tryd.sizeOf3
  v3 := Tryd.zeroValue3
  t4 := Tryd.underlying4
  a4 := Tryd.isAgg4
  z4 := Tryd.sizeOf4
  v4 := Tryd.zeroValue4
  t9 := Tryd.underlying9
  a9 := Tryd.isAgg9
  z9 := Tryd.sizeOf9
  v9 := Tryd.zeroValue9 }
def Tryd.laysAtoi_ren : Go.Shelf.Ren := ⟨fun | 172 => 65 | 244 => 82 | 245 => 83 | 247 => 93 | 279 => 94 | 280 => 95 | 281 => 96 | 282 => 97 | 287 => 108 | 316 => 109 | 171 => 46 | 205 => 110 | 321 => 118 | 322 => 119 | 243 => 67 | 246 => 85 | 283 => 98 | 284 => 99 | 285 => 100 | 286 => 101 | 129 => 112 | 317 => 111 | 318 => 113 | 319 => 114 | 320 => 115 | 337 => 120 | 338 => 121 | n => n, fun | 9 => 9 | 3 => 3 | 75 => 70 | 76 => 71 | 4 => 4 | 5 => 5 | 167 => 94 | 37 => 28 | 0 => 0 | 85 => 95 | 2 => 2 | 168 => 97 | 53 => 101 | 175 => 109 | 46 => 106 | 210 => 112 | 127 => 89 | 145 => 128 | 143 => 126 | 21 => 21 | 171 => 100 | 173 => 104 | 212 => 115 | 51 => 116 | 20 => 20 | 213 => 117 | 232 => 130 | 233 => 131 | 80 => 79 | n => n, fun | 15 => 1 | 16 => 2 | 17 => 3 | 18 => 6 | 19 => 7 | n => n⟩
theorem Tryd.laysAtoi : Go.Proofs.LaysC.n172 Tryd.prog Tryd.laysAtoi_ren := {
  mixed := by kernel_rfl
  f129 := Tryd.func112.trans (congrArg some (by kernel_rfl))
  f171 := Tryd.func46.trans (congrArg some (by kernel_rfl))
  f172 := Tryd.func65.trans (congrArg some (by kernel_rfl))
  f205 := Tryd.func110.trans (congrArg some (by kernel_rfl))
  f243 := Tryd.func67.trans (congrArg some (by kernel_rfl))
  f244 := Tryd.func82.trans (congrArg some (by kernel_rfl))
  f245 := Tryd.func83.trans (congrArg some (by kernel_rfl))
  f246 := Tryd.func85.trans (congrArg some (by kernel_rfl))
  f247 := Tryd.func93.trans (congrArg some (by kernel_rfl))
  f279 := Tryd.func94.trans (congrArg some (by kernel_rfl))
  f280 := Tryd.func95.trans (congrArg some (by kernel_rfl))
  f281 := Tryd.func96.trans (congrArg some (by kernel_rfl))
  f282 := Tryd.func97.trans (congrArg some (by kernel_rfl))
  f283 := Tryd.func98.trans (congrArg some (by kernel_rfl))
  f284 := Tryd.func99.trans (congrArg some (by kernel_rfl))
  f285 := Tryd.func100.trans (congrArg some (by kernel_rfl))
  f286 := Tryd.func101.trans (congrArg some (by kernel_rfl))
  f287 := Tryd.func108.trans (congrArg some (by kernel_rfl))
  f316 := Tryd.func109.trans (congrArg some (by kernel_rfl))
  f317 := Tryd.func111.trans (congrArg some (by kernel_rfl))
  f318 := Tryd.func113.trans (congrArg some (by kernel_rfl))
  f319 := Tryd.func114.trans (congrArg some (by kernel_rfl))
  f320 := Tryd.func115.trans (congrArg some (by kernel_rfl))
  f321 := Tryd.func118.trans (congrArg some (by kernel_rfl))
  f322 := Tryd.func119.trans (congrArg some (by kernel_rfl))
  f337 := Tryd.func120.trans (congrArg some (by kernel_rfl))
  f338 := Tryd.func121.trans (congrArg some (by kernel_rfl))
  t0 := Tryd.underlying0
  a0 := Tryd.isAgg0
  z0 := Tryd.sizeOf0
  v0 := Tryd.zeroValue0
  t2 := Tryd.underlying2
  a2 := Tryd.isAgg2
  z2 := Tryd.sizeOf2
  v2 := Tryd.zeroValue2
  t3 := Tryd.underlying3
  a3 := Tryd.isAgg3
  z3 := Tryd.sizeOf3
  v3 := Tryd.zeroValue3
  t4 := Tryd.underlying4
  a4 := Tryd.isAgg4
  z4 := Tryd.sizeOf4
  v4 := Tryd.zeroValue4
  t5 := Tryd.underlying5
  a5 := Tryd.isAgg5
  z5 := Tryd.sizeOf5
  v5 := Tryd.zeroValue5
  t9 := Tryd.underlying9
  a9 := Tryd.isAgg9
  z9 := Tryd.sizeOf9
  v9 := Tryd.zeroValue9
  t20 := Tryd.underlying20
  a20 := Tryd.isAgg20
  z20 := Tryd.sizeOf20
  v20 := Tryd.zeroValue20
  t21 := Tryd.underlying21
  a21 := Tryd.isAgg21
  z21 := Tryd.sizeOf21
  v21 := Tryd.zeroValue21
  t37 := Tryd.underlying28
  a37 := Tryd.isAgg28
  z37 := Tryd.sizeOf28
  v37 := Tryd.zeroValue28
  t46 := Tryd.underlying106
  a46 := Tryd.isAgg106
  z46 := Tryd.sizeOf106
  v46 := Tryd.zeroValue106
  t51 := Tryd.underlying116
  a51 := Tryd.isAgg116
  z51 := Tryd.sizeOf116
  v51 := Tryd.zeroValue116
  t53 := Tryd.underlying101
  a53 := Tryd.isAgg101
  z53 := Tryd.sizeOf101
  v53 := Tryd.zeroValue101
  t75 := Tryd.underlying70
  a75 := Tryd.isAgg70
  z75 := Tryd.sizeOf70
  v75 := Tryd.zeroValue70
  t76 := Tryd.underlying71
  a76 := Tryd.isAgg71
  z76 := Tryd.sizeOf71
  v76 := Tryd.zeroValue71
  t85 := Tryd.underlying95
  a85 := Tryd.isAgg95
  z85 := Tryd.sizeOf95
  v85 := Tryd.zeroValue95
  t127 := Tryd.underlying89
  a127 := Tryd.isAgg89
  z127 := Tryd.sizeOf89
  v127 := Tryd.zeroValue89
  t143 := Tryd.underlying126
  a143 := Tryd.isAgg126
  z143 := Tryd.sizeOf126
  v143 := Tryd.zeroValue126
  t145 := Tryd.underlying128
  a145 := Tryd.isAgg128
  z145 := Tryd.sizeOf128
  v145 := Tryd.zeroValue128
  t167 := Tryd.underlying94
  a167 := Tryd.isAgg94
  z167 := Tryd.sizeOf94
  v167 := Tryd.zeroValue94
  t168 := Tryd.underlying97
  a168 := Tryd.isAgg97
  z168 := Tryd.sizeOf97
  v168 := Tryd.zeroValue97
  t171 := Tryd.underlying100
  a171 := Tryd.isAgg100
  z171 := Tryd.sizeOf100
  v171 := Tryd.zeroValue100
  t173 := Tryd.underlying104
  a173 := Tryd.isAgg104
  z173 := Tryd.sizeOf104
  v173 := Tryd.zeroValue104
  t175 := Tryd.underlying109
  a175 := Tryd.isAgg109
  z175 := Tryd.sizeOf109
  v175 := Tryd.zeroValue109
  t210 := Tryd.underlying112
  a210 := Tryd.isAgg112
  z210 := Tryd.sizeOf112
  v210 := Tryd.zeroValue112
  t212 := Tryd.underlying115
  a212 := Tryd.isAgg115
  z212 := Tryd.sizeOf115
  v212 := Tryd.zeroValue115
  t213 := Tryd.underlying117
  a213 := Tryd.isAgg117
  z213 := Tryd.sizeOf117
  t232 := Tryd.underlying130
  a232 := Tryd.isAgg130
  z232 := Tryd.sizeOf130
  v232 := Tryd.zeroValue130
  t233 := Tryd.underlying131
  a233 := Tryd.isAgg131
  z233 := Tryd.sizeOf131
  v233 := Tryd.zeroValue131
  g15 := by kernel_rfl
  g16 := by kernel_rfl
  g17 := by kernel_rfl
  g18 := by kernel_rfl
  g19 := by kernel_rfl
  t80 := Tryd.underlying79
  a80 := Tryd.isAgg79
  z80 := Tryd.sizeOf79
  v80 := Tryd.zeroValue79
  i0 := by kernel_rfl
  i2 := by kernel_rfl
  i3 := by kernel_rfl
  i4 := by kernel_rfl
  i5 := by kernel_rfl
  i9 := by kernel_rfl
  i20 := by kernel_rfl
  i21 := by kernel_rfl
  i37 := by kernel_rfl
  i46 := by kernel_rfl
  i51 := by kernel_rfl
  i53 := by kernel_rfl
  i75 := by kernel_rfl
  i76 := by kernel_rfl
  i80 := by kernel_rfl
  i85 := by kernel_rfl
  i127 := by kernel_rfl
  i143 := by kernel_rfl
  i145 := by kernel_rfl
  i167 := by kernel_rfl
  i168 := by kernel_rfl
  i171 := by kernel_rfl
  i173 := by kernel_rfl
  i175 := by kernel_rfl
  i210 := by kernel_rfl
  i212 := by kernel_rfl
  i232 := by kernel_rfl
  i233 := by kernel_rfl
  m15 := by kernel_rfl
  m16 := by kernel_rfl
  m17 := by kernel_rfl
  m18 := by kernel_rfl
  m19 := by kernel_rfl
  c0 := by kernel_rfl
  c2 := by kernel_rfl
  c3 := by kernel_rfl
  c4 := by kernel_rfl
  c5 := by kernel_rfl
  c9 := by kernel_rfl
  c20 := by kernel_rfl
  c21 := by kernel_rfl
  c37 := by kernel_rfl
  c46 := by kernel_rfl
  c51 := by kernel_rfl
  c53 := by kernel_rfl
  c75 := by kernel_rfl
  c76 := by kernel_rfl
  c80 := by kernel_rfl
  c85 := by kernel_rfl
  c127 := by kernel_rfl
  c143 := by kernel_rfl
  c145 := by kernel_rfl
  c167 := by kernel_rfl
  c168 := by kernel_rfl
  c171 := by kernel_rfl
  c173 := by kernel_rfl
  c175 := by kernel_rfl
  c210 := by kernel_rfl
  c212 := by kernel_rfl
  c213 := by kernel_rfl
  c232 := by kernel_rfl
  c233 := by kernel_rfl }
end Go.Proofs

namespace Go.Proofs.YtiecldkihdebiaaDoor.B
open Go.RowKit Go.Proofs
set_option linter.unusedVariables false
set_option linter.unusedSimpArgs false
variable {E : Env}

/-! ### Numbers -/
def tab0 (f : Nat) (args : List AV) : Option AV :=
  match f, args with
  | 47, [.int .i64 n, .int .i64 l, .int .i64 h] => some (.bool (decide (l ≤ n ∧ n ≤ h)))
  | _, _ => none
theorem l6In_ok (n l h : Int) (H : Hp) : AC Tryd.prog E 47 [.int .i64 n, .int .i64 l, .int .i64 h] H (fun v H' => v = .bool (decide (l ≤ n ∧ n ≤ h)) ∧ H' = H) := by
  refine AC_by fol (CLe.refl (AC Tryd.prog E)) h_spec_l6In ?_
  simp [c_spec_l6In]
  refine g_split (fun hq => ?_) (fun hq => ?_) (by simp) <;> simp at hq <;> simp [hq]
  omega
theorem tab0_ok : TabOK tab0 Tryd.prog E := by
  intro f args r H h
  unfold tab0 at h
  split at h
  · cases h
    exact l6In_ok _ _ _ _
  · cases h
@[simp] theorem tab0_in (C : CallP) (n l h : Int) (d : Option Nat) (ag) (p : Plan) (t : Tm) (H : Hp) (K : Tm → Hp → Prop) : callG (tC tab0 C) 47 [.int .i64 n, .int .i64 l, .int .i64 h] d ag p t H K =
  (againG ag (updO t d (.bool (decide (l ≤ n ∧ n ≤ h)))) H ∧ RgP (tC tab0 C) p (updO t d (.bool (decide (l ≤ n ∧ n ≤ h)))) H K) := rfl

theorem ix_nat (s : ByteArray) (i : Nat) : bt s (i : Int) = bt s i := rfl
theorem u8_le (s : ByteArray) (i : Int) : 0 ≤ bt s i ∧ bt s i < 256 := by
  unfold bt
  cases h : s[i.toNat]? with
  | none => simp
  | some b =>
    have := b.toNat_lt
    simp only [Option.map_some, Option.getD_some]
    omega
theorem wrap_bt (s : ByteArray) (i : Int) : IntKind.i64.wrap (bt s i) = bt s i := by
  have := u8_le s i
  exact wrap64 (by omega) (by omega)

theorem KeyOk_ok (k : ByteArray) (H : Hp) (hk : k.size < 4611686018427387904) : AC Tryd.prog E 48 [.str k] H (fun v H' => v = .bool (keyOk k) ∧ H' = H) := by
  refine AC_byp (tC_le tab0_ok) h_spec_KeyOk (by simp) ?_
  simp [c_spec_KeyOk]
  refine W_for (fun m t H' => ∃ i : Nat, i + m = k.size ∧ t 0 = .str k ∧ t 3 = .int .i64 i ∧ (∀ j : Nat, j < i → 97 ≤ bt k j ∧ bt k j ≤ 100) ∧ H' = H) k.size ?_ (tC_mono AC_mono) ?_
  · exact ⟨0, by simp⟩
  rintro m t H' ⟨i, him, h0, h3, hI, rfl⟩
  simp [h0, h3]
  refine c_split (fun hq => ?_) (fun hq => ?_) <;> simp at hq
  · simp [h0, h3, hq, wrap_bt]
    refine c_split (fun hq2 => ?_) (fun hq2 => ?_) <;> simp at hq2
    · simp [h0, h3]
      simp only [keyOk, decide_eq_false_iff_not]
      intro hh
      have := hh.1 i hq
      omega
    · have hw := wrapN (i := i) (by omega)
      simp [h0, h3, hw]
      refine ⟨m - 1, by omega, i + 1, by omega, rfl, fun j hj => ?_⟩
      rcases Nat.lt_or_ge j i with h | h
      · exact hI j h
      · have : j = i := by omega
        subst this
        exact hq2
  · have : i = k.size := by omega
    subst this
    simp [h0]
    simp only [keyOk, decide_eq_decide]
    exact ⟨fun h => ⟨hI, by omega⟩, fun h => by omega⟩

theorem l11Ahead_ok (a b : Ent) (H : Hp) : AC Tryd.prog E 73 [.ag (entRow a), .ag (entRow b)] H (fun v H' => v = .bool (ahead a b) ∧ H' = H) := by
  refine AC_byp (tC_le tab0_ok) h_spec_l11Ahead (by simp) ?_
  simp [c_spec_l11Ahead, entRow]
  refine g_split (fun hq => ?_) (fun hq => ?_) (by simp) <;> simp [hq, ahead]
  refine g_split (fun hq2 => ?_) (fun hq2 => ?_) (by simp) <;> simp at hq2 <;> simp [hq, hq2]

def tab1 (f : Nat) (args : List AV) : Option AV :=
  match f, args with
  | 47, [.int .i64 n, .int .i64 l, .int .i64 h] => some (.bool (decide (l ≤ n ∧ n ≤ h)))
  | 48, [.str k] => if k.size < 4611686018427387904 then some (.bool (keyOk k)) else none
  | _, _ => none
theorem tab1_ok : TabOK tab1 Tryd.prog E := by
  intro f args r H h
  unfold tab1 at h
  split at h
  · cases h
    exact l6In_ok _ _ _ _
  · split at h
    · cases h
      exact KeyOk_ok _ _ (by assumption)
    · cases h
  · cases h
@[simp] theorem tab1_in (C : CallP) (n l h : Int) (d : Option Nat) (ag) (p : Plan) (t : Tm) (H : Hp) (K : Tm → Hp → Prop) : callG (tC tab1 C) 47 [.int .i64 n, .int .i64 l, .int .i64 h] d ag p t H K =
  (againG ag (updO t d (.bool (decide (l ≤ n ∧ n ≤ h)))) H ∧ RgP (tC tab1 C) p (updO t d (.bool (decide (l ≤ n ∧ n ≤ h)))) H K) := rfl
theorem tab1_key (C : CallP) (k : ByteArray) (hk : k.size < 4611686018427387904) (d : Option Nat) (ag) (p : Plan) (t : Tm) (H : Hp) (K : Tm → Hp → Prop) : callG (tC tab1 C) 48 [.str k] d ag p t H K =
  (againG ag (updO t d (.bool (keyOk k))) H ∧ RgP (tC tab1 C) p (updO t d (.bool (keyOk k))) H K) := callG_tab (if_pos hk)

theorem l11Ok_ok (e : Ent) (H : Hp) (hk : e.key.size < 4611686018427387904) : AC Tryd.prog E 72 [.ag (entRow e)] H (fun v H' => v = .bool (entOk e) ∧ H' = H) := by
  refine AC_byp (tC_le tab1_ok) h_spec_l11Ok (by simp) ?_
  simp [c_spec_l11Ok, entRow, tab1_key _ _ hk]
  refine g_split (fun h1 => ?_) (fun h1 => ?_) (by simp) <;> simp [h1, entOk]
  refine g_split (fun h2 => ?_) (fun h2 => ?_) (by simp) <;> simp at h2 <;> simp [h2]
  · refine g_split (fun h3 => ?_) (fun h3 => ?_) (by simp) <;> simp at h3 <;> simp [h3]
    refine g_split (fun h4 => ?_) (fun h4 => ?_) (by simp) <;> simp at h4 <;> simp [h4]
  · intro a b
    have := h2 a
    omega

def tab2 (f : Nat) (args : List AV) : Option AV :=
  match f, args with
  | 47, [.int .i64 n, .int .i64 l, .int .i64 h] => some (.bool (decide (l ≤ n ∧ n ≤ h)))
  | 48, [.str k] => if k.size < 4611686018427387904 then some (.bool (keyOk k)) else none
  | 73, [.ag [.str a1, .int .i64 a2, .bool a3, .int .i64 a4], .ag [.str b1, .int .i64 b2, .bool b3, .int .i64 b4]] => some (.bool (ahead ⟨a1, a2, a3, a4⟩ ⟨b1, b2, b3, b4⟩))
  | 72, [.ag [.str a1, .int .i64 a2, .bool a3, .int .i64 a4]] => if a1.size < 4611686018427387904 then some (.bool (entOk ⟨a1, a2, a3, a4⟩)) else none
  | _, _ => none
theorem tab2_ok : TabOK tab2 Tryd.prog E := by
  intro f args r H h
  unfold tab2 at h
  split at h
  · cases h
    exact l6In_ok _ _ _ _
  · split at h
    · cases h
      exact KeyOk_ok _ _ (by assumption)
    · cases h
  · cases h
    exact l11Ahead_ok ⟨_, _, _, _⟩ ⟨_, _, _, _⟩ H
  · split at h
    · cases h
      exact l11Ok_ok ⟨_, _, _, _⟩ H (by assumption)
    · cases h
  · cases h
section
variable (C : CallP) (d : Option Nat) (ag : List (Option Nat × AOp × Option (Nat × Bool))) (p : Plan) (t : Tm) (H : Hp) (K : Tm → Hp → Prop)
@[simp] theorem tab2_in (n l h : Int) : callG (tC tab2 C) 47 [.int .i64 n, .int .i64 l, .int .i64 h] d ag p t H K =
  (againG ag (updO t d (.bool (decide (l ≤ n ∧ n ≤ h)))) H ∧ RgP (tC tab2 C) p (updO t d (.bool (decide (l ≤ n ∧ n ≤ h)))) H K) := rfl
theorem tab2_key (k : ByteArray) (hk : k.size < 4611686018427387904) : callG (tC tab2 C) 48 [.str k] d ag p t H K =
  (againG ag (updO t d (.bool (keyOk k))) H ∧ RgP (tC tab2 C) p (updO t d (.bool (keyOk k))) H K) := callG_tab (if_pos hk)
@[simp] theorem tab2_ahead (a1 b1 : ByteArray) (a2 b2 a4 b4 : Int) (a3 b3 : Bool) : callG (tC tab2 C) 73 [.ag [.str a1, .int .i64 a2, .bool a3, .int .i64 a4], .ag [.str b1, .int .i64 b2, .bool b3, .int .i64 b4]] d ag p t H K =
  (againG ag (updO t d (.bool (ahead ⟨a1, a2, a3, a4⟩ ⟨b1, b2, b3, b4⟩))) H ∧ RgP (tC tab2 C) p (updO t d (.bool (ahead ⟨a1, a2, a3, a4⟩ ⟨b1, b2, b3, b4⟩))) H K) := rfl
theorem tab2_ok1 (a1 : ByteArray) (a2 a4 : Int) (a3 : Bool) (hk : a1.size < 4611686018427387904) : callG (tC tab2 C) 72 [.ag [.str a1, .int .i64 a2, .bool a3, .int .i64 a4]] d ag p t H K =
  (againG ag (updO t d (.bool (entOk ⟨a1, a2, a3, a4⟩))) H ∧ RgP (tC tab2 C) p (updO t d (.bool (entOk ⟨a1, a2, a3, a4⟩))) H K) := callG_tab (if_pos hk)
end

theorem ent_eta (e : Ent) : (⟨e.key, e.val, e.gone, e.time⟩ : Ent) = e := rfl

theorem RunOk_ok (a : AV) (r : List Ent) (H : Hp) (ha : Ents H a r) (hs : Short r) (hn : r.length < 4611686018427387904) : AC Tryd.prog E 57 [a] H (fun v H' => v = .bool (runOk r) ∧ H' = H) := by
  refine AC_byp (tC_le tab2_ok) h_spec_RunOk (by simp) ?_
  have l1 := ha.len
  simp [c_spec_RunOk]
  refine W_for (fun m t H' => ∃ i : Nat, i + m = r.length ∧ t 0 = a ∧ t 3 = .int .i64 i ∧ (∀ j : Nat, ∀ h : j < r.length, j < i → entOk r[j] = true ∧ ∀ h0 : 0 < j, ahead r[j - 1] r[j] = true) ∧ H' = H) r.length ?_ (tC_mono AC_mono) ?_
  · exact ⟨0, by simp⟩
  rintro m t H' ⟨i, him, h0, h3, hI, rfl⟩
  simp [h0, h3, l1, ha.slc]
  refine c_split (fun hq => ?_) (fun hq => ?_) <;> simp at hq
  · have hw := wrapN (i := i) (by omega)
    obtain ⟨o1, i1, ob1, rfl, a1, a2, a3⟩ := ha.get hq
    have no : (entOk r[i] = true ∧ ∀ h0 : 0 < i, ahead r[i - 1] r[i] = true) ∨ runOk r = false := by
      rcases Classical.em (entOk r[i] = true ∧ ∀ h0 : 0 < i, ahead r[i - 1] r[i] = true) with h | h
      · exact .inl h
      · refine .inr ?_
        simp only [runOk, decide_eq_false_iff_not]
        exact fun hh => h (hh.1 i hq)
    have yes : (entOk r[i] = true ∧ ∀ h0 : 0 < i, ahead r[i - 1] r[i] = true) → ∀ j : Nat, ∀ h : j < r.length, j < i + 1 → entOk r[j] = true ∧ ∀ h0 : 0 < j, ahead r[j - 1] r[j] = true := by
      intro hi j hj hji
      rcases Nat.lt_or_ge j i with h | h
      · exact hI j hj h
      · have : j = i := by omega
        subst this
        exact hi
    cases he : entOk r[i] with
    | false =>
      simp [h0, h3, hq, a1, a2, a3, tab2_ok1 _ _ _ _ _ _ _ _ _ _ _ (hs.get hq), ent_eta, he]
      exact no.resolve_left (fun h => by rw [he] at h; cases h.1)
    | true =>
      rcases Nat.eq_zero_or_pos i with rfl | hp
      · rw [Nat.add_zero] at a3
        simp [h0, h3, hq, a1, a2, a3, tab2_ok1 _ _ _ _ _ _ _ _ _ _ _ (hs.get hq), ent_eta, he]
        exact ⟨m - 1, by omega, 1, by omega, rfl, fun j hj hj1 => yes ⟨he, fun h => by omega⟩ j hj (by omega)⟩
      · have hw2 : IntKind.i64.wrap ((i : Int) - 1) = ((i - 1 : Nat) : Int) := by rw [wrap64 (by omega) (by omega)]; omega
        have hlt : i - 1 < r.length := by omega
        obtain ⟨o2, i2, ob2, e2, b1, b2, b3⟩ := ha.get hlt
        cases e2
        rw [a1] at b1
        cases b1
        cases hb : ahead r[i - 1] r[i] with
        | false =>
          simp [h0, h3, hq, hp, hlt, hw2, a1, a2, a3, b3, tab2_ok1 _ _ _ _ _ _ _ _ _ _ _ (hs.get hq), ent_eta, he, hb]
          exact no.resolve_left (fun h => by rw [h.2 hp] at hb; cases hb)
        | true =>
          simp [h0, h3, hq, hp, hlt, hw, hw2, a1, a2, a3, b3, tab2_ok1 _ _ _ _ _ _ _ _ _ _ _ (hs.get hq), ent_eta, he, hb]
          exact ⟨m - 1, by omega, i + 1, by omega, rfl, yes ⟨he, fun _ => hb⟩⟩
  · have : i = r.length := by omega
    subst this
    simp [h0, l1, ha.slc]
    simp only [runOk, decide_eq_decide]
    exact ⟨fun h => ⟨fun j hj => hI j hj hj, by omega⟩, fun h => by omega⟩

end Go.Proofs.YtiecldkihdebiaaDoor.B

namespace Go.Proofs.YtiecldkihdebiaaDoor.B
open Go.RowKit Go.Proofs
set_option linter.unusedVariables false
set_option linter.unusedSimpArgs false
variable {E : Env}

/-- Strings that are one's own, made since. -/
abbrev OwnS := OwnM (α := ByteArray) 1 9 strRow
theorem strRow_map (xs : List ByteArray) : xs.map strRow = xs.map fun s => [.str s] := rfl
theorem OwnS.strs {H0 H : Hp} {v : AV} {xs : List ByteArray} (h : OwnS H0 H v xs) : Strs H v xs := h.1.rows
theorem OwnM.strs {ety : Nat} {H0 H : Hp} {v : AV} {xs : List ByteArray} (h : OwnM 1 ety strRow H0 H v xs) : Strs H v xs := h.1.rows
theorem OwnM.ents {ety : Nat} {H0 H : Hp} {v : AV} {xs : List Ent} (h : OwnM 4 ety entRow H0 H v xs) : Ents H v xs := h.1.rows
theorem Strs.at {H : Hp} {o n e : Nat} {ro : Bool} {xs : List ByteArray} (h : H.at o = some ⟨xs.map strRow, 1, e, ro⟩) (hn : n = xs.length) : Strs H (.sl o 0 n) xs := by
  subst hn
  have := Rows.whole h
  simp only [List.length_map] at this
  exact this

theorem l2Put_ok (a : AV) (k : ByteArray) (ks : List ByteArray) (H : Hp) (ha : Strs H a ks) (hn : ks.length < 1099511627776) :
    AC Tryd.prog E 89 [a, .str k] H (fun v H' => HLe H H' ∧ ((v = a ∧ putK k ks = ks) ∨ OwnS H H' v (putK k ks))) := by
  refine AC_by fol (tC_le tab2_ok) h_spec_l2Put ?_
  have l1 := ha.len
  simp [c_spec_l2Put]
  refine W_for (fun m t H' => ∃ i v, i + m = ks.length ∧ t 0 = a ∧ t 1 = .str k ∧ t 5 = v ∧ t 6 = .bool (putD k (ks.take i)) ∧ t 7 = .int .i64 (i : Nat) ∧ k ∉ ks.take i ∧ HLe H H' ∧ OwnS H H' v (putP k (ks.take i))) ks.length ?_ (tC_mono AC_mono) ?_
  · refine ⟨0, _, by simp, by simp, by simp, rfl, by simp [putD], by simp, by simp, HLe.self _ _, Own.obj (by simp [putP, putD]) (by simp [putP, putD]), by simp⟩
  rintro m t H' ⟨i, v, him, h0, h1, h5, h6, h7, hI, hle, how, hab⟩
  simp [h0, h1, h5, h6, h7, l1, ha.slc]
  refine c_split (fun hq => ?_) (fun hq => ?_) <;> simp at hq
  · have hw := wrapN (i := i) (by omega)
    obtain ⟨o1, i1, ob1, rfl, aH, a2, a3⟩ := ha.get hq
    have a1 := hle.2 _ _ aH
    simp [h0, h1, h5, h6, h7, hq, a1, a2, a3]
    refine c_split (fun hq2 => ?_) (fun hq2 => ?_) <;> simp at hq2
    · simp [hle, h0]
      exact .inl (putK_in (hq2 ▸ List.getElem_mem hq))
    · have htk : ks.take (i + 1) = ks.take i ++ [ks[i]] := List.take_succ_eq_append_getElem hq
      have hI2 : k ∉ ks.take (i + 1) := by
        rw [htk, List.mem_append, List.mem_singleton]
        exact fun h => h.elim hI (fun e => hq2 e.symm)
      have hlen := putP_len k (ks.take i)
      rw [List.length_take] at hlen
      have hpa := putP_app k ks[i] (ks.take i)
      have hda := putD_app k ks[i] (ks.take i)
      rw [← htk] at hpa hda
      have add : ∀ {y : ByteArray} {v2 v3 : AV} {H2 H3 : Hp} {xs : List ByteArray}, OwnS H H2 v2 xs → HLe H H2 → Own 1 9 H3 v3 (xs.map strRow ++ [[.str y]]) → Fr v2.of H2 H3 → (∀ o, v3.of o → v2.of o ∨ H2.length ≤ o) → HLe H H3 ∧ OwnS H H3 v3 (xs ++ [y]) := by
        intro y v2 v3 H2 H3 xs g1 g2 g3 g4 g5
        exact ⟨g2.fr_le g4 g1.2, by simpa [strRow] using g3, fun o ho => (g5 o ho).elim (g1.2 o) (fun h => Nat.le_trans g2.1 h)⟩
      have put : putD k (ks.take i) = true ∨ sless k ks[i] = false → putP k (ks.take (i + 1)) = putP k (ks.take i) ++ [ks[i]] := by
        intro h
        rw [hpa]
        rcases h with h | h <;> simp [h]
      have fin : ∀ (v2 : AV) (H2 : Hp), HLe H H2 → OwnS H H2 v2 (putP k (ks.take (i + 1))) → ∃ k', k' < m ∧ ∃ i_1 : Nat, i_1 + k' = ks.length ∧ putD k (ks.take (i + 1)) = putD k (ks.take i_1) ∧ ((i + 1 : Nat) : Int) = i_1 ∧ k ∉ ks.take i_1 ∧ HLe H H2 ∧ OwnS H H2 v2 (putP k (ks.take i_1)) :=
        fun v2 H2 g1 g2 => ⟨m - 1, by omega, i + 1, by omega, rfl, rfl, hI2, g1, g2⟩
      by_cases hc : putD k (ks.take i) = true ∨ sless k ks[i] = false
      · have hp := put hc
        have hd2 : putD k (ks.take i) = putD k (ks.take (i + 1)) := by
          rw [hda]
          rcases hc with h | h <;> simp [h]
        have app : ∀ (H2 : Hp), H2 = H' → True := fun _ _ => trivial
        rcases hd : putD k (ks.take i) with _ | _
        · have hx : sless k ks[i] = false := hc.resolve_left (by simp [hd])
          simp [h0, h1, h5, h6, h7, hq, hq2, a1, a2, a3, hd, hx]
          refine appG_one (R := (putP k (ks.take i)).map strRow) how (by simp; have := hlen; omega) (fun v2 H2 g1 g2 g3 => ?_)
          obtain ⟨e1, e2⟩ := add ⟨how, hab⟩ hle g1 g2 g3
          rw [← hp] at e2
          simp [h0, h1, h5, h6, h7, hw, hd]
          exact ⟨m - 1, by omega, i + 1, by omega, by rw [← hd2, hd], by omega, hI2, e1, e2⟩
        · simp [h0, h1, h5, h6, h7, hq, hq2, a1, a2, a3, hd]
          refine appG_one (R := (putP k (ks.take i)).map strRow) how (by simp; have := hlen; omega) (fun v2 H2 g1 g2 g3 => ?_)
          obtain ⟨e1, e2⟩ := add ⟨how, hab⟩ hle g1 g2 g3
          rw [← hp] at e2
          simp [h0, h1, h5, h6, h7, hw, hd]
          exact ⟨m - 1, by omega, i + 1, by omega, by rw [← hd2, hd], by omega, hI2, e1, e2⟩
      · have hd : putD k (ks.take i) = false := by
          cases h : putD k (ks.take i) with
          | false => rfl
          | true => exact (hc (.inl h)).elim
        have hx : sless k ks[i] = true := by
          cases h : sless k ks[i] with
          | false => exact (hc (.inr h)).elim
          | true => rfl
        simp [hd, hx] at hpa hda
        simp [h0, h1, h5, h6, h7, hq, hq2, a1, a2, a3, hd, hx]
        refine appG_one (R := (putP k (ks.take i)).map strRow) how (by simp; have := hlen; omega) (fun v2 H2 g1 g2 g3 => ?_)
        obtain ⟨e1, e2⟩ := add ⟨how, hab⟩ hle g1 g2 g3
        have a1' := e1.2 _ _ aH
        simp [h0, h1, h5, h6, h7, hw, hd, hq, a1', a2, a3]
        refine appG_one (R := (putP k (ks.take i) ++ [k]).map strRow) e2.1 (by simp; have := hlen; omega) (fun v3 H3 g1 g2 g3 => ?_)
        obtain ⟨f1, f2⟩ := add e2 e1 g1 g2 g3
        rw [List.append_assoc] at f2
        simp only [List.singleton_append] at f2
        rw [← hpa] at f2
        simp [h0, h1, h5, h6, h7, hw, hd]
        exact ⟨m - 1, by omega, i + 1, by omega, by rw [hda], by omega, hI2, f1, f2⟩
  · have : i = ks.length := by omega
    subst this
    rw [List.take_length] at h6 how hI
    have hlen := putP_len k ks
    cases hd : putD k ks with
    | true =>
      simp [h0, h1, h5, h6, h7, hd]
      refine ⟨hle, .inr ?_⟩
      rw [putK_out hI, hd]
      simp
      exact ⟨how, hab⟩
    | false =>
      simp [h0, h1, h5, h6, h7, hd]
      refine appG_one (R := (putP k ks).map strRow) how (by simp; omega) (fun v2 H2 g1 g2 g3 => ?_)
      simp
      refine ⟨hle.fr_le g2 hab, .inr ?_⟩
      rw [putK_out hI, hd]
      exact ⟨by simpa [strRow] using g1, fun o ho => (g3 o ho).elim (hab o) (fun h => Nat.le_trans hle.1 h)⟩

/-- How far a join has come. -/
def joinS (xs ys : List Ent) : Nat → Nat × List Ent
  | 0 => (0, [])
  | k + 1 =>
    let s := joinS xs ys k
    match ys[k]? with
    | some b => (s.1 + ((xs.drop s.1).takeWhile (fun a => ahead a b)).length, s.2 ++ (xs.drop s.1).takeWhile (fun a => ahead a b) ++ [b])
    | none => s
theorem joinS_le (xs ys : List Ent) : ∀ k, (joinS xs ys k).1 ≤ xs.length ∧ (joinS xs ys k).2.length = (joinS xs ys k).1 + min k ys.length
  | 0 => by simp [joinS]
  | k + 1 => by
    obtain ⟨h1, h2⟩ := joinS_le xs ys k
    simp only [joinS]
    split
    · rename_i b hb
      have hk : k < ys.length := (List.getElem?_eq_some_iff.1 hb).1
      have h3 : ((xs.drop (joinS xs ys k).1).takeWhile (fun a => ahead a b)).length ≤ (xs.drop (joinS xs ys k).1).length := (List.takeWhile_sublist _).length_le
      simp only [List.length_drop] at h3
      simp only [List.length_append, List.length_singleton, h2]
      omega
    · rename_i hb
      have hk : ys.length ≤ k := List.getElem?_eq_none_iff.1 hb
      omega
theorem joinS_eq : ∀ (ys xs : List Ent), (joinS xs ys ys.length).2 ++ xs.drop (joinS xs ys ys.length).1 = joinL xs ys := by
  have key : ∀ (ys xs : List Ent) (c : List Ent) (n : Nat), True := fun _ _ _ _ => trivial
  have gen : ∀ (k : Nat) (ys xs : List Ent), k ≤ ys.length → (joinS xs ys k).2 ++ joinL (xs.drop (joinS xs ys k).1) (ys.drop k) = joinL xs ys := by
    intro k
    induction k with
    | zero => intro ys xs _; simp [joinS]
    | succ k ih =>
      intro ys xs hk
      have h0 := ih ys xs (by omega)
      have hb : ys[k]? = some ys[k] := List.getElem?_eq_getElem (by omega)
      rw [List.drop_eq_getElem_cons (show k < ys.length by omega)] at h0
      simp only [joinL] at h0
      simp only [joinS, hb]
      rw [← h0]
      simp only [List.append_assoc, List.singleton_append]
      congr 2
      rw [← List.drop_drop]
      have e : ∀ (l : List Ent) (p : Ent → Bool), l.drop (l.takeWhile p).length = l.dropWhile p := by
        intro l p
        calc l.drop (l.takeWhile p).length = (l.takeWhile p ++ l.dropWhile p).drop (l.takeWhile p).length := by rw [List.takeWhile_append_dropWhile]
          _ = l.dropWhile p := List.drop_left
      rw [e]
  intro ys xs
  have := gen ys.length ys xs (Nat.le_refl _)
  simpa [joinL] using this
theorem joinL_len (xs ys : List Ent) : (joinL xs ys).length = xs.length + ys.length := by
  rw [← joinS_eq]
  obtain ⟨h1, h2⟩ := joinS_le xs ys ys.length
  simp [h2]
  omega

abbrev OwnE := OwnM (α := Ent) 4 59 entRow
theorem twl_step {xs : List Ent} {p : Ent → Bool} {j : Nat} (hj : j < xs.length) (hall : ∀ e ∈ xs.take j, p e = true) (hp : p xs[j] = true) : ∀ e ∈ xs.take (j + 1), p e = true := by
  rw [List.take_succ_eq_append_getElem hj]
  intro e he
  rcases List.mem_append.1 he with h | h
  · exact hall e h
  · rw [List.mem_singleton.1 h]; exact hp
theorem twl_end {xs : List Ent} {p : Ent → Bool} {j : Nat} (hall : ∀ e ∈ xs.take j, p e = true) (hp : ∀ h : j < xs.length, p xs[j] = false) : xs.takeWhile p = xs.take j := by
  have h1 : ∀ (l m : List Ent), (∀ e ∈ l, p e = true) → (l ++ m).takeWhile p = l ++ m.takeWhile p := by
    intro l m hl
    induction l with
    | nil => rfl
    | cons x l ih =>
      rw [List.cons_append, List.takeWhile_cons, hl x (by simp), ih (fun e he => hl e (List.mem_cons_of_mem _ he))]
      rfl
  conv => lhs; rw [← List.take_append_drop j xs]
  rw [h1 _ _ hall]
  rcases Nat.lt_or_ge j xs.length with hj | hj
  · rw [List.drop_eq_getElem_cons hj, List.takeWhile_cons, hp hj]
    simp
  · rw [List.drop_of_length_le hj]
    simp

theorem l11Join_ok (a b : AV) (xs ys : List Ent) (H : Hp) (ha : Ents H a xs) (hb : Ents H b ys) (hn : xs.length + ys.length < 1099511627776) :
    AC Tryd.prog E 77 [a, b] H (fun v H' => HLe H H' ∧ OwnE H H' v (joinL xs ys)) := by
  refine AC_by fol (tC_le tab2_ok) h_spec_l11Join ?_
  have l1 := ha.len
  have l2 := hb.len
  simp [c_spec_l11Join]
  refine W_for (fun m t H' => ∃ k v, k + m = ys.length ∧ t 0 = a ∧ t 1 = b ∧ t 5 = v ∧ t 6 = .int .i64 ((joinS xs ys k).1 : Nat) ∧ t 7 = .int .i64 (k : Nat) ∧ HLe H H' ∧ OwnE H H' v (joinS xs ys k).2) ys.length ?_ (tC_mono AC_mono) ?_
  · exact ⟨0, _, by simp, by simp, by simp, rfl, by simp [joinS], by simp, HLe.self _ _, OwnM.lit0 (HLe.refl _)⟩
  rintro m t H' ⟨k, v, hkm, h0, h1, h5, h6, h7, hle, hv⟩
  simp [h0, h1, h5, h6, h7, l2, hb.slc]
  obtain ⟨hj1, hj2⟩ := joinS_le xs ys k
  refine c_split (fun hq => ?_) (fun hq => ?_) <;> simp at hq
  · have hw := wrapN (i := k) (by omega)
    obtain ⟨o2, i2, ob2, rfl, bH, b2, b3⟩ := hb.get hq
    have hbk : ys[k]? = some ys[k] := List.getElem?_eq_getElem hq
    have hmin : min k ys.length = k := by omega
    rw [hmin] at hj2
    refine W_for (fun m2 t H' => ∃ (j : Nat) (v : AV), j + m2 = xs.length ∧ (joinS xs ys k).1 ≤ j ∧ t 0 = a ∧ t 1 = .sl o2 i2 ys.length ∧ t 5 = v ∧ t 6 = .int .i64 j ∧ t 7 = .int .i64 (k : Nat) ∧ HLe H H' ∧
      (∀ e ∈ (xs.drop (joinS xs ys k).1).take (j - (joinS xs ys k).1), ahead e ys[k] = true) ∧ OwnE H H' v ((joinS xs ys k).2 ++ (xs.drop (joinS xs ys k).1).take (j - (joinS xs ys k).1))) (xs.length - (joinS xs ys k).1) ?_ (tC_mono AC_mono) ?_
    · exact ⟨(joinS xs ys k).1, v, by omega, Nat.le_refl _, h0, h1, h5, h6, h7, hle, by simp, by simpa using hv⟩
    rintro m2 t H2 ⟨j, v, hjm, hjk, h0, h1, h5, h6, h7, hle2, hall, hv⟩
    have b1 := hle2.2 _ _ bH
    simp [h0, h1, h5, h6, h7, l1, ha.slc]
    have hend : (∀ h : j < xs.length, ahead xs[j] ys[k] = false) → (joinS xs ys (k + 1)).1 = j ∧ (joinS xs ys (k + 1)).2 = (joinS xs ys k).2 ++ (xs.drop (joinS xs ys k).1).take (j - (joinS xs ys k).1) ++ [ys[k]] := by
      intro hp
      have := twl_end (xs := xs.drop (joinS xs ys k).1) (p := fun a => ahead a ys[k]) (j := j - (joinS xs ys k).1) hall (fun h => by
        simp only [List.length_drop] at h
        simp only [List.getElem_drop]
        have e : (joinS xs ys k).1 + (j - (joinS xs ys k).1) = j := by omega
        simp only [e]
        exact hp (by omega))
      simp only [joinS, hbk, this]
      refine ⟨?_, trivial⟩
      simp
      omega
    have hadd : ∀ h : j < xs.length, (xs.drop (joinS xs ys k).1).take (j + 1 - (joinS xs ys k).1) = (xs.drop (joinS xs ys k).1).take (j - (joinS xs ys k).1) ++ [xs[j]] := by
      intro h
      rw [show j + 1 - (joinS xs ys k).1 = (j - (joinS xs ys k).1) + 1 by omega, List.take_succ_eq_append_getElem (by simp; omega)]
      simp only [List.getElem_drop]
      have e : (joinS xs ys k).1 + (j - (joinS xs ys k).1) = j := by omega
      simp only [e]
    have leave : (∀ h : j < xs.length, ahead xs[j] ys[k] = false) → True := fun _ => trivial
    refine g_split (fun hq2 => ?_) (fun hq2 => ?_) (by simp) <;> simp at hq2
    · obtain ⟨o1, i1, ob1, rfl, aH, a2, a3⟩ := ha.get hq2
      have a1 := hle2.2 _ _ aH
      have hw2 := wrapN (i := j) (by omega)
      cases hah : ahead xs[j] ys[k] with
      | false =>
        simp [h0, h1, h5, h6, h7, hq, hq2, a1, a2, a3, b1, b2, b3, ent_eta, hah]
        refine appG_add hv hle2 (by simp; omega) (show _ = entRow ys[k] from rfl) (fun v3 H3 g1 g2 g3 g4 => ?_)
        simp [h0, h1, h5, h6, h7, hw]
        obtain ⟨e1, e2⟩ := hend (fun _ => hah)
        exact ⟨m - 1, by omega, k + 1, by omega, by rw [e1], by omega, g1, by rw [e2]; exact g2⟩
      | true =>
        simp [h0, h1, h5, h6, h7, hq, hq2, a1, a2, a3, b1, b2, b3, ent_eta, hah]
        refine appG_add hv hle2 (by simp; omega) (show _ = entRow xs[j] from rfl) (fun v3 H3 g1 g2 g3 g4 => ?_)
        simp [h0, h1, h5, h6, h7, hw2]
        rw [List.append_assoc, ← hadd hq2] at g2
        refine ⟨m2 - 1, by omega, j + 1, by omega, by omega, by omega, g1, ?_, g2⟩
        rw [hadd hq2]
        intro e he
        rcases List.mem_append.1 he with h | h
        · exact hall e h
        · rw [List.mem_singleton.1 h]; exact hah
    · have hnl : ¬ j < xs.length := by omega
      simp [h0, h1, h5, h6, h7, hq, hnl, b1, b2, b3]
      refine appG_add hv hle2 (by simp; omega) (show _ = entRow ys[k] from rfl) (fun v3 H3 g1 g2 g3 g4 => ?_)
      simp [h0, h1, h5, h6, h7, hw]
      obtain ⟨e1, e2⟩ := hend (fun h => absurd h hnl)
      exact ⟨m - 1, by omega, k + 1, by omega, by rw [e1], by omega, g1, by rw [e2]; exact g2⟩
  · have : k = ys.length := by omega
    subst this
    simp [h0, h1, h5, h6, h7, l1, ha.slc]
    refine cutG_from (ha.le hle) _ rfl (by simpa using hj1) (fun u u1 u2 => ?_)
    rw [← List.map_drop] at u1
    simp [h5]
    refine appG_cat hv u1 hle (by simp [hj2]; omega) (fun v3 H3 g1 g2 g3 g4 => ?_)
    rw [joinS_eq] at g2
    simp
    exact ⟨g1, g2⟩

theorem sumStep (n : Int) (h : 0 ≤ n ∧ n < 9973) (b : Int) (hb : 0 ≤ b ∧ b < 256) : IntKind.i64.wrap (IntKind.i64.wrap (IntKind.i64.wrap (n * 31) + b) + 1) = n * 31 + b + 1 := by
  rw [wrap64 (n := n * 31) (by omega) (by omega), wrap64 (n := n * 31 + b) (by omega) (by omega), wrap64 (by omega) (by omega)]

/-- The sum of the first bytes. -/
def sumTo (s : ByteArray) : Nat → Int
  | 0 => 7
  | i + 1 => (sumTo s i * 31 + bt s i + 1) % 9973
theorem sumTo_bound (s : ByteArray) : ∀ i, 0 ≤ sumTo s i ∧ sumTo s i < 9973
  | 0 => by simp [sumTo]
  | i + 1 => by simp only [sumTo]; omega
theorem bt_at {s : ByteArray} {i : Nat} (h : i < s.data.toList.length) : bt s i = (s.data.toList[i]).toNat := by
  have h2 : i < s.data.size := by simpa using h
  have e : s[i]? = some s.data[i] := by
    rw [getElem?_pos s i h2]
    rfl
  simp only [bt, Int.toNat_natCast, e, Option.map_some, Option.getD_some]
  simp
theorem sumTo_eq (s : ByteArray) : sumTo s s.size = sumB s := by
  have key : ∀ i, i ≤ s.data.toList.length → sumTo s i = (s.data.toList.take i).foldl (fun n b => (n * 31 + (b.toNat : Int) + 1) % 9973) 7 := by
    intro i
    induction i with
    | zero => intro _; simp [sumTo]
    | succ i ih =>
      intro hi
      rw [List.take_succ_eq_append_getElem (by omega), List.foldl_append]
      simp only [List.foldl_cons, List.foldl_nil, sumTo]
      rw [ih (by omega), bt_at (by omega)]
  have hl : s.data.toList.length = s.size := Array.length_toList
  have := key s.size (by omega)
  rw [this, List.take_of_length_le (by omega)]
  rfl
theorem sumB_bound (s : ByteArray) : 0 ≤ sumB s ∧ sumB s < 9973 := by
  rw [← sumTo_eq]
  exact sumTo_bound s _

theorem specSum_ok (s : ByteArray) (H : Hp) (hk : s.size < 4611686018427387904) : AC Tryd.prog E 74 [.str s] H (fun v H' => v = .int .i64 (sumB s) ∧ H' = H) := by
  refine AC_byp (tC_le tab2_ok) h_spec_BlockSum (by simp) ?_
  simp [c_spec_BlockSum]
  refine W_for (fun m t H' => ∃ i : Nat, i + m = s.size ∧ t 0 = .str s ∧ t 3 = .int .i64 (sumTo s i) ∧ t 4 = .int .i64 i ∧ H' = H) s.size ?_ (tC_mono AC_mono) ?_
  · exact ⟨0, by simp [sumTo]⟩
  rintro m t H' ⟨i, him, h0, h3, h4, rfl⟩
  simp [h0, h3, h4]
  refine c_split (fun hq => ?_) (fun hq => ?_) <;> simp at hq
  · have hw := wrapN (i := i) (by omega)
    have hs := sumStep _ (sumTo_bound s i) _ (u8_le s i)
    have hb := sumTo_bound s i
    have hu := u8_le s i
    have ht : (sumTo s i * 31 + bt s i + 1).tmod 9973 = (sumTo s i * 31 + bt s i + 1) % 9973 := Int.tmod_eq_emod_of_nonneg (by omega)
    simp [h0, h3, h4, hq, wrap_bt, hs, ht, hw]
    exact ⟨m - 1, by omega, i + 1, by omega, rfl, rfl⟩
  · have : i = s.size := by omega
    subst this
    simp [h3, sumTo_eq]
theorem implSum_ok (s : ByteArray) (H : Hp) (hk : s.size < 4611686018427387904) : AC Tryd.prog E 88 [.str s] H (fun v H' => v = .int .i64 (sumB s) ∧ H' = H) := by
  refine AC_byp (tC_le tab2_ok) h_impl_BlockSum (by simp) ?_
  simp [c_impl_BlockSum]
  refine W_for (fun m t H' => ∃ i : Nat, i + m = s.size ∧ t 0 = .str s ∧ t 3 = .int .i64 (sumTo s i) ∧ t 6 = .int .i64 s.size ∧ t 7 = .int .i64 i ∧ H' = H) s.size ?_ (tC_mono AC_mono) ?_
  · exact ⟨0, by simp [sumTo]⟩
  rintro m t H' ⟨i, him, h0, h3, h6, h7, rfl⟩
  simp [h0, h3, h6, h7]
  refine c_split (fun hq => ?_) (fun hq => ?_) <;> simp at hq
  · have hw := wrapN (i := i) (by omega)
    have hs := sumStep _ (sumTo_bound s i) _ (u8_le s i)
    rw [Int.mul_comm] at hs
    have hb := sumTo_bound s i
    have hu := u8_le s i
    have ht : (31 * sumTo s i + bt s i + 1).tmod 9973 = (sumTo s i * 31 + bt s i + 1) % 9973 := by
      rw [Int.mul_comm]
      exact Int.tmod_eq_emod_of_nonneg (by omega)
    simp [h0, h3, h6, h7, hq, wrap_bt, hs, ht, hw]
    exact ⟨m - 1, by omega, i + 1, by omega, rfl, rfl⟩
  · have : i = s.size := by omega
    subst this
    simp [h3, sumTo_eq]

theorem dec_lt {n : Int} (h : n < 0) : dec n = lit1 45 ++ dec (-n) := by
  simp only [dec, Lib.itoa, if_pos h, if_neg (show ¬ -n < 0 by omega)]
  have : (-n).toNat = n.natAbs := by omega
  rw [this]
  rfl
theorem dec_small {n : Int} (h0 : 0 ≤ n) (h : n < 10) : dec n = lit1 (UInt8.ofNat (48 + n.toNat)) := by
  simp only [dec, Lib.itoa, if_neg (show ¬ n < 0 by omega)]
  rw [Lib.decDigits, dif_pos (by omega)]
  rfl
theorem dec_big {n : Int} (h0 : 10 ≤ n) : dec n = dec (n / 10) ++ lit1 (UInt8.ofNat (48 + (n % 10).toNat)) := by
  simp only [dec, Lib.itoa, if_neg (show ¬ n < 0 by omega), if_neg (show ¬ n / 10 < 0 by omega)]
  rw [Lib.decDigits, dif_neg (by omega)]
  have e1 : n.toNat / 10 = (n / 10).toNat := by omega
  have e2 : n.toNat % 10 = (n % 10).toNat := by omega
  rw [e1, e2]
  have : ∀ (a b : List UInt8), (⟨(a ++ b).toArray⟩ : ByteArray) = ⟨a.toArray⟩ ++ ⟨b.toArray⟩ := by
    intro a b
    apply ByteArray.ext
    simp
  exact this _ _
theorem dec_size (n : Int) (h : -9223372036854775808 ≤ n ∧ n < 9223372036854775808) : (dec n).size ≤ 20 := by
  have pos : ∀ (k : Nat) (n : Int), 0 ≤ n → n < 10 ^ (k + 1) → (dec n).size ≤ k + 1 := by
    intro k
    induction k with
    | zero =>
      intro n h0 h1
      rw [dec_small h0 (by simpa using h1)]
      exact Nat.le_refl _
    | succ k ih =>
      intro n h0 h1
      by_cases h : n < 10
      · rw [dec_small h0 h]
        show 1 ≤ _
        omega
      · rw [dec_big (by omega), ByteArray.size_append]
        have := ih (n / 10) (by omega) (by
          rw [Int.pow_succ] at h1
          omega)
        have e : (lit1 (UInt8.ofNat (48 + (n % 10).toNat))).size = 1 := rfl
        omega
  by_cases h0 : n < 0
  · rw [dec_lt h0, ByteArray.size_append]
    have := pos 18 (-n) (by omega) (by omega)
    have e : (lit1 45).size = 1 := rfl
    omega
  · have := pos 18 n (by omega) (by omega)
    omega

theorem strOf1 (n : Int) (h0 : 0 ≤ n) (h1 : n < 10) : strOf [IntKind.u8.wrap (IntKind.i64.wrap (48 + n))] = lit1 (UInt8.ofNat (48 + n.toNat)) := by
  have e : IntKind.u8.wrap (IntKind.i64.wrap (48 + n)) = 48 + n := by
    rw [wrap64 (by omega) (by omega), IntKind.wrap_u8]
    omega
  rw [e]
  have : (48 + n).toNat = 48 + n.toNat := by omega
  simp only [strOf, List.foldl_cons, List.foldl_nil, this]
  rfl

theorem l6Dec_pos : ∀ (k : Nat) (n : Int) (H : Hp), n.toNat < k → 0 ≤ n ∧ n < 9223372036854775808 → AC Tryd.prog E 49 [.int .i64 n] H (fun v H' => v = .str (dec n) ∧ H' = H) := by
  intro k
  induction k with
  | zero => intro n H h; omega
  | succ k ih =>
    intro n H hk hn
    refine AC_byp (tC_le tab2_ok) h_spec_l6Dec (by simp) ?_
    have a1 : ¬ n < -9223372036854775807 := by omega
    have a2 : ¬ n < 0 := by omega
    simp [c_spec_l6Dec, a1, a2]
    refine c_split (fun hq3 => ?_) (fun hq3 => ?_) <;> simp at hq3 <;> simp
    · rw [strOf1 n hn.1 hq3]
      exact (dec_small hn.1 hq3).symm
    · have e1 : IntKind.i64.wrap (n.tdiv 10) = n / 10 := by
        rw [Int.tdiv_eq_ediv_of_nonneg hn.1]
        exact wrap64 (by omega) (by omega)
      have e2 : n.tmod 10 = n % 10 := Int.tmod_eq_emod_of_nonneg hn.1
      have e3 := strOf1 (n % 10) (by omega) (by omega)
      have e4 := dec_size (n / 10) (by omega)
      have e5 : (lit1 (UInt8.ofNat (48 + (n % 10).toNat))).size = 1 := rfl
      rw [e1, e2]
      refine ⟨cg_use (ih (n / 10) _ (by omega) (by omega)) ?_, cg_use (ih (n / 10) _ (by omega) (by omega)) ?_⟩
      · simp [e3, e5, -UInt8.ofNat_add]
        exact ⟨by omega, (dec_big hq3).symm⟩
      · simp [e3, e5, -UInt8.ofNat_add]
        exact ⟨by omega, (dec_big hq3).symm⟩
theorem l6Dec_ok (n : Int) (H : Hp) (hn : -9223372036854775808 ≤ n ∧ n < 9223372036854775808) : AC Tryd.prog E 49 [.int .i64 n] H (fun v H' => v = .str (dec n) ∧ H' = H) := by
  by_cases h0 : 0 ≤ n
  · exact l6Dec_pos (n.toNat + 1) n H (by omega) ⟨h0, hn.2⟩
  · refine AC_byp (tC_le tab2_ok) h_spec_l6Dec (by simp) ?_
    simp [c_spec_l6Dec]
    refine c_split (fun hq => ?_) (fun hq => ?_) <;> simp at hq <;> simp
    · have : n = -9223372036854775808 := by omega
      subst this
      decide +kernel
    · have a2 : n < 0 := by omega
      have hw : IntKind.i64.wrap (-n) = -n := wrap64 (by omega) (by omega)
      have e4 := dec_size (-n) (by omega)
      simp [a2, hw]
      refine cg_use (l6Dec_pos ((-n).toNat + 1) (-n) _ (by omega) (by omega)) ?_
      have e5 : (⟨#[45]⟩ : ByteArray).size = 1 := rfl
      simp [e5]
      exact ⟨by omega, (dec_lt a2).symm⟩

/-- An entry that a machine can hold. -/
def I64 (n : Int) : Prop := -9223372036854775808 ≤ n ∧ n < 9223372036854775808
def Fit (e : Ent) : Prop := e.key.size < 4611686018427387904 ∧ I64 e.val ∧ I64 e.time
def Fits (es : List Ent) : Prop := ∀ e ∈ es, Fit e
theorem Fits.short {es : List Ent} (h : Fits es) : Short es := fun e he => (h e he).1
theorem entOk_fit {e : Ent} (h : entOk e = true) : Fit e ∧ e.key.size ≤ 5 := by
  simp only [entOk, keyOk, Bool.and_eq_true, decide_eq_true_eq] at h
  exact ⟨⟨by omega, ⟨by omega, by omega⟩, by omega, by omega⟩, h.1.1.1.2⟩
theorem runOk_fits {r : List Ent} (h : runOk r = true) : Fits r ∧ r.length ≤ 40 ∧ ∀ e ∈ r, e.key.size ≤ 5 := by
  simp only [runOk, decide_eq_true_eq] at h
  have key : ∀ e ∈ r, entOk e = true := by
    intro e he
    obtain ⟨i, hi, rfl⟩ := List.mem_iff_getElem.1 he
    exact (h.1 i hi).1
  exact ⟨fun e he => (entOk_fit (key e he)).1, h.2, fun e he => (entOk_fit (key e he)).2⟩
theorem entText_size {e : Ent} (h : Fit e) : (entText e).size ≤ e.key.size + 43 := by
  have h1 := dec_size e.val h.2.1
  have h2 := dec_size e.time h.2.2
  have e1 : ∀ c, (lit1 c).size = 1 := fun _ => rfl
  unfold entText
  split <;> simp only [ByteArray.size_append, e1] <;> omega

theorem l21Entry_ok (e : Ent) (H : Hp) (he : Fit e) : AC Tryd.prog E 75 [.ag (entRow e)] H (fun v H' => v = .str (entText e) ∧ H' = H) := by
  refine AC_byp (tC_le tab2_ok) h_spec_l21Entry (by simp) ?_
  have h1 := dec_size e.val he.2.1
  have h2 := dec_size e.time he.2.2
  have e1 : ∀ c : UInt8, (⟨#[c]⟩ : ByteArray).size = 1 := fun _ => rfl
  have h0 := he.1
  simp [c_spec_l21Entry, entRow, e1]
  refine c_split (fun hq => ?_) (fun hq => ?_) <;> simp [e1]
  · refine ⟨by omega, cg_use (l6Dec_ok e.time _ he.2.2) ?_⟩
    simp [e1]
    refine ⟨by omega, by omega, ?_⟩
    simp [entText, hq, lit1]
  · refine ⟨by omega, cg_use (l6Dec_ok e.val _ he.2.1) ?_⟩
    simp [e1]
    refine ⟨by omega, by omega, ?_⟩
    refine cg_use (l6Dec_ok e.time _ he.2.2) ?_
    simp [e1]
    refine ⟨by omega, by omega, ?_⟩
    simp [entText, hq, lit1]

theorem runText_take (r : List Ent) {i : Nat} (h : i < r.length) : runText (r.take (i + 1)) = runText (r.take i) ++ entText r[i] := by
  unfold runText
  rw [List.take_succ_eq_append_getElem h, List.foldl_append]
  rfl
theorem runText_size (r : List Ent) (h : ∀ e ∈ r, Fit e ∧ e.key.size ≤ 1000) : ∀ i, i ≤ r.length → (runText (r.take i)).size ≤ 1043 * i
  | 0, _ => by simp [runText]
  | i + 1, hi => by
    have := runText_size r h i (by omega)
    rw [runText_take r (by omega), ByteArray.size_append]
    have h1 := h r[i] (List.getElem_mem (by omega))
    have h2 := entText_size h1.1
    omega
theorem l21Run_ok (a : AV) (r : List Ent) (H : Hp) (ha : Ents H a r) (hr : ∀ e ∈ r, Fit e ∧ e.key.size ≤ 1000) (hn : r.length < 1099511627776) : AC Tryd.prog E 59 [a] H (fun v H' => v = .str (runText r) ∧ H' = H) := by
  refine AC_byp (tC_le tab2_ok) h_spec_l21Run (by simp) ?_
  have l1 := ha.len
  simp [c_spec_l21Run]
  refine W_for (fun m t H' => ∃ i : Nat, i + m = r.length ∧ t 0 = a ∧ t 3 = .str (runText (r.take i)) ∧ t 4 = .int .i64 i ∧ H' = H) r.length ?_ (tC_mono AC_mono) ?_
  · exact ⟨0, by simp, by simp, by simp; rfl, by simp, rfl⟩
  rintro m t H' ⟨i, him, h0, h3, h4, rfl⟩
  simp [h0, h3, h4, l1, ha.slc]
  refine c_split (fun hq => ?_) (fun hq => ?_) <;> simp at hq
  · have hw := wrapN (i := i) (by omega)
    obtain ⟨o1, i1, ob1, rfl, a1, a2, a3⟩ := ha.get hq
    have hf := hr r[i] (List.getElem_mem hq)
    have hs := runText_size r hr i (by omega)
    have hs2 := entText_size hf.1
    have ht := runText_take r hq
    simp [h0, h3, h4, hq, a1, a2, a3]
    refine cg_use (l21Entry_ok r[i] _ hf.1) ?_
    simp [h0, h3, h4, hw, ← ht]
    exact ⟨by omega, m - 1, by omega, i + 1, by omega, rfl, rfl⟩
  · have : i = r.length := by omega
    subst this
    simp [h3]

end Go.Proofs.YtiecldkihdebiaaDoor.B

namespace Go.Proofs.YtiecldkihdebiaaDoor.B
open Go.RowKit Go.Proofs
set_option linter.unusedVariables false
set_option linter.unusedSimpArgs false
variable {E : Env}

theorem Fr.one (H : Hp) (o : Nat) (x : Option Ob) : Fr (fun y => y = o) H (List.set H o x) := (Fr.refl (fun y => y = o) H).set (.inl rfl) x
theorem appG_one' {ety esz bytes n : Nat} {x : AV} {row : List AV} {H : Hp} {R : List (List AV)} {C : CallP} {d : Option Nat} {ag : List (Option Nat × AOp × Option (Nat × Bool))} {p : Plan} {t : Tm} {K : Tm → Hp → Prop}
    (hl : n = H.length) (hx : Own esz ety H x R) (hb : (R.length + 1) * bytes ≤ 140737488355328)
    (hk : ∀ v H', Own esz ety H' v (R ++ [row]) → Fr x.of H H' → (∀ o, v.of o → x.of o ∨ H.length ≤ o) → againG ag (updO t d v) H' ∧ RgP C p (updO t d v) H' K) :
    appG x (.sl n 0 1) ety esz bytes C d ag p t (H ++ [some ⟨[row], esz, ety, false⟩]) K := by
  subst hl
  exact appG_one hx hb hk

theorem Rows.ne_of {esz : Nat} {H : Hp} {v : AV} {R : List (List AV)} (h : Rows esz H v R) {o : Nat} {ob : Ob} (ho : H.at o = some ob) (he : ob.esz ≠ esz) {x : Nat} (hx : v.of x) : x ≠ o := by
  rcases h with ⟨rfl, _⟩ | ⟨rfl, _⟩ | ⟨o', i, ob', rfl, a2, a3, _⟩
  · exact hx.elim
  · exact hx.elim
  · rintro rfl
    have : o' = x := hx
    subst this
    rw [ho] at a2
    cases a2
    exact he a3
theorem Rows.apart {e1 e2 : Nat} {H : Hp} {v w : AV} {R1 R2 : List (List AV)} (h : Rows e1 H v R1) (k : Rows e2 H w R2) (he : e1 ≠ e2) {x : Nat} (hx : v.of x) : ¬ w.of x := by
  intro hw
  rcases k with ⟨rfl, _⟩ | ⟨rfl, _⟩ | ⟨o', i, ob', rfl, a2, a3, _⟩
  · exact hw.elim
  · exact hw.elim
  · have : o' = x := hw
    subst this
    exact h.ne_of a2 (by rw [a3]; exact he.symm) hx rfl

def byteRow (n : Int) : List AV := [.int .u8 n]
/-- A slice of bytes. -/
def Bytes (H : Hp) (v : AV) (bs : List Int) : Prop := Rows 1 H v (bs.map byteRow) ∧ ∀ n ∈ bs, 0 ≤ n ∧ n < 256
theorem Bytes.len {H : Hp} {v : AV} {bs : List Int} (h : Bytes H v bs) : lenV v = .int .i64 bs.length := by simpa using h.1.len
/-- A reader: it has read so many times at most. -/
def Rd (H : Hp) (o : Nat) (N : Nat) : Prop := ∃ b bs, ∃ p : Nat, H.at o = some ⟨[[b, .int .i64 p]], 2, 74, false⟩ ∧ Bytes H b bs ∧ bs.length ≤ 2000 ∧ p ≤ N
theorem Rd.mono {H : Hp} {o N M : Nat} (h : Rd H o N) (hM : N ≤ M) : Rd H o M := by
  obtain ⟨b, bs, p, h1, h2, h3, h4⟩ := h
  exact ⟨b, bs, p, h1, h2, h3, by omega⟩
theorem Rd.fr {S : Nat → Prop} {H H' : Hp} {o N : Nat} (h : Rd H o N) (hf : Fr S H H') (hs : ¬ S o) (hb : ∀ x ob, S x → H.at x = some ob → ob.esz ≠ 1) : Rd H' o N := by
  obtain ⟨b, bs, p, h1, h2, h3, h4⟩ := h
  refine ⟨b, bs, p, hf.2 _ _ hs h1, ⟨?_, h2.2⟩, h3, h4⟩
  rcases h2.1 with h | h | ⟨o', i, ob, rfl, a2, a3, a4⟩
  · exact .inl h
  · exact .inr (.inl h)
  · exact .inr (.inr ⟨o', i, ob, rfl, hf.2 _ _ (fun hh => hb o' ob hh a2 a3) a2, a3, a4⟩)
theorem Rd.le {H H' : Hp} {o N : Nat} (h : Rd H o N) (hle : HLe H H') : Rd H' o N := h.fr (hle.fr (S := fun _ => False)) (fun h => h) (fun _ _ h => h.elim)
theorem Rd.lt {H : Hp} {o N : Nat} (h : Rd H o N) : o < H.length := by
  obtain ⟨b, bs, p, h1, _⟩ := h
  exact Hp.at_lt h1
/-- What drawing does to memory. -/
abbrev Dr (o : Nat) (H H' : Hp) : Prop := Fr (fun x => x = o) H H'

theorem l6Open_ok (c : AV) (bs : List Int) (H : Hp) (hc : Bytes H c bs) (hn : bs.length < 4611686018427387904) :
    AC Tryd.prog E 40 [c] H (fun v H' => ∃ o, v = .pt o 0 0 ∧ H.length ≤ o ∧ HLe H H' ∧ Rd H' o 0) := by
  refine AC_by fol (tC_le tab2_ok) h_spec_l6Open ?_
  have l1 := hc.len
  simp [c_spec_l6Open, l1, hc.1.slc]
  have fin : ∀ (u : AV) (cs : List Int), Rows 1 H u (cs.map byteRow) → (∀ n ∈ cs, 0 ≤ n ∧ n < 256) → cs.length ≤ 2000 → Rd (H ++ [some ⟨[[u, .int .i64 0]], 2, 74, false⟩]) H.length 0 :=
    fun u cs h1 h2 h3 => ⟨u, cs, 0, by simp, ⟨h1.le (HLe.self _ _), h2⟩, h3, Nat.le_refl _⟩
  refine c_split (fun hq => ?_) (fun hq => ?_) <;> simp at hq
  · simp
    refine cutG_upto hc.1 2000 rfl (by simp; omega) (fun u u1 u2 _ => ?_)
    rw [← List.map_take] at u1
    simp [u1.cells, u1.cells1, u1.one]
    exact fin u _ u1 (fun n hn => hc.2 n (List.mem_of_mem_take hn)) (by simp; omega)
  · simp [hc.1.cells, hc.1.cells1, hc.1.one]
    exact fin c bs hc.1 hc.2 (by omega)

theorem xor_pos {x y : Int} (hx : 0 ≤ x ∧ x < 4611686018427387904) (hy : 0 ≤ y ∧ y < 4611686018427387904) : ∃ z : Int, binV .xor (.int .i64 x) (.int .i64 y) = .int .i64 z ∧ 0 ≤ z ∧ z < 9223372036854775808 := by
  have hlt : (BitVec.ofInt IntKind.i64.bits x ^^^ BitVec.ofInt IntKind.i64.bits y).toNat < 2 ^ 62 := by
    rw [BitVec.toNat_xor]
    have e : ∀ z : Int, 0 ≤ z ∧ z < 4611686018427387904 → (BitVec.ofInt IntKind.i64.bits z).toNat < 2 ^ 62 := by
      intro z hz
      rw [BitVec.toNat_ofInt]
      have : IntKind.i64.bits = 64 := rfl
      rw [this]
      omega
    exact Nat.xor_lt_two_pow (e x hx) (e y hy)
  refine ⟨_, rfl, ?_, ?_⟩
  · rw [wrap64 (by omega) (by omega)]
    omega
  · rw [wrap64 (by omega) (by omega)]
    omega

theorem pick_ok (o N : Nat) (n : Int) (H : Hp) (hr : Rd H o N) (hN : N < 1099511627776) (hn : n < 4611686018427387904) :
    AC Tryd.prog E 42 [.pt o 0 0, .int .i64 n] H (fun v H' => ∃ m : Nat, v = .int .i64 m ∧ ((m : Int) < n ∨ m = 0) ∧ Dr o H H' ∧ Rd H' o (N + 1) ∧ H'.length = H.length) := by
  obtain ⟨b, bs, p, hat, hb, hbl, hp⟩ := hr
  have hlt := Hp.at_lt hat
  have hw := wrapN (i := p) (by omega)
  have hw1 : IntKind.i64.wrap (((p + 1 : Nat) : Int) - 1) = p := by rw [wrap64 (by omega) (by omega)]; omega
  have l1 := hb.len
  have s1 := hb.1.slc
  have fin : ∀ x : Option Ob, x = some ⟨[[b, .int .i64 ((p + 1 : Nat) : Int)]], 2, 74, false⟩ → Dr o H (List.set H o x) ∧ Rd (List.set H o x) o (N + 1) ∧ (List.set H o x).length = H.length := by
    rintro x rfl
    refine ⟨(Fr.refl (fun x => x = o) H).set (.inl rfl) _, ⟨b, bs, p + 1, Hp.at_set _ hlt, ⟨?_, hb.2⟩, hbl, by omega⟩, by simp⟩
    rcases hb.1 with h | h | ⟨o', i, ob, rfl, a2, a3, a4⟩
    · exact .inl h
    · exact .inr (.inl h)
    · refine .inr (.inr ⟨o', i, ob, rfl, ?_, a3, a4⟩)
      rw [Hp.at_set_ne]
      · exact a2
      · rintro rfl
        rw [hat] at a2
        cases a2
        cases a3
  have f0 := fin _ rfl
  refine AC_by fol (tC_le tab2_ok) h_spec_l6Rd_pick ?_
  by_cases hn1 : n < 1
  · simp [c_spec_l6Rd_pick, hat, Hp.at_set _ hlt, hw, hn1]
    exact ⟨0, rfl, .inr rfl, by simpa using f0⟩
  · simp [c_spec_l6Rd_pick, hat, Hp.at_set _ hlt, hw, hn1, l1, s1]
    refine c_split (fun hq => ?_) (fun hq => ?_) <;> simp at hq
    · simp
      exact ⟨0, rfl, .inr rfl, by simpa using f0⟩
    · have hpos : 0 < bs.length := List.length_pos_iff.2 hq
      obtain ⟨o', i', ob, rfl, a2, a3, _⟩ := hb.1.get (j := 0) (by simpa using hpos)
      have row : ∀ j (h : j < bs.length), ob.rows[i' + j]? = some [.int .u8 bs[j]] := by
        intro j h
        obtain ⟨o2, i2, ob2, e1, e2, e3, e4⟩ := hb.1.get (j := j) (by simpa using h)
        cases e1
        rw [a2] at e2
        cases e2
        simpa [byteRow] using e4
      have hne : o ≠ o' := by
        rintro rfl
        rw [hat] at a2
        cases a2
        cases a3
      have hat' : ∀ x, Hp.at (List.set H o x) o' = some ob := fun x => by rw [Hp.at_set_ne hne]; exact a2
      simp at f0
      have hwp : IntKind.i64.wrap (p : Int) = p := wrap64 (by omega) (by omega)
      simp [hat, Hp.at_set _ hlt, hat', hwp, a3]
      refine c_split (fun hq2 => ?_) (fun hq2 => ?_) <;> simp at hq2
      · have hbd := hb.2 _ (List.getElem_mem hq2)
        have hwb : IntKind.i64.wrap bs[p] = bs[p] := wrap64 (by omega) (by omega)
        have hm : bs[p].tmod n = ((bs[p].tmod n).toNat : Int) := by
          have := Int.tmod_nonneg n hbd.1
          omega
        have hn0 : n ≠ 0 := by omega
        have hlt2 : bs[p].tmod n < n := Int.tmod_lt_of_pos _ (by omega)
        simp [hat, Hp.at_set _ hlt, hat', hq2, a3, row p hq2, hwb, hn0]
        exact ⟨(bs[p].tmod n).toNat, hm, .inl (by omega), f0⟩
      · have q1 : p % bs.length < bs.length := Nat.mod_lt _ hpos
        have q2 : (p * 7 + 3) % bs.length < bs.length := Nat.mod_lt _ hpos
        have m1 : (p : Int).tmod (bs.length : Int) = ((p % bs.length : Nat) : Int) := by
          rw [Int.tmod_eq_emod_of_nonneg (by omega)]
          exact (Int.natCast_emod _ _).symm
        have m2 : ((p : Int) * 7 + 3).tmod (bs.length : Int) = (((p * 7 + 3) % bs.length : Nat) : Int) := by
          rw [Int.tmod_eq_emod_of_nonneg (by omega), Int.natCast_emod]
          rfl
        have d1 : (p : Int).tdiv (bs.length : Int) = ((p / bs.length : Nat) : Int) := by
          rw [Int.tdiv_eq_ediv_of_nonneg (by omega)]
          exact (Int.natCast_ediv _ _).symm
        have d2 : p / bs.length ≤ p := Nat.div_le_self _ _
        have b1 := hb.2 _ (List.getElem_mem q1)
        have b2 := hb.2 _ (List.getElem_mem q2)
        have r1 := row _ q1
        have r2 := row _ q2
        generalize bs[p % bs.length] = A at b1 r1
        generalize bs[(p * 7 + 3) % bs.length] = B at b2 r2
        generalize p % bs.length = i1 at q1 m1 r1
        generalize (p * 7 + 3) % bs.length = i2 at q2 m2 r2
        generalize p / bs.length = qq at d1 d2
        have w1 : IntKind.i64.wrap A = A := wrap64 (by omega) (by omega)
        have w2 : IntKind.i64.wrap B = B := wrap64 (by omega) (by omega)
        have w3 : IntKind.i64.wrap (A * 131) = A * 131 := wrap64 (by omega) (by omega)
        have w4 : IntKind.i64.wrap (B * 1117) = B * 1117 := wrap64 (by omega) (by omega)
        have w5 : IntKind.i64.wrap (A * 131 + B * 1117) = A * 131 + B * 1117 := wrap64 (by omega) (by omega)
        have w6 : IntKind.i64.wrap ((p : Int) * 29) = p * 29 := wrap64 (by omega) (by omega)
        have w7 : IntKind.i64.wrap (A * 131 + B * 1117 + p * 29) = A * 131 + B * 1117 + p * 29 := wrap64 (by omega) (by omega)
        have w8 : IntKind.i64.wrap (qq : Int) = qq := wrap64 (by omega) (by omega)
        have w9 : IntKind.i64.wrap ((qq : Int) * 53) = qq * 53 := wrap64 (by omega) (by omega)
        obtain ⟨X, hXe⟩ : ∃ X : Int, X = A * 131 + B * 1117 + p * 29 + qq * 53 := ⟨_, rfl⟩
        have w10 : IntKind.i64.wrap (A * 131 + B * 1117 + p * 29 + qq * 53) = X := by rw [hXe]; exact wrap64 (by omega) (by omega)
        have w11 : IntKind.i64.wrap ((p : Int) * 7) = p * 7 := wrap64 (by omega) (by omega)
        have w12 : IntKind.i64.wrap ((p : Int) * 7 + 3) = p * 7 + 3 := wrap64 (by omega) (by omega)
        have hX : 0 ≤ X ∧ X < 4611686018427387904 := by omega
        have e1 : X.tdiv 64 = X / 64 := Int.tdiv_eq_ediv_of_nonneg hX.1
        have w13 : IntKind.i64.wrap (X / 64) = X / 64 := wrap64 (by omega) (by omega)
        obtain ⟨Z, hZ, z1, z2⟩ := xor_pos (x := X) (y := X / 64) hX (by omega)
        have hn0 : n ≠ 0 := by omega
        have hbn : bs.length ≠ 0 := by omega
        have hm : Z.tmod n = ((Z.tmod n).toNat : Int) := by
          have := Int.tmod_nonneg n z1
          omega
        have hlt2 : Z.tmod n < n := Int.tmod_lt_of_pos _ (by omega)
        simp [-binV_ixor, hat, Hp.at_set _ hlt, hat', a3, hn0, hq, m1, m2, d1, r1, r2, q1, q2, w1, w2, w3, w4, w5, w6, w7, w8, w9, w10, w11, w12, w13, e1, hZ]
        exact ⟨(Z.tmod n).toNat, hm, .inl (by omega), f0⟩

end Go.Proofs.YtiecldkihdebiaaDoor.B

namespace Go.Proofs.YtiecldkihdebiaaDoor.B
open Go.RowKit Go.Proofs
set_option linter.unusedVariables false
set_option linter.unusedSimpArgs false
variable {E : Env}

theorem Rd.ne {H : Hp} {o N : Nat} (h : Rd H o N) {esz : Nat} {v : AV} {R : List (List AV)} (hv : Rows esz H v R) (he : esz ≠ 2) {x : Nat} (hx : v.of x) : x ≠ o := by
  obtain ⟨b, bs, p, h1, _⟩ := h
  rcases hv with ⟨rfl, _⟩ | ⟨rfl, _⟩ | ⟨o', i, ob, rfl, a2, a3, _⟩
  · exact hx.elim
  · exact hx.elim
  · rintro rfl
    have : o' = x := hx
    subst this
    rw [h1] at a2
    cases a2
    exact he a3.symm
theorem Rows.dr {H H' : Hp} {o N : Nat} (hr : Rd H o N) {esz : Nat} {v : AV} {R : List (List AV)} (hv : Rows esz H v R) (he : esz ≠ 2) (hd : Dr o H H') : Rows esz H' v R := hv.fr hd (fun x hx => hr.ne hv he hx)
theorem OwnM.dr {α : Type} {H0 H H' : Hp} {o N : Nat} (hr : Rd H o N) {esz ety : Nat} {row : α → List AV} {v : AV} {xs : List α} (hv : OwnM esz ety row H0 H v xs) (he : esz ≠ 2) (hd : Dr o H H') : OwnM esz ety row H0 H' v xs := hv.fr hd (fun x hx => hr.ne hv.rows he hx)
theorem HLe.dr {H H' : Hp} (h : HLe H H') (o : Nat) : Dr o H H' := h.fr
/-- Behind something that is read alone. -/
theorem Rd.own {H H' : Hp} {o N : Nat} (h : Rd H o N) (hle : HLe H H') : Rd H' o N := h.le hle
theorem Rd.frv {H0 H H' : Hp} {o N : Nat} {v : AV} (h : Rd H0 o N) (hle : HLe H0 H) (hf : Fr v.of H H') (hv : ∀ x, v.of x → H0.length ≤ x) : Rd H' o N := h.le (hle.fr_le hf hv)

theorem of_ok (o N : Nat) (l : AV) (xs : List ByteArray) (H : Hp) (hr : Rd H o N) (hl : Strs H l xs) (hx : xs ≠ []) (hx2 : xs.length < 1099511627776) (hN : N < 1099511627776) :
    AC Tryd.prog E 43 [.pt o 0 0, l] H (fun v H' => ∃ s, s ∈ xs ∧ v = .str s ∧ Dr o H H' ∧ Rd H' o (N + 1) ∧ H'.length = H.length) := by
  refine AC_by fol (tC_le tab2_ok) h_spec_l6Rd_of ?_
  have l1 := hl.len
  have hpos : 0 < xs.length := List.length_pos_iff.2 hx
  simp [c_spec_l6Rd_of, l1, hl.slc]
  refine cg_ex (pick_ok o N xs.length H hr hN (by omega)) ?_
  rintro v H' ⟨m, rfl, hm, hd, hr', hlen⟩
  have hm2 : m < xs.length := by omega
  obtain ⟨o1, i1, ob1, rfl, a1, a2, a3⟩ := Strs.get (Rows.dr hr hl (by decide) hd : Strs H' l xs) hm2
  simp [a1, a2, a3, hm2]
  exact ⟨xs[m], List.getElem_mem hm2, rfl, hd, hr', hlen⟩

theorem l71Key_ok (o N : Nat) (H : Hp) (hr : Rd H o N) (hN : N < 549755813888) :
    AC Tryd.prog E 84 [.pt o 0 0] H (fun v H' => ∃ k, v = .str k ∧ k.size ≤ 5 ∧ Dr o H H' ∧ Rd H' o (N + 6)) := by
  refine AC_by fol (tC_le tab2_ok) h_spec_l71Key ?_
  simp [c_spec_l71Key]
  refine cg_ex (pick_ok o N 6 H hr (by omega) (by omega)) ?_
  rintro v H1 ⟨n, rfl, hn, hd, hr1, -⟩
  simp
  refine W_for (fun m t H' => ∃ k : ByteArray, m ≤ 5 ∧ t 0 = .pt o 0 0 ∧ t 3 = .str k ∧ t 4 = .int .i64 m ∧ k.size + m ≤ 5 ∧ Dr o H H' ∧ Rd H' o (N + 6 - m)) n ?_ (tC_mono AC_mono) ?_
  · exact ⟨⟨#[]⟩, by omega, by simp, by simp, by simp, by show 0 + n ≤ 5; omega, hd, hr1.mono (by omega)⟩
  rintro m t H' ⟨k, hm5, h0, h3, h4, hk, hd, hr⟩
  simp [h0, h3, h4]
  refine c_split (fun hq => ?_) (fun hq => ?_) <;> simp at hq
  · have hw : IntKind.i64.wrap ((m : Int) - 1) = ((m - 1 : Nat) : Int) := by rw [wrap64 (by omega) (by omega)]; omega
    simp [h0, h3, h4]
    have hl : Strs (H' ++ [some ⟨[[.str ⟨#[97]⟩], [.str ⟨#[98]⟩], [.str ⟨#[97]⟩], [.str ⟨#[99]⟩], [.str ⟨#[100]⟩]], 1, 9, false⟩]) (.sl H'.length 0 5) [⟨#[97]⟩, ⟨#[98]⟩, ⟨#[97]⟩, ⟨#[99]⟩, ⟨#[100]⟩] := Strs.at (e := 9) (ro := false) (by simp [strRow]) rfl
    refine cg_ex (of_ok o (N + 6 - m) _ _ _ (hr.le (HLe.self _ _)) hl (by simp) (by simp) (by omega)) ?_
    rintro v H2 ⟨s, hs, rfl, hd2, hr2, -⟩
    have hs1 : s.size = 1 := by
      simp at hs
      rcases hs with h | h | h | h | h <;> rw [h] <;> rfl
    simp [h0, h3, h4, hw]
    refine ⟨by omega, m - 1, by omega, by omega, rfl, by omega, ?_, hr2.mono (by omega)⟩
    exact (hd.app _).same hd2
  · have : m = 0 := by omega
    subst this
    simp [h3]
    exact ⟨by omega, hd, hr⟩

theorem l71Near_ok (o N : Nat) (l : AV) (xs : List ByteArray) (H : Hp) (hr : Rd H o N) (hl : Strs H l xs) (hx : xs.length < 1099511627776) (hs : ∀ s ∈ xs, s.size ≤ 5) (hN : N < 274877906944) :
    AC Tryd.prog E 66 [.pt o 0 0, l] H (fun v H' => ∃ k, v = .str k ∧ k.size ≤ 5 ∧ Dr o H H' ∧ Rd H' o (N + 7)) := by
  refine AC_by fol (tC_le tab2_ok) h_spec_l71Near ?_
  have l1 := hl.len
  simp [c_spec_l71Near, l1, hl.slc]
  refine g_split (fun hq => ?_) (fun hq => ?_) (by simp) <;> simp at hq <;> simp [hq]
  · refine cg_ex (l71Key_ok o N _ hr (by omega)) ?_
    rintro v H1 ⟨k, rfl, hk, hd, hr1⟩
    simp
    exact ⟨hk, hd, hr1.mono (by omega)⟩
  · have hpos : 0 < xs.length := List.length_pos_iff.2 hq
    refine cg_ex (pick_ok o N 4 H hr (by omega) (by omega)) ?_
    rintro v H1 ⟨n, rfl, hn, hd1, hr1, -⟩
    simp
    have hl1 : Strs H1 l xs := Rows.dr hr hl (by decide) hd1
    refine c_split (fun hq2 => ?_) (fun hq2 => ?_) <;> simp at hq2 <;> simp
    · refine cg_ex (l71Key_ok o _ _ hr1 (by omega)) ?_
      rintro v H2 ⟨k, rfl, hk, hd, hr2⟩
      simp
      exact ⟨hk, hd1.same hd, hr2.mono (by omega)⟩
    · simp [l1, hl.slc]
      refine cg_ex (pick_ok o _ xs.length H1 hr1 (by omega) (by omega)) ?_
      rintro v H2 ⟨m, rfl, hm, hd2, hr2, -⟩
      have hm2 : m < xs.length := by omega
      obtain ⟨o1, i1, ob1, rfl, a1, a2, a3⟩ := Strs.get (Rows.dr hr1 hl1 (by decide) hd2 : Strs H2 l xs) hm2
      have hsz := hs _ (List.getElem_mem hm2)
      simp [a1, a2, a3, hm2]
      refine cg_ex (pick_ok o _ 4 H2 hr2 (by omega) (by omega)) ?_
      rintro v H3 ⟨c, rfl, hc, hd3, hr3, -⟩
      have hd13 := (hd1.same hd2).same hd3
      simp
      refine c_split (fun hq3 => ?_) (fun hq3 => ?_) <;> simp at hq3 <;> simp
      · have hw : IntKind.i64.wrap ((xs[m].size : Int) + 1) = ((xs[m].size + 1 : Nat) : Int) := wrapN (by omega)
        rw [hw]
        refine cg_ex (pick_ok o _ ((xs[m].size + 1 : Nat) : Int) H3 hr3 (by omega) (by omega)) ?_
        rintro v H4 ⟨e, rfl, he, hd4, hr4, -⟩
        have he2 : e ≤ xs[m].size := by omega
        simp [he2]
        exact ⟨by omega, hd13.same hd4, hr4.mono (by omega)⟩
      · refine c_split (fun hq4 => ?_) (fun hq4 => ?_) <;> simp at hq4 <;> simp
        · refine c_split (fun hq5 => ?_) (fun hq5 => ?_) <;> simp at hq5 <;> simp
          · have hl3 : Strs (H3 ++ [some ⟨[[.str ⟨#[97]⟩], [.str ⟨#[98]⟩], [.str ⟨#[100]⟩]], 1, 9, false⟩]) (.sl H3.length 0 3) [⟨#[97]⟩, ⟨#[98]⟩, ⟨#[100]⟩] := Strs.at (e := 9) (ro := false) (by simp [strRow]) rfl
            refine cg_ex (of_ok o _ _ _ _ (hr3.le (HLe.self _ _)) hl3 (by simp) (by simp) (by omega)) ?_
            rintro v H4 ⟨s, hs4, rfl, hd4, hr4, -⟩
            have hs1 : s.size = 1 := by
              simp at hs4
              rcases hs4 with h | h | h <;> rw [h] <;> rfl
            simp
            exact ⟨by omega, by omega, (hd13.app _).same hd4, hr4.mono (by omega)⟩
          · exact ⟨hsz, hd13, hr3.mono (by omega)⟩
        · exact ⟨hsz, hd13, hr3.mono (by omega)⟩

theorem putP_mem {k x : ByteArray} {ks : List ByteArray} (h : x ∈ putP k ks) : x = k ∨ x ∈ ks := by
  unfold putP at h
  rcases List.mem_append.1 h with h | h
  · exact .inr ((List.takeWhile_sublist _).subset h)
  · split at h
    · rcases List.mem_cons.1 h with h | h
      · exact .inl h
      · exact .inr ((List.dropWhile_sublist _).subset h)
    · simp at h
theorem putK_mem {k x : ByteArray} {ks : List ByteArray} (h : x ∈ putK k ks) : x = k ∨ x ∈ ks := by
  by_cases hk : k ∈ ks
  · rw [putK_in hk] at h
    exact .inr h
  · rw [putK_out hk] at h
    rcases List.mem_append.1 h with h | h
    · exact putP_mem h
    · split at h
      · simp at h
      · exact .inl (by simpa using h)

theorem l71Keys_ok (o N : Nat) (most : Nat) (H : Hp) (hr : Rd H o N) (hm : most < 1000) (hN : N < 137438953472) :
    AC Tryd.prog E 76 [.pt o 0 0, .int .i64 most] H (fun v H' => ∃ ks, OwnS H H' v ks ∧ ks.length ≤ most ∧ (∀ s ∈ ks, s.size ≤ 5) ∧ Dr o H H' ∧ Rd H' o (N + 1 + 7 * most)) := by
  refine AC_by fol (tC_le tab2_ok) h_spec_l71Keys ?_
  have hw0 := wrapN (i := most) (by omega)
  simp [c_spec_l71Keys, hw0]
  refine cg_ex (pick_ok o N ((most : Int) + 1) _ (hr.le (HLe.self _ _)) (by omega) (by omega)) ?_
  rintro v H1 ⟨n, rfl, hn, hd, hr1, hlen⟩
  have hd0 : Dr o H H1 := ((HLe.self H _).dr o).same hd
  simp
  have hn1 : n ≤ most := by omega
  refine W_for (fun m t H' => ∃ ks v, m ≤ most ∧ t 0 = .pt o 0 0 ∧ t 5 = v ∧ t 6 = .int .i64 m ∧ OwnS H H' v ks ∧ ks.length + m ≤ most ∧ (∀ s ∈ ks, s.size ≤ 5) ∧ Dr o H H' ∧ Rd H' o (N + 1 + 7 * (most - m))) n ?_ (tC_mono AC_mono) ?_
  · refine ⟨[], _, hn1, by simp, by simp; rfl, by simp, ?_, by simpa using hn1, by simp, hd0, hr1.mono (by omega)⟩
    exact OwnM.dr (hr.le (HLe.self _ _)) (OwnM.lit0 (HLe.refl H)) (by decide) hd
  rintro m t H' ⟨ks, v, hm5, h0, h5, h6, hv, hk, hs, hd, hr⟩
  simp [h0, h5, h6]
  refine c_split (fun hq => ?_) (fun hq => ?_) <;> simp at hq
  · have hw : IntKind.i64.wrap ((m : Int) - 1) = ((m - 1 : Nat) : Int) := by rw [wrap64 (by omega) (by omega)]; omega
    simp [h0, h5, h6]
    refine cg_ex (l71Near_ok o _ v ks H' hr hv.strs (by omega) hs (by omega)) ?_
    rintro _ H2 ⟨k, rfl, hk5, hd2, hr2⟩
    have hv2 := OwnM.dr hr hv (by decide) hd2
    simp [h0, h5, h6]
    refine cg_ex (l2Put_ok v k ks H2 hv2.strs (by omega)) ?_
    rintro v3 H3 ⟨hle3, hv3⟩
    have hsz := putK_len k ks
    have hv3' : OwnS H H3 v3 (putK k ks) := by
      rcases hv3 with ⟨rfl, e⟩ | h
      · rw [e]
        exact hv2.le hle3
      · exact h.base (Nat.le_trans hd.len hd2.len)
    simp [h0, h5, h6, hw]
    refine ⟨m - 1, by omega, by omega, rfl, putK k ks, hv3', by omega, fun s hs' => ?_, (hd.same hd2).le_fr hle3, (hr2.le hle3).mono (by omega)⟩
    rcases putK_mem hs' with rfl | h
    · exact hk5
    · exact hs s h
  · have : m = 0 := by omega
    subst this
    simp [h5]
    exact ⟨ks, hv, by omega, hs, hd, hr.mono (by omega)⟩

theorem joinL_mem : ∀ {xs ys : List Ent} {e : Ent}, e ∈ joinL xs ys → e ∈ xs ∨ e ∈ ys
  | xs, [], e, h => .inl h
  | xs, y :: ys, e, h => by
    simp only [joinL] at h
    rcases List.mem_append.1 h with h | h
    · exact .inl ((List.takeWhile_sublist _).subset h)
    · rcases List.mem_cons.1 h with h | h
      · exact .inr (by rw [h]; simp)
      · rcases joinL_mem h with h | h
        · exact .inl ((List.dropWhile_sublist _).subset h)
        · exact .inr (List.mem_cons_of_mem _ h)
theorem l71Run_ok (o N : Nat) (most : Nat) (H : Hp) (hr : Rd H o N) (hm : most < 1000) (hN : N < 68719476736) :
    AC Tryd.prog E 60 [.pt o 0 0, .int .i64 most] H (fun v H' => ∃ es, OwnE H H' v es ∧ runOk es = true ∧ Dr o H H' ∧ Rd H' o (N + 37 + 10 * most)) := by
  refine AC_by fol (tC_le tab2_ok) h_spec_l71Run ?_
  have hw0 := wrapN (i := most) (by omega)
  simp [c_spec_l71Run, hw0]
  refine cg_ex (l71Keys_ok o N 5 H hr (by omega) (by omega)) ?_
  rintro kv H1 ⟨ks, hks, hkl, hksz, hd1, hr1⟩
  simp [hw0]
  refine cg_ex (pick_ok o _ ((most : Int) + 1) _ (hr1.le (HLe.self _ _)) (by omega) (by omega)) ?_
  rintro v H2 ⟨n, rfl, hn, hd2, hr2, hlen⟩
  have hd0 : Dr o H H2 := (hd1.app _).same hd2
  have hn1 : n ≤ most := by omega
  have hks2 : OwnS H H2 kv ks := OwnM.dr (hr1.le (HLe.self _ _)) (hks.le (HLe.self _ _)) (by decide) hd2
  simp
  refine W_for (fun m t H' => ∃ es v, m ≤ most ∧ t 0 = .pt o 0 0 ∧ t 5 = kv ∧ t 6 = v ∧ t 7 = .int .i64 m ∧ OwnE H H' v es ∧ OwnS H H' kv ks ∧ runOk es = true ∧ Dr o H H' ∧ Rd H' o (N + 37 + 10 * (most - m))) n ?_ (tC_mono AC_mono) ?_
  · refine ⟨[], _, hn1, by simp, by simp, by simp; rfl, by simp, ?_, hks2, by simp [runOk], hd0, hr2.mono (by omega)⟩
    exact (OwnM.dr (hr1.le (HLe.self _ _)) (OwnM.lit0 (HLe.refl H1)) (by decide) hd2).base hd1.len
  rintro m t H' ⟨es, v, hm5, h0, h5, h6, h7, hv, hkv, hok, hd, hr⟩
  simp [h0, h5, h6, h7]
  refine c_split (fun hq => ?_) (fun hq => ?_) <;> simp at hq
  · have hw : IntKind.i64.wrap ((m : Int) - 1) = ((m - 1 : Nat) : Int) := by rw [wrap64 (by omega) (by omega)]; omega
    simp [h0, h5, h6, h7]
    refine cg_ex (l71Near_ok o _ kv ks H' hr hkv.strs (by omega) hksz (by omega)) ?_
    rintro _ H2 ⟨k, rfl, hk5, hd2, hr2⟩
    have hkv2 := OwnM.dr hr hkv (by decide) hd2
    have hv2 := OwnM.dr hr hv (by decide) hd2
    simp [h0, h5, h6, h7]
    refine cg_ex (pick_ok o _ 100 _ hr2 (by omega) (by omega)) ?_
    rintro _ H3 ⟨val, rfl, hval, hd3, hr3, -⟩
    have hkv3 := OwnM.dr hr2 hkv2 (by decide) hd3
    have hv3 := OwnM.dr hr2 hv2 (by decide) hd3
    simp [h0, h5, h6, h7]
    refine cg_ex (pick_ok o _ 60 _ hr3 (by omega) (by omega)) ?_
    rintro _ H4 ⟨tm, rfl, htm, hd4, hr4, -⟩
    have hkv4 := OwnM.dr hr3 hkv3 (by decide) hd4
    have hv4 := OwnM.dr hr3 hv3 (by decide) hd4
    have hwt : IntKind.i64.wrap (1 + (tm : Int)) = ((tm + 1 : Nat) : Int) := by rw [wrap64 (by omega) (by omega)]; omega
    simp [h0, h5, h6, h7, hwt]
    refine cg_ex (pick_ok o _ 4 _ (hr4.le (HLe.self _ _)) (by omega) (by omega)) ?_
    rintro _ H5 ⟨g, rfl, hg, hd5, hr5, -⟩
    have ho4 := hr4.lt
    have hat := hd5.2 H4.length _ (show ¬ (H4.length = o) by omega) (Hp.at_app_0.trans Hp.at_0)
    have hb5 := Hp.at_lt hat
    have hkv5 := OwnM.dr (hr4.le (HLe.self _ _)) (hkv4.le (HLe.self _ _)) (by decide) hd5
    have hv5 := OwnM.dr (hr4.le (HLe.self _ _)) (hv4.le (HLe.self _ _)) (by decide) hd5
    have hd05 := (((((hd.same hd2).same hd3).same hd4).app _).same hd5)
    have hl4 := hd.len
    have hl42 := hd2.len
    have hl43 := hd3.len
    have hl44 := hd4.len
    simp [h0, h5, h6, h7, hat]
    have hlen5 := runOk_fits hok
    refine c_split (fun hq3 => ?_) (fun hq3 => ?_) <;> simp at hq3
    · simp [h0, h5, h6, h7, hat, Hp.at_set _ hb5]
      have hf6 : Fr (fun x => x = H4.length) H5 (List.set H5 H4.length (some ⟨[[.str k, .int .i64 0, .bool true, .int .i64 ((tm : Int) + 1)]], 4, 59, false⟩)) := (Fr.refl (fun x => x = H4.length) H5).set (.inl rfl) _
      have hl6 : (List.set H5 H4.length (some ⟨[[.str k, .int .i64 0, .bool true, .int .i64 ((tm : Int) + 1)]], 4, 59, false⟩)).length = H5.length := by simp
      have hd06 := hd05.trans hf6 (fun x hx => .inr (by subst hx; omega))
      have hv6 := hv5.fr hf6 (fun x hx => by have := hv4.1.lt hx; omega)
      have hkv6 := hkv5.fr hf6 (fun x hx => by have := hkv4.1.lt hx; omega)
      have hr6 := hr5.fr hf6 (by omega) (fun x ob hx hh => by subst hx; rw [hat] at hh; cases hh; simp)
      refine cg_ex (l11Join_ok v (.sl H5.length 0 1) es [⟨k, 0, true, ((tm + 1 : Nat) : Int)⟩] (List.set H5 H4.length (some ⟨[[.str k, .int .i64 0, .bool true, .int .i64 ((tm : Int) + 1)]], 4, 59, false⟩) ++ [some ⟨[entRow ⟨k, 0, true, ((tm + 1 : Nat) : Int)⟩], 4, 59, false⟩]) (hv6.ents.le (HLe.self _ _)) (Rows.whole (ob := ⟨[entRow ⟨k, 0, true, ((tm + 1 : Nat) : Int)⟩], 4, 59, false⟩) (by rw [← hl6]; exact Hp.at_app_0.trans Hp.at_0)) (by simp; omega)) ?_
      rintro v7 H7 ⟨hle7, hv7⟩
      have hle67 := (HLe.self (List.set H5 H4.length (some ⟨[[.str k, .int .i64 0, .bool true, .int .i64 ((tm : Int) + 1)]], 4, 59, false⟩)) [some ⟨[entRow ⟨k, 0, true, ((tm + 1 : Nat) : Int)⟩], 4, 59, false⟩]).trans hle7
      have hd7 := hd06.le_fr hle67
      have hr7 := hr6.le hle67
      have hlen7 := joinL_len es [⟨k, 0, true, ((tm + 1 : Nat) : Int)⟩]
      simp only [List.length_singleton] at hlen7
      have hsh : Short (joinL es [⟨k, 0, true, ((tm + 1 : Nat) : Int)⟩]) := by
        intro x hx
        rcases joinL_mem hx with h | h
        · exact (runOk_fits hok).1.short x h
        · rw [List.mem_singleton.1 h]; show k.size < _; omega
      simp [h0, h5, h6, h7]
      refine cg_use (RunOk_ok v7 (joinL es [⟨k, 0, true, ((tm + 1 : Nat) : Int)⟩]) H7 hv7.ents hsh (by omega)) ?_
      simp [h0, h5, h6, h7]
      refine c_split (fun hq4 => ?_) (fun hq4 => ?_) <;> simp [h0, h5, h6, h7, hw]
      · refine ⟨m - 1, by omega, by omega, rfl, joinL es [⟨k, 0, true, ((tm + 1 : Nat) : Int)⟩], hv7.base (by simp; omega), hkv6.le hle67, hq4, hd7, hr7.mono (by omega)⟩
      · exact ⟨m - 1, by omega, by omega, rfl, es, hv6.le hle67, hkv6.le hle67, hok, hd7, hr7.mono (by omega)⟩
    · simp [h0, h5, h6, h7, hat]
      have hl6 : H5.length = H5.length := rfl
      have hd06 := hd05
      have hv6 := hv5
      have hkv6 := hkv5
      have hr6 := hr5
      refine cg_ex (l11Join_ok v (.sl H5.length 0 1) es [⟨k, val, false, ((tm + 1 : Nat) : Int)⟩] (H5 ++ [some ⟨[entRow ⟨k, val, false, ((tm + 1 : Nat) : Int)⟩], 4, 59, false⟩]) (hv6.ents.le (HLe.self _ _)) (Rows.whole (ob := ⟨[entRow ⟨k, val, false, ((tm + 1 : Nat) : Int)⟩], 4, 59, false⟩) (by rw [← hl6]; exact Hp.at_app_0.trans Hp.at_0)) (by simp; omega)) ?_
      rintro v7 H7 ⟨hle7, hv7⟩
      have hle67 := (HLe.self (H5) [some ⟨[entRow ⟨k, val, false, ((tm + 1 : Nat) : Int)⟩], 4, 59, false⟩]).trans hle7
      have hd7 := hd06.le_fr hle67
      have hr7 := hr6.le hle67
      have hlen7 := joinL_len es [⟨k, val, false, ((tm + 1 : Nat) : Int)⟩]
      simp only [List.length_singleton] at hlen7
      have hsh : Short (joinL es [⟨k, val, false, ((tm + 1 : Nat) : Int)⟩]) := by
        intro x hx
        rcases joinL_mem hx with h | h
        · exact (runOk_fits hok).1.short x h
        · rw [List.mem_singleton.1 h]; show k.size < _; omega
      simp [h0, h5, h6, h7]
      refine cg_use (RunOk_ok v7 (joinL es [⟨k, val, false, ((tm + 1 : Nat) : Int)⟩]) H7 hv7.ents hsh (by omega)) ?_
      simp [h0, h5, h6, h7]
      refine c_split (fun hq4 => ?_) (fun hq4 => ?_) <;> simp [h0, h5, h6, h7, hw]
      · refine ⟨m - 1, by omega, by omega, rfl, joinL es [⟨k, val, false, ((tm + 1 : Nat) : Int)⟩], hv7.base (by simp; omega), hkv6.le hle67, hq4, hd7, hr7.mono (by omega)⟩
      · exact ⟨m - 1, by omega, by omega, rfl, es, hv6.le hle67, hkv6.le hle67, hok, hd7, hr7.mono (by omega)⟩
  · have : m = 0 := by omega
    subst this
    simp [h6]
    exact ⟨es, hv, hok, hd, hr.mono (by omega)⟩

end Go.Proofs.YtiecldkihdebiaaDoor.B

namespace Go.Proofs.YtiecldkihdebiaaDoor.B
open Go.RowKit Go.Proofs
set_option linter.unusedVariables false
set_option linter.unusedSimpArgs false
variable {E : Env}

theorem runText_le {r : List Ent} (h : runOk r = true) : (runText r).size ≤ 41720 := by
  obtain ⟨h1, h2, h3⟩ := runOk_fits h
  have := runText_size r (fun e he => ⟨h1 e he, by have := h3 e he; omega⟩) r.length (Nat.le_refl _)
  rw [List.take_length] at this
  omega

/-- Another byte, another sum. -/
theorem fold_ne (l : List UInt8) : ∀ a b : Int, 0 ≤ a ∧ a < 9973 → 0 ≤ b ∧ b < 9973 → a ≠ b → l.foldl (fun n b => (n * 31 + (b.toNat : Int) + 1) % 9973) a ≠ l.foldl (fun n b => (n * 31 + (b.toNat : Int) + 1) % 9973) b := by
  induction l with
  | nil => intro a b _ _ h; exact h
  | cons x l ih =>
    intro a b ha hb h
    exact ih _ _ (by dsimp only; omega) (by dsimp only; omega) (by dsimp only; omega)
theorem fold_bd (l : List UInt8) : ∀ a : Int, 0 ≤ a ∧ a < 9973 → 0 ≤ l.foldl (fun n b => (n * 31 + (b.toNat : Int) + 1) % 9973) a ∧ l.foldl (fun n b => (n * 31 + (b.toNat : Int) + 1) % 9973) a < 9973 := by
  induction l with
  | nil => intro a h; exact h
  | cons x l ih =>
    intro a ha
    exact ih _ (by dsimp only; omega)
theorem sumB_other (s : ByteArray) (i : Nat) (hi : i < s.size) (c : UInt8) (hc : (c.toNat : Int) ≠ bt s i) : sumB (s.extract 0 i ++ lit1 c ++ s.extract (i + 1) s.size) ≠ sumB s := by
  have hl : s.data.toList.length = s.size := Array.length_toList
  have e1 : s.data.toList = s.data.toList.take i ++ s.data.toList[i] :: s.data.toList.drop (i + 1) := by
    rw [← List.drop_eq_getElem_cons (by omega), List.take_append_drop]
  have e2 : (s.extract 0 i ++ lit1 c ++ s.extract (i + 1) s.size).data.toList = s.data.toList.take i ++ c :: s.data.toList.drop (i + 1) := by
    have h9 : s.data.size = s.size := rfl
    simp [lit1, ByteArray.data_append, ByteArray.data_extract, Array.toList_extract, List.extract_eq_take_drop]
    rw [List.take_of_length_le (by simp)]
  unfold sumB
  rw [e2]
  conv => rhs; rw [e1]
  rw [List.foldl_append, List.foldl_append, List.foldl_cons, List.foldl_cons]
  have hb := bt_at (s := s) (i := i) (by omega)
  have f := fold_bd (s.data.toList.take i) 7 (by omega)
  have c1 := c.toNat_lt
  have c2 := (s.data.toList[i]).toNat_lt
  refine fold_ne _ _ _ (by omega) (by omega) ?_
  omega

theorem Ty.bytes {H : Hp} {v : AV} (h : Ty H (.kl [.ki .u8]) v) : ∃ bs : List Int, Bytes H v bs ∧ bs.length ≤ 140737488351232 := by
  obtain ⟨rows, h1, h2, h3⟩ := h.sl
  obtain ⟨xs, rfl, hq⟩ := rows_map (f := byteRow) (Q := fun n => 0 ≤ n ∧ n < 256) (fun r hr => by
    obtain ⟨v, us, rfl, a1, a2⟩ := (h3 r hr).cons
    obtain ⟨n, rfl, hn⟩ := a1.u8
    rw [a2.nil]
    exact ⟨n, rfl, hn⟩)
  exact ⟨xs, ⟨h1, hq⟩, by simpa using h2⟩

end Go.Proofs.YtiecldkihdebiaaDoor.B

namespace Go.Proofs.YtiecldkihdebiaaDoor.B
open Go.RowKit
set_option linter.unusedVariables false
set_option linter.unusedSimpArgs false

/-! ### Runs -/

/-- Can an entry be found at some times, or now, if the one ahead of it is so. -/
def seenB (times : List Int) (p : Option Ent) (e : Ent) : Bool :=
  match p with
  | none => true
  | some q => !decide (q.key = e.key) || times.any fun t => decide (e.time ≤ t) && decide (t < q.time)
def trim1 (times : List Int) : Option Ent → List Ent → List Ent
  | _, [] => []
  | p, e :: es => if seenB times p e = true then e :: trim1 times (some e) es else trim1 times (some e) es
/-- Is an entry its key's last one. -/
def lastB (e : Ent) : List Ent → Bool
  | [] => true
  | f :: _ => !decide (f.key = e.key)
/-- What was taken away at last is left out. -/
def drop1 : List Ent → List Ent
  | [] => []
  | e :: es => if (!e.gone || !lastB e es) = true then e :: drop1 es else drop1 es
/-- Does the one ahead have another key. -/
def newK (p : Option Ent) (e : Ent) : Bool :=
  match p with
  | none => true
  | some q => !decide (q.key = e.key)
def trimR (r : List Ent) (times : List Int) (bottom : Bool) : List Ent := if bottom = true then drop1 (trim1 times none r) else trim1 times none r
def keys1 : Option Ent → List Ent → List ByteArray
  | _, [] => []
  | p, e :: es => if newK p e = true then e.key :: keys1 (some e) es else keys1 (some e) es
/-- The keys of a run. -/
def keysR (r : List Ent) : List ByteArray := keys1 none r
/-- What was put last of a key up to a time. -/
def atR (k : ByteArray) (time : Int) : List Ent → Option Ent
  | [] => none
  | e :: es => if e.key = k ∧ e.time ≤ time then some e else atR k time es
def newE (below : List Ent) (time : Int) (e : Ent) : Bool := decide (e.time ≤ time) && (match atR e.key 999 below with | none => true | some f => decide (f.time < e.time))
def newestR (below : List Ent) (time : Int) : List Ent → Bool
  | [] => true
  | e :: es => newE below time e && newestR below time es
def asc1 (now : Int) : Option Int → List Int → Bool
  | _, [] => true
  | p, t :: ts => decide (0 ≤ t) && decide (t ≤ now) && (match p with | none => true | some q => decide (q < t)) && asc1 now (some t) ts
def timesR (ts : List Int) (now : Int) : Bool := asc1 now none ts && decide (ts.length ≤ 3)

/-! ### Sieves -/
structure Sv where
  l : ByteArray
  m : ByteArray
  f : ByteArray
  r : List ByteArray
  k : Int
deriving DecidableEq, Inhabited

/-- A key's letter at a place, - at its end. -/
def letter (k : ByteArray) (d : Nat) : UInt8 := if h : d < k.size then k.data[d] else 45
/-- Keys of the same letter as the first one. -/
def grp (d : Nat) (ks : List ByteArray) : List ByteArray :=
  match ks with
  | [] => []
  | k :: _ => ks.filter fun x => letter x d == letter k d
theorem grp_pos (d : Nat) (k : ByteArray) (ks : List ByteArray) : 0 < (grp d (k :: ks)).length := by
  simp [grp]
/-- The branches of a fork. -/
def brs (d : Nat) : List ByteArray → List (List ByteArray)
  | [] => []
  | k :: ks => grp d (k :: ks) :: brs d ((k :: ks).drop (grp d (k :: ks)).length)
termination_by ks => ks.length
decreasing_by
  have := grp_pos d k ks
  simp only [List.length_drop, List.length_cons]
  omega
/-- What is kept of a key behind so many letters. -/
def restK (k : ByteArray) (d : Nat) (keep : Int) : ByteArray := (k.extract d k.size).extract 0 (min (k.size - d) keep.toNat)
abbrev Fk := List ByteArray × Nat
def many (g : List ByteArray) : Bool := decide (1 < g.length)
/-- A branch behind others. -/
def addB (d : Nat) (first : Bool) (s : Sv) (g : List ByteArray) : Sv :=
  { s with
    l := s.l ++ lit1 (letter (g.headD ⟨#[]⟩) d)
    f := s.f ++ lit1 (if first = true then 49 else 48)
    m := s.m ++ lit1 (if many g = true then 49 else 48)
    r := if many g = true then s.r else s.r ++ [restK (g.headD ⟨#[]⟩) (d + 1) s.k] }
def addBs (d : Nat) : Bool → Sv → List (List ByteArray) → Sv
  | _, s, [] => s
  | b, s, g :: gs => addBs d false (addB d b s g) gs
def subs (d : Nat) (gs : List (List ByteArray)) : List Fk := (gs.filter many).map fun g => (g, d + 1)
/-- Fork by fork. -/
def bfs : Nat → List Fk → Sv → Sv
  | 0, _, s => s
  | _ + 1, [], s => s
  | n + 1, (ks, d) :: q, s => bfs n (q ++ subs d (brs d ks)) (addBs d true s (brs d ks))
def sieveR (ks : List ByteArray) (keep : Int) : Sv := bfs 500 [(ks, 0)] ⟨⟨#[]⟩, ⟨#[]⟩, ⟨#[]⟩, [], keep⟩
def sieveO (ks : List ByteArray) (keep : Int) : Option Sv := if keysOk ks = true ∧ 0 ≤ keep ∧ keep ≤ 5 then some (sieveR ks keep) else none

/-! ### Stores -/
structure Sr where
  top : List Ent
  lev : List (List Ent)
  sv : List Sv
  keep : Int
  time : Int
  tms : List Int
deriving DecidableEq, Inhabited

def sizeL (i : Nat) : Nat := 8 * (i + 1)
def levelOk (s : Sr) (i : Nat) : Bool := runOk (s.lev.getD i []) && decide ((s.lev.getD i []).length ≤ sizeL i) && decide (sieveO (keysR (s.lev.getD i [])) s.keep = some (s.sv.getD i default))
def lowOk (s : Sr) (i k : Nat) : Bool := newestR (s.lev.getD k []) s.time (s.lev.getD i [])
def okAt (s : Sr) (i : Nat) : Prop := levelOk s i = true ∧ newestR (s.lev.getD i []) s.time s.top = true ∧ ∀ k, k < 3 → i < k → lowOk s i k = true
instance decOkAt (s : Sr) (i : Nat) : Decidable (okAt s i) := by unfold okAt; infer_instance
def headOk (s : Sr) : Bool := decide (s.lev.length = 3) && decide (s.sv.length = 3) && decide (0 ≤ s.keep ∧ s.keep ≤ 5) && decide (0 ≤ s.time ∧ s.time ≤ 999) && timesR s.tms s.time
def storeOk (s : Sr) : Bool := headOk s && (runOk s.top && decide (s.top.length ≤ 4)) && decide (okAt s 0 ∧ okAt s 1 ∧ okAt s 2)

def setR (s : Sr) (i : Nat) (r : List Ent) : Option Sr :=
  match sieveO (keysR r) s.keep with
  | none => none
  | some x => if r.length ≤ sizeL i then some { s with lev := s.lev.set i r, sv := s.sv.set i x } else none
/-- A run into the level that has so many below it. -/
def intoR : Nat → Sr → List Ent → Option Sr
  | 0, s, r => setR s 2 (trimR (joinL r (s.lev.getD 2 [])) s.tms true)
  | n + 1, s, r =>
    match setR s (1 - n) (trimR (joinL r (s.lev.getD (1 - n) [])) s.tms false) with
    | some x => some x
    | none => match intoR n s (s.lev.getD (1 - n) []) with
      | none => none
      | some x => setR x (1 - n) (trimR r x.tms false)
def downR (s : Sr) : Option Sr := intoR 2 { s with top := [] } s.top
def addR (s : Sr) (e : Ent) : Option Sr :=
  if (storeOk s && entOk e) = true then
    match (if 4 ≤ s.top.length then downR s else some s) with
    | none => none
    | some x => some { x with top := joinL [e] x.top, time := e.time }
  else none
def putR (s : Sr) (k : ByteArray) (v : Int) : Option Sr := addR s ⟨k, v, false, s.time + 1⟩
def takeR (s : Sr) (k : ByteArray) : Option Sr := addR s ⟨k, 0, true, s.time + 1⟩
def holdR (s : Sr) : Option Sr :=
  if storeOk s = true then
    let ts := if s.tms.getLast? = some s.time then s.tms else s.tms ++ [s.time]
    if timesR ts s.time = true then some { s with tms := ts } else none
  else none
def freeR (s : Sr) (t : Int) : Option Sr :=
  if storeOk s = true then
    let ts := s.tms.filter fun x => !decide (x = t)
    if ts.length = s.tms.length then none else some { s with tms := ts }
  else none
def letR (s : Sr) : Option Sr := if storeOk s = true then downR s else none
def joinR (s : Sr) (l : Int) : Option Sr :=
  if storeOk s = true ∧ 0 ≤ l ∧ l ≤ 1 then
    match setR s l.toNat [] with
    | none => none
    | some x => intoR (1 - l.toNat) x (s.lev.getD l.toNat [])
  else none
structure Dd where
  kind : Int
  key : ByteArray
  num : Int
deriving DecidableEq, Inhabited
def ddAV (d : Dd) : AV := .ag [.int .i64 d.kind, .str d.key, .int .i64 d.num]
def doR (s : Sr) (d : Dd) : Option Sr :=
  if d.kind = 1 then putR s d.key d.num else if d.kind = 2 then takeR s d.key else if d.kind = 3 then holdR s else if d.kind = 4 then freeR s d.num
  else if d.kind = 5 then letR s else if d.kind = 6 then joinR s d.num else none
def doAll (s : Sr) (ds : List Dd) : Sr := ds.foldl (fun s d => (doR s d).getD s) s
def pastR (s : Sr) (ds : List Dd) : Option Sr := if (storeOk s && decide (ds.length ≤ 40)) = true then some (doAll s ds) else none
def newR (keep : Int) : Option Sr := if 0 ≤ keep ∧ keep ≤ 5 then some ⟨[], [[], [], []], List.replicate 3 ⟨⟨#[]⟩, ⟨#[]⟩, ⟨#[]⟩, [], keep⟩, keep, 0, []⟩ else none

end Go.Proofs.YtiecldkihdebiaaDoor.B

namespace Go.Proofs.YtiecldkihdebiaaDoor.B
open Go.RowKit Go.Proofs
set_option linter.unusedVariables false
set_option linter.unusedSimpArgs false
variable {E : Env}

theorem in_ok (n l h : Int) (H : Hp) : AC Tryd.prog E 44 [.int .i64 n, .int .i64 l, .int .i64 h] H (fun v H' => v = .bool (decide (l ≤ n ∧ n ≤ h)) ∧ H' = H) := by
  refine AC_by fol (CLe.refl (AC Tryd.prog E)) h_impl_in ?_
  simp [c_impl_in]
  refine g_split (fun hq => ?_) (fun hq => ?_) (by simp) <;> simp at hq <;> simp [hq]
  omega
theorem implKey_ok (k : ByteArray) (H : Hp) (hk : k.size < 4611686018427387904) : AC Tryd.prog E 45 [.str k] H (fun v H' => v = .bool (keyOk k) ∧ H' = H) := by
  refine AC_byp (tC_le tab0_ok) h_impl_KeyOk (by simp) ?_
  simp [c_impl_KeyOk]
  refine W_for (fun m t H' => ∃ i : Nat, i + m = k.size ∧ t 0 = .str k ∧ t 5 = .int .i64 k.size ∧ t 6 = .int .i64 i ∧ (∀ j : Nat, j < i → 97 ≤ bt k j ∧ bt k j ≤ 100) ∧ H' = H) k.size ?_ (tC_mono AC_mono) ?_
  · exact ⟨0, by simp⟩
  rintro m t H' ⟨i, him, h0, h5, h6, hI, rfl⟩
  simp [h0, h5, h6]
  refine c_split (fun hq => ?_) (fun hq => ?_) <;> simp at hq
  · have hw := wrapN (i := i) (by omega)
    simp [h0, h5, h6, hq]
    refine g_split (fun hq2 => ?_) (fun hq2 => ?_) (by simp) <;> simp at hq2 <;> simp [hq2, h0, h5, h6, hq]
    · simp only [keyOk, decide_eq_false_iff_not]
      intro hh
      have := hh.1 i hq
      omega
    · refine c_split (fun hq3 => ?_) (fun hq3 => ?_) <;> simp at hq3 <;> simp [h0, h5, h6, hw]
      · simp only [keyOk, decide_eq_false_iff_not]
        intro hh
        have := hh.1 i hq
        omega
      · refine ⟨m - 1, by omega, i + 1, by omega, rfl, fun j hj => ?_⟩
        rcases Nat.lt_or_ge j i with h | h
        · exact hI j h
        · have : j = i := by omega
          subst this
          omega
  · have : i = k.size := by omega
    subst this
    simp [h0]
    simp only [keyOk, decide_eq_decide]
    exact ⟨fun h => ⟨hI, by omega⟩, fun h => by omega⟩
theorem keyed_ok (n : Int) (H : Hp) : AC Tryd.prog E 36 [.int .i64 n] H (fun v H' => v = .bool (decide (n = 1 ∨ n = 2)) ∧ H' = H) := by
  refine AC_by fol (CLe.refl (AC Tryd.prog E)) h_impl_keyed ?_
  simp [c_impl_keyed]
  refine g_split (fun hq => ?_) (fun hq => ?_) (by simp) <;> simp at hq <;> simp [hq]
theorem counted_ok (n : Int) (H : Hp) : AC Tryd.prog E 38 [.int .i64 n] H (fun v H' => v = .bool (decide (n = 1 ∨ n = 4 ∨ n = 6)) ∧ H' = H) := by
  refine AC_by fol (CLe.refl (AC Tryd.prog E)) h_impl_counted ?_
  simp [c_impl_counted]
  refine g_split (fun hq => ?_) (fun hq => ?_) (by simp) <;> simp at hq <;> simp [hq]
  refine g_split (fun hq2 => ?_) (fun hq2 => ?_) (by simp) <;> simp at hq2 <;> simp [hq2]

end Go.Proofs.YtiecldkihdebiaaDoor.B

namespace Go.Proofs.YtiecldkihdebiaaDoor.B
open Go.RowKit Go.Proofs
set_option linter.unusedVariables false
set_option linter.unusedSimpArgs false
variable {E : Env}

/-- The words of deeds. -/
def dWords : List ByteArray := [⟨#[]⟩, ⟨#[112, 117, 116]⟩, ⟨#[116, 97, 107, 101]⟩, ⟨#[104, 111, 108, 100]⟩, ⟨#[102, 114, 101, 101]⟩, ⟨#[100, 111, 119, 110]⟩, ⟨#[106, 111, 105, 110]⟩]
def dWord (k : Int) : ByteArray := (dWords[k.toNat]?).getD ⟨#[]⟩
def dKeyed (k : Int) : Bool := decide (k = 1 ∨ k = 2)
def dCounted (k : Int) : Bool := decide (k = 1 ∨ k = 4 ∨ k = 6)
def deedOk (d : Dd) : Bool := decide (1 ≤ d.kind ∧ d.kind ≤ 6) && (keyOk d.key && decide (0 ≤ d.num ∧ d.num ≤ 999) && (dKeyed d.kind || decide (d.key = ⟨#[]⟩)) && (dCounted d.kind || decide (d.num = 0)))
def deedT (d : Dd) : ByteArray := if deedOk d = true then dWord d.kind ++ (if dKeyed d.kind = true then ⟨#[32, 46]⟩ ++ d.key else ⟨#[]⟩) ++ (if dCounted d.kind = true then ⟨#[32]⟩ ++ dec d.num else ⟨#[]⟩) else ⟨#[]⟩
theorem ba_nil (b : ByteArray) : b ++ (⟨#[]⟩ : ByteArray) = b := ByteArray.append_empty
theorem keyOk_nil : keyOk ⟨#[]⟩ = true := by
  simp only [keyOk, decide_eq_true_eq]
  exact ⟨fun i h => absurd h (Nat.not_lt_zero _), Nat.zero_le _⟩
theorem keyOk_size {k : ByteArray} (h : keyOk k = true) : k.size ≤ 5 := by
  simp only [keyOk, decide_eq_true_eq] at h
  exact h.2
theorem l31Names_ok (H : Hp) : AC Tryd.prog E 31 [] H (fun v H' => v = .sl H.length 0 7 ∧ H' = H ++ [some ⟨dWords.map strRow, 1, 9, false⟩]) := by
  refine AC_by fol (tC_le tab2_ok) h_spec_l31Names ?_
  simp [c_spec_l31Names, dWords, strRow]

theorem specDeedText_ok (d : Dd) (H : Hp) (hk : d.key.size < 4611686018427387904) : AC Tryd.prog E 17 [ddAV d] H (fun v H' => v = .str (deedT d) ∧ H' = H) := by
  refine AC_byp (tC_le tab2_ok) h_spec_DeedText (by simp) ?_
  obtain ⟨kind, key, num⟩ := d
  simp only at hk
  have hkey : ∀ {C : CallP} {d : Option Nat} {ag} {p : Plan} {t : Tm} {H : Hp} {K : Tm → Hp → Prop}, _ := @fun C d ag p t H K => tab2_key C d ag p t H K key hk
  obtain ⟨H1, hH1⟩ : ∃ H1 : Hp, H1 = H ++ [some ⟨[[.int .i64 kind, .str key, .int .i64 num]], 3, 23, false⟩] := ⟨_, rfl⟩
  have hle1 : HLe H H1 := by rw [hH1]; exact HLe.self _ _
  have b0 : H1.at H.length = some ⟨[[.int .i64 kind, .str key, .int .i64 num]], 3, 23, false⟩ := by rw [hH1]; simp
  have b1 := (HLe.self H1 [some ⟨dWords.map strRow, 1, 9, false⟩]).2 _ _ b0
  have b2 : Hp.at (H1 ++ [some ⟨dWords.map strRow, 1, 9, false⟩]) H1.length = some ⟨dWords.map strRow, 1, 9, false⟩ := Hp.at_app_0.trans Hp.at_0
  have hleF : HLe H (H1 ++ [some ⟨dWords.map strRow, 1, 9, false⟩]) := hle1.app _
  by_cases hr : 1 ≤ kind ∧ kind ≤ 6
  · have h6 : kind = 1 ∨ kind = 2 ∨ kind = 3 ∨ kind = 4 ∨ kind = 5 ∨ kind = 6 := by omega
    rcases h6 with rfl | rfl | rfl | rfl | rfl | rfl
    · simp [c_spec_DeedText, ddAV, ← hH1, b0, hkey]
      cases hko : keyOk key with
      | false => simp [hko, b0, hle1, deedT, deedOk]
      | true =>
      have hks := keyOk_size hko
      by_cases hnm : 0 ≤ num ∧ num ≤ 999
      case neg =>
        have hnm' : 0 ≤ num → 999 < num := by omega
        simp [hnm, hko, b0, hle1, deedT, deedOk]
      have hds := dec_size num ⟨by omega, by omega⟩
      simp [hko, b0, hnm.1, hnm.2]
      refine cg_use (l31Names_ok H1) ?_
      have rk : (dWords.map strRow)[1]? = some [.str ⟨#[112, 117, 116]⟩] := rfl
      have w1 : (⟨#[112, 117, 116]⟩ : ByteArray).size = 3 := rfl
      have w2 : (⟨#[32, 46]⟩ : ByteArray).size = 2 := rfl
      have w3 : (⟨#[32]⟩ : ByteArray).size = 1 := rfl
      simp [b1, b2, rk]
      have hn : deedT ⟨1, key, num⟩ = ⟨#[112, 117, 116]⟩ ++ ⟨#[32, 46]⟩ ++ key ++ ⟨#[32]⟩ ++ dec num := by
        have e : deedT ⟨1, key, num⟩ = ⟨#[112, 117, 116]⟩ ++ (⟨#[32, 46]⟩ ++ key) ++ (⟨#[32]⟩ ++ dec num) := by
          unfold deedT
          rw [if_pos (by simp [deedOk, dKeyed, dCounted, hko, hnm.1, hnm.2])]
          rfl
        rw [e]
        simp only [← ByteArray.append_assoc, ba_nil]
      refine ⟨by omega, by omega, by omega, cg_use (l6Dec_ok num _ ⟨by omega, by omega⟩) ?_⟩
      simp [hn, hleF]
      omega
    · simp [c_spec_DeedText, ddAV, ← hH1, b0, hkey]
      cases hko : keyOk key with
      | false => simp [hko, b0, hle1, deedT, deedOk]
      | true =>
      have hks := keyOk_size hko
      by_cases hnm : num = 0
      case neg => simp [hnm, hko, b0, hle1, deedT, deedOk, dCounted]
      subst hnm
      simp [hko, b0]
      refine cg_use (l31Names_ok H1) ?_
      have rk : (dWords.map strRow)[2]? = some [.str ⟨#[116, 97, 107, 101]⟩] := rfl
      have w1 : (⟨#[116, 97, 107, 101]⟩ : ByteArray).size = 4 := rfl
      have w2 : (⟨#[32, 46]⟩ : ByteArray).size = 2 := rfl
      have w3 : (⟨#[32]⟩ : ByteArray).size = 1 := rfl
      simp [b1, b2, rk]
      have hn : deedT ⟨2, key, 0⟩ = ⟨#[116, 97, 107, 101]⟩ ++ ⟨#[32, 46]⟩ ++ key := by
        have e : deedT ⟨2, key, 0⟩ = ⟨#[116, 97, 107, 101]⟩ ++ (⟨#[32, 46]⟩ ++ key) ++ ⟨#[]⟩ := by
          unfold deedT
          rw [if_pos (by simp [deedOk, dKeyed, dCounted, hko])]
          rfl
        rw [e]
        simp only [← ByteArray.append_assoc, ba_nil]
        try rfl
      exact ⟨by omega, by omega, hn.symm, hleF⟩
    · simp [c_spec_DeedText, ddAV, ← hH1, b0, hkey]
      by_cases hky : key = ⟨#[]⟩
      case neg => simp [hky, b0, hle1, deedT, deedOk, dKeyed]
      subst hky
      have hko := keyOk_nil
      by_cases hnm : num = 0
      case neg => simp [hnm, hko, b0, hle1, deedT, deedOk, dCounted]
      subst hnm
      simp [hko, b0]
      refine cg_use (l31Names_ok H1) ?_
      have rk : (dWords.map strRow)[3]? = some [.str ⟨#[104, 111, 108, 100]⟩] := rfl
      have w1 : (⟨#[104, 111, 108, 100]⟩ : ByteArray).size = 4 := rfl
      have w2 : (⟨#[32, 46]⟩ : ByteArray).size = 2 := rfl
      have w3 : (⟨#[32]⟩ : ByteArray).size = 1 := rfl
      simp [b1, b2, rk]
      have hn : deedT ⟨3, ⟨#[]⟩, 0⟩ = ⟨#[104, 111, 108, 100]⟩ := by
        have e : deedT ⟨3, ⟨#[]⟩, 0⟩ = ⟨#[104, 111, 108, 100]⟩ ++ ⟨#[]⟩ ++ ⟨#[]⟩ := by
          unfold deedT
          rw [if_pos (by simp [deedOk, dKeyed, dCounted, hko])]
          rfl
        rw [e]
        simp only [← ByteArray.append_assoc, ba_nil]
        try rfl
      exact ⟨hn.symm, hleF⟩
    · simp [c_spec_DeedText, ddAV, ← hH1, b0, hkey]
      by_cases hky : key = ⟨#[]⟩
      case neg => simp [hky, b0, hle1, deedT, deedOk, dKeyed]
      subst hky
      have hko := keyOk_nil
      by_cases hnm : 0 ≤ num ∧ num ≤ 999
      case neg =>
        have hnm' : 0 ≤ num → 999 < num := by omega
        simp [hnm, hko, b0, hle1, deedT, deedOk]
      have hds := dec_size num ⟨by omega, by omega⟩
      simp [hko, b0, hnm.1, hnm.2]
      refine cg_use (l31Names_ok H1) ?_
      have rk : (dWords.map strRow)[4]? = some [.str ⟨#[102, 114, 101, 101]⟩] := rfl
      have w1 : (⟨#[102, 114, 101, 101]⟩ : ByteArray).size = 4 := rfl
      have w2 : (⟨#[32, 46]⟩ : ByteArray).size = 2 := rfl
      have w3 : (⟨#[32]⟩ : ByteArray).size = 1 := rfl
      simp [b1, b2, rk]
      have hn : deedT ⟨4, ⟨#[]⟩, num⟩ = ⟨#[102, 114, 101, 101]⟩ ++ ⟨#[32]⟩ ++ dec num := by
        have e : deedT ⟨4, ⟨#[]⟩, num⟩ = ⟨#[102, 114, 101, 101]⟩ ++ ⟨#[]⟩ ++ (⟨#[32]⟩ ++ dec num) := by
          unfold deedT
          rw [if_pos (by simp [deedOk, dKeyed, dCounted, hko, hnm.1, hnm.2])]
          rfl
        rw [e]
        simp only [← ByteArray.append_assoc, ba_nil]
        try rfl
      refine ⟨by omega, cg_use (l6Dec_ok num _ ⟨by omega, by omega⟩) ?_⟩
      simp [hn, hleF]
      omega
    · simp [c_spec_DeedText, ddAV, ← hH1, b0, hkey]
      by_cases hky : key = ⟨#[]⟩
      case neg => simp [hky, b0, hle1, deedT, deedOk, dKeyed]
      subst hky
      have hko := keyOk_nil
      by_cases hnm : num = 0
      case neg => simp [hnm, hko, b0, hle1, deedT, deedOk, dCounted]
      subst hnm
      simp [hko, b0]
      refine cg_use (l31Names_ok H1) ?_
      have rk : (dWords.map strRow)[5]? = some [.str ⟨#[100, 111, 119, 110]⟩] := rfl
      have w1 : (⟨#[100, 111, 119, 110]⟩ : ByteArray).size = 4 := rfl
      have w2 : (⟨#[32, 46]⟩ : ByteArray).size = 2 := rfl
      have w3 : (⟨#[32]⟩ : ByteArray).size = 1 := rfl
      simp [b1, b2, rk]
      have hn : deedT ⟨5, ⟨#[]⟩, 0⟩ = ⟨#[100, 111, 119, 110]⟩ := by
        have e : deedT ⟨5, ⟨#[]⟩, 0⟩ = ⟨#[100, 111, 119, 110]⟩ ++ ⟨#[]⟩ ++ ⟨#[]⟩ := by
          unfold deedT
          rw [if_pos (by simp [deedOk, dKeyed, dCounted, hko])]
          rfl
        rw [e]
        simp only [← ByteArray.append_assoc, ba_nil]
        try rfl
      exact ⟨hn.symm, hleF⟩
    · simp [c_spec_DeedText, ddAV, ← hH1, b0, hkey]
      by_cases hky : key = ⟨#[]⟩
      case neg => simp [hky, b0, hle1, deedT, deedOk, dKeyed]
      subst hky
      have hko := keyOk_nil
      by_cases hnm : 0 ≤ num ∧ num ≤ 999
      case neg =>
        have hnm' : 0 ≤ num → 999 < num := by omega
        simp [hnm, hko, b0, hle1, deedT, deedOk]
      have hds := dec_size num ⟨by omega, by omega⟩
      simp [hko, b0, hnm.1, hnm.2]
      refine cg_use (l31Names_ok H1) ?_
      have rk : (dWords.map strRow)[6]? = some [.str ⟨#[106, 111, 105, 110]⟩] := rfl
      have w1 : (⟨#[106, 111, 105, 110]⟩ : ByteArray).size = 4 := rfl
      have w2 : (⟨#[32, 46]⟩ : ByteArray).size = 2 := rfl
      have w3 : (⟨#[32]⟩ : ByteArray).size = 1 := rfl
      simp [b1, b2, rk]
      have hn : deedT ⟨6, ⟨#[]⟩, num⟩ = ⟨#[106, 111, 105, 110]⟩ ++ ⟨#[32]⟩ ++ dec num := by
        have e : deedT ⟨6, ⟨#[]⟩, num⟩ = ⟨#[106, 111, 105, 110]⟩ ++ ⟨#[]⟩ ++ (⟨#[32]⟩ ++ dec num) := by
          unfold deedT
          rw [if_pos (by simp [deedOk, dKeyed, dCounted, hko, hnm.1, hnm.2])]
          rfl
        rw [e]
        simp only [← ByteArray.append_assoc, ba_nil]
        try rfl
      refine ⟨by omega, cg_use (l6Dec_ok num _ ⟨by omega, by omega⟩) ?_⟩
      simp [hn, hleF]
      omega
  · have hn : deedT ⟨kind, key, num⟩ = ⟨#[]⟩ := by
      unfold deedT deedOk
      rw [decide_eq_false hr]
      rfl
    have n1 : ¬ kind = 1 := by omega
    have n2 : ¬ kind = 2 := by omega
    have n4 : ¬ kind = 4 := by omega
    have n6 : ¬ kind = 6 := by omega
    have hr' : (!decide (1 ≤ kind) || !decide (kind ≤ 6)) = true := by simp; omega
    simp [c_spec_DeedText, ddAV, ← hH1, b0, n1, n2, n4, n6]
    refine g_split (fun hq => ?_) (fun hq => ?_) (by simp)
    · simp [hn, hle1]
    · rw [hr'] at hq
      cases hq

end Go.Proofs.YtiecldkihdebiaaDoor.B

namespace Go.Proofs.YtiecldkihdebiaaDoor.B
open Go.RowKit Go.Proofs
set_option linter.unusedVariables false
set_option linter.unusedSimpArgs false

abbrev ByteArray.ls (b : ByteArray) : List UInt8 := b.data.toList
theorem ls_app (a b : ByteArray) : (a ++ b).data.toList = a.data.toList ++ b.data.toList := by
  rw [ByteArray.data_append, Array.toList_append]
theorem ls_inj {a b : ByteArray} (h : a.data.toList = b.data.toList) : a = b := by
  cases a
  cases b
  simp only at h
  rw [Array.toList_inj.1 h]
/-- What digits say. -/
def valOf (l : List UInt8) : Nat := l.foldl (fun a b => a * 10 + (b.toNat - 48)) 0
theorem valOf_app (l : List UInt8) (b : UInt8) : valOf (l ++ [b]) = valOf l * 10 + (b.toNat - 48) := by
  unfold valOf
  rw [List.foldl_append]
  rfl
theorem dig_toNat {n : Nat} (h : n < 10) : (UInt8.ofNat (48 + n)).toNat = 48 + n := by
  rw [UInt8.toNat_ofNat']
  omega
theorem valOf_dec (u : Nat) : valOf (Lib.decDigits u) = u := by
  induction u using Nat.strongRecOn with
  | _ u ih =>
    rw [Lib.decDigits]
    split
    · rename_i h
      show 0 * 10 + ((UInt8.ofNat (48 + u)).toNat - 48) = u
      rw [dig_toNat h]
      omega
    · rename_i h
      rw [valOf_app, ih (u / 10) (by omega), dig_toNat (by omega)]
      omega
theorem dec_ls {n : Int} (h : 0 ≤ n) : (dec n).data.toList = Lib.decDigits n.toNat := by
  show (Lib.itoa n).toArray.toList = _
  unfold Lib.itoa
  rw [if_neg (by omega)]
theorem dec_inj {m n : Int} (hm : 0 ≤ m) (hn : 0 ≤ n) (h : (dec m).data.toList = (dec n).data.toList) : m = n := by
  rw [dec_ls hm, dec_ls hn] at h
  have := congrArg valOf h
  rw [valOf_dec, valOf_dec] at this
  omega
/-- Up to the first of a byte. -/
theorem cut_at {c : UInt8} : ∀ {a b x y : List UInt8}, (∀ u ∈ a, u ≠ c) → (∀ u ∈ b, u ≠ c) → (x = [] ∨ ∃ z, x = c :: z) → (y = [] ∨ ∃ z, y = c :: z) → a ++ x = b ++ y → a = b ∧ x = y
  | [], [], x, y, _, _, _, _, h => ⟨rfl, h⟩
  | [], b :: bs, x, y, _, hb, hx, _, h => by
    rcases hx with rfl | ⟨z, rfl⟩
    · cases h
    · injection h with h1 _
      exact absurd h1.symm (hb b (by simp))
  | a :: as', [], x, y, ha, _, _, hy, h => by
    rcases hy with rfl | ⟨z, rfl⟩
    · cases h
    · injection h with h1 _
      exact absurd h1 (ha a (by simp))
  | a :: as', b :: bs, x, y, ha, hb, hx, hy, h => by
    injection h with h1 h2
    obtain ⟨h3, h4⟩ := cut_at (fun u hu => ha u (by simp [hu])) (fun u hu => hb u (by simp [hu])) hx hy h2
    exact ⟨by rw [h1, h3], h4⟩
theorem keyOk_mem {k : ByteArray} (h : keyOk k = true) : ∀ u ∈ k.data.toList, 97 ≤ u.toNat ∧ u.toNat ≤ 100 := by
  simp only [keyOk, decide_eq_true_eq] at h
  intro u hu
  obtain ⟨i, hi, rfl⟩ := List.mem_iff_getElem.1 hu
  have hs : k.data.toList.length = k.size := Array.length_toList
  have := h.1 i (by omega)
  rw [bt_at (by omega)] at this
  have e : ∀ (h' : i < k.data.toList.length), k.data.toList[i] = k[i]'(by omega) := fun _ => Array.getElem_toList ..
  omega
theorem keyOk_space {k : ByteArray} (h : keyOk k = true) : ∀ u ∈ k.data.toList, u ≠ 32 := fun u hu e => by
  have := keyOk_mem h u hu
  rw [e] at this
  exact absurd this.1 (by decide)

def dTail (d : Dd) : List UInt8 := (if dKeyed d.kind = true then 32 :: 46 :: d.key.data.toList else []) ++ (if dCounted d.kind = true then 32 :: (dec d.num).data.toList else [])
theorem deedT_ls {d : Dd} (h : deedOk d = true) : (deedT d).data.toList = (dWord d.kind).data.toList ++ dTail d := by
  unfold deedT dTail
  rw [if_pos h, ls_app, ls_app, List.append_assoc]
  congr 1
  congr 1
  · split
    · rw [ls_app]; rfl
    · rfl
  · split
    · rw [ls_app]; rfl
    · rfl
theorem deedOk_kind {d : Dd} (h : deedOk d = true) : d.kind = 1 ∨ d.kind = 2 ∨ d.kind = 3 ∨ d.kind = 4 ∨ d.kind = 5 ∨ d.kind = 6 := by
  simp only [deedOk, Bool.and_eq_true, decide_eq_true_eq] at h
  omega
theorem dWord_space {k : Int} (h : k = 1 ∨ k = 2 ∨ k = 3 ∨ k = 4 ∨ k = 5 ∨ k = 6) : ∀ u ∈ (dWord k).data.toList, u ≠ 32 := by
  rcases h with rfl | rfl | rfl | rfl | rfl | rfl <;> decide
theorem dWord_inj {k l : Int} (h : k = 1 ∨ k = 2 ∨ k = 3 ∨ k = 4 ∨ k = 5 ∨ k = 6) (h' : l = 1 ∨ l = 2 ∨ l = 3 ∨ l = 4 ∨ l = 5 ∨ l = 6) (e : (dWord k).data.toList = (dWord l).data.toList) : k = l := by
  rcases h with rfl | rfl | rfl | rfl | rfl | rfl <;> rcases h' with rfl | rfl | rfl | rfl | rfl | rfl <;> first | rfl | exact absurd e (by decide)
theorem dTail_form (d : Dd) : dTail d = [] ∨ ∃ z, dTail d = 32 :: z := by
  unfold dTail
  split
  · exact .inr ⟨_, rfl⟩
  · split
    · exact .inr ⟨_, rfl⟩
    · exact .inl rfl
/-- Deeds of one text are one deed. -/
theorem deedT_inj {d e : Dd} (hd : deedOk d = true) (he : deedOk e = true) (h : deedT d = deedT e) : d = e := by
  have hl : (deedT d).data.toList = (deedT e).data.toList := by rw [h]
  rw [deedT_ls hd, deedT_ls he] at hl
  obtain ⟨h1, h2⟩ := cut_at (dWord_space (deedOk_kind hd)) (dWord_space (deedOk_kind he)) (dTail_form d) (dTail_form e) hl
  have hk := dWord_inj (deedOk_kind hd) (deedOk_kind he) h1
  obtain ⟨k, a, m⟩ := d
  obtain ⟨l, b, n⟩ := e
  simp only at hk
  subst hk
  simp only [deedOk, Bool.and_eq_true, Bool.or_eq_true, decide_eq_true_eq] at hd he
  obtain ⟨-, ⟨⟨ha, hm⟩, ha2⟩, hm2⟩ := hd
  obtain ⟨-, ⟨⟨hb, hn⟩, hb2⟩, hn2⟩ := he
  unfold dTail at h2
  simp only at h2
  have key : a = b ∧ m = n := by
    cases hK : dKeyed k with
    | true =>
      cases hC : dCounted k with
      | true =>
        simp only [hK, hC, if_true, List.cons_append] at h2
        injection h2 with _ h3
        injection h3 with _ h4
        obtain ⟨h5, h6⟩ := cut_at (keyOk_space ha) (keyOk_space hb) (.inr ⟨_, rfl⟩) (.inr ⟨_, rfl⟩) h4
        injection h6 with _ h7
        exact ⟨ls_inj h5, dec_inj hm.1 hn.1 h7⟩
      | false =>
        simp only [hK, hC, if_true, Bool.false_eq_true, if_false, List.append_nil] at h2
        injection h2 with _ h3
        injection h3 with _ h4
        rw [hC] at hm2 hn2
        simp only [Bool.false_eq_true, false_or] at hm2 hn2
        exact ⟨ls_inj h4, by rw [hm2, hn2]⟩
    | false =>
      rw [hK] at ha2 hb2
      simp only [Bool.false_eq_true, false_or] at ha2 hb2
      refine ⟨by rw [ha2, hb2], ?_⟩
      cases hC : dCounted k with
      | true =>
        simp only [hK, hC, if_true, Bool.false_eq_true, if_false, List.nil_append] at h2
        injection h2 with _ h3
        exact dec_inj hm.1 hn.1 h3
      | false =>
        rw [hC] at hm2 hn2
        simp only [Bool.false_eq_true, false_or] at hm2 hn2
        rw [hm2, hn2]
  rw [key.1, key.2]
theorem deedT_nil {d : Dd} (h : deedT d ≠ ⟨#[]⟩) : deedOk d = true := by
  cases hd : deedOk d with
  | true => rfl
  | false =>
    exfalso
    apply h
    unfold deedT
    rw [hd]
    rfl

end Go.Proofs.YtiecldkihdebiaaDoor.B

namespace Go.Proofs.YtiecldkihdebiaaDoor.B
open Go.RowKit Go.Proofs
set_option linter.unusedVariables false
set_option linter.unusedSimpArgs false
variable {E : Env}

def sealT (t : ByteArray) : ByteArray := t ++ lit1 33 ++ dec (sumB t)
def blockT (r : List Ent) : ByteArray := if runOk r = true then (if (sealT (runText r)).size ≤ 400 then sealT (runText r) else ⟨#[]⟩) else ⟨#[]⟩
theorem l21Seal_ok (t : ByteArray) (H : Hp) (ht : t.size < 1099511627776) : AC Tryd.prog E 58 [.str t] H (fun v H' => v = .str (sealT t) ∧ H' = H) := by
  refine AC_byp (tC_le tab2_ok) h_spec_l21Seal (by simp) ?_
  simp [c_spec_l21Seal]
  have h1 : (ByteArray.mk #[33]).size = 1 := rfl
  refine ⟨by omega, ?_⟩
  refine cg_use (specSum_ok t H (by omega)) ?_
  simp
  refine cg_use (l6Dec_ok (sumB t) H (by have := sumB_bound t; omega)) ?_
  have h2 := dec_size (sumB t) (by have := sumB_bound t; omega)
  simp [sealT, lit1]
  omega
theorem BlockText_ok (a : AV) (r : List Ent) (H : Hp) (ha : Ents H a r) (hs : Short r) (hn : r.length < 1099511627776) : AC Tryd.prog E 26 [a] H (fun v H' => v = .str (blockT r) ∧ H' = H) := by
  refine AC_byp (tC_le tab2_ok) h_spec_BlockText (by simp) ?_
  simp [c_spec_BlockText]
  refine cg_use (RunOk_ok a r H ha hs (by omega)) ?_
  cases hro : runOk r with
  | false => simp [blockT, hro]
  | true =>
  have hf := runOk_fits hro
  have hrs := runText_size r (fun e he => ⟨hf.1 e he, by have := hf.2.2 e he; omega⟩) r.length (Nat.le_refl _)
  rw [List.take_of_length_le (Nat.le_refl _)] at hrs
  simp
  refine cg_use (l21Run_ok a r H ha (fun e he => ⟨hf.1 e he, by have := hf.2.2 e he; omega⟩) hn) ?_
  simp
  refine cg_use (l21Seal_ok (runText r) H (by omega)) ?_
  simp
  refine c_split (fun hq => ?_) (fun hq => ?_) <;> simp at hq
  · simp [blockT, hro]
    intro h
    omega
  · simp [blockT, hro]
    intro h
    omega

end Go.Proofs.YtiecldkihdebiaaDoor.B

namespace Go.Proofs.YtiecldkihdebiaaDoor.B
open Go.RowKit Go.Proofs
set_option linter.unusedVariables false
set_option linter.unusedSimpArgs false
variable {E : Env}

/-- Cut from a place on: so many bytes are left, the part began there. -/
def split1 (c : Int) (s : ByteArray) : Nat → Nat → Nat → List ByteArray
  | 0, f, i => [s.extract f s.size]
  | n + 1, f, i => if (bt s i : Int) = c then s.extract f i :: split1 c s n (i + 1) (i + 1) else split1 c s n f (i + 1)
def splitB (c : Int) (s : ByteArray) : List ByteArray := split1 c s s.size 0 0
theorem split1_len (c : Int) (s : ByteArray) : ∀ (n f i : Nat), (split1 c s n f i).length ≤ n + 1 ∧ 1 ≤ (split1 c s n f i).length
  | 0, f, i => by simp [split1]
  | n + 1, f, i => by
    have h1 := split1_len c s n (i + 1) (i + 1)
    have h2 := split1_len c s n f (i + 1)
    unfold split1
    split
    · simp only [List.length_cons]; omega
    · omega
theorem split1_size (c : Int) (s : ByteArray) : ∀ (n f i : Nat), ∀ x ∈ split1 c s n f i, x.size ≤ s.size
  | 0, f, i, x, h => by
    simp [split1] at h
    rw [h, ByteArray.size_extract]
    omega
  | n + 1, f, i, x, h => by
    unfold split1 at h
    split at h
    · rcases List.mem_cons.1 h with h | h
      · rw [h, ByteArray.size_extract]
        omega
      · exact split1_size c s n _ _ x h
    · exact split1_size c s n _ _ x h

theorem l21Split_ok (s : ByteArray) (c : Int) (H : Hp) (hs : s.size < 1099511627776) :
    AC Tryd.prog E 30 [.str s, .int .u8 c] H (fun v H' => HLe H H' ∧ OwnS H H' v (splitB c s)) := by
  refine AC_by fol (tC_le tab2_ok) h_spec_l21Split ?_
  simp [c_spec_l21Split]
  refine W_for (fun m t H' => ∃ (i f : Nat) (xs : List ByteArray) (v : AV), i + m = s.size ∧ f ≤ i ∧ t 0 = .str s ∧ t 1 = .int .u8 c ∧ t 5 = v ∧ t 6 = .int .i64 f ∧ t 7 = .int .i64 i ∧ HLe H H' ∧ OwnS H H' v xs ∧ xs.length ≤ i ∧ xs ++ split1 c s m f i = splitB c s) s.size ?_ (tC_mono AC_mono) ?_
  · exact ⟨0, 0, [], .sl H.length 0 0, by omega, by omega, by simp, by simp, by simp, by simp, by simp, HLe.self _ _, OwnM.lit0 (HLe.refl H), by simp, rfl⟩
  rintro m t H' ⟨i, f, xs, v, him, hfi, h0, h1, h5, h6, h7, hle, hv, hxl, hI⟩
  simp [h0, h1, h5, h6, h7]
  refine c_split (fun hq => ?_) (fun hq => ?_) <;> simp at hq
  · have hi : i < s.size := by omega
    have hw := wrapN (i := i) (by omega)
    obtain ⟨m, rfl⟩ : ∃ k, m = k + 1 := ⟨m - 1, by omega⟩
    simp [h0, h1, h5, h6, h7, hi]
    refine c_split (fun hq2 => ?_) (fun hq2 => ?_) <;> simp at hq2
    · simp [h0, h1, h5, h6, h7, hi]
      refine ⟨⟨hfi, by omega⟩, ?_⟩
      refine appG_add (y := s.extract f i) (bytes := 16) (row := strRow) (H0 := H) hv hle (by omega) rfl (fun v5 H5 g1 g2 g3 g4 => ?_)
      simp [h0, h1, h5, h6, h7, hw]
      refine ⟨m, by omega, i + 1, by omega, i + 1, by omega, by omega, by omega, g1, xs ++ [s.extract f i], g2, by simp; omega, ?_⟩
      rw [← hI, split1, if_pos hq2]
      simp
    · simp [h0, h1, h5, h6, h7, hi, hw]
      refine ⟨m, by omega, i + 1, by omega, f, by omega, rfl, by omega, hle, xs, hv, by omega, ?_⟩
      rw [← hI, split1, if_neg hq2]
  · have : m = 0 := by omega
    subst this
    simp [h0, h1, h5, h6, h7]
    refine ⟨by omega, ?_⟩
    refine appG_add (y := s.extract f s.size) (bytes := 16) (row := strRow) (H0 := H) hv hle (by omega) rfl (fun v5 H5 g1 g2 g3 g4 => ?_)
    simp
    refine ⟨g1, ?_⟩
    rw [← hI]
    exact g2

end Go.Proofs.YtiecldkihdebiaaDoor.B

namespace Go.Proofs.YtiecldkihdebiaaDoor.B
open Go.RowKit Go.Proofs
set_option linter.unusedVariables false
set_option linter.unusedSimpArgs false

/-- The pieces of a list between the bytes c. -/
def splitL (c : UInt8) : List UInt8 → List (List UInt8)
  | [] => [[]]
  | x :: l => if x = c then [] :: splitL c l else (splitL c l).modifyHead (x :: ·)
theorem splitL_ne (c : UInt8) : ∀ l, ∃ h t, splitL c l = h :: t
  | [] => ⟨_, _, rfl⟩
  | x :: l => by
    unfold splitL
    split
    · exact ⟨_, _, rfl⟩
    · obtain ⟨h, t, e⟩ := splitL_ne c l
      rw [e]
      exact ⟨_, _, rfl⟩
theorem splitL_free {c : UInt8} : ∀ {a : List UInt8}, (∀ u ∈ a, u ≠ c) → splitL c a = [a]
  | [], _ => rfl
  | x :: l, h => by
    rw [splitL, if_neg (h x (by simp)), splitL_free (fun u hu => h u (by simp [hu]))]
    rfl
theorem splitL_cut {c : UInt8} {b : List UInt8} : ∀ {a : List UInt8}, (∀ u ∈ a, u ≠ c) → splitL c (a ++ c :: b) = a :: splitL c b
  | [], _ => by rw [List.nil_append, splitL, if_pos rfl]
  | x :: l, h => by
    rw [List.cons_append, splitL, if_neg (h x (by simp)), splitL_cut (fun u hu => h u (by simp [hu]))]
    rfl
theorem index_cons (x c : UInt8) (l : List UInt8) : Lib.index (x :: l) [c] = if x = c then 0 else if Lib.index l [c] == -1 then -1 else Lib.index l [c] + 1 := by
  by_cases h : x = c
  · subst h
    rw [if_pos rfl, Lib.index]
    simp [List.isPrefixOf]
  · have hp : ([c] : List UInt8).isPrefixOf (x :: l) = false := by simp [List.isPrefixOf, Ne.symm h]
    rw [if_neg h, Lib.index, hp]
    simp
theorem kit_cons {c x : UInt8} (h : x ≠ c) (l : List UInt8) : ∀ k, Lib.splitK [c] 0 k (x :: l) = (Lib.splitK [c] 0 k l).modifyHead (x :: ·)
  | 0 => rfl
  | k + 1 => by
    have hi := index_cons x c l
    rw [if_neg h] at hi
    unfold Lib.splitK
    by_cases hm : Lib.index l [c] = -1
    · rw [if_pos (by simpa using hm)] at hi
      rw [if_pos (by simpa using hi), if_pos (by simpa using hm)]
      rfl
    · have hge := Lib.index_ge l [c]
      rw [if_neg (by simpa using hm)] at hi
      obtain ⟨j, hj⟩ : ∃ j : Nat, Lib.index l [c] = j := ⟨(Lib.index l [c]).toNat, by omega⟩
      rw [if_neg (by simp; omega), if_neg (by simpa using hm), hi, hj]
      have e1 : ((j : Int) + 1).toNat = j + 1 := by omega
      have e2 : ((j : Int)).toNat = j := by omega
      rw [e1, e2]
      simp [List.modifyHead]
/-- The library cuts so. -/
theorem kit_split (c : UInt8) : ∀ l, Lib.splitK [c] 0 (Lib.count l [c]) l = splitL c l
  | [] => by
    rw [Lib.count_one]
    rfl
  | x :: l => by
    by_cases h : x = c
    · subst h
      have hi := index_cons x x l
      rw [if_pos rfl] at hi
      rw [Lib.count_cons_eq, Nat.add_comm, Lib.splitK, if_neg (by rw [hi]; decide), hi, splitL, if_pos rfl, ← kit_split x l]
      rfl
    · rw [Lib.count_cons_ne _ _ _ h, kit_cons h, kit_split c l, splitL, if_neg h]
def kSplit (c : UInt8) (s : ByteArray) : List ByteArray := Lib.splitB ⟨#[c]⟩ 0 (Lib.countB s ⟨#[c]⟩) s
theorem kSplit_ls (c : UInt8) (s : ByteArray) : (kSplit c s).map (·.data.toList) = splitL c s.data.toList := by
  unfold kSplit
  rw [Lib.splitB_data]
  exact kit_split c _
theorem modHead_id {α : Type} : ∀ (l : List (List α)), l.modifyHead ([] ++ ·) = l
  | [] => rfl
  | _ :: _ => rfl
theorem modHead_comp {α : Type} (p : List α) (x : α) : ∀ (l : List (List α)), (l.modifyHead (x :: ·)).modifyHead (p ++ ·) = l.modifyHead ((p ++ [x]) ++ ·)
  | [] => rfl
  | a :: _ => by simp [List.modifyHead]
theorem extract_ls (s : ByteArray) (f i : Nat) : (s.extract f i).data.toList = (s.data.toList.take i).drop f := by
  rw [ByteArray.data_extract, Array.toList_extract, List.extract_eq_take_drop, List.drop_take]
/-- The reference cuts so. -/
theorem split1_ls (c : UInt8) (s : ByteArray) : ∀ (n f i : Nat), i + n = s.size → f ≤ i →
    (split1 (c.toNat : Int) s n f i).map (·.data.toList) = (splitL c (s.data.toList.drop i)).modifyHead ((s.data.toList.take i).drop f ++ ·)
  | 0, f, i, h, hf => by
    have hs : s.data.toList.length = s.size := Array.length_toList
    have e : s.data.toList.drop i = [] := List.drop_of_length_le (by omega)
    rw [split1, e]
    simp only [List.map_cons, List.map_nil, extract_ls, splitL, List.modifyHead_cons, List.append_nil]
    rw [show s.size = i by omega]
  | n + 1, f, i, h, hf => by
    have hs : s.data.toList.length = s.size := Array.length_toList
    have hi : i < s.data.toList.length := by omega
    have hb : (bt s i : Int) = (s.data.toList[i].toNat : Int) := by
      rw [bt_at (by omega)]
    have htk : (s.data.toList.take (i + 1)).drop f = (s.data.toList.take i).drop f ++ [s.data.toList[i]] := by
      rw [List.take_succ_eq_append_getElem hi, List.drop_append_of_le_length (by rw [List.length_take]; omega)]
    rw [split1, List.drop_eq_getElem_cons hi, splitL]
    by_cases hc : s.data.toList[i] = c
    · rw [if_pos (by rw [hb, hc]), if_pos hc]
      simp only [List.map_cons, List.modifyHead_cons, List.append_nil, extract_ls]
      rw [split1_ls c s n (i + 1) (i + 1) (by omega) (by omega), List.drop_of_length_le (l := List.take (i + 1) s.data.toList) (by rw [List.length_take]; omega), modHead_id]
    · rw [if_neg (fun e => hc (by
        rw [hb] at e
        exact UInt8.toNat_inj.1 (by omega))), if_neg hc, split1_ls c s n f (i + 1) (by omega) (by omega), htk, modHead_comp]
theorem splitB_ls (c : UInt8) (s : ByteArray) : (splitB (c.toNat : Int) s).map (·.data.toList) = splitL c s.data.toList := by
  unfold splitB
  rw [split1_ls c s s.size 0 0 (by omega) (by omega)]
  simp only [List.drop_zero, List.take_zero]
  exact modHead_id _
/-- Where the library cuts in two. -/
theorem index_free {c : UInt8} : ∀ {a : List UInt8}, (∀ u ∈ a, u ≠ c) → Lib.index a [c] = -1
  | [], _ => by simp [Lib.index]
  | x :: l, h => by rw [index_cons, if_neg (h x (by simp)), index_free (fun u hu => h u (by simp [hu]))]; decide
theorem index_cut {c : UInt8} {b : List UInt8} : ∀ {a : List UInt8}, (∀ u ∈ a, u ≠ c) → Lib.index (a ++ c :: b) [c] = (a.length : Int)
  | [], _ => by
    rw [List.nil_append, index_cons, if_pos rfl]
    rfl
  | x :: l, h => by
    rw [List.cons_append, index_cons, if_neg (h x (by simp)), index_cut (fun u hu => h u (by simp [hu])), if_neg (by simp)]
    simp
theorem cut_free {c : UInt8} {a : List UInt8} (h : ∀ u ∈ a, u ≠ c) : Lib.cut a [c] = (a, [], false) := by
  unfold Lib.cut
  rw [index_free h, if_neg (by omega)]
theorem cut_here {c : UInt8} {a b : List UInt8} (h : ∀ u ∈ a, u ≠ c) : Lib.cut (a ++ c :: b) [c] = (a, b, true) := by
  unfold Lib.cut
  rw [index_cut h, if_pos (by omega)]
  simp
theorem map_ls_eq {ws : List ByteArray} {ls : List (List UInt8)} (h : ws.map (·.data.toList) = ls) : ws = ls.map (fun l => ⟨l.toArray⟩) := by
  rw [← h, List.map_map]
  conv => lhs; rw [← List.map_id ws]
  apply List.map_congr_left
  intro a _
  exact ls_inj (by simp)

end Go.Proofs.YtiecldkihdebiaaDoor.B

namespace Go.Proofs.YtiecldkihdebiaaDoor.B
open Go.RowKit Go.Proofs
set_option linter.unusedVariables false
set_option linter.unusedSimpArgs false
variable {E : Env}

def num1 (s : ByteArray) : Nat → Nat → Int → Int
  | 0, i, n => n
  | k + 1, i, n => if n < 100000 then num1 s k (i + 1) (if 48 ≤ (bt s i : Int) ∧ (bt s i : Int) ≤ 57 then n * 10 + ((bt s i : Int) - 48) else n) else n
def numB (s : ByteArray) : Int := num1 s s.size 0 0
theorem num1_stop {s : ByteArray} {n : Int} (h : ¬ n < 100000) : ∀ k i, num1 s k i n = n
  | 0, i => rfl
  | k + 1, i => by rw [num1, if_neg h]
theorem num1_bound (s : ByteArray) : ∀ (k i : Nat) (n : Int), 0 ≤ n → n < 1000000 → 0 ≤ num1 s k i n ∧ num1 s k i n < 1000000
  | 0, i, n, h0, h1 => ⟨h0, h1⟩
  | k + 1, i, n, h0, h1 => by
    unfold num1
    split
    · refine num1_bound s k (i + 1) _ ?_ ?_ <;> split <;> omega
    · exact ⟨h0, h1⟩

theorem l21Num_ok (s : ByteArray) (H : Hp) (hs : s.size < 1099511627776) :
    AC Tryd.prog E 33 [.str s] H (fun v H' => v = .int .i64 (numB s) ∧ H' = H) := by
  refine AC_byp (tC_le tab2_ok) h_spec_l21Num (by simp) ?_
  simp [c_spec_l21Num]
  refine W_for (fun m t H' => ∃ (i : Nat) (n : Int), i + m = s.size ∧ 0 ≤ n ∧ n < 1000000 ∧ t 0 = .str s ∧ t 3 = .int .i64 n ∧ t 4 = .int .i64 i ∧ H' = H ∧ num1 s m i n = numB s) s.size ?_ (tC_mono AC_mono) ?_
  · exact ⟨0, 0, by omega, by omega, by omega, by simp, by simp, by simp, rfl, rfl⟩
  rintro m t H' ⟨i, n, him, hn0, hn1, h0, h3, h4, rfl, hI⟩
  simp [h0, h3, h4]
  refine g_split (fun hq => ?_) (fun hq => ?_) (by simp) <;> simp at hq <;> simp [hq, h0, h3, h4]
  · have hi : i < s.size := by omega
    have hw := wrapN (i := i) (by omega)
    obtain ⟨m, rfl⟩ : ∃ k, m = k + 1 := ⟨m - 1, by omega⟩
    refine c_split (fun hq2 => ?_) (fun hq2 => ?_) <;> simp at hq2
    · simp [h0, h3, h4, hi]
      refine g_split (fun hq3 => ?_) (fun hq3 => ?_) (by simp) <;> simp at hq3 <;> simp [hq3, h0, h3, h4, hi, hw]
      · refine c_split (fun hq4 => ?_) (fun hq4 => ?_) <;> simp at hq4
        · have hm : IntKind.i64.wrap (n * 10) = n * 10 := wrap64 (by omega) (by omega)
          have hu : IntKind.u8.wrap (bt s (i : Int) - 48) = bt s (i : Int) - 48 := by rw [IntKind.wrap_u8]; omega
          have h64 : IntKind.i64.wrap (bt s (i : Int) - 48) = bt s (i : Int) - 48 := wrap64 (by omega) (by omega)
          have hs2 : IntKind.i64.wrap (n * 10 + (bt s (i : Int) - 48)) = n * 10 + (bt s (i : Int) - 48) := wrap64 (by omega) (by omega)
          simp [h0, h3, h4, hi, hw, hm, hu, h64, hs2]
          refine ⟨m, by omega, i + 1, by omega, n * 10 + (bt s (i : Int) - 48), by omega, by omega, rfl, by omega, ?_⟩
          rw [num1, if_pos hq2, if_pos ⟨hq3, hq4⟩] at hI
          exact hI
        · simp [h0, h3, h4, hi, hw]
          refine ⟨m, by omega, i + 1, by omega, n, by omega, by omega, rfl, by omega, ?_⟩
          rw [num1, if_pos hq2, if_neg (by omega)] at hI
          exact hI
      · refine ⟨m, by omega, i + 1, by omega, n, by omega, by omega, rfl, by omega, ?_⟩
        rw [num1, if_pos hq2, if_neg (by omega)] at hI
        exact hI
    · simp [h0, h3, h4]
      rw [num1_stop (by omega)] at hI
      exact hI
  · have : m = 0 := by omega
    subst this
    exact hI

end Go.Proofs.YtiecldkihdebiaaDoor.B

namespace Go.Proofs.YtiecldkihdebiaaDoor.B
open Go.RowKit Go.Proofs
set_option linter.unusedVariables false
set_option linter.unusedSimpArgs false

theorem decDigits_mem (u : Nat) : ∀ b ∈ Lib.decDigits u, 48 ≤ b.toNat ∧ b.toNat ≤ 57 := by
  induction u using Nat.strongRecOn with
  | _ u ih =>
    rw [Lib.decDigits]
    split
    · rename_i h
      intro b hb
      rw [List.mem_singleton.1 hb, dig_toNat h]
      omega
    · rename_i h
      intro b hb
      rcases List.mem_append.1 hb with hb | hb
      · exact ih (u / 10) (by omega) b hb
      · rw [List.mem_singleton.1 hb, dig_toNat (by omega)]
        omega
theorem decDigits_ne (u : Nat) : Lib.decDigits u ≠ [] := by
  rw [Lib.decDigits]
  split <;> simp
/-- The library's reading. -/
theorem parse_snoc {b : UInt8} (hb : 48 ≤ b.toNat ∧ b.toNat ≤ 57) : ∀ {l : List UInt8} {acc v : Nat}, Lib.parseUint10 acc l = .ok v → v < 1844674407370955161 → Lib.parseUint10 acc (l ++ [b]) = .ok (v * 10 + (b.toNat - 48))
  | [], acc, v, h, hv => by
    simp only [Lib.parseUint10] at h
    injection h with h
    subst h
    simp only [List.nil_append, Lib.parseUint10]
    rw [if_pos hb, if_neg (by omega), if_neg (by omega)]
  | x :: l, acc, v, h, hv => by
    simp only [List.cons_append, Lib.parseUint10] at h ⊢
    split at h
    · rename_i h1
      rw [if_pos h1]
      split at h
      · cases h
      · rename_i h2
        rw [if_neg h2]
        split at h
        · cases h
        · rename_i h3
          rw [if_neg h3]
          exact parse_snoc hb h hv
    · cases h
theorem parse_dec (u : Nat) (hu : u < 18446744073709551610) : Lib.parseUint10 0 (Lib.decDigits u) = .ok u := by
  induction u using Nat.strongRecOn with
  | _ u ih =>
    rw [Lib.decDigits]
    split
    · rename_i h
      have := parse_snoc (b := UInt8.ofNat (48 + u)) (by rw [dig_toNat h]; omega) (l := []) (acc := 0) (v := 0) rfl (by omega)
      rw [dig_toNat h] at this
      simpa using this
    · rename_i h
      have := parse_snoc (b := UInt8.ofNat (48 + u % 10)) (by rw [dig_toNat (by omega)]; omega) (ih (u / 10) (by omega) (by omega)) (by omega)
      rw [dig_toNat (by omega)] at this
      rw [this]
      congr 1
      omega
theorem atoi_dec {n : Int} (h : 0 ≤ n ∧ n ≤ 999999) : Lib.atoiAll (dec n).data.toList = .ok n := by
  rw [dec_ls h.1]
  have hp := parse_dec n.toNat (by omega)
  have hm := decDigits_mem n.toNat
  have hne := decDigits_ne n.toNat
  cases hd : Lib.decDigits n.toNat with
  | nil => exact absurd hd hne
  | cons c r =>
    rw [hd] at hp hm
    have hc := hm c (by simp)
    unfold Lib.atoiAll Lib.parseMag
    simp only
    rw [if_neg (show ¬ (c.toNat = 43 ∨ c.toNat = 45) by omega), if_neg (by simp), hp]
    simp only
    rw [if_neg (by omega), if_neg (by omega), if_neg (by omega)]
    congr 1
    omega
/-- What the program reads of a number. -/
def numI (s : ByteArray) : Int := match Lib.atoiAll s.data.toList with
  | .ok v => if 0 ≤ v ∧ v ≤ 999999 ∧ dec v = s then v else -1
  | _ => -1
theorem numI_dec {n : Int} (h : 0 ≤ n ∧ n ≤ 999999) : numI (dec n) = n := by
  unfold numI
  rw [atoi_dec h]
  exact if_pos ⟨h.1, h.2, rfl⟩
theorem numI_bound (s : ByteArray) : -1 ≤ numI s ∧ numI s ≤ 999999 := by
  unfold numI
  split
  · split <;> omega
  · omega
/-- The reference's reading. -/
def numL : List UInt8 → Int → Int
  | [], n => n
  | b :: l, n => if n < 100000 then numL l (if 48 ≤ b.toNat ∧ b.toNat ≤ 57 then n * 10 + ((b.toNat : Int) - 48) else n) else n
theorem numL_stop {n : Int} (h : ¬ n < 100000) : ∀ l, numL l n = n
  | [] => rfl
  | b :: l => by rw [numL, if_neg h]
theorem num1_ls (s : ByteArray) : ∀ (k i : Nat) (n : Int), i + k = s.size → num1 s k i n = numL (s.data.toList.drop i) n
  | 0, i, n, h => by
    have hs : s.data.toList.length = s.size := Array.length_toList
    rw [List.drop_of_length_le (by omega)]
    rfl
  | k + 1, i, n, h => by
    have hs : s.data.toList.length = s.size := Array.length_toList
    have hi : i < s.data.toList.length := by omega
    have hb : (bt s i : Int) = (s.data.toList[i].toNat : Int) := by
      rw [bt_at (by omega)]
    rw [num1, List.drop_eq_getElem_cons hi, numL, hb, num1_ls s k (i + 1) _ (by omega)]
    have e : (48 ≤ (s.data.toList[i].toNat : Int) ∧ (s.data.toList[i].toNat : Int) ≤ 57) = (48 ≤ s.data.toList[i].toNat ∧ s.data.toList[i].toNat ≤ 57) := by
      apply propext
      omega
    simp only [e]
theorem numL_snoc {b : UInt8} (hb : 48 ≤ b.toNat ∧ b.toNat ≤ 57) : ∀ (l : List UInt8) (n : Int), numL l n < 100000 → numL (l ++ [b]) n = numL l n * 10 + ((b.toNat : Int) - 48)
  | [], n, h => by
    have h : n < 100000 := h
    simp only [List.nil_append, numL]
    rw [if_pos h, if_pos hb]
  | x :: l, n, h => by
    rw [List.cons_append]
    by_cases hn : n < 100000
    · rw [numL, if_pos hn] at h
      rw [numL, if_pos hn, numL, if_pos hn]
      exact numL_snoc hb l _ h
    · rw [numL_stop hn] at h
      exact absurd h hn
theorem numL_dec (u : Nat) (hu : u < 1000000) : numL (Lib.decDigits u) 0 = u := by
  induction u using Nat.strongRecOn with
  | _ u ih =>
    rw [Lib.decDigits]
    split
    · rename_i h
      have := numL_snoc (b := UInt8.ofNat (48 + u)) (by rw [dig_toNat h]; omega) [] 0 (by decide)
      rw [dig_toNat h] at this
      rw [List.nil_append] at this
      rw [this, numL]
      omega
    · rename_i h
      have h1 := ih (u / 10) (by omega) (by omega)
      rw [numL_snoc (by rw [dig_toNat (by omega)]; omega) _ _ (by rw [h1]; omega), h1, dig_toNat (by omega)]
      omega
theorem numB_dec {n : Int} (h : 0 ≤ n ∧ n ≤ 999999) : numB (dec n) = n := by
  unfold numB
  rw [num1_ls _ _ _ _ (by omega), List.drop_zero, dec_ls h.1, numL_dec _ (by omega)]
  omega

end Go.Proofs.YtiecldkihdebiaaDoor.B

namespace Go.Proofs.YtiecldkihdebiaaDoor.B
open Go.RowKit Go.Proofs
set_option linter.unusedVariables false
set_option linter.unusedSimpArgs false

/-- Which word it is. -/
def kindN (w : ByteArray) : Nat → Int
  | 0 => 0
  | i + 1 => if dWord i = w then i else kindN w i
def trimP (w : ByteArray) : ByteArray := ⟨(Lib.trimPrefix w.data.toList [46]).toArray⟩
def candI (ws : List ByteArray) : Dd :=
  let k := kindN (ws.headD ⟨#[]⟩) 7
  let b := dKeyed k && !ws.tail.isEmpty
  let rest := if b = true then ws.tail.tail else ws.tail
  ⟨k, if b = true then trimP (ws.tail.headD ⟨#[]⟩) else ⟨#[]⟩, if (dCounted k && !rest.isEmpty) = true then numI (rest.headD ⟨#[]⟩) else 0⟩
def keyR (s : ByteArray) : ByteArray := if s.size = 0 ∨ (bt s 0 : Int) ≠ 46 then ⟨#[63]⟩ else s.extract 1 s.size
def candR (ws : List ByteArray) : Dd :=
  let k := kindN (ws.headD ⟨#[]⟩) 7
  if 1 < ws.length then ⟨k, if dKeyed k = true then keyR (ws.tail.headD ⟨#[]⟩) else ⟨#[]⟩, if k = 2 then 0 else numB (ws.getLastD ⟨#[]⟩)⟩ else ⟨k, ⟨#[]⟩, 0⟩

theorem dec_space {n : Int} (h : 0 ≤ n) : ∀ u ∈ (dec n).data.toList, 48 ≤ u.toNat ∧ u.toNat ≤ 57 := by
  rw [dec_ls h]
  exact decDigits_mem _
theorem key_space {k : ByteArray} (h : keyOk k = true) : ∀ u ∈ (46 :: k.data.toList), u ≠ 32 := fun u hu => by
  rcases List.mem_cons.1 hu with rfl | hu
  · decide
  · exact keyOk_space h u hu
theorem dig_ne {c : UInt8} (hc : c.toNat < 48 ∨ 57 < c.toNat) {n : Int} (h : 0 ≤ n) : ∀ u ∈ (dec n).data.toList, u ≠ c := fun u hu e => by
  have := dec_space h u hu
  rw [e] at this
  omega
theorem words_deed {e : Dd} (h : deedOk e = true) : splitL 32 (deedT e).data.toList = (dWord e.kind).data.toList :: ((if dKeyed e.kind = true then [46 :: e.key.data.toList] else []) ++ (if dCounted e.kind = true then [(dec e.num).data.toList] else [])) := by
  rw [deedT_ls h]
  have hw := dWord_space (deedOk_kind h)
  obtain ⟨k, key, n⟩ := e
  simp only [deedOk, Bool.and_eq_true, Bool.or_eq_true, decide_eq_true_eq] at h
  obtain ⟨-, ⟨⟨hk, hn⟩, -⟩, -⟩ := h
  have h1 := key_space hk
  have h2 : ∀ u ∈ (dec n).data.toList, u ≠ 32 := dig_ne (.inl (by decide)) hn.1
  unfold dTail
  simp only at hw ⊢
  cases dKeyed k with
  | true =>
    cases dCounted k with
    | true =>
      simp only [if_true]
      rw [List.cons_append, splitL_cut hw]
      rw [splitL_cut h1, splitL_free h2]
      rfl
    | false =>
      simp only [if_true, Bool.false_eq_true, if_false, List.append_nil]
      rw [splitL_cut hw, splitL_free h1]
  | false =>
    cases dCounted k with
    | true =>
      simp only [if_true, Bool.false_eq_true, if_false, List.nil_append]
      rw [splitL_cut hw, splitL_free h2]
    | false =>
      simp only [Bool.false_eq_true, if_false, List.append_nil]
      rw [splitL_free hw]
theorem ba_ls (b : ByteArray) : (⟨b.data.toList.toArray⟩ : ByteArray) = b := ls_inj (by simp)
theorem words_of {e : Dd} (h : deedOk e = true) {ws : List ByteArray} (hw : ws.map (·.data.toList) = splitL 32 (deedT e).data.toList) :
    ws = dWord e.kind :: ((if dKeyed e.kind = true then [⟨(46 :: e.key.data.toList).toArray⟩] else []) ++ (if dCounted e.kind = true then [dec e.num] else [])) := by
  rw [words_deed h] at hw
  have := map_ls_eq hw
  rw [this]
  simp only [List.map_cons, List.map_append, ba_ls]
  congr 2
  · split <;> rfl
  · split
    · simp only [List.map_cons, List.map_nil, ba_ls]
    · rfl
theorem kind_word {k : Int} (h : k = 1 ∨ k = 2 ∨ k = 3 ∨ k = 4 ∨ k = 5 ∨ k = 6) : kindN (dWord k) 7 = k := by
  rcases h with rfl | rfl | rfl | rfl | rfl | rfl <;> decide
theorem trimP_dot (k : ByteArray) : trimP ⟨(46 :: k.data.toList).toArray⟩ = k := by
  apply ls_inj
  simp [trimP, Lib.trimPrefix, Lib.hasPrefix, List.isPrefixOf]
theorem keyR_dot (k : ByteArray) : keyR ⟨(46 :: k.data.toList).toArray⟩ = k := by
  have hs : (ByteArray.mk (46 :: k.data.toList).toArray).size = k.size + 1 := by
    show (46 :: k.data.toList).toArray.size = _
    simp
  have hb : (bt ⟨(46 :: k.data.toList).toArray⟩ 0 : Int) = 46 := by
    have := bt_at (s := ⟨(46 :: k.data.toList).toArray⟩) (i := 0) (by simp)
    rw [Int.ofNat_zero] at this
    rw [this]
    rfl
  unfold keyR
  rw [if_neg (by rw [hb, hs]; omega)]
  apply ls_inj
  rw [extract_ls, hs]
  have hl : k.data.toList.length = k.size := Array.length_toList
  simp
  rw [List.take_of_length_le (by simp)]
theorem candI_deed {e : Dd} (h : deedOk e = true) {ws : List ByteArray} (hw : ws.map (·.data.toList) = splitL 32 (deedT e).data.toList) : candI ws = e := by
  rw [words_of h hw]
  have hk := kind_word (deedOk_kind h)
  obtain ⟨k, key, n⟩ := e
  simp only [deedOk, Bool.and_eq_true, Bool.or_eq_true, decide_eq_true_eq] at h
  obtain ⟨-, ⟨⟨-, hn⟩, h1⟩, h2⟩ := h
  have hnum := numI_dec (n := n) ⟨hn.1, by omega⟩
  simp only at hk hnum
  unfold candI
  simp only [List.headD_cons, List.tail_cons, hk]
  cases hK : dKeyed k with
  | true =>
    cases hC : dCounted k with
    | true => simp [trimP_dot, hnum]
    | false =>
      rcases h2 with h2 | h2
      · rw [hC] at h2; cases h2
      · simp [trimP_dot, h2]
  | false =>
    rcases h1 with h1 | h1
    · rw [hK] at h1; cases h1
    · cases hC : dCounted k with
      | true => simp [hnum, h1]
      | false =>
        rcases h2 with h2 | h2
        · rw [hC] at h2; cases h2
        · simp [h1, h2]
theorem candR_deed {e : Dd} (h : deedOk e = true) {ws : List ByteArray} (hw : ws.map (·.data.toList) = splitL 32 (deedT e).data.toList) : candR ws = e := by
  rw [words_of h hw]
  have hk := kind_word (deedOk_kind h)
  have h6 := deedOk_kind h
  obtain ⟨k, key, n⟩ := e
  simp only [deedOk, Bool.and_eq_true, Bool.or_eq_true, decide_eq_true_eq] at h
  obtain ⟨-, ⟨⟨-, hn⟩, h1⟩, h2⟩ := h
  have hnum := numB_dec (n := n) ⟨hn.1, by omega⟩
  simp only at hk hnum h6
  unfold candR
  simp only [List.headD_cons, List.tail_cons, hk]
  rcases h6 with rfl | rfl | rfl | rfl | rfl | rfl <;> simp [dKeyed, dCounted] at h1 h2 ⊢ <;> simp [keyR_dot, hnum, h1, h2]

def dd0 : Dd := ⟨0, ⟨#[]⟩, 0⟩
/-- What is read of a text. -/
def DeedIs (t : ByteArray) (d : Dd) (ok : Bool) : Prop := (ok = true ∧ t.size ≠ 0 ∧ t.size ≤ 40 ∧ deedT d = t) ∨ (ok = false ∧ d = dd0 ∧ ∀ e, deedT e = t → t.size ≤ 40 → t.size = 0)
theorem deedT_ok {d : Dd} (h : (deedT d).size ≠ 0) : deedOk d = true := by
  cases hd : deedOk d with
  | true => rfl
  | false =>
    rw [deedT, hd] at h
    exact absurd rfl h
theorem deedT_size (d : Dd) : (deedT d).size ≤ 40 := by
  cases hd : deedOk d with
  | false =>
    rw [deedT, hd, if_neg (by decide)]
    decide
  | true =>
    have h6 := deedOk_kind hd
    unfold deedT
    rw [if_pos hd]
    simp only [deedOk, Bool.and_eq_true, Bool.or_eq_true, decide_eq_true_eq] at hd
    obtain ⟨-, ⟨⟨hk, hn⟩, -⟩, -⟩ := hd
    have hks := keyOk_size hk
    have hds := dec_size d.num ⟨by omega, by omega⟩
    have hw : (dWord d.kind).size ≤ 4 := by
      rcases h6 with h | h | h | h | h | h <;> rw [h] <;> decide
    rw [ByteArray.size_append, ByteArray.size_append]
    have e1 : (if dKeyed d.kind = true then ⟨#[32, 46]⟩ ++ d.key else ⟨#[]⟩ : ByteArray).size ≤ 7 := by
      split
      · rw [ByteArray.size_append]
        have : (⟨#[32, 46]⟩ : ByteArray).size = 2 := rfl
        omega
      · decide
    have e2 : (if dCounted d.kind = true then ⟨#[32]⟩ ++ dec d.num else ⟨#[]⟩ : ByteArray).size ≤ 21 := by
      split
      · rw [ByteArray.size_append]
        have : (⟨#[32]⟩ : ByteArray).size = 1 := rfl
        omega
      · decide
    omega
theorem DeedIs.one {t : ByteArray} {d d' : Dd} {ok ok' : Bool} (h : DeedIs t d ok) (h' : DeedIs t d' ok') : d = d' ∧ ok = ok' := by
  rcases h with ⟨h1, h2, h3, h4⟩ | ⟨h1, h2, h3⟩
  · rcases h' with ⟨g1, g2, g3, g4⟩ | ⟨g1, g2, g3⟩
    · exact ⟨deedT_inj (deedT_ok (by rw [h4]; exact h2)) (deedT_ok (by rw [g4]; exact h2)) (h4.trans g4.symm), by rw [h1, g1]⟩
    · exact absurd (g3 d h4 h3) h2
  · rcases h' with ⟨g1, g2, g3, g4⟩ | ⟨g1, g2, g3⟩
    · exact absurd (h3 d' g4 g3) g2
    · exact ⟨by rw [h2, g2], by rw [h1, g1]⟩
theorem DeedIs.back {d : Dd} (h : (deedT d).size ≠ 0) : DeedIs (deedT d) d true := .inl ⟨rfl, h, deedT_size d, rfl⟩
/-- A text of another deed is none of any. -/
theorem DeedIs.no {t : ByteArray} {c : Dd} (hc : ∀ e, deedOk e = true → deedT e = t → c = e) (h : deedT c ≠ t) : DeedIs t dd0 false :=
  .inr ⟨rfl, rfl, fun e he hs => by
    rcases Nat.eq_zero_or_pos t.size with h0 | h0
    · exact h0
    · have := hc e (deedT_ok (by rw [he]; omega)) he
      rw [this] at h
      exact absurd he h⟩

end Go.Proofs.YtiecldkihdebiaaDoor.B

namespace Go.Proofs.YtiecldkihdebiaaDoor.B
open Go.RowKit Go.Proofs
set_option linter.unusedVariables false
set_option linter.unusedSimpArgs false
variable {E : Env}

def hearE (s : ByteArray) : Ent :=
  match splitB 45 s with
  | [a, b] => match splitB 61 a with
    | [k, v] => ⟨k, numB v, false, numB b⟩
    | _ => ⟨a, 0, true, numB b⟩
  | _ => ⟨⟨#[]⟩, 0, false, 0⟩
theorem two {α : Type} {xs : List α} (h : xs.length = 2) : ∃ a b, xs = [a, b] := by
  match xs, h with
  | [a, b], _ => exact ⟨a, b, rfl⟩
theorem splitB_len (c : Int) (s : ByteArray) : (splitB c s).length ≤ s.size + 1 ∧ 1 ≤ (splitB c s).length := split1_len c s s.size 0 0
theorem splitB_size (c : Int) (s : ByteArray) : ∀ x ∈ splitB c s, x.size ≤ s.size := split1_size c s s.size 0 0

theorem l21Hear_ok (s : ByteArray) (H : Hp) (hs : s.size < 1099511627776) :
    AC Tryd.prog E 50 [.str s] H (fun v H' => v = .ag (entRow (hearE s)) ∧ H' = H) := by
  refine AC_byp (tC_le tab2_ok) h_spec_l21Hear (by simp [entRow]) ?_
  obtain ⟨H1, hH1⟩ : ∃ H1 : Hp, H1 = H ++ [some ⟨[[.str ⟨#[]⟩, .int .i64 0, .bool false, .int .i64 0]], 4, 59, false⟩] := ⟨_, rfl⟩
  have hle1 : HLe H H1 := by rw [hH1]; exact HLe.self _ _
  have b0 : H1.at H.length = some ⟨[[.str ⟨#[]⟩, .int .i64 0, .bool false, .int .i64 0]], 4, 59, false⟩ := by rw [hH1]; simp
  simp [c_spec_l21Hear, ← hH1]
  refine cg_ex (l21Split_ok s 45 H1 hs) ?_
  rintro wv H2 ⟨hle2, hw⟩
  have b02 := hle2.2 _ _ b0
  have u02 := Hp.at_lt b02
  simp [hw.len, hw.slc]
  refine c_split (fun hq => ?_) (fun hq => ?_) <;> simp at hq
  · have he : hearE s = ⟨⟨#[]⟩, 0, false, 0⟩ := by
      unfold hearE
      split
      · rename_i h
        rw [h] at hq
        exact absurd rfl hq
      · rfl
    simp [b02, Hp.at_set, u02, he, entRow]
    exact (hle1.trans hle2).set (by omega) _
  · obtain ⟨x, y, hxy⟩ := two (by omega : (splitB 45 s).length = 2)
    rw [hxy] at hw
    have hxs : x.size ≤ s.size := splitB_size 45 s x (by rw [hxy]; simp)
    have hys : y.size ≤ s.size := splitB_size 45 s y (by rw [hxy]; simp)
    obtain ⟨o1, i1, ob1, rfl, a1, a2, a3⟩ := hw.strs.get (j := 0) (by simp)
    obtain ⟨o1', i1', ob1', e1, a4, a5, a6⟩ := hw.strs.get (j := 1) (by simp)
    cases e1
    rw [a1] at a4
    cases a4
    simp at a3 a6
    simp [a1, a2, a3]
    refine cg_ex (l21Split_ok x 61 H2 (by omega)) ?_
    rintro vv H3 ⟨hle3, hv⟩
    have b03 := hle3.2 _ _ b02
    have u03 := Hp.at_lt b03
    have a13 := hle3.2 _ _ a1
    have hle13 := (hle1.trans hle2).trans hle3
    simp [hv.len, hv.slc]
    refine c_split (fun hq2 => ?_) (fun hq2 => ?_) <;> simp at hq2
    · obtain ⟨k, z, hkz⟩ := two (by omega : (splitB 61 x).length = 2)
      rw [hkz] at hv
      have hzs : z.size ≤ x.size := splitB_size 61 x z (by rw [hkz]; simp)
      have he : hearE s = ⟨k, numB z, false, numB y⟩ := by
        unfold hearE
        rw [hxy]
        simp only [hkz]
      obtain ⟨o2, i2, ob2, rfl, c1, c2, c3⟩ := hv.strs.get (j := 0) (by simp)
      obtain ⟨o2', i2', ob2', e2, c4, c5, c6⟩ := hv.strs.get (j := 1) (by simp)
      cases e2
      rw [c1] at c4
      cases c4
      simp at c3 c6
      simp [a13, a2, a6, c1, c2, c3, c6]
      refine cg_use (l21Num_ok z H3 (by omega)) ?_
      simp [a13, a2, a6, c1, c2, c3, c6]
      refine cg_use (l21Num_ok y H3 (by omega)) ?_
      simp [a13, a2, a6, c1, c2, c3, c6, b03, Hp.at_set, u03, he, entRow]
      exact hle13.set (by omega) _
    · have he : hearE s = ⟨x, 0, true, numB y⟩ := by
        unfold hearE
        rw [hxy]
        simp only
        split
        · rename_i h
          rw [h] at hq2
          exact absurd rfl hq2
        · rfl
      simp [a13, a2, a3, a6]
      refine cg_use (l21Num_ok y H3 (by omega)) ?_
      simp [a13, a2, a3, a6, b03, Hp.at_set, u03, he, entRow]
      exact hle13.set (by omega) _

end Go.Proofs.YtiecldkihdebiaaDoor.B

namespace Go.Proofs.YtiecldkihdebiaaDoor.B
open Go.RowKit Go.Proofs
set_option linter.unusedVariables false
set_option linter.unusedSimpArgs false
variable {E : Env}

def linesB (t : ByteArray) : List ByteArray := splitB 59 ((splitB 33 t).headD ⟨#[]⟩)
def readE (t : ByteArray) : List Ent := ((linesB t).take ((linesB t).length - 1)).map hearE
def blockR (t : ByteArray) : Option (List Ent) := if t.size ≤ 400 ∧ t ≠ ⟨#[]⟩ ∧ blockT (readE t) = t then some (readE t) else none
theorem hearE_size (s : ByteArray) : (hearE s).key.size ≤ s.size := by
  unfold hearE
  split
  · rename_i a b h
    have ha : a.size ≤ s.size := splitB_size 45 s a (by rw [h]; simp)
    split
    · rename_i k v h2
      have hk : k.size ≤ a.size := splitB_size 61 a k (by rw [h2]; simp)
      dsimp only
      omega
    · exact ha
  · exact Nat.zero_le _

theorem headD_get {xs : List ByteArray} {d : ByteArray} (h : 0 < xs.length) : xs.headD d = xs[0] := by
  cases xs with
  | nil => simp at h
  | cons a b => rfl
theorem readE_short (t : ByteArray) (ht : t.size < 1099511627776) : Short (readE t) ∧ (readE t).length ≤ t.size := by
  have h1 := splitB_len 33 t
  have h2 : ((splitB 33 t).headD ⟨#[]⟩).size ≤ t.size := by
    rw [headD_get (by omega)]
    exact splitB_size 33 t _ (List.getElem_mem _)
  have h3 := splitB_len 59 ((splitB 33 t).headD ⟨#[]⟩)
  refine ⟨fun e he => ?_, ?_⟩
  · obtain ⟨x, hx, rfl⟩ := List.mem_map.1 he
    have := splitB_size 59 ((splitB 33 t).headD ⟨#[]⟩) x (List.mem_of_mem_take hx)
    have := hearE_size x
    omega
  · simp only [readE, linesB, List.length_map, List.length_take]
    omega
theorem BlockRead_ok (t : ByteArray) (H : Hp) (ht : t.size < 1099511627776) :
    AC Tryd.prog E 19 [.str t] H (fun v H' => HLe H H' ∧ ∃ w, v = .tu [w, .bool (blockR t).isSome] ∧ OwnE H H' w ((blockR t).getD [])) := by
  refine AC_by fol (tC_le tab2_ok) h_spec_BlockRead ?_
  simp [c_spec_BlockRead]
  refine c_split (fun hq => ?_) (fun hq => ?_) <;> simp at hq
  · have hn : blockR t = none := by unfold blockR; rw [if_neg (by omega)]
    simp [hn]
    exact OwnM.lit0 (HLe.refl H)
  simp
  refine cg_ex (l21Split_ok t 33 _ ht) ?_
  rintro wv H1 ⟨hle1, hw⟩
  have hl := splitB_len 33 t
  obtain ⟨o1, i1, ob1, rfl, a1, a2, a3⟩ := hw.strs.get (j := 0) (by omega)
  obtain ⟨h, hh⟩ : ∃ h, h = (splitB 33 t)[0]'(by omega) := ⟨_, rfl⟩
  have hhd : (splitB 33 t).headD ⟨#[]⟩ = h := by
    rw [hh]
    exact headD_get (by omega)
  have hhs : h.size ≤ t.size := splitB_size 33 t h (by rw [hh]; exact List.getElem_mem _)
  rw [← hh] at a3
  simp at a3
  have hpos : 0 < (splitB 33 t).length := by omega
  have hposI : (0 : Int) < ((splitB 33 t).length : Int) := by omega
  simp [a1, a2, a3, hpos, hposI]
  refine cg_ex (l21Split_ok h 59 H1 (by omega)) ?_
  rintro lv H2 ⟨hle2, hv⟩
  have hL : linesB t = splitB 59 h := by rw [linesB, hhd]
  rw [← hL] at hv
  have hll : (linesB t).length ≤ h.size + 1 ∧ 1 ≤ (linesB t).length := by rw [hL]; exact splitB_len 59 h
  have hls : ∀ x ∈ linesB t, x.size ≤ h.size := by rw [hL]; exact splitB_size 59 h
  simp
  refine W_for (fun m tt H' => ∃ (i : Nat) (v : AV), i + m = (linesB t).length - 1 ∧ tt 0 = .str t ∧ tt 4 = v ∧ tt 5 = lv ∧ tt 6 = .int .i64 i ∧ HLe H H' ∧ Strs H' lv (linesB t) ∧ OwnE H H' v (((linesB t).take i).map hearE)) ((linesB t).length - 1) ?_ (tC_mono AC_mono) ?_
  · exact ⟨0, .sl H.length 0 0, by omega, by simp, by simp, by simp, by simp, (HLe.self H _).trans (hle1.trans hle2), hv.strs, by simpa using ((OwnM.lit0 (HLe.refl H) : OwnE H _ _ []).le (hle1.trans hle2))⟩
  rintro m tt H' ⟨i, v, him, h0, h4, h5, h6, hle, hv', hown⟩
  have hw2 := wrapN (i := i) (by omega)
  simp [h0, h4, h5, h6, hw2, hv'.len, hv'.slc]
  refine c_split (fun hq2 => ?_) (fun hq2 => ?_) <;> simp at hq2
  · have hi : i < (linesB t).length := by omega
    obtain ⟨o2, i2, ob2, rfl, c1, c2, c3⟩ := hv'.get hi
    simp [h0, h4, h5, h6, hw2, c1, c2, c3, hi]
    refine cg_use (l21Hear_ok _ H' (by have := hls _ (List.getElem_mem hi); omega)) ?_
    simp [h0, h4, h5, h6, entRow]
    refine appG_add (y := hearE (linesB t)[i]) (bytes := 40) (row := entRow) (H0 := H) hown hle (by simp; omega) rfl (fun v5 H5 g1 g2 g3 g4 => ?_)
    have hv5 : Strs H5 (.sl o2 i2 (linesB t).length) (linesB t) := Rows.fr hv' g3 (fun x hx hs => Rows.apart hv' hown.rows (by simp) hx hs)
    simp [h0, h4, h5, h6, hw2]
    refine ⟨m - 1, by omega, i + 1, by omega, by omega, g1, hv5, ?_⟩
    rw [List.take_succ_eq_append_getElem (by simpa using hi), ← List.map_take, List.getElem_map]
    exact g2
  · have hie : i = (linesB t).length - 1 := by omega
    subst hie
    obtain ⟨hsh, hrl⟩ := readE_short t ht
    change OwnE H H' v (readE t) at hown
    simp [h0, h4, h5, h6]
    refine g_split (fun hq3 => ?_) (fun hq3 => ?_) (by simp) <;> simp at hq3 <;> simp [hq3, h0, h4]
    · have hn : blockR ⟨#[]⟩ = none := by
        unfold blockR
        rw [if_neg (fun h => h.2.1 rfl)]
      rw [hn]
      exact ⟨hle.app _, _, ⟨rfl, rfl⟩, OwnM.lit0 hle⟩
    · refine cg_use (BlockText_ok v (readE t) H' hown.ents hsh (by omega)) ?_
      simp [h0, h4]
      refine c_split (fun hq4 => ?_) (fun hq4 => ?_) <;> simp at hq4 <;> simp [h4]
      · have hn : blockR t = none := by
          unfold blockR
          rw [if_neg (fun h => hq4 h.2.2)]
        rw [hn]
        exact ⟨hle.app _, _, ⟨rfl, rfl⟩, OwnM.lit0 hle⟩
      · have hn : blockR t = some (readE t) := by
          unfold blockR
          rw [if_pos ⟨by omega, hq3, hq4⟩]
        rw [hn]
        exact ⟨hle, _, ⟨rfl, rfl⟩, hown⟩

end Go.Proofs.YtiecldkihdebiaaDoor.B

namespace Go.Proofs.YtiecldkihdebiaaDoor.B
open Go.RowKit Go.Proofs
set_option linter.unusedVariables false
set_option linter.unusedSimpArgs false

/-- In two, at the first byte c. -/
def cutI (c : UInt8) (s : ByteArray) : ByteArray × ByteArray × Bool := (⟨(Lib.cut s.data.toList [c]).1.toArray⟩, ⟨(Lib.cut s.data.toList [c]).2.1.toArray⟩, (Lib.cut s.data.toList [c]).2.2)
def entI (s : ByteArray) : Ent := ⟨(cutI 61 (cutI 45 s).1).1, if (cutI 61 (cutI 45 s).1).2.2 = true then numI (cutI 61 (cutI 45 s).1).2.1 else 0, !(cutI 61 (cutI 45 s).1).2.2, numI (cutI 45 s).2.1⟩
def linesI (t : ByteArray) : List ByteArray := (kSplit 59 (cutI 33 t).1).take ((kSplit 59 (cutI 33 t).1).length - 1)
def readI (t : ByteArray) : List Ent := (linesI t).map entI
theorem kSplit_len (c : UInt8) (s : ByteArray) : 1 ≤ (kSplit c s).length := by
  obtain ⟨h, t, e⟩ := splitL_ne c s.data.toList
  have := congrArg List.length (kSplit_ls c s)
  rw [e, List.length_map] at this
  rw [this]
  simp

/-- An entry's line. -/
def lineL (e : Ent) : List UInt8 := e.key.data.toList ++ (if e.gone = true then [] else 61 :: (dec e.val).data.toList) ++ 45 :: (dec e.time).data.toList
theorem lit1_ls (c : UInt8) : (lit1 c).data.toList = [c] := rfl
theorem entText_ls (e : Ent) : (entText e).data.toList = lineL e ++ [59] := by
  unfold entText lineL
  split
  · simp only [ls_app, lit1_ls]
    simp
  · simp only [ls_app, lit1_ls]
    simp
def lines (r : List Ent) : List UInt8 := (r.map fun e => lineL e ++ [59]).flatten
theorem runText_ls (r : List Ent) : (runText r).data.toList = lines r := by
  have h : ∀ (r : List Ent) (s : ByteArray), (r.foldl (fun s e => s ++ entText e) s).data.toList = s.data.toList ++ lines r := by
    intro r
    induction r with
    | nil => intro s; simp [lines]
    | cons e r ih =>
      intro s
      rw [List.foldl_cons, ih, ls_app, entText_ls]
      simp [lines]
  have := h r ByteArray.empty
  rw [runText, this]
  rfl
structure EntP (e : Ent) : Prop where
  key : ∀ u ∈ e.key.data.toList, 97 ≤ u.toNat ∧ u.toNat ≤ 100
  val : 0 ≤ e.val ∧ e.val ≤ 99
  gone : e.gone = true → e.val = 0
  time : 1 ≤ e.time ∧ e.time ≤ 999
theorem entOk_p {e : Ent} (h : entOk e = true) : EntP e := by
  simp only [entOk, Bool.and_eq_true, Bool.or_eq_true, decide_eq_true_eq] at h
  obtain ⟨⟨⟨h1, h2⟩, h3⟩, h4⟩ := h
  refine ⟨keyOk_mem h1, h2, fun hg => ?_, h4⟩
  rcases h3 with h3 | h3
  · rw [hg] at h3; cases h3
  · exact h3
theorem runOk_p {r : List Ent} (h : runOk r = true) : ∀ e ∈ r, EntP e := by
  simp only [runOk, decide_eq_true_eq] at h
  intro e he
  obtain ⟨i, hi, rfl⟩ := List.mem_iff_getElem.1 he
  exact entOk_p (h.1 i hi).1
theorem key_ne {k : ByteArray} (h : ∀ u ∈ k.data.toList, 97 ≤ u.toNat ∧ u.toNat ≤ 100) {c : UInt8} (hc : c.toNat < 97) : ∀ u ∈ k.data.toList, u ≠ c := fun u hu e => by
  have := h u hu
  rw [e] at this
  omega
theorem head_ne {e : Ent} (h : EntP e) {c : UInt8} (hc : c.toNat < 48) : ∀ u ∈ e.key.data.toList ++ (if e.gone = true then [] else 61 :: (dec e.val).data.toList), u ≠ c := by
  intro u hu
  rcases List.mem_append.1 hu with hu | hu
  · exact key_ne h.key (by omega) u hu
  · split at hu
    · cases hu
    · rcases List.mem_cons.1 hu with rfl | hu
      · intro e
        rw [← e] at hc
        exact absurd hc (by decide)
      · exact dig_ne (.inl hc) h.val.1 u hu
theorem line_ne {e : Ent} (h : EntP e) {c : UInt8} (hc : c.toNat < 45 ∨ c.toNat = 59) : ∀ u ∈ lineL e, u ≠ c := by
  have hk : ∀ u ∈ e.key.data.toList, u ≠ c := key_ne h.key (by omega)
  have hv : ∀ u ∈ (dec e.val).data.toList, u ≠ c := dig_ne (by omega) h.val.1
  have ht : ∀ u ∈ (dec e.time).data.toList, u ≠ c := dig_ne (by omega) (by have := h.time; omega)
  have h61 : (61 : UInt8) ≠ c := fun e => by rw [← e] at hc; exact absurd hc (by decide)
  have h45 : (45 : UInt8) ≠ c := fun e => by rw [← e] at hc; exact absurd hc (by decide)
  intro u hu
  unfold lineL at hu
  rcases List.mem_append.1 hu with hu | hu
  · rcases List.mem_append.1 hu with hu | hu
    · exact hk u hu
    · split at hu
      · cases hu
      · rcases List.mem_cons.1 hu with rfl | hu
        · exact h61
        · exact hv u hu
  · rcases List.mem_cons.1 hu with rfl | hu
    · exact h45
    · exact ht u hu
theorem lines_ne {r : List Ent} (h : ∀ e ∈ r, EntP e) {c : UInt8} (hc : c.toNat < 45) : ∀ u ∈ lines r, u ≠ c := by
  intro u hu
  obtain ⟨l, hl, hul⟩ := List.mem_flatten.1 hu
  obtain ⟨e, he, rfl⟩ := List.mem_map.1 hl
  rcases List.mem_append.1 hul with hu | hu
  · exact line_ne (h e he) (.inl hc) u hu
  · rw [List.mem_singleton.1 hu]
    intro e
    rw [← e] at hc
    exact absurd hc (by decide)
theorem split_lines : ∀ {r : List Ent}, (∀ e ∈ r, EntP e) → splitL 59 (lines r) = r.map lineL ++ [[]]
  | [], _ => rfl
  | e :: r, h => by
    have ih := split_lines (r := r) (fun e he => h e (by simp [he]))
    have : lines (e :: r) = lineL e ++ 59 :: lines r := by simp [lines]
    rw [this, splitL_cut (line_ne (h e (by simp)) (.inr rfl)), ih]
    rfl
theorem cutI_free {c : UInt8} {s : ByteArray} (h : ∀ u ∈ s.data.toList, u ≠ c) : cutI c s = (s, ⟨#[]⟩, false) := by
  unfold cutI
  rw [cut_free h]
theorem cutI_here {c : UInt8} {s : ByteArray} {a b : List UInt8} (h : ∀ u ∈ a, u ≠ c) (hs : s.data.toList = a ++ c :: b) : cutI c s = (⟨a.toArray⟩, ⟨b.toArray⟩, true) := by
  unfold cutI
  rw [hs, cut_here h]
theorem entI_line {e : Ent} (h : EntP e) : entI ⟨(lineL e).toArray⟩ = e := by
  have h1 : cutI 45 ⟨(lineL e).toArray⟩ = (⟨(e.key.data.toList ++ (if e.gone = true then [] else 61 :: (dec e.val).data.toList)).toArray⟩, dec e.time, true) := by
    rw [cutI_here (s := ⟨(lineL e).toArray⟩) (head_ne h (by decide)) (show _ = _ ++ 45 :: (dec e.time).data.toList by rfl), ba_ls]
  have ht := numI_dec (n := e.time) (by have := h.time; omega)
  have hv := numI_dec (n := e.val) (by have := h.val; omega)
  unfold entI
  rw [h1]
  simp only
  have hg := h.gone
  have hk : ∀ u ∈ e.key.data.toList, u ≠ 61 := key_ne h.key (by decide)
  obtain ⟨key, val, gone, time⟩ := e
  simp only at hg ht hv hk ⊢
  cases gone with
  | true =>
    simp only [if_true, List.append_nil, ba_ls]
    rw [cutI_free hk, hg rfl, ht]
    rfl
  | false =>
    simp only [Bool.false_eq_true, if_false]
    rw [cutI_here (s := ⟨(key.data.toList ++ 61 :: (dec val).data.toList).toArray⟩) hk rfl, ht]
    simp only [ba_ls, if_true, hv, Bool.not_true]
theorem map_ls_two {ws : List ByteArray} {a b : List UInt8} (h : ws.map (·.data.toList) = [a, b]) : ws = [⟨a.toArray⟩, ⟨b.toArray⟩] := map_ls_eq h
theorem hearE_line {e : Ent} (h : EntP e) : hearE ⟨(lineL e).toArray⟩ = e := by
  have htn := dig_ne (c := 45) (.inl (by decide)) (n := e.time) (by have := h.time; omega)
  have hvn := dig_ne (c := 61) (.inr (by decide)) h.val.1
  have h1 : splitB 45 ⟨(lineL e).toArray⟩ = [⟨(e.key.data.toList ++ (if e.gone = true then [] else 61 :: (dec e.val).data.toList)).toArray⟩, dec e.time] := by
    have := splitB_ls 45 ⟨(lineL e).toArray⟩
    rw [show (⟨(lineL e).toArray⟩ : ByteArray).data.toList = (e.key.data.toList ++ (if e.gone = true then [] else 61 :: (dec e.val).data.toList)) ++ 45 :: (dec e.time).data.toList from rfl, splitL_cut (head_ne h (by decide)), splitL_free htn] at this
    have := map_ls_two this
    rw [ba_ls] at this
    exact this
  have ht := numB_dec (n := e.time) (by have := h.time; omega)
  have hv := numB_dec (n := e.val) (by have := h.val; omega)
  unfold hearE
  rw [h1]
  simp only
  have hg := h.gone
  have hk : ∀ u ∈ e.key.data.toList, u ≠ 61 := key_ne h.key (by decide)
  obtain ⟨key, val, gone, time⟩ := e
  simp only at hg ht hv hk hvn ⊢
  cases gone with
  | true =>
    simp only [if_true, List.append_nil, ba_ls]
    have h2 : splitB 61 key = [key] := by
      have := map_ls_eq (splitB_ls 61 key)
      rw [splitL_free hk] at this
      simpa [ba_ls] using this
    rw [h2, hg rfl, ht]
  | false =>
    simp only [Bool.false_eq_true, if_false]
    have h2 : splitB 61 ⟨(key.data.toList ++ 61 :: (dec val).data.toList).toArray⟩ = [key, dec val] := by
      have := splitB_ls 61 ⟨(key.data.toList ++ 61 :: (dec val).data.toList).toArray⟩
      rw [show (⟨(key.data.toList ++ 61 :: (dec val).data.toList).toArray⟩ : ByteArray).data.toList = key.data.toList ++ 61 :: (dec val).data.toList from rfl, splitL_cut hk, splitL_free hvn] at this
      have := map_ls_two this
      rw [ba_ls, ba_ls] at this
      exact this
    rw [h2]
    simp only [ht, hv]

theorem sealT_ls (t : ByteArray) : (sealT t).data.toList = t.data.toList ++ 33 :: (dec (sumB t)).data.toList := by
  unfold sealT
  simp only [ls_app, lit1_ls]
  simp
theorem blockT_form {r : List Ent} (h : (blockT r).size ≠ 0) : runOk r = true ∧ blockT r = sealT (runText r) ∧ (blockT r).size ≤ 400 := by
  unfold blockT at h ⊢
  split at h
  · rename_i h1
    split at h
    · rename_i h2
      rw [if_pos h1, if_pos h2]
      exact ⟨h1, rfl, h2⟩
    · exact absurd rfl h
  · exact absurd rfl h
theorem blockT_ls {r : List Ent} (h : (blockT r).size ≠ 0) : (blockT r).data.toList = lines r ++ 33 :: (dec (sumB (runText r))).data.toList ∧ (∀ u ∈ lines r, u ≠ 33) ∧ (∀ e ∈ r, EntP e) := by
  obtain ⟨h1, h2, h3⟩ := blockT_form h
  have hp := runOk_p h1
  refine ⟨?_, lines_ne hp (by decide), hp⟩
  rw [h2, sealT_ls, runText_ls]
theorem readI_block {r : List Ent} (h : (blockT r).size ≠ 0) : (cutI 33 (blockT r)).2.2 = true ∧ readI (blockT r) = r := by
  obtain ⟨h1, h2, hp⟩ := blockT_ls h
  have hc := cutI_here (s := blockT r) h2 h1
  refine ⟨by rw [hc], ?_⟩
  unfold readI linesI
  rw [hc]
  simp only
  have hk := map_ls_eq (kSplit_ls 59 ⟨(lines r).toArray⟩)
  rw [show (⟨(lines r).toArray⟩ : ByteArray).data.toList = lines r from rfl, split_lines hp] at hk
  rw [hk]
  simp only [List.map_append, List.map_map, List.map_cons, List.map_nil, List.length_append, List.length_map, List.length_cons, List.length_nil, Nat.zero_add, Nat.add_sub_cancel]
  rw [List.take_append_of_le_length (by simp), List.take_of_length_le (by simp), List.map_map]
  conv => rhs; rw [← List.map_id r]
  apply List.map_congr_left
  intro e he
  exact entI_line (hp e he)
theorem readE_block {r : List Ent} (h : (blockT r).size ≠ 0) : readE (blockT r) = r := by
  obtain ⟨h1, h2, hp⟩ := blockT_ls h
  have hc : (splitB 33 (blockT r)).headD ⟨#[]⟩ = ⟨(lines r).toArray⟩ := by
    have := map_ls_eq (splitB_ls 33 (blockT r))
    rw [h1, splitL_cut h2] at this
    rw [show splitB 33 (blockT r) = splitB ((33 : UInt8).toNat : Int) (blockT r) from rfl, this]
    rfl
  unfold readE linesB
  rw [hc]
  have hk := map_ls_eq (splitB_ls 59 ⟨(lines r).toArray⟩)
  rw [show (⟨(lines r).toArray⟩ : ByteArray).data.toList = lines r from rfl, split_lines hp] at hk
  rw [show splitB 59 ⟨(lines r).toArray⟩ = splitB ((59 : UInt8).toNat : Int) ⟨(lines r).toArray⟩ from rfl, hk]
  simp only [List.map_append, List.map_map, List.map_cons, List.map_nil, List.length_append, List.length_map, List.length_cons, List.length_nil, Nat.zero_add, Nat.add_sub_cancel]
  rw [List.take_append_of_le_length (by simp), List.take_of_length_le (by simp), List.map_map]
  conv => rhs; rw [← List.map_id r]
  apply List.map_congr_left
  intro e he
  exact hearE_line (hp e he)
theorem blockT_inj {r q : List Ent} (h : (blockT r).size ≠ 0) (e : blockT r = blockT q) : r = q := by
  rw [← readE_block h, e]
  exact readE_block (by rw [← e]; exact h)
/-- What is read of a text. -/
def BlockIs (t : ByteArray) (r : List Ent) (ok : Bool) : Prop := (ok = true ∧ t.size ≠ 0 ∧ blockT r = t) ∨ (ok = false ∧ r = [] ∧ ∀ q, blockT q = t → t.size = 0)
theorem BlockIs.one {t : ByteArray} {r q : List Ent} {ok ok' : Bool} (h : BlockIs t r ok) (h' : BlockIs t q ok') : r = q ∧ ok = ok' := by
  rcases h with ⟨h1, h2, h4⟩ | ⟨h1, h2, h3⟩
  · rcases h' with ⟨g1, g2, g4⟩ | ⟨g1, g2, g3⟩
    · exact ⟨blockT_inj (by rw [h4]; exact h2) (h4.trans g4.symm), by rw [h1, g1]⟩
    · exact absurd (g3 r h4) h2
  · rcases h' with ⟨g1, g2, g4⟩ | ⟨g1, g2, g3⟩
    · exact absurd (h3 q g4) g2
    · exact ⟨by rw [h2, g2], by rw [h1, g1]⟩
theorem BlockIs.back {r : List Ent} (h : (blockT r).size ≠ 0) : BlockIs (blockT r) r true := .inl ⟨rfl, h, rfl⟩
theorem BlockIs.no {t : ByteArray} {c : List Ent} (hc : ∀ q, (blockT q).size ≠ 0 → blockT q = t → c = q) (h : blockT c ≠ t) : BlockIs t [] false :=
  .inr ⟨rfl, rfl, fun q hq => by
    rcases Nat.eq_zero_or_pos t.size with h0 | h0
    · exact h0
    · have := hc q (by rw [hq]; omega) hq
      rw [this] at h
      exact absurd hq h⟩
theorem BlockIs.of_blockR (t : ByteArray) : BlockIs t ((blockR t).getD []) (blockR t).isSome := by
  unfold blockR
  split
  · rename_i h
    refine .inl ⟨rfl, fun h0 => h.2.1 ?_, h.2.2⟩
    apply ls_inj
    exact List.eq_nil_of_length_eq_zero (by rw [Array.length_toList]; exact h0)
  · rename_i h
    refine .inr ⟨rfl, rfl, fun q hq => ?_⟩
    rcases Nat.eq_zero_or_pos t.size with h0 | h0
    · exact h0
    · refine absurd ⟨?_, fun e => ?_, ?_⟩ h
      · have := (blockT_form (r := q) (by rw [hq]; omega)).2.2
        rw [hq] at this
        exact this
      · rw [e] at h0
        exact absurd h0 (by decide)
      · rw [← hq, readE_block (by rw [hq]; omega)]

end Go.Proofs.YtiecldkihdebiaaDoor.B

namespace Go.Proofs.YtiecldkihdebiaaDoor.B
open Go.RowKit Go.Proofs
set_option linter.unusedVariables false
set_option linter.unusedSimpArgs false
variable {E : Env}

/-- What the library's functions read: a table, a number, two errors. -/
structure LibE (E : Env) : Prop where
  tab : Tab10 E
  cut : ∀ w, E.G w → ∃ m, w.cell? ⟨Tryd.laysCut_ren.g 1, 0, none⟩ = some (.int .i64 m)
  split : ∀ w, E.G w → ∃ m, w.cell? ⟨Tryd.laysSplit_ren.g 1, 0, none⟩ = some (.int .i64 m)
  syn : ∀ w, E.G w → ∃ tp p, w.var? Tryd.prog "strconv.ErrSyntax" = some #[.iface tp p]
  rng : ∀ w, E.G w → ∃ tp p, w.var? Tryd.prog "strconv.ErrRange" = some #[.iface tp p]
theorem below_drewN (w : World) : ∀ (n : Nat), Below w.heap.size w (w.drewN n) := fun n => ⟨rfl, rfl, rfl, Nat.le_refl _, fun _ _ => rfl⟩
theorem two_vals {φ : Phi} {a b : ByteArray} {vals : List Value} (hv : VRs φ [.str a, .str b] vals) : vals = [.string a, .string b] := by
  obtain ⟨v, vs, rfl, h1, v2, vs2, rfl, h2, h3⟩ := hv
  have h1 : v = .string a := h1
  have h2 : v2 = .string b := h2
  have h3 : vs2 = [] := h3
  rw [h1, h2, h3]
theorem one_val {φ : Phi} {a : ByteArray} {vals : List Value} (hv : VRs φ [.str a] vals) : vals = [.string a] := by
  obtain ⟨v, vs, rfl, h1, h3⟩ := hv
  have h1 : v = .string a := h1
  have h3 : vs = [] := h3
  rw [h1, h3]
theorem Cut_ok (hE : LibE E) (s : ByteArray) (c : UInt8) (H : Hp) (hs : s.size < 4294967281) : AC Tryd.prog E 51 [.str s, .str ⟨#[c]⟩] H (fun v H' => v = .tu [.str (cutI c s).1, .str (cutI c s).2.1, .bool (cutI c s).2.2] ∧ H' = H) := by
  refine ⟨?_, fun φ w vals hv hH => ?_⟩
  · exact ⟨_, _, Tryd.func51, by kernel_rfl, rfl⟩
  · rw [two_vals hv]
    obtain ⟨m, hm⟩ := hE.cut w hH.glob
    refine Calls.mono (Any.strings_Cut { Tryd.laysCut with } s ⟨#[c]⟩ m w hs hm) ?_
    rintro e w' ⟨rfl, n, rfl⟩
    obtain ⟨h1, h2⟩ := hH.grown (below_drewN w n)
    exact ⟨φ, H, .tu [.str (cutI c s).1, .str (cutI c s).2.1, .bool (cutI c s).2.2], fun _ _ h => h, h1, h2, ⟨_, rfl, _, _, rfl, rfl, _, _, rfl, rfl, _, _, rfl, rfl, rfl⟩, rfl, rfl⟩
theorem TrimPrefix_ok (s : ByteArray) (H : Hp) : AC Tryd.prog E 37 [.str s, .str ⟨#[46]⟩] H (fun v H' => v = .str (trimP s) ∧ H' = H) := by
  refine ⟨?_, fun φ w vals hv hH => ?_⟩
  · exact ⟨_, _, Tryd.func37, by kernel_rfl, rfl⟩
  · rw [two_vals hv]
    refine Calls.mono (Any.strings_TrimPrefix Tryd.laysTrimPrefix s ⟨#[46]⟩ w) ?_
    rintro e w' ⟨rfl, rfl⟩
    exact ⟨φ, H, .str (trimP s), fun _ _ h => h, hH, Below.refl _ _, rfl, rfl, rfl⟩
theorem VRs_strs {φ : Phi} : ∀ (xs : List ByteArray), VRs φ ((xs.map strRow).flatten) (xs.map Value.string)
  | [] => rfl
  | x :: xs => ⟨.string x, xs.map Value.string, rfl, rfl, VRs_strs xs⟩
theorem Split_ok (hE : LibE E) (s : ByteArray) (c : UInt8) (H : Hp) (hs : s.size < 4294967281) : AC Tryd.prog E 34 [.str s, .str ⟨#[c]⟩] H (fun v H' => v = .sl H.length 0 (kSplit c s).length ∧ H' = H ++ [some ⟨(kSplit c s).map strRow, 1, 9, false⟩]) := by
  refine ⟨?_, fun φ w vals hv hH => ?_⟩
  · exact ⟨_, _, Tryd.func34, by kernel_rfl, rfl⟩
  · rw [two_vals hv]
    obtain ⟨m, hm⟩ := hE.split w hH.glob
    have hlen : (kSplit c s).length = Lib.countB s ⟨#[c]⟩ + 1 := Lib.splitB_all ⟨#[c]⟩ (Nat.le_refl 1) 0 _ s rfl
    refine Calls.mono (Any.strings_Split { Tryd.laysSplit with } Tryd.laysSplit.i9 s ⟨#[c]⟩ m w hs hm (Nat.le_refl 1)) ?_
    rintro e w' ⟨rfl, rfl⟩
    have hn := hH.new ((kSplit c s).map strRow) 1 9 ((kSplit c s).map Value.string) (VRs_strs _) (by
      intro r hr
      obtain ⟨x, _, rfl⟩ := List.mem_map.1 hr
      rfl) (by
      intro a ha
      obtain ⟨r, hr, har⟩ := List.mem_flatten.1 ha
      obtain ⟨x, _, rfl⟩ := List.mem_map.1 hr
      rw [List.mem_singleton.1 har]
      rfl)
    have hb : Below E.B0 w (w.alloc (.cells ((kSplit c s).map Value.string).toArray 9)) := (Below.refl E.B0 w).alloc hH.base _
    refine ⟨_, _, .sl H.length 0 (kSplit c s).length, Phi.put_le hH.none_at, hn, hb, ?_, rfl, rfl⟩
    rw [hlen]
    exact ⟨_, _, _, Phi.put_self, rfl, Nat.le_refl _, .inr ⟨rfl, .inr (by simp [hlen])⟩⟩
theorem Atoi_ok (hE : LibE E) (s : ByteArray) (H : Hp) (hs : s.size ≤ 281474976710656) : AC Tryd.prog E 65 [.str s] H (fun v H' => H' = H ∧ ((∃ n, Lib.atoiAll s.data.toList = .ok n ∧ v = .tu [.int .i64 n, .nili]) ∨ (∃ n, (∀ m, Lib.atoiAll s.data.toList ≠ .ok m) ∧ v = .tu [.int .i64 n, .er 0]))) := by
  refine ⟨?_, fun φ w vals hv hH => ?_⟩
  · exact ⟨_, _, Tryd.func65, by kernel_rfl, rfl⟩
  · rw [one_val hv]
    rcases ha : Lib.atoiAll s.data.toList with n | _ | _
    · refine Calls.mono (Any.strconv_Atoi_ok Tryd.laysAtoi s (by omega) n ha w) ?_
      rintro e w' ⟨rfl, hw⟩
      have hb : Below w.heap.size w w' := by
        rcases hw with rfl | ⟨t, rfl⟩
        · exact Below.refl _ _
        · exact Lib.bytesWorld_below _ _ _
      obtain ⟨h1, h2⟩ := hH.grown hb
      exact ⟨φ, H, .tu [.int .i64 n, .nili], fun _ _ h => h, h1, h2, ⟨_, rfl, _, _, rfl, rfl, _, _, rfl, rfl, rfl⟩, rfl, .inl ⟨n, rfl, rfl⟩⟩
    · obtain ⟨tp, p, hvar⟩ := hE.syn w hH.glob
      refine Calls.mono (Any.strconv_Atoi_syntax_var Tryd.laysAtoi s hs ha tp p w hvar) ?_
      rintro e w' ⟨N, rfl, -, -, hb⟩
      obtain ⟨h1, h2⟩ := hH.grown hb
      exact ⟨φ, H, .tu [.int .i64 0, .er 0], fun _ _ h => h, h1, h2, ⟨_, rfl, _, _, rfl, rfl, _, _, rfl, ⟨_, _, rfl⟩, rfl⟩, rfl, .inr ⟨0, fun m h => (by cases h), rfl⟩⟩
    · obtain ⟨tp, p, hvar⟩ := hE.rng w hH.glob
      refine Calls.mono (Any.strconv_Atoi_range_var Tryd.laysAtoi s hs ha tp p w hvar) ?_
      rintro e w' ⟨N, rfl, -, -, hb⟩
      obtain ⟨h1, h2⟩ := hH.grown hb
      exact ⟨φ, H, .tu [.int .i64 (Lib.atoiSat s.data.toList), .er 0], fun _ _ h => h, h1, h2, ⟨_, rfl, _, _, rfl, rfl, _, _, rfl, ⟨_, _, rfl⟩, rfl⟩, rfl, .inr ⟨_, fun m h => (by cases h), rfl⟩⟩

end Go.Proofs.YtiecldkihdebiaaDoor.B

namespace Go.Proofs.YtiecldkihdebiaaDoor.B
open Go.RowKit Go.Proofs
set_option linter.unusedVariables false
set_option linter.unusedSimpArgs false
variable {E : Env}

def tabI (f : Nat) (args : List AV) : Option AV :=
  match f, args with
  | 44, [.int .i64 n, .int .i64 l, .int .i64 h] => some (.bool (decide (l ≤ n ∧ n ≤ h)))
  | 45, [.str k] => if k.size < 4611686018427387904 then some (.bool (keyOk k)) else none
  | 36, [.int .i64 n] => some (.bool (decide (n = 1 ∨ n = 2)))
  | 38, [.int .i64 n] => some (.bool (decide (n = 1 ∨ n = 4 ∨ n = 6)))
  | _, _ => none
theorem tabI_ok : TabOK tabI Tryd.prog E := by
  intro f args r H h
  unfold tabI at h
  split at h
  · cases h
    exact in_ok _ _ _ _
  · split at h
    · cases h
      exact implKey_ok _ _ (by assumption)
    · cases h
  · cases h
    exact keyed_ok _ _
  · cases h
    exact counted_ok _ _
  · cases h
section
variable (C : CallP) (d : Option Nat) (ag : List (Option Nat × AOp × Option (Nat × Bool))) (p : Plan) (t : Tm) (H : Hp) (K : Tm → Hp → Prop)
@[simp] theorem tabI_in (n l h : Int) : callG (tC tabI C) 44 [.int .i64 n, .int .i64 l, .int .i64 h] d ag p t H K =
  (againG ag (updO t d (.bool (decide (l ≤ n ∧ n ≤ h)))) H ∧ RgP (tC tabI C) p (updO t d (.bool (decide (l ≤ n ∧ n ≤ h)))) H K) := rfl
@[simp] theorem tabI_keyed (n : Int) : callG (tC tabI C) 36 [.int .i64 n] d ag p t H K =
  (againG ag (updO t d (.bool (decide (n = 1 ∨ n = 2)))) H ∧ RgP (tC tabI C) p (updO t d (.bool (decide (n = 1 ∨ n = 2)))) H K) := rfl
@[simp] theorem tabI_counted (n : Int) : callG (tC tabI C) 38 [.int .i64 n] d ag p t H K =
  (againG ag (updO t d (.bool (decide (n = 1 ∨ n = 4 ∨ n = 6)))) H ∧ RgP (tC tabI C) p (updO t d (.bool (decide (n = 1 ∨ n = 4 ∨ n = 6)))) H K) := rfl
theorem tabI_key (k : ByteArray) (hk : k.size < 4611686018427387904) : callG (tC tabI C) 45 [.str k] d ag p t H K =
  (againG ag (updO t d (.bool (keyOk k))) H ∧ RgP (tC tabI C) p (updO t d (.bool (keyOk k))) H K) := callG_tab (if_pos hk)
end
theorem deedWords_ok (H : Hp) : AC Tryd.prog E 35 [] H (fun v H' => v = .sl H.length 0 7 ∧ H' = H ++ [some ⟨dWords.map strRow, 1, 9, false⟩]) := by
  refine AC_by fol (tC_le tab2_ok) h_impl_deedWords ?_
  simp [c_impl_deedWords, dWords, strRow]

theorem implDeedText_ok (hE : Tab10 E) (d : Dd) (H : Hp) (hk : d.key.size < 4611686018427387904) : AC Tryd.prog E 16 [ddAV d] H (fun v H' => v = .str (deedT d) ∧ H' = H) := by
  refine AC_byp (tC_le tabI_ok) h_impl_DeedText (by simp) ?_
  obtain ⟨kind, key, num⟩ := d
  simp only at hk
  have hkey : ∀ {C : CallP} {d : Option Nat} {ag} {p : Plan} {t : Tm} {H : Hp} {K : Tm → Hp → Prop}, _ := @fun C d ag p t H K => tabI_key C d ag p t H K key hk
  obtain ⟨H1, hH1⟩ : ∃ H1 : Hp, H1 = H ++ [some ⟨[[.int .i64 kind, .str key, .int .i64 num]], 3, 23, false⟩] := ⟨_, rfl⟩
  have hle1 : HLe H H1 := by rw [hH1]; exact HLe.self _ _
  have b0 : H1.at H.length = some ⟨[[.int .i64 kind, .str key, .int .i64 num]], 3, 23, false⟩ := by rw [hH1]; simp
  have b1 := (HLe.self H1 [some ⟨dWords.map strRow, 1, 9, false⟩]).2 _ _ b0
  have b2 : Hp.at (H1 ++ [some ⟨dWords.map strRow, 1, 9, false⟩]) H1.length = some ⟨dWords.map strRow, 1, 9, false⟩ := Hp.at_app_0.trans Hp.at_0
  have hleF : HLe H (H1 ++ [some ⟨dWords.map strRow, 1, 9, false⟩]) := hle1.app _
  have bad : deedOk ⟨kind, key, num⟩ = false → (⟨#[]⟩ : ByteArray) = deedT ⟨kind, key, num⟩ := fun h => by
    unfold deedT
    rw [h]
    rfl
  by_cases hr : 1 ≤ kind ∧ kind ≤ 6
  · cases hko : keyOk key with
    | false =>
      simp [c_impl_DeedText, ddAV, ← hH1, b0, hkey, hr.1, hr.2, hko]
      exact ⟨bad (by simp [deedOk, hko]), hle1⟩
    | true =>
    have hks := keyOk_size hko
    by_cases hnm : 0 ≤ num ∧ num ≤ 999
    case neg =>
      have hnm' : (!decide (0 ≤ num) || !decide (num ≤ 999)) = true := by simp; omega
      simp [c_impl_DeedText, ddAV, ← hH1, b0, hkey, hr.1, hr.2, hko]
      refine g_split (fun hq => ?_) (fun hq => ?_) (by simp)
      · simp
        exact ⟨bad (by simp [deedOk, hnm]), hle1⟩
      · rw [hnm'] at hq
        cases hq
    have hds := dec_size num ⟨by omega, by omega⟩
    have h6 : kind = 1 ∨ kind = 2 ∨ kind = 3 ∨ kind = 4 ∨ kind = 5 ∨ kind = 6 := by omega
    rcases h6 with rfl | rfl | rfl | rfl | rfl | rfl
    · simp [c_impl_DeedText, ddAV, ← hH1, b0, hkey, hko, hnm.1, hnm.2]
      refine cg_use (deedWords_ok H1) ?_
      have rk : (dWords.map strRow)[1]? = some [.str ⟨#[112, 117, 116]⟩] := rfl
      have w1 : (⟨#[112, 117, 116]⟩ : ByteArray).size = 3 := rfl
      have w2 : (⟨#[32, 46]⟩ : ByteArray).size = 2 := rfl
      have w3 : (⟨#[32]⟩ : ByteArray).size = 1 := rfl
      simp [b1, b2, rk]
      have hn : deedT ⟨1, key, num⟩ = ⟨#[112, 117, 116]⟩ ++ (⟨#[32, 46]⟩ ++ key) ++ (⟨#[32]⟩ ++ dec num) := by
        have e : deedT ⟨1, key, num⟩ = ⟨#[112, 117, 116]⟩ ++ (⟨#[32, 46]⟩ ++ key) ++ (⟨#[32]⟩ ++ dec num) := by
          unfold deedT
          rw [if_pos (by simp [deedOk, dKeyed, dCounted, hko, hnm.1, hnm.2])]
          rfl
        rw [e]
      refine ⟨by omega, by omega, cg_use (Itoa_ok hE num _ ⟨by omega, by omega⟩) ?_⟩
      simp [hn, hleF]
      omega
    · simp [c_impl_DeedText, ddAV, ← hH1, b0, hkey, hko, hnm.1, hnm.2]
      by_cases hn0 : num = 0
      case neg =>
        simp [hn0, b0]
        exact ⟨bad (by simp [deedOk, dCounted, hn0]), hle1⟩
      subst hn0
      simp [b0]
      refine cg_use (deedWords_ok H1) ?_
      have rk : (dWords.map strRow)[2]? = some [.str ⟨#[116, 97, 107, 101]⟩] := rfl
      have w1 : (⟨#[116, 97, 107, 101]⟩ : ByteArray).size = 4 := rfl
      have w2 : (⟨#[32, 46]⟩ : ByteArray).size = 2 := rfl
      have w3 : (⟨#[32]⟩ : ByteArray).size = 1 := rfl
      simp [b1, b2, rk]
      have hn : deedT ⟨2, key, 0⟩ = ⟨#[116, 97, 107, 101]⟩ ++ (⟨#[32, 46]⟩ ++ key) := by
        have e : deedT ⟨2, key, 0⟩ = ⟨#[116, 97, 107, 101]⟩ ++ (⟨#[32, 46]⟩ ++ key) ++ ⟨#[]⟩ := by
          unfold deedT
          rw [if_pos (by simp [deedOk, dKeyed, dCounted, hko])]
          rfl
        rw [e]
        simp only [ba_nil]
      exact ⟨by omega, by omega, hn.symm, hleF⟩
    · simp [c_impl_DeedText, ddAV, ← hH1, b0, hkey, hko, hnm.1, hnm.2]
      by_cases hky : key = ⟨#[]⟩
      case neg =>
        simp [hky, b0]
        exact ⟨bad (by simp [deedOk, dKeyed, hky]), hle1⟩
      subst hky
      simp [b0]
      by_cases hn0 : num = 0
      case neg =>
        simp [hn0, b0]
        exact ⟨bad (by simp [deedOk, dCounted, hn0]), hle1⟩
      subst hn0
      simp [b0]
      refine cg_use (deedWords_ok H1) ?_
      have rk : (dWords.map strRow)[3]? = some [.str ⟨#[104, 111, 108, 100]⟩] := rfl
      have w1 : (⟨#[104, 111, 108, 100]⟩ : ByteArray).size = 4 := rfl
      have w2 : (⟨#[32, 46]⟩ : ByteArray).size = 2 := rfl
      have w3 : (⟨#[32]⟩ : ByteArray).size = 1 := rfl
      simp [b1, b2, rk]
      have hn : deedT ⟨3, ⟨#[]⟩, 0⟩ = ⟨#[104, 111, 108, 100]⟩ := by
        have e : deedT ⟨3, ⟨#[]⟩, 0⟩ = ⟨#[104, 111, 108, 100]⟩ ++ ⟨#[]⟩ ++ ⟨#[]⟩ := by
          unfold deedT
          rw [if_pos (by simp [deedOk, dKeyed, dCounted, hko])]
          rfl
        rw [e]
        simp only [ba_nil]
      exact ⟨hn.symm, hleF⟩
    · simp [c_impl_DeedText, ddAV, ← hH1, b0, hkey, hko, hnm.1, hnm.2]
      by_cases hky : key = ⟨#[]⟩
      case neg =>
        simp [hky, b0]
        exact ⟨bad (by simp [deedOk, dKeyed, hky]), hle1⟩
      subst hky
      simp [b0]
      refine cg_use (deedWords_ok H1) ?_
      have rk : (dWords.map strRow)[4]? = some [.str ⟨#[102, 114, 101, 101]⟩] := rfl
      have w1 : (⟨#[102, 114, 101, 101]⟩ : ByteArray).size = 4 := rfl
      have w2 : (⟨#[32, 46]⟩ : ByteArray).size = 2 := rfl
      have w3 : (⟨#[32]⟩ : ByteArray).size = 1 := rfl
      simp [b1, b2, rk]
      have hn : deedT ⟨4, ⟨#[]⟩, num⟩ = ⟨#[102, 114, 101, 101]⟩ ++ (⟨#[32]⟩ ++ dec num) := by
        have e : deedT ⟨4, ⟨#[]⟩, num⟩ = ⟨#[102, 114, 101, 101]⟩ ++ ⟨#[]⟩ ++ (⟨#[32]⟩ ++ dec num) := by
          unfold deedT
          rw [if_pos (by simp [deedOk, dKeyed, dCounted, hko, hnm.1, hnm.2])]
          rfl
        rw [e]
        simp only [ba_nil]
      refine cg_use (Itoa_ok hE num _ ⟨by omega, by omega⟩) ?_
      simp [hn, hleF]
      omega
    · simp [c_impl_DeedText, ddAV, ← hH1, b0, hkey, hko, hnm.1, hnm.2]
      by_cases hky : key = ⟨#[]⟩
      case neg =>
        simp [hky, b0]
        exact ⟨bad (by simp [deedOk, dKeyed, hky]), hle1⟩
      subst hky
      simp [b0]
      by_cases hn0 : num = 0
      case neg =>
        simp [hn0, b0]
        exact ⟨bad (by simp [deedOk, dCounted, hn0]), hle1⟩
      subst hn0
      simp [b0]
      refine cg_use (deedWords_ok H1) ?_
      have rk : (dWords.map strRow)[5]? = some [.str ⟨#[100, 111, 119, 110]⟩] := rfl
      have w1 : (⟨#[100, 111, 119, 110]⟩ : ByteArray).size = 4 := rfl
      have w2 : (⟨#[32, 46]⟩ : ByteArray).size = 2 := rfl
      have w3 : (⟨#[32]⟩ : ByteArray).size = 1 := rfl
      simp [b1, b2, rk]
      have hn : deedT ⟨5, ⟨#[]⟩, 0⟩ = ⟨#[100, 111, 119, 110]⟩ := by
        have e : deedT ⟨5, ⟨#[]⟩, 0⟩ = ⟨#[100, 111, 119, 110]⟩ ++ ⟨#[]⟩ ++ ⟨#[]⟩ := by
          unfold deedT
          rw [if_pos (by simp [deedOk, dKeyed, dCounted, hko])]
          rfl
        rw [e]
        simp only [ba_nil]
      exact ⟨hn.symm, hleF⟩
    · simp [c_impl_DeedText, ddAV, ← hH1, b0, hkey, hko, hnm.1, hnm.2]
      by_cases hky : key = ⟨#[]⟩
      case neg =>
        simp [hky, b0]
        exact ⟨bad (by simp [deedOk, dKeyed, hky]), hle1⟩
      subst hky
      simp [b0]
      refine cg_use (deedWords_ok H1) ?_
      have rk : (dWords.map strRow)[6]? = some [.str ⟨#[106, 111, 105, 110]⟩] := rfl
      have w1 : (⟨#[106, 111, 105, 110]⟩ : ByteArray).size = 4 := rfl
      have w2 : (⟨#[32, 46]⟩ : ByteArray).size = 2 := rfl
      have w3 : (⟨#[32]⟩ : ByteArray).size = 1 := rfl
      simp [b1, b2, rk]
      have hn : deedT ⟨6, ⟨#[]⟩, num⟩ = ⟨#[106, 111, 105, 110]⟩ ++ (⟨#[32]⟩ ++ dec num) := by
        have e : deedT ⟨6, ⟨#[]⟩, num⟩ = ⟨#[106, 111, 105, 110]⟩ ++ ⟨#[]⟩ ++ (⟨#[32]⟩ ++ dec num) := by
          unfold deedT
          rw [if_pos (by simp [deedOk, dKeyed, dCounted, hko, hnm.1, hnm.2])]
          rfl
        rw [e]
        simp only [ba_nil]
      refine cg_use (Itoa_ok hE num _ ⟨by omega, by omega⟩) ?_
      simp [hn, hleF]
      omega
  · have hr' : (!decide (1 ≤ kind) || !decide (kind ≤ 6)) = true := by simp; omega
    simp [c_impl_DeedText, ddAV, ← hH1, b0]
    refine g_split (fun hq => ?_) (fun hq => ?_) (by simp)
    · simp [hle1]
      exact bad (by simp [deedOk, decide_eq_false hr])
    · rw [hr'] at hq
      cases hq

end Go.Proofs.YtiecldkihdebiaaDoor.B

namespace Go.Proofs.YtiecldkihdebiaaDoor.B
open Go.RowKit Go.Proofs
set_option linter.unusedVariables false
set_option linter.unusedSimpArgs false
variable {E : Env}

theorem number_ok (hE : LibE E) (s : ByteArray) (H : Hp) (hs : s.size ≤ 281474976710656) : AC Tryd.prog E 39 [.str s] H (fun v H' => v = .int .i64 (numI s) ∧ H' = H) := by
  refine AC_byp (tC_le tabI_ok) h_impl_number (by simp) ?_
  simp [c_impl_number]
  refine cg_ex (Atoi_ok hE s H hs) ?_
  rintro v H1 ⟨rfl, ⟨n, hn, rfl⟩ | ⟨n, hn, rfl⟩⟩
  · have e : numI s = if 0 ≤ n ∧ n ≤ 999999 ∧ dec n = s then n else -1 := by
      unfold numI
      rw [hn]
    simp
    refine g_split (fun hq => ?_) (fun hq => ?_) (by simp) <;> simp at hq
    · have hb : (decide (0 ≤ n) && decide (n ≤ 999999)) = false := by simp; omega
      simp
      rw [e, if_neg (by omega)]
    · simp
      refine cg_use (Itoa_ok hE.tab n _ ⟨by omega, by omega⟩) ?_
      simp
      refine c_split (fun hq2 => ?_) (fun hq2 => ?_) <;> simp at hq2
      · simp
        rw [e, if_neg (fun h => hq2 h.2.2)]
      · simp
        rw [e, if_pos ⟨hq.1, hq.2, hq2⟩]
  · have e : numI s = -1 := by
      unfold numI
      split
      · rename_i v hv
        exact absurd hv (hn v)
      · rfl
    simp
    exact e.symm

end Go.Proofs.YtiecldkihdebiaaDoor.B

namespace Go.Proofs.YtiecldkihdebiaaDoor.B
open Go.RowKit Go.Proofs
set_option linter.unusedVariables false
set_option linter.unusedSimpArgs false
variable {E : Env}

def tabJ (f : Nat) (args : List AV) : Option AV :=
  match f, args with
  | 44, [.int .i64 n, .int .i64 l, .int .i64 h] => some (.bool (decide (l ≤ n ∧ n ≤ h)))
  | 45, [.str k] => if k.size < 4611686018427387904 then some (.bool (keyOk k)) else none
  | _, _ => none
theorem tabJ_ok : TabOK tabJ Tryd.prog E := by
  intro f args r H h
  unfold tabJ at h
  split at h
  · cases h
    exact in_ok _ _ _ _
  · split at h
    · cases h
      exact implKey_ok _ _ (by assumption)
    · cases h
  · cases h
section
variable (C : CallP) (d : Option Nat) (ag : List (Option Nat × AOp × Option (Nat × Bool))) (p : Plan) (t : Tm) (H : Hp) (K : Tm → Hp → Prop)
@[simp] theorem tabJ_in (n l h : Int) : callG (tC tabJ C) 44 [.int .i64 n, .int .i64 l, .int .i64 h] d ag p t H K =
  (againG ag (updO t d (.bool (decide (l ≤ n ∧ n ≤ h)))) H ∧ RgP (tC tabJ C) p (updO t d (.bool (decide (l ≤ n ∧ n ≤ h)))) H K) := rfl
theorem tabJ_key (k : ByteArray) (hk : k.size < 4611686018427387904) : callG (tC tabJ C) 45 [.str k] d ag p t H K =
  (againG ag (updO t d (.bool (keyOk k))) H ∧ RgP (tC tabJ C) p (updO t d (.bool (keyOk k))) H K) := callG_tab (if_pos hk)
end
theorem entryOk_ok (e : Ent) (H : Hp) (hk : e.key.size < 4611686018427387904) : AC Tryd.prog E 61 [.ag (entRow e)] H (fun v H' => v = .bool (entOk e) ∧ H' = H) := by
  refine AC_byp (tC_le tabJ_ok) h_impl_entryOk (by simp) ?_
  have hkey : ∀ {C : CallP} {d : Option Nat} {ag} {p : Plan} {t : Tm} {H : Hp} {K : Tm → Hp → Prop}, _ := @fun C d ag p t H K => tabJ_key C d ag p t H K e.key hk
  simp [c_impl_entryOk, entRow, hkey]
  cases h1 : keyOk e.key with
  | false => simp [entOk, h1]
  | true =>
  simp
  refine g_split (fun h2 => ?_) (fun h2 => ?_) (by simp) <;> simp at h2 <;> simp [h2, entOk, h1]
  · cases h3 : e.gone with
    | false =>
      simp [h3]
    | true =>
      simp [h3]
      refine g_split (fun h4 => ?_) (fun h4 => ?_) (by simp) <;> simp at h4 <;> simp [h4, h2]
  · intro h5 h6
    omega
theorem before_ok (a b : Ent) (H : Hp) : AC Tryd.prog E 62 [.ag (entRow a), .ag (entRow b)] H (fun v H' => v = .bool (ahead a b) ∧ H' = H) := by
  refine AC_byp (tC_le tab0_ok) h_impl_before (by simp) ?_
  simp [c_impl_before, entRow]
  refine g_split (fun hq => ?_) (fun hq => ?_) (by simp) <;> simp [hq, ahead]
  refine g_split (fun hq2 => ?_) (fun hq2 => ?_) (by simp) <;> simp at hq2 <;> simp [hq, hq2]

theorem implRunOk_ok (a : AV) (r : List Ent) (H : Hp) (ha : Ents H a r) (hs : Short r) (hn : r.length < 4611686018427387904) : AC Tryd.prog E 29 [a] H (fun v H' => v = .bool (runOk r) ∧ H' = H) := by
  refine AC_byp (tC_le tabJ_ok) h_impl_RunOk (by simp) ?_
  have l1 := ha.len
  simp [c_impl_RunOk, l1, ha.slc]
  refine W_for (fun m t H' => ∃ i : Nat, i + m = r.length ∧ t 0 = a ∧ t 5 = a ∧ t 6 = .int .i64 r.length ∧ t 7 = .int .i64 i ∧ (∀ j : Nat, ∀ h : j < r.length, j < i → entOk r[j] = true ∧ ∀ h0 : 0 < j, ahead r[j - 1] r[j] = true) ∧ HLe H H') r.length ?_ (tC_mono AC_mono) ?_
  · exact ⟨0, by omega, by simp, by simp, by simp, by simp, by simp, HLe.refl _⟩
  rintro m t H' ⟨i, him, h0, h5, h6, h7, hI, hle⟩
  simp [h0, h5, h6, h7, l1, ha.slc]
  refine c_split (fun hq => ?_) (fun hq => ?_) <;> simp at hq
  · have hw := wrapN (i := i) (by omega)
    obtain ⟨o1, i1, ob1, rfl, a1, a2, a3⟩ := (ha.le hle).get hq
    have u1 := Hp.at_lt a1
    have no : (entOk r[i] = true ∧ ∀ h0 : 0 < i, ahead r[i - 1] r[i] = true) ∨ runOk r = false := by
      rcases Classical.em (entOk r[i] = true ∧ ∀ h0 : 0 < i, ahead r[i - 1] r[i] = true) with h | h
      · exact .inl h
      · refine .inr ?_
        simp only [runOk, decide_eq_false_iff_not]
        exact fun hh => h (hh.1 i hq)
    have yes : (entOk r[i] = true ∧ ∀ h0 : 0 < i, ahead r[i - 1] r[i] = true) → ∀ j : Nat, ∀ h : j < r.length, j < i + 1 → entOk r[j] = true ∧ ∀ h0 : 0 < j, ahead r[j - 1] r[j] = true := by
      intro hi j hj hji
      rcases Nat.lt_or_ge j i with h | h
      · exact hI j hj h
      · have : j = i := by omega
        subst this
        exact hi
    obtain ⟨G, hG⟩ : ∃ G : Hp, G = H' ++ [some ⟨[[.str r[i].key, .int .i64 r[i].val, .bool r[i].gone, .int .i64 r[i].time]], 4, 59, false⟩] := ⟨_, rfl⟩
    have hleG : HLe H' G := by rw [hG]; exact HLe.self _ _
    have bG : G.at H'.length = some ⟨[[.str r[i].key, .int .i64 r[i].val, .bool r[i].gone, .int .i64 r[i].time]], 4, 59, false⟩ := by rw [hG]; simp
    have a1G := hleG.2 _ _ a1
    simp [h0, h5, h6, h7, hq, a1, a2, a3, Hp.at_app, u1, ← hG, bG]
    refine cg_use (entryOk_ok r[i] G (hs.get hq)) ?_
    cases he : entOk r[i] with
    | false =>
      simp [h0, h5, h6, h7, he]
      exact ⟨no.resolve_left (fun h => by rw [he] at h; cases h.1), hle.trans hleG⟩
    | true =>
      rcases Nat.eq_zero_or_pos i with rfl | hp
      · simp [h0, h5, h6, h7]
        exact ⟨m - 1, by omega, 1, by omega, by decide, fun j hj hj1 => yes ⟨he, fun h => by omega⟩ j hj (by omega), hle.trans hleG⟩
      · have hw2 : IntKind.i64.wrap ((i : Int) - 1) = ((i - 1 : Nat) : Int) := by rw [wrap64 (by omega) (by omega)]; omega
        have hlt : i - 1 < r.length := by omega
        obtain ⟨o2, i2, ob2, e2, b1, b2, b3⟩ := (ha.le hle).get hlt
        cases e2
        rw [a1] at b1
        cases b1
        simp [h0, h5, h6, h7, hp, hw2, a1G, a2, b3, hlt, bG]
        refine cg_use (before_ok r[i - 1] r[i] G) ?_
        cases hb : ahead r[i - 1] r[i] with
        | false =>
          simp [h0, h5, h6, h7]
          exact ⟨no.resolve_left (fun h => by rw [h.2 hp] at hb; cases hb), hle.trans hleG⟩
        | true =>
          simp [h0, h5, h6, h7, hw]
          exact ⟨m - 1, by omega, i + 1, by omega, rfl, yes ⟨he, fun _ => hb⟩, hle.trans hleG⟩
  · have : i = r.length := by omega
    subst this
    simp [h0, l1, ha.slc]
    simp only [runOk, decide_eq_decide]
    exact ⟨⟨fun h => ⟨fun j hj => hI j hj hj, by omega⟩, fun h => by omega⟩, hle⟩

end Go.Proofs.YtiecldkihdebiaaDoor.B

namespace Go.Proofs.YtiecldkihdebiaaDoor.B
open Go.RowKit
set_option linter.unusedVariables false
set_option linter.unusedSimpArgs false
variable {P : Program} {E : Env}

/-- A string's bytes. -/
def bytesOf (s : ByteArray) : List Int := s.data.toList.map (fun b => (b.toNat : Int))
theorem bytesOf_len (s : ByteArray) : (bytesOf s).length = s.size := by
  rw [bytesOf, List.length_map, Array.length_toList]
  rfl
theorem strCells_eq (s : ByteArray) : Lib.strCells s = (bytesOf s).map (Value.int .u8) := by
  simp [Lib.strCells, bytesOf]
theorem bytesOf_app (a b : ByteArray) : bytesOf (a ++ b) = bytesOf a ++ bytesOf b := by
  simp [bytesOf, ByteArray.data_append]
theorem VRs_bytes {φ : Phi} : ∀ (bs : List Int), VRs φ ((bs.map byteRow).flatten) (bs.map (Value.int .u8))
  | [] => rfl
  | b :: bs => ⟨.int .u8 b, bs.map (Value.int .u8), rfl, rfl, VRs_bytes bs⟩
theorem one_bytes (bs : List Int) : ∀ a ∈ (bs.map byteRow).flatten, one a = true := by
  intro a ha
  obtain ⟨r, hr, har⟩ := List.mem_flatten.1 ha
  obtain ⟨n, _, rfl⟩ := List.mem_map.1 hr
  rw [List.mem_singleton.1 har]
  rfl
theorem len_bytes (bs : List Int) : ∀ r ∈ bs.map byteRow, r.length = 1 := by
  intro r hr
  obtain ⟨n, _, rfl⟩ := List.mem_map.1 hr
  rfl
theorem VRs_bytes_eq {φ : Phi} : ∀ {bs : List Int} {l : List Value}, VRs φ ((bs.map byteRow).flatten) l → l = bs.map (Value.int .u8)
  | [], l, h => h
  | b :: bs, l, ⟨v, vs, e, h1, h2⟩ => by
    rw [e, VRs_bytes_eq h2, show v = .int .u8 b from h1]
    rfl

/-- Bytes of one's own, in a whole object, or none. -/
def BufA (e : Nat) (H : Hp) (x : AV) (bs : List Int) : Prop := (x = .nils ∧ bs = []) ∨ ∃ o, x = .sl o 0 bs.length ∧ H.at o = some ⟨bs.map byteRow, 1, e, false⟩
def bufO : AV → Option Nat
  | .sl o _ _ => some o
  | _ => none
/-- What an append makes of memory and of the slice. -/
def bufW (x : AV) (cs : List Int) : Bool := match x, cs with
  | .nils, [] => false
  | _, _ => true
def bufH (e : Nat) (H : Hp) (x : AV) (bs cs : List Int) : Hp × AV := if bufW x cs = false then (H, .nils) else (killO H (bufO x) ++ [some ⟨(bs ++ cs).map byteRow, 1, e, false⟩], .sl H.length 0 (bs ++ cs).length)
theorem HR.appStr {t u ty e : TypeId} {i : TypeInfo} (ht : P.underlying t = some (.slice e)) (hu : P.underlying u = some .string) (hi : P.info? e = some i) (hz : i.zero = some (.int .u8 0)) (hsz : i.size = 1) (hby : i.bytes = 1)
    {φ : Phi} {H : Hp} {w : World} (hH : HR E φ H w) {x : AV} {v : Value} (hv : VR φ x v) {bs : List Int} (s : ByteArray) (hx : BufA e H x bs) (hlen : bs.length + s.size ≤ 140737488355328) :
    ∃ v' w' φ', (Builtin.append_ #[t, u] ty #[v, .string s]).run P w = .ok v' w' ∧ PLe φ φ' ∧ HR E φ' (bufH e H x bs (bytesOf s)).1 w' ∧ Below E.B0 w w' ∧ VR φ' (bufH e H x bs (bytesOf s)).2 v' := by
  have hsl := bytesOf_len s
  rcases hx with ⟨rfl, rfl⟩ | ⟨o, rfl, ho⟩
  · have hv : v = .slice none 0 0 := hv
    subst hv
    by_cases hm : s.size = 0
    · have hn : Lib.strCells s = [] := List.eq_nil_of_length_eq_zero (by rw [Lib.strCells_length]; exact hm)
      have hb : bytesOf s = [] := List.eq_nil_of_length_eq_zero (by omega)
      have hf := Lib.run_firstCells_string (P := P) w 1 s
      rw [hm] at hf
      refine ⟨.slice none 0 0, w, φ, ?_, PLe.refl _, ?_, Below.refl _ _, ?_⟩
      · simp [Builtin.append_, run_underlying ht, run_underlying hu, sizeOf, typeInfo, hi, hsz, Builtin.lenOf, hm, hf]
      · rw [hb]
        exact hH
      · rw [hb]
        exact rfl
    · have hb : bufW .nils (bytesOf s) = true := by
        cases h : bytesOf s with
        | nil => rw [h] at hsl; simp at hsl; omega
        | cons b bs => rfl
      have hr := run_append_nil_string (P := P) w t u ty e i (.int .u8 0) ht hu hi hz s (by omega) (by omega) (by rw [hby]; omega)
      have e1 : (s.data.map fun b => Value.int .u8 b.toNat) = ((bytesOf s).map (Value.int .u8)).toArray := by
        apply Array.ext'
        simp [bytesOf]
      rw [e1] at hr
      have hcap := grownCap_ge w s.size 0 e
      have hcsz : (((bytesOf s).map (Value.int .u8)).toArray ++ Builtin.zeroCells (Value.int .u8 0).cells (grownCap w s.size 0 e - s.size)).size = grownCap w s.size 0 e := by
        have hz1 : (Value.int IntKind.u8 0).cells.size = 1 := rfl
        rw [Array.size_append, List.size_toArray, size_zeroCells, hz1, List.length_map]
        omega
      have hbel : Below E.B0 w (w.drew.alloc (.cells (((bytesOf s).map (Value.int .u8)).toArray ++ Builtin.zeroCells (Value.int .u8 0).cells (grownCap w s.size 0 e - s.size)) e)) := (Below.refl E.B0 w).drew.alloc hH.base _
      obtain ⟨g1, g2⟩ := hH.moved none (rows := (bytesOf s).map byteRow) (esz := 1) (ety := e) (b := w.heap.size) (xs := (bytesOf s).map (Value.int .u8)) hbel hH.base (heap_alloc_new w.drew _)
        (fun k hk _ => Below.heap_alloc w.drew _ k hk) (.inl (Nat.le_refl _)) (VRs_bytes _) (len_bytes _) (one_bytes _) (fun j v hv => by
          have hj := (List.getElem?_eq_some_iff.1 hv).1
          rw [Array.getElem?_append_left (by simpa using hj)]
          simpa using hv)
      refine ⟨_, _, _, hr, g1, ?_, hbel, ?_⟩
      · simpa [bufH, hb, bufO] using g2
      · simp only [bufH, hb, Bool.true_eq_false, if_false, List.nil_append]
        exact ⟨_, _, _, Phi.put_self, by rw [hsl], by omega, .inr ⟨by simp, .inr (by simp only [Nat.zero_add, Nat.mul_one]; exact hcsz.symm)⟩⟩
  · obtain ⟨p, ad, c, hp, rfl, hmc, hc⟩ := hv
    have ho' := Hp.at_some ho
    obtain ⟨q1, q2, cells, ee, fr, hblk, hrw, hrows⟩ := hH.obj _ _ ho' p hp
    obtain ⟨rfl, he, hpsz, hbase, hB⟩ := hrw rfl
    have he : ee = e := he
    rw [he] at hblk
    have hpe : p.esz = 1 := q2
    have hpro : p.ro = false := q1
    obtain ⟨olds, l1, l2, l3, l4, l5⟩ := hH.rowsCells ho' hp 0 bs.length (by simp)
    rw [hpe] at l2 l3
    simp only [List.drop_zero, Nat.mul_one, hbase, Nat.zero_add, Nat.zero_mul] at l1 l2 l3
    rw [List.take_of_length_le (by simp)] at l1
    have hol := VRs_bytes_eq l1
    subst hol
    have hne : bufW (AV.sl o 0 bs.length) (bytesOf s) = true := rfl
    have hall : (bs ++ bytesOf s).map (Value.int .u8) = bs.map (Value.int .u8) ++ Lib.strCells s := by rw [List.map_append, strCells_eq]
    have hgetc : ∀ (j : Nat) (u : Value), (bs.map (Value.int .u8))[j]? = some u → cells[j]? = some u := by
      intro j u hu
      have := l3 j u hu
      rw [Addr_add] at this
      simpa [World.cell?, hblk] using this
    rcases Nat.lt_or_ge c (bs.length + s.size) with hg | hroom
    · have holds : ∀ (j : Nat) (u : Value), (bs.map (Value.int .u8))[j]? = some u → w.cell? (ad.add j) = some u := by
        intro j u hu
        rcases hc with hc | ⟨rfl, _⟩
        · have : bs = [] := List.length_eq_zero_iff.1 (by omega)
          rw [this] at hu
          simp at hu
        · have := l3 j u hu
          simpa [hbase] using this
      have hr := Lib.run_append_grow_string (P := P) w t u ty e i (.int .u8 0) ht hu hi hz ad bs.length c (bs.map (Value.int .u8)) (by rw [hsz]; simp) holds s hg (by omega) (by rw [hby]; exact growslice_fits (by omega) (by omega))
      have hcap := grownCap_ge w (bs.length + s.size) c e
      have hcsz : ((bs.map (Value.int .u8)).toArray ++ (Lib.strCells s).toArray ++ Builtin.zeroCells (Value.int .u8 0).cells (grownCap w (bs.length + s.size) c e - (bs.length + s.size))).size = grownCap w (bs.length + s.size) c e := by
        have hz1 : (Value.int IntKind.u8 0).cells.size = 1 := rfl
        have := Lib.strCells_length s
        rw [Array.size_append, Array.size_append, List.size_toArray, List.size_toArray, size_zeroCells, hz1, List.length_map]
        omega
      have hbel : Below E.B0 w (w.drew.alloc (.cells ((bs.map (Value.int .u8)).toArray ++ (Lib.strCells s).toArray ++ Builtin.zeroCells (Value.int .u8 0).cells (grownCap w (bs.length + s.size) c e - (bs.length + s.size))) e)) := (Below.refl E.B0 w).drew.alloc hH.base _
      obtain ⟨g1, g2⟩ := hH.moved (some o) (rows := (bs ++ bytesOf s).map byteRow) (esz := 1) (ety := e) (b := w.heap.size) (xs := (bs ++ bytesOf s).map (Value.int .u8)) hbel hH.base (heap_alloc_new w.drew _)
        (fun k hk _ => Below.heap_alloc w.drew _ k hk) (.inl (Nat.le_refl _)) (VRs_bytes _) (len_bytes _) (one_bytes _) (fun j v hv => by
          have hj := (List.getElem?_eq_some_iff.1 hv).1
          rw [hall] at hv hj
          rw [Array.getElem?_append_left (by simpa using hj)]
          simpa using hv)
      refine ⟨_, _, _, hr, g1, ?_, hbel, ?_⟩
      · simpa [bufH, hne, bufO] using g2
      · simp only [bufH, hne, Bool.true_eq_false, if_false]
        exact ⟨_, _, _, Phi.put_self, by rw [List.length_append, hsl], by rw [List.length_append, hsl]; omega, .inr ⟨by simp, .inr (by simp only [Nat.zero_add, Nat.mul_one]; exact hcsz.symm)⟩⟩
    · have hcs := Lib.strCells_length s
      rcases hc with hc | ⟨rfl, hc⟩
      · -- no room at all: nothing is there, nothing comes
        have hb0 : bs = [] := List.length_eq_zero_iff.1 (by omega)
        have hs0 : s.size = 0 := by omega
        have hcn : Lib.strCells s = [] := List.eq_nil_of_length_eq_zero (by omega)
        have hne' : ∀ n, bufW (AV.sl o 0 n) [] = true := fun _ => rfl
        have hsb : bytesOf s = [] := List.length_eq_zero_iff.1 (by omega)
        have hf := Lib.run_firstCells_string (P := P) w 1 s
        rw [hs0] at hf
        subst hb0
        have hbel : Below E.B0 w w := Below.refl _ _
        obtain ⟨g1, g2⟩ := hH.moved (w' := w) (some o) (rows := []) (esz := 1) (ety := e) (b := p.b) (xs := []) (cells := cells) hbel hB hblk
          (fun k hk _ => rfl) (.inr ⟨o, _, p, rfl, ho', hp, rfl, rfl⟩) rfl (by simp) (by simp) (by simp)
        refine ⟨.slice (some ad) 0 c, w, _, ?_, g1, ?_, hbel, ?_⟩
        · subst hc
          simp [Builtin.append_, run_underlying ht, run_underlying hu, sizeOf, typeInfo, hi, hsz, Builtin.lenOf, hs0, hf, hcn, storeCells]
        · simpa [bufH, hne', bufO, hsb] using g2
        · simp only [bufH, hne', Bool.true_eq_false, if_false, hsb, List.append_nil]
          exact ⟨_, _, _, Phi.put_self, rfl, by simp, .inl hc⟩
      · rcases hc with hc | hc
        · rw [hpro] at hc; cases hc
        · have ead : (⟨p.b, p.base + 0 * p.esz, none⟩ : Addr) = ⟨p.b, 0, none⟩ := by simp [hbase]
          rw [Nat.zero_add, hpe, Nat.mul_one] at hc
          have hfit : bs.length + s.size ≤ cells.size := by omega
          have hr := Lib.run_append_room_string (P := P) w t u ty e i ht hu hi hsz p.b bs.length c cells hblk s hroom hfit
          have hbel : Below E.B0 w (w.setRow p.b (cells.toList.take bs.length ++ Lib.strCells s ++ cells.toList.drop (bs.length + s.size)).toArray) := setRow_below hB
          have hcsz : (cells.toList.take bs.length ++ Lib.strCells s ++ cells.toList.drop (bs.length + s.size)).toArray.size = cells.size := by
            simp only [List.size_toArray, List.length_append, List.length_take, List.length_drop, Array.length_toList]
            omega
          have htk : cells.toList.take bs.length = bs.map (Value.int .u8) := by
            apply List.ext_getElem?
            intro j
            rw [List.getElem?_take]
            split
            · rename_i hj
              have hu := List.getElem?_eq_getElem (l := bs.map (Value.int .u8)) (i := j) (by simpa using hj)
              rw [hu]
              simpa using hgetc j _ hu
            · rename_i hj
              rw [List.getElem?_eq_none (by simpa using hj)]
          obtain ⟨g1, g2⟩ := hH.moved (some o) (rows := (bs ++ bytesOf s).map byteRow) (esz := 1) (ety := e) (b := p.b) (xs := (bs ++ bytesOf s).map (Value.int .u8)) hbel hB (setRow_heap w p.b cells _ e (0, 0) hblk)
            (fun k hk hne => setRow_other w p.b k _ hne) (.inr ⟨o, _, p, rfl, ho', hp, rfl, rfl⟩) (VRs_bytes _) (len_bytes _) (one_bytes _) (fun j u hu => by
              have hj := (List.getElem?_eq_some_iff.1 hu).1
              rw [hall, ← htk] at hu hj
              simp only [List.getElem?_toArray]
              rw [List.getElem?_append_left hj]
              exact hu)
          refine ⟨_, _, _, by rw [ead]; exact hr, g1, ?_, hbel, ?_⟩
          · simpa [bufH, hne, bufO] using g2
          · simp only [bufH, hne, Bool.true_eq_false, if_false]
            refine ⟨_, _, _, Phi.put_self, by rw [List.length_append, hsl], by rw [List.length_append, hsl]; omega, .inr ⟨by simp, .inr ?_⟩⟩
            show (0 + c) * 1 = _
            rw [hcsz, Nat.zero_add, Nat.mul_one, hc, hpsz]

end Go.Proofs.YtiecldkihdebiaaDoor.B

namespace Go.Proofs.YtiecldkihdebiaaDoor.B
open Go.RowKit Go.Proofs
set_option linter.unusedVariables false
set_option linter.unusedSimpArgs false
variable {E : Env}

set_option maxRecDepth 100000 in
theorem copy_used (b : Nat) (w : World) (h0 : w.cell? ⟨b, 0, none⟩ = some (.pointer (some ⟨b, 0, none⟩))) :
    Calls Tryd.prog 87 #[.pointer (some ⟨b, 0, none⟩)] w fun e w' => e = .returned (.tuple #[]) ∧ w' = w := by
  obtain ⟨j, hj, _⟩ := Option.map_eq_some_iff.1 (show (Tryd.prog.info? 78).map (·.size) = some 2 by kernel_rfl)
  go_enter Tryd.func87, Tryd.ntmps87
  go_wp2
  rw [Lib.run_neq_ptr_same w _ Tryd.underlying76 hj]
  go_wp2
  go_end0
  exact ⟨rfl, rfl⟩

theorem lies_builder {n : Nat} (hn : 1 ≤ n) : liesAt Tryd.prog Tryd.prog.depth 78 n 0 78 1 = true := by
  have hs : Tryd.prog.cellsOf 78 = 2 := by kernel_rfl
  have hf : sameLayout Tryd.prog Tryd.prog.depth 78 78 = true := by kernel_rfl
  have hd : ∃ d, Tryd.prog.depth = d + 1 := ⟨Tryd.prog.depth - 1, by
    have : 0 < Tryd.prog.depth := Nat.lt_of_lt_of_le (show 0 < 1 by omega) (Nat.le_of_ble_eq_true (by kernel_rfl))
    omega⟩
  obtain ⟨d, hd⟩ := hd
  rw [hd] at hf
  simp only [hd, liesAt, rowAt, hs, hf]
  simp [hn]
set_option maxRecDepth 100000 in
theorem copy_fresh (b c : Nat) (w : World) (h0 : w.cell? ⟨b, 0, none⟩ = some (.pointer none)) (hsh : w.shape? b = some (78, c)) (hc : 2 ≤ c) (hfz : w.frozen? ⟨b, 0, none⟩ = false) :
    Calls Tryd.prog 87 #[.pointer (some ⟨b, 0, none⟩)] w fun e w' => e = .returned (.tuple #[]) ∧ w' = w.setCell ⟨b, 0, none⟩ (.pointer (some ⟨b, 0, none⟩)) := by
  obtain ⟨j, hj, hjs⟩ := Option.map_eq_some_iff.1 (show (Tryd.prog.info? 78).map (·.size) = some 2 by kernel_rfl)
  have hs : Tryd.prog.cellsOf 78 = 2 := by kernel_rfl
  have hlies : liesAt Tryd.prog Tryd.prog.depth 78 (c / Tryd.prog.cellsOf 78) 0 78 1 = true := by
    rw [hs]
    exact lies_builder (by omega)
  go_enter Tryd.func87, Tryd.ntmps87
  go_wp2
  rw [Lib.run_to_unsafe w ⟨b, 0, none⟩ Tryd.underlying76 Tryd.underlying107 hj (by rw [hjs]; decide) hsh (show 0 < c by omega)]
  simp only [Result.andThen]
  rw [Oper.upon_value]
  go_wp2
  rw [run_callFunc_extern Tryd.func106 (by kernel_rfl) (by kernel_rfl) (by kernel_rfl) (e := Extern.AbiNoEscape.same) (by kernel_rfl)]
  rw [Lib.run_noEscape]
  simp only [Result.andThen]
  rw [Oper.upon_value]
  go_wp2
  rw [Lib.run_from_unsafe w ⟨b, 0, none⟩ Tryd.underlying107 Tryd.underlying76 hj hsh hlies]
  simp only [Result.andThen]
  rw [Oper.upon_value]
  go_wp2
  go_end0
  exact ⟨rfl, rfl⟩

/-- A builder's block. -/
theorem bld_parts {φ : Phi} {H : Hp} {w : World} (hH : HR E φ H w) {o : Nat} {a x : AV} (ho : H.at o = some ⟨[[a, x]], 2, 78, false⟩) {v : Value} (hv : VR φ (.pt o 0 0) v) :
    ∃ p cells va vx, φ o = some p ∧ v = .pointer (some ⟨p.b, 0, none⟩) ∧ p.base = 0 ∧ p.esz = 2 ∧ w.heap[p.b]? = some (.cells cells 78 (0, 0)) ∧ 2 ≤ cells.size ∧ cells[0]? = some va ∧ cells[1]? = some vx ∧ VR φ a va ∧ VR φ x vx ∧ E.B0 ≤ p.b := by
  obtain ⟨p, hp, rfl⟩ := hv
  have ho' := Hp.at_some ho
  obtain ⟨q1, q2, cells, ee, fr, hblk, hrw, hrows⟩ := hH.obj _ _ ho' p hp
  obtain ⟨rfl, he, hpsz, hbase, hB⟩ := hrw rfl
  have he : ee = 78 := he
  rw [he] at hblk
  have hpe : p.esz = 2 := q2
  obtain ⟨hl, hc⟩ := hrows 0 [a, x] rfl
  obtain ⟨h1, va, hva, hRa⟩ := hc 0 a rfl
  obtain ⟨h2, vx, hvx, hRx⟩ := hc 1 x rfl
  rw [hbase] at hva hvx
  simp only [Nat.zero_mul, Nat.add_zero, Nat.zero_add] at hva hvx
  have hsz : 1 < cells.size := (Array.getElem?_eq_some_iff.1 hvx).1
  exact ⟨p, cells, va, vx, hp, by simp [hbase], hbase, hpe, hblk, hsz, hva, hvx, hRa, hRx, hB⟩
theorem copy_HR {φ : Phi} {H : Hp} {w : World} (hH : HR E φ H w) {o : Nat} {a x : AV} (ho : H.at o = some ⟨[[a, x]], 2, 78, false⟩) (ha : a = .nilp ∨ a = .pt o 0 0) {p : Pl} (hp : φ o = some p) (hb : p.base = 0) (he : p.esz = 2) :
    Calls Tryd.prog 87 #[.pointer (some ⟨p.b, 0, none⟩)] w fun e w' => e = .returned (.tuple #[]) ∧ Below E.B0 w w' ∧ HR E φ (List.set H o (some ⟨[[.pt o 0 0, x]], 2, 78, false⟩)) w' := by
  have hvp : VR φ (.pt o 0 0) (.pointer (some ⟨p.b, 0, none⟩)) := ⟨p, hp, by simp [hb]⟩
  obtain ⟨p', cells, va, vx, hp', _, _, _, hblk, hsz, c0, c1, ra, rx, hB⟩ := bld_parts hH ho hvp
  obtain rfl := Option.some.inj (hp.symm.trans hp')
  have k0 : w.cell? ⟨p.b, 0, none⟩ = some va := by simp [World.cell?, hblk, c0]
  have ho' := Hp.at_some ho
  rcases ha with rfl | rfl
  · have hva : va = .pointer none := ra
    subst hva
    refine (copy_fresh p.b cells.size w k0 (by simp [World.shape?, hblk]) hsz (by simp [World.frozen?, hblk])).mono ?_
    rintro e w' ⟨rfl, rfl⟩
    have hs := hH.set1 ho' rfl hp (i := 0) (row := [.nilp, x]) rfl (f := 0) (by simp) (a := .pt o 0 0) (v := .pointer (some ⟨p.b, 0, none⟩)) rfl hvp
    rw [hb] at hs
    simp only [Nat.zero_mul, Nat.add_zero] at hs
    exact ⟨rfl, hs.2.2.1, hs.2.2.2⟩
  · obtain ⟨p2, hp2, hva⟩ := ra
    obtain rfl := Option.some.inj (hp.symm.trans hp2)
    rw [hva] at k0
    simp only [hb, Nat.zero_mul, Nat.add_zero] at k0
    refine (copy_used p.b w k0).mono ?_
    rintro e w' ⟨rfl, rfl⟩
    have e1 : List.set H o (some ⟨[[.pt o 0 0, x]], 2, 78, false⟩) = H := by
      apply List.ext_getElem?
      intro j
      rw [List.getElem?_set]
      split
      · rename_i h
        subst h
        split
        · exact ho'.symm
        · rename_i h2
          rw [List.getElem?_eq_none (by omega)]
      · rfl
    rw [e1]
    exact ⟨rfl, Below.refl _ _, hH⟩

end Go.Proofs.YtiecldkihdebiaaDoor.B
