/- A part of the proof: Written by codes.py: the compact codes of functions; each is what compF makes of the program's own. The program logic over the seat's program: functions by their codes, calls read off a table. The reference's small functions, and the table of calls that touch no memory. The reference's functions for keys, runs and texts. The reference's reader of codes, and what it draws. What the reference draws: keys and runs. The law FnBlockSum. Runs, sieves and stores, in plain Lean. The reference's functions for runs. The reference's functions for runs and times. The reference's functions for sieves. The reference's functions for sieves: they make what was said. The reference's SieveOf. The reference's KeysOk and SieveOf. The program logic: what is guarded, and read again. The reference's StoreOk. There is no condition. -/
import Derived.Test.YtkdnijiipegabaaProg
import Derived.Test.YtkdnijiipegabaaM0
import Derived.Test.YtkdnijiipegabaaM1
namespace Go.Proofs.Ytkdnijiipegabaa.B
open Go.Proofs
def c_spec_l13Do : CF := ⟨62, (.seq (.plan (.st (some 2) (.box 65 6 (.t 0)) none [] (.st (some 3) (.box 107 3 (.t 1)) none [] (.st (some 4) (.alloc 65 [.nils, .nils, .nils, (.int .i64 0), (.int .i64 0), .nils]) none [] (.st (some 5) (.mv (.c (.bool false))) none [] .fin))))) (.seq (.seq (.plan (.st (some 9) (.fa 0 (.t 3)) none [] (.st (some 10) (.ld (.t 9)) none [] .fin))) (.block 0 (.seq (.plan (.st (some 12) (.bin .eql (.t 10) (.c (.int .i64 1))) none [] (.st (some 11) (.mv (.t 12)) none [] .fin))) (.cond (.t 11) (.seq (.plan (.st (some 13) (.lda 6 (.t 2)) none [] (.st (some 14) (.fa 1 (.t 3)) none [] (.st (some 15) (.ld (.t 14)) none [] (.st (some 16) (.fa 2 (.t 3)) none [] (.st (some 17) (.ld (.t 16)) none [] (.st (some 18) (.call 78 [(.t 13), (.t 15), (.t 17)]) none [] (.st (some 19) (.ext 0 (.t 18)) none [] (.st (some 20) (.ext 1 (.t 18)) none [] (.st none (.st 6 (.t 4) (.t 19)) none [] (.st (some 5) (.mv (.t 20)) none [] .fin))))))))))) .ret) (.seq (.plan (.st (some 22) (.bin .eql (.t 10) (.c (.int .i64 2))) none [] (.st (some 21) (.mv (.t 22)) none [] .fin))) (.cond (.t 21) (.seq (.plan (.st (some 23) (.lda 6 (.t 2)) none [] (.st (some 24) (.fa 1 (.t 3)) none [] (.st (some 25) (.ld (.t 24)) none [] (.st (some 26) (.call 79 [(.t 23), (.t 25)]) none [] (.st (some 27) (.ext 0 (.t 26)) none [] (.st (some 28) (.ext 1 (.t 26)) none [] (.st none (.st 6 (.t 4) (.t 27)) none [] (.st (some 5) (.mv (.t 28)) none [] .fin))))))))) .ret) (.seq (.plan (.st (some 30) (.bin .eql (.t 10) (.c (.int .i64 3))) none [] (.st (some 29) (.mv (.t 30)) none [] .fin))) (.cond (.t 29) (.seq (.plan (.st (some 32) (.lda 6 (.t 2)) none [] (.st (some 33) (.call 80 [(.t 32)]) none [] (.st (some 31) (.mv (.t 33)) none [] (.st (some 34) (.ext 0 (.t 31)) none [] (.st (some 35) (.ext 1 (.t 31)) none [] (.st (some 36) (.ext 2 (.t 31)) none [] (.st (some 6) (.alloc 65 [.nils, .nils, .nils, (.int .i64 0), (.int .i64 0), .nils]) none [] (.st none (.st 6 (.t 6) (.t 34)) none [] (.st (some 7) (.mv (.t 35)) none [] (.st (some 8) (.mv (.t 36)) none [] .fin))))))))))) (.seq (.plan (.st (some 37) (.lda 6 (.t 6)) none [] (.st (some 38) (.mv (.t 8)) none [] (.st none (.st 6 (.t 4) (.t 37)) none [] (.st (some 5) (.mv (.t 38)) none [] .fin))))) .ret)) (.seq (.plan (.st (some 40) (.bin .eql (.t 10) (.c (.int .i64 4))) none [] (.st (some 39) (.mv (.t 40)) none [] .fin))) (.cond (.t 39) (.seq (.plan (.st (some 41) (.lda 6 (.t 2)) none [] (.st (some 42) (.fa 2 (.t 3)) none [] (.st (some 43) (.ld (.t 42)) none [] (.st (some 44) (.call 81 [(.t 41), (.t 43)]) none [] (.st (some 45) (.ext 0 (.t 44)) none [] (.st (some 46) (.ext 1 (.t 44)) none [] (.st none (.st 6 (.t 4) (.t 45)) none [] (.st (some 5) (.mv (.t 46)) none [] .fin))))))))) .ret) (.seq (.plan (.st (some 48) (.bin .eql (.t 10) (.c (.int .i64 5))) none [] (.st (some 47) (.mv (.t 48)) none [] .fin))) (.cond (.t 47) (.seq (.plan (.st (some 49) (.lda 6 (.t 2)) none [] (.st (some 50) (.call 82 [(.t 49)]) none [] (.st (some 51) (.ext 0 (.t 50)) none [] (.st (some 52) (.ext 1 (.t 50)) none [] (.st none (.st 6 (.t 4) (.t 51)) none [] (.st (some 5) (.mv (.t 52)) none [] .fin))))))) .ret) (.seq (.plan (.st (some 54) (.bin .eql (.t 10) (.c (.int .i64 6))) none [] (.st (some 53) (.mv (.t 54)) none [] .fin))) (.cond (.t 53) (.seq (.plan (.st (some 55) (.lda 6 (.t 2)) none [] (.st (some 56) (.fa 2 (.t 3)) none [] (.st (some 57) (.ld (.t 56)) none [] (.st (some 58) (.call 83 [(.t 55), (.t 57)]) none [] (.st (some 59) (.ext 0 (.t 58)) none [] (.st (some 60) (.ext 1 (.t 58)) none [] (.st none (.st 6 (.t 4) (.t 59)) none [] (.st (some 5) (.mv (.t 60)) none [] .fin))))))))) .ret) .skip)))))))))))))) (.seq (.plan (.st (some 61) (.build [.nils, .nils, .nils, (.int .i64 0), (.int .i64 0), .nils] []) none [] (.st none (.st 6 (.t 4) (.t 61)) none [] (.st (some 5) (.mv (.c (.bool false))) none [] .fin)))) .ret))), [(.ca 4 6), (.t 5)]⟩
theorem h_spec_l13Do : compF Try.prog 68 = some c_spec_l13Do := by kernel_rfl
def c_spec_PastDo : CF := ⟨38, (.seq (.plan (.st (some 2) (.box 65 6 (.t 0)) none [] (.st (some 4) (.alloc 65 [.nils, .nils, .nils, (.int .i64 0), (.int .i64 0), .nils]) none [] (.st (some 5) (.mv (.c (.bool false))) none [] .fin)))) (.seq (.seq (.plan (.st (some 9) (.lda 6 (.t 2)) none [] (.st (some 10) (.call 48 [(.t 9)]) none [] (.st (some 11) (.not (.t 10)) none [] (.st (some 12) (.mv (.t 11)) none [] (.st (some 13) (.mv (.t 1)) (some (12, false)) [] (.st (some 14) (.len (.t 13)) (some (12, false)) [] (.st (some 15) (.bin .gtr (.t 14) (.c (.int .i64 40))) (some (12, false)) [] (.st (some 16) (.pick (.t 12) (.c (.bool true)) (.t 15)) none [] .fin))))))))) (.cond (.t 16) (.seq (.plan (.st (some 17) (.build [.nils, .nils, .nils, (.int .i64 0), (.int .i64 0), .nils] []) none [] (.st none (.st 6 (.t 4) (.t 17)) none [] (.st (some 5) (.mv (.c (.bool false))) none [] .fin)))) .ret) .skip)) (.seq (.plan (.st (some 18) (.lda 6 (.t 2)) none [] (.st (some 19) (.call 67 [(.t 18)]) none [] (.st none (.st 6 (.t 2) (.t 19)) none [] .fin)))) (.seq (.seq (.plan (.st (some 6) (.mv (.c (.int .i64 0))) none [] .fin)) (.block 0 (.loop (.seq (.seq (.plan (.st (some 20) (.mv (.t 6)) none [] (.st (some 21) (.mv (.t 1)) none [] (.st (some 22) (.len (.t 21)) none [] (.st (some 23) (.bin .lss (.t 20) (.t 22)) none [] .fin))))) (.cond (.t 23) .skip (.exit 0))) (.seq (.block 1 (.seq (.plan (.st (some 27) (.lda 6 (.t 2)) none [] (.st (some 28) (.mv (.t 1)) none [] (.st (some 29) (.mv (.t 6)) none [] (.st (some 30) (.ia 3 (.t 28) (.t 29)) none [] (.st (some 31) (.lda 3 (.t 30)) none [] (.both (.st (some 32) (.call 68 [(.t 27), (.t 31)]) none [] (.st (some 26) (.mv (.t 32)) none [] (.st (some 33) (.ext 0 (.t 26)) none [] (.st (some 34) (.ext 1 (.t 26)) none [] (.st (some 7) (.alloc 65 [.nils, .nils, .nils, (.int .i64 0), (.int .i64 0), .nils]) none [((some 31), ((.lda 3 (.t 30)), none)), ((some 30), ((.ia 3 (.t 28) (.t 29)), none)), ((some 27), ((.lda 6 (.t 2)), none))] (.st none (.st 6 (.t 7) (.t 33)) none [] (.st (some 8) (.mv (.t 34)) none [] .fin))))))) (.st (some 7) (.alloc 65 [.nils, .nils, .nils, (.int .i64 0), (.int .i64 0), .nils]) none [((some 31), ((.lda 3 (.t 30)), none)), ((some 30), ((.ia 3 (.t 28) (.t 29)), none)), ((some 27), ((.lda 6 (.t 2)), none))] (.st (some 32) (.call 68 [(.t 27), (.t 31)]) none [] (.st (some 26) (.mv (.t 32)) none [] (.st (some 33) (.ext 0 (.t 26)) none [] (.st (some 34) (.ext 1 (.t 26)) none [] (.st none (.st 6 (.t 7) (.t 33)) none [] (.st (some 8) (.mv (.t 34)) none [] .fin)))))))))))))) (.seq (.plan (.st (some 35) (.mv (.t 8)) none [] .fin)) (.cond (.t 35) (.plan (.st (some 36) (.lda 6 (.t 7)) none [] (.st none (.st 6 (.t 2) (.t 36)) none [] .fin))) .skip)))) (.plan (.st (some 24) (.mv (.t 6)) none [] (.st (some 25) (.bin .add (.t 24) (.c (.int .i64 1))) none [] (.st (some 6) (.mv (.t 25)) none [] .fin))))))))) (.seq (.plan (.st (some 37) (.lda 6 (.t 2)) none [] (.st none (.st 6 (.t 4) (.t 37)) none [] (.st (some 5) (.mv (.c (.bool true))) none [] .fin)))) .ret))))), [(.ca 4 6), (.t 5)]⟩
theorem h_spec_PastDo : compF Try.prog 54 = some c_spec_PastDo := by kernel_rfl
def c_spec_l71Store : CF := ⟨22, (.seq (.plan (.st (some 2) (.alloc 65 [.nils, .nils, .nils, (.int .i64 0), (.int .i64 0), .nils]) none [] .fin)) (.seq (.plan (.st (some 6) (.lit 3 1 5 [(.int .i64 0), (.int .i64 0), (.int .i64 0), (.int .i64 0), (.int .i64 0)] [(0, (1, (.c (.int .i64 0)))), (1, (1, (.c (.int .i64 1)))), (2, (1, (.c (.int .i64 1)))), (3, (1, (.c (.int .i64 2)))), (4, (1, (.c (.int .i64 5))))]) none [] (.st (some 7) (.mv (.t 0)) none [] (.st (some 8) (.call 41 [(.t 7), (.c (.int .i64 5))]) none [] (.st (some 9) (.ia 1 (.t 6) (.t 8)) none [] (.st (some 10) (.ld (.t 9)) none [] (.st (some 11) (.call 53 [(.t 10)]) none [] (.st (some 5) (.mv (.t 11)) none [] (.st (some 12) (.ext 0 (.t 5)) none [] (.st (some 13) (.ext 1 (.t 5)) none [] (.st (some 3) (.alloc 65 [.nils, .nils, .nils, (.int .i64 0), (.int .i64 0), .nils]) none [] (.st none (.st 6 (.t 3) (.t 12)) none [] (.st (some 4) (.mv (.t 13)) none [] .fin))))))))))))) (.seq (.plan (.st (some 15) (.lda 6 (.t 3)) none [] (.st (some 16) (.mv (.t 0)) none [] (.st (some 17) (.call 55 [(.t 16), (.c (.int .i64 30))]) none [((some 15), ((.lda 6 (.t 3)), none))] (.st (some 18) (.call 54 [(.t 15), (.t 17)]) none [] (.st (some 14) (.mv (.t 18)) none [] (.st (some 19) (.ext 0 (.t 14)) none [] (.st (some 20) (.ext 1 (.t 14)) none [] (.st none (.st 6 (.t 3) (.t 19)) none [] .fin))))))))) (.seq (.plan (.st (some 21) (.lda 6 (.t 3)) none [] (.st none (.st 6 (.t 2) (.t 21)) none [] .fin))) .ret)))), [(.ca 2 6)]⟩
theorem h_spec_l71Store : compF Try.prog 40 = some c_spec_l71Store := by kernel_rfl
def c_spec_l22Ok : CF := ⟨6, (.seq (.plan (.st (some 2) (.mv (.c (.bool false))) none [] .fin)) (.seq (.plan (.st (some 3) (.mv (.t 0)) none [] (.st (some 4) (.len (.t 3)) none [] (.st (some 5) (.bin .eql (.t 4) (.c (.int .i64 10))) none [] (.st (some 2) (.mv (.t 5)) none [] .fin))))) .ret)), [(.t 2)]⟩
theorem h_spec_l22Ok : compF Try.prog 47 = some c_spec_l22Ok := by kernel_rfl
def c_spec_l21Split : CF := ⟨35, (.seq (.plan (.st (some 4) (.mv (.c .nils)) none [] .fin)) (.seq (.plan (.st (some 8) (.lit 9 1 0 [] []) none [] (.st (some 5) (.mv (.t 8)) none [] .fin))) (.seq (.plan (.st (some 6) (.mv (.c (.int .i64 0))) none [] .fin)) (.seq (.seq (.plan (.st (some 7) (.mv (.c (.int .i64 0))) none [] .fin)) (.block 0 (.loop (.seq (.seq (.plan (.st (some 9) (.mv (.t 7)) none [] (.st (some 10) (.mv (.t 0)) none [] (.st (some 11) (.lns (.t 10)) none [] (.st (some 12) (.bin .lss (.t 9) (.t 11)) none [] .fin))))) (.cond (.t 12) .skip (.exit 0))) (.seq (.block 1 (.seq (.plan (.st (some 15) (.mv (.t 0)) none [] (.st (some 16) (.mv (.t 7)) none [] (.st (some 17) (.ix (.t 15) (.t 16)) none [] (.st (some 18) (.mv (.t 1)) none [] (.st (some 19) (.bin .eql (.t 17) (.t 18)) none [] .fin)))))) (.cond (.t 19) (.seq (.plan (.st (some 20) (.mv (.t 5)) none [] (.st (some 21) (.mv (.t 0)) none [] (.st (some 22) (.mv (.t 6)) none [] (.st (some 23) (.mv (.t 7)) none [] (.st (some 24) (.cuts (.t 21) (some (.t 22)) (some (.t 23))) none [] (.st (some 25) (.lit 9 1 1 [(.str ⟨#[]⟩)] [(0, (1, (.t 24)))]) none [] (.st (some 26) (.app 9 1 16 (.t 20) (.t 25)) none [] (.st (some 5) (.mv (.t 26)) none [] .fin))))))))) (.plan (.st (some 27) (.mv (.t 7)) none [] (.st (some 28) (.bin .add (.t 27) (.c (.int .i64 1))) none [] (.st (some 6) (.mv (.t 28)) none [] .fin))))) .skip))) (.plan (.st (some 13) (.mv (.t 7)) none [] (.st (some 14) (.bin .add (.t 13) (.c (.int .i64 1))) none [] (.st (some 7) (.mv (.t 14)) none [] .fin))))))))) (.seq (.plan (.st (some 29) (.mv (.t 5)) none [] (.st (some 30) (.mv (.t 0)) none [] (.st (some 31) (.mv (.t 6)) none [] (.st (some 32) (.cuts (.t 30) (some (.t 31)) none) none [] (.st (some 33) (.lit 9 1 1 [(.str ⟨#[]⟩)] [(0, (1, (.t 32)))]) none [] (.st (some 34) (.app 9 1 16 (.t 29) (.t 33)) none [] (.st (some 4) (.mv (.t 34)) none [] .fin)))))))) .ret))))), [(.t 4)]⟩
theorem h_spec_l21Split : compF Try.prog 86 = some c_spec_l21Split := by kernel_rfl
def c_spec_l21Num : CF := ⟨34, (.seq (.plan (.st (some 2) (.mv (.c (.int .i64 0))) none [] .fin)) (.seq (.plan (.st (some 3) (.mv (.c (.int .i64 0))) none [] .fin)) (.seq (.seq (.plan (.st (some 4) (.mv (.c (.int .i64 0))) none [] .fin)) (.block 0 (.loop (.seq (.seq (.plan (.st (some 5) (.mv (.t 4)) none [] (.st (some 6) (.mv (.t 0)) none [] (.st (some 7) (.lns (.t 6)) none [] (.st (some 8) (.bin .lss (.t 5) (.t 7)) none [] (.st (some 9) (.mv (.t 8)) none [] (.st (some 10) (.mv (.t 3)) (some (9, true)) [] (.st (some 11) (.bin .lss (.t 10) (.c (.int .i64 100000))) (some (9, true)) [] (.st (some 12) (.pick (.t 9) (.t 11) (.c (.bool false))) none [] .fin))))))))) (.cond (.t 12) .skip (.exit 0))) (.seq (.block 1 (.seq (.plan (.st (some 15) (.mv (.t 0)) none [] (.st (some 16) (.mv (.t 4)) none [] (.st (some 17) (.ix (.t 15) (.t 16)) none [] (.st (some 18) (.bin .geq (.t 17) (.c (.int .u8 48))) none [] (.st (some 19) (.mv (.t 18)) none [] (.st (some 20) (.mv (.t 0)) (some (19, true)) [] (.st (some 21) (.mv (.t 4)) (some (19, true)) [] (.st (some 22) (.ix (.t 20) (.t 21)) (some (19, true)) [] (.st (some 23) (.bin .leq (.t 22) (.c (.int .u8 57))) (some (19, true)) [] (.st (some 24) (.pick (.t 19) (.t 23) (.c (.bool false))) none [] .fin))))))))))) (.cond (.t 24) (.plan (.st (some 25) (.mv (.t 3)) none [] (.st (some 26) (.bin .mul (.t 25) (.c (.int .i64 10))) none [] (.st (some 27) (.mv (.t 0)) none [] (.st (some 28) (.mv (.t 4)) none [] (.st (some 29) (.ix (.t 27) (.t 28)) none [] (.st (some 30) (.bin .sub (.t 29) (.c (.int .u8 48))) none [] (.st (some 31) (.cv .i64 (.t 30)) none [] (.st (some 32) (.bin .add (.t 26) (.t 31)) none [] (.st (some 3) (.mv (.t 32)) none [] .fin)))))))))) .skip))) (.plan (.st (some 13) (.mv (.t 4)) none [] (.st (some 14) (.bin .add (.t 13) (.c (.int .i64 1))) none [] (.st (some 4) (.mv (.t 14)) none [] .fin))))))))) (.seq (.plan (.st (some 33) (.mv (.t 3)) none [] (.st (some 2) (.mv (.t 33)) none [] .fin))) .ret)))), [(.t 2)]⟩
theorem h_spec_l21Num : compF Try.prog 87 = some c_spec_l21Num := by kernel_rfl
def c_spec_l21Seal : CF := ⟨9, (.seq (.plan (.st (some 2) (.mv (.c (.str ⟨#[]⟩))) none [] .fin)) (.seq (.plan (.st (some 3) (.mv (.t 0)) none [] (.st (some 4) (.bin .add (.t 3) (.c (.str ⟨#[33]⟩))) none [] (.st (some 5) (.mv (.t 0)) none [] (.st (some 6) (.call 9 [(.t 5)]) none [] (.st (some 7) (.call 56 [(.t 6)]) none [] (.st (some 8) (.bin .add (.t 4) (.t 7)) none [] (.st (some 2) (.mv (.t 8)) none [] .fin)))))))) .ret)), [(.t 2)]⟩
theorem h_spec_l21Seal : compF Try.prog 66 = some c_spec_l21Seal := by kernel_rfl
def c_spec_l22Say : CF := ⟨55, (.seq (.plan (.st (some 1) (.box 80 5 (.t 0)) none [] (.st (some 2) (.mv (.c (.str ⟨#[]⟩))) none [] .fin))) (.seq (.plan (.st (some 6) (.fa 0 (.t 1)) none [] (.st (some 7) (.ld (.t 6)) none [] (.st (some 10) (.fa 1 (.t 1)) none [] (.st (some 11) (.ld (.t 10)) none [] (.st (some 15) (.fa 2 (.t 1)) none [] (.st (some 16) (.ld (.t 15)) none [] (.st (some 8) (.call 56 [(.t 7)]) none [((some 16), ((.ld (.t 15)), none)), ((some 11), ((.ld (.t 10)), none))] (.st (some 9) (.bin .add (.t 8) (.c (.str ⟨#[44]⟩))) none [] (.st (some 12) (.call 56 [(.t 11)]) none [((some 16), ((.ld (.t 15)), none))] (.st (some 13) (.bin .add (.t 9) (.t 12)) none [] (.st (some 14) (.bin .add (.t 13) (.c (.str ⟨#[44]⟩))) none [] (.st (some 17) (.call 56 [(.t 16)]) none [] (.st (some 18) (.bin .add (.t 14) (.t 17)) none [] (.st (some 3) (.mv (.t 18)) none [] .fin))))))))))))))) (.seq (.seq (.plan (.st (some 4) (.mv (.c (.int .i64 0))) none [] .fin)) (.block 0 (.loop (.seq (.seq (.plan (.st (some 19) (.mv (.t 4)) none [] (.st (some 20) (.fa 4 (.t 1)) none [] (.st (some 21) (.ld (.t 20)) none [] (.st (some 22) (.len (.t 21)) none [] (.st (some 23) (.bin .lss (.t 19) (.t 22)) none [] .fin)))))) (.cond (.t 23) .skip (.exit 0))) (.seq (.block 1 (.plan (.st (some 26) (.mv (.t 3)) none [] (.st (some 27) (.bin .add (.t 26) (.c (.str ⟨#[44]⟩))) none [] (.st (some 28) (.fa 4 (.t 1)) none [] (.st (some 29) (.ld (.t 28)) none [] (.st (some 30) (.mv (.t 4)) none [] (.st (some 31) (.ia 1 (.t 29) (.t 30)) none [] (.st (some 32) (.ld (.t 31)) none [] (.st (some 33) (.call 56 [(.t 32)]) none [] (.st (some 34) (.bin .add (.t 27) (.t 33)) none [] (.st (some 3) (.mv (.t 34)) none [] .fin)))))))))))) (.plan (.st (some 24) (.mv (.t 4)) none [] (.st (some 25) (.bin .add (.t 24) (.c (.int .i64 1))) none [] (.st (some 4) (.mv (.t 25)) none [] .fin))))))))) (.seq (.plan (.st (some 35) (.mv (.t 3)) none [] (.st (some 36) (.bin .add (.t 35) (.c (.str ⟨#[47]⟩))) none [] (.st (some 3) (.mv (.t 36)) none [] .fin)))) (.seq (.seq (.plan (.st (some 5) (.mv (.c (.int .i64 0))) none [] .fin)) (.block 2 (.loop (.seq (.seq (.plan (.st (some 37) (.mv (.t 5)) none [] (.st (some 38) (.fa 3 (.t 1)) none [] (.st (some 39) (.ld (.t 38)) none [] (.st (some 40) (.len (.t 39)) none [] (.st (some 41) (.bin .lss (.t 37) (.t 40)) none [] .fin)))))) (.cond (.t 41) .skip (.exit 2))) (.seq (.block 3 (.plan (.st (some 44) (.mv (.t 3)) none [] (.st (some 45) (.fa 3 (.t 1)) none [] (.st (some 46) (.ld (.t 45)) none [] (.st (some 47) (.mv (.t 5)) none [] (.st (some 48) (.ia 1 (.t 46) (.t 47)) none [] (.st (some 49) (.ld (.t 48)) none [] (.st (some 50) (.call 56 [(.t 49)]) none [] (.st (some 51) (.bin .add (.t 44) (.t 50)) none [] (.st (some 52) (.bin .add (.t 51) (.c (.str ⟨#[44]⟩))) none [] (.st (some 3) (.mv (.t 52)) none [] .fin)))))))))))) (.plan (.st (some 42) (.mv (.t 5)) none [] (.st (some 43) (.bin .add (.t 42) (.c (.int .i64 1))) none [] (.st (some 5) (.mv (.t 43)) none [] .fin))))))))) (.seq (.plan (.st (some 53) (.mv (.t 3)) none [] (.st (some 54) (.call 66 [(.t 53)]) none [] (.st (some 2) (.mv (.t 54)) none [] .fin)))) .ret)))))), [(.t 2)]⟩
theorem h_spec_l22Say : compF Try.prog 52 = some c_spec_l22Say := by kernel_rfl
def c_spec_l22Hear : CF := ⟨82, (.seq (.plan (.st (some 2) (.alloc 80 [(.int .i64 0), (.int .i64 0), (.int .i64 0), .nils, .nils]) none [] (.st (some 3) (.mv (.c (.bool false))) none [] .fin))) (.seq (.plan (.st (some 10) (.mv (.t 0)) none [] (.st (some 11) (.call 86 [(.t 10), (.c (.int .u8 33))]) none [] (.st (some 12) (.ia 1 (.t 11) (.c (.int .i64 0))) none [] (.st (some 13) (.ld (.t 12)) none [] (.st (some 14) (.call 86 [(.t 13), (.c (.int .u8 47))]) none [] (.st (some 4) (.mv (.t 14)) none [] .fin))))))) (.seq (.seq (.plan (.st (some 15) (.mv (.t 4)) none [] (.st (some 16) (.len (.t 15)) none [] (.st (some 17) (.bin .neq (.t 16) (.c (.int .i64 2))) none [] .fin)))) (.cond (.t 17) (.seq (.plan (.st (some 18) (.build [(.int .i64 0), (.int .i64 0), (.int .i64 0), .nils, .nils] []) none [] (.st none (.st 5 (.t 2) (.t 18)) none [] (.st (some 3) (.mv (.c (.bool false))) none [] .fin)))) .ret) .skip)) (.seq (.plan (.st (some 19) (.mv (.t 4)) none [] (.st (some 20) (.ia 1 (.t 19) (.c (.int .i64 0))) none [] (.st (some 21) (.ld (.t 20)) none [] (.st (some 22) (.call 86 [(.t 21), (.c (.int .u8 44))]) none [] (.st (some 5) (.mv (.t 22)) none [] .fin)))))) (.seq (.seq (.plan (.st (some 23) (.mv (.t 5)) none [] (.st (some 24) (.len (.t 23)) none [] (.st (some 25) (.bin .neq (.t 24) (.c (.int .i64 7))) none [] .fin)))) (.cond (.t 25) (.seq (.plan (.st (some 26) (.build [(.int .i64 0), (.int .i64 0), (.int .i64 0), .nils, .nils] []) none [] (.st none (.st 5 (.t 2) (.t 26)) none [] (.st (some 3) (.mv (.c (.bool false))) none [] .fin)))) .ret) .skip)) (.seq (.plan (.st (some 27) (.mv (.t 5)) none [] (.st (some 28) (.ia 1 (.t 27) (.c (.int .i64 0))) none [] (.st (some 29) (.ld (.t 28)) none [] (.st (some 31) (.mv (.t 5)) none [] (.st (some 32) (.ia 1 (.t 31) (.c (.int .i64 1))) none [] (.st (some 33) (.ld (.t 32)) none [] (.st (some 35) (.mv (.t 5)) none [] (.st (some 36) (.ia 1 (.t 35) (.c (.int .i64 2))) none [] (.st (some 37) (.ld (.t 36)) none [] (.both (.st (some 30) (.call 87 [(.t 29)]) none [((some 37), ((.ld (.t 36)), none)), ((some 36), ((.ia 1 (.t 35) (.c (.int .i64 2))), none)), ((some 33), ((.ld (.t 32)), none)), ((some 32), ((.ia 1 (.t 31) (.c (.int .i64 1))), none))] (.both (.st (some 34) (.call 87 [(.t 33)]) none [((some 37), ((.ld (.t 36)), none)), ((some 36), ((.ia 1 (.t 35) (.c (.int .i64 2))), none))] (.both (.st (some 38) (.call 87 [(.t 37)]) none [] (.st (some 39) (.build [(.int .i64 0), (.int .i64 0), (.int .i64 0), .nils, .nils] [(0, (1, (.t 30))), (1, (1, (.t 34))), (2, (1, (.t 38)))]) none [] (.st (some 6) (.alloc 80 [(.int .i64 0), (.int .i64 0), (.int .i64 0), .nils, .nils]) none [((some 37), ((.ld (.t 36)), none)), ((some 36), ((.ia 1 (.t 35) (.c (.int .i64 2))), none)), ((some 33), ((.ld (.t 32)), none)), ((some 32), ((.ia 1 (.t 31) (.c (.int .i64 1))), none)), ((some 29), ((.ld (.t 28)), none)), ((some 28), ((.ia 1 (.t 27) (.c (.int .i64 0))), none))] (.st none (.st 5 (.t 6) (.t 39)) none [] .fin)))) (.st (some 6) (.alloc 80 [(.int .i64 0), (.int .i64 0), (.int .i64 0), .nils, .nils]) none [((some 37), ((.ld (.t 36)), none)), ((some 36), ((.ia 1 (.t 35) (.c (.int .i64 2))), none)), ((some 33), ((.ld (.t 32)), none)), ((some 32), ((.ia 1 (.t 31) (.c (.int .i64 1))), none)), ((some 29), ((.ld (.t 28)), none)), ((some 28), ((.ia 1 (.t 27) (.c (.int .i64 0))), none))] (.st (some 38) (.call 87 [(.t 37)]) none [] (.st (some 39) (.build [(.int .i64 0), (.int .i64 0), (.int .i64 0), .nils, .nils] [(0, (1, (.t 30))), (1, (1, (.t 34))), (2, (1, (.t 38)))]) none [] (.st none (.st 5 (.t 6) (.t 39)) none [] .fin)))))) (.st (some 6) (.alloc 80 [(.int .i64 0), (.int .i64 0), (.int .i64 0), .nils, .nils]) none [((some 37), ((.ld (.t 36)), none)), ((some 36), ((.ia 1 (.t 35) (.c (.int .i64 2))), none)), ((some 33), ((.ld (.t 32)), none)), ((some 32), ((.ia 1 (.t 31) (.c (.int .i64 1))), none)), ((some 29), ((.ld (.t 28)), none)), ((some 28), ((.ia 1 (.t 27) (.c (.int .i64 0))), none))] (.st (some 34) (.call 87 [(.t 33)]) none [((some 37), ((.ld (.t 36)), none)), ((some 36), ((.ia 1 (.t 35) (.c (.int .i64 2))), none))] (.st (some 38) (.call 87 [(.t 37)]) none [] (.st (some 39) (.build [(.int .i64 0), (.int .i64 0), (.int .i64 0), .nils, .nils] [(0, (1, (.t 30))), (1, (1, (.t 34))), (2, (1, (.t 38)))]) none [] (.st none (.st 5 (.t 6) (.t 39)) none [] .fin))))))) (.st (some 6) (.alloc 80 [(.int .i64 0), (.int .i64 0), (.int .i64 0), .nils, .nils]) none [((some 37), ((.ld (.t 36)), none)), ((some 36), ((.ia 1 (.t 35) (.c (.int .i64 2))), none)), ((some 33), ((.ld (.t 32)), none)), ((some 32), ((.ia 1 (.t 31) (.c (.int .i64 1))), none)), ((some 29), ((.ld (.t 28)), none)), ((some 28), ((.ia 1 (.t 27) (.c (.int .i64 0))), none))] (.st (some 30) (.call 87 [(.t 29)]) none [((some 37), ((.ld (.t 36)), none)), ((some 36), ((.ia 1 (.t 35) (.c (.int .i64 2))), none)), ((some 33), ((.ld (.t 32)), none)), ((some 32), ((.ia 1 (.t 31) (.c (.int .i64 1))), none))] (.st (some 34) (.call 87 [(.t 33)]) none [((some 37), ((.ld (.t 36)), none)), ((some 36), ((.ia 1 (.t 35) (.c (.int .i64 2))), none))] (.st (some 38) (.call 87 [(.t 37)]) none [] (.st (some 39) (.build [(.int .i64 0), (.int .i64 0), (.int .i64 0), .nils, .nils] [(0, (1, (.t 30))), (1, (1, (.t 34))), (2, (1, (.t 38)))]) none [] (.st none (.st 5 (.t 6) (.t 39)) none [] .fin))))))))))))))))) (.seq (.seq (.plan (.st (some 7) (.mv (.c (.int .i64 3))) none [] .fin)) (.block 0 (.loop (.seq (.seq (.plan (.st (some 40) (.mv (.t 7)) none [] (.st (some 41) (.mv (.t 5)) none [] (.st (some 42) (.len (.t 41)) none [] (.st (some 43) (.bin .lss (.t 40) (.t 42)) none [] .fin))))) (.cond (.t 43) .skip (.exit 0))) (.seq (.block 1 (.plan (.st (some 46) (.fa 4 (.t 6)) none [] (.st (some 47) (.ld (.t 46)) none [] (.st (some 48) (.mv (.t 5)) none [] (.st (some 49) (.mv (.t 7)) none [] (.st (some 50) (.ia 1 (.t 48) (.t 49)) none [] (.st (some 51) (.ld (.t 50)) none [] (.st (some 52) (.call 87 [(.t 51)]) none [((some 47), ((.ld (.t 46)), none))] (.st (some 53) (.lit 3 1 1 [(.int .i64 0)] [(0, (1, (.t 52)))]) none [((some 47), ((.ld (.t 46)), none))] (.st (some 54) (.app 3 1 8 (.t 47) (.t 53)) none [] (.st (some 55) (.fa 4 (.t 6)) none [] (.st none (.st 1 (.t 55) (.t 54)) none [] .fin))))))))))))) (.plan (.st (some 44) (.mv (.t 7)) none [] (.st (some 45) (.bin .add (.t 44) (.c (.int .i64 1))) none [] (.st (some 7) (.mv (.t 45)) none [] .fin))))))))) (.seq (.plan (.st (some 56) (.mv (.t 4)) none [] (.st (some 57) (.ia 1 (.t 56) (.c (.int .i64 1))) none [] (.st (some 58) (.ld (.t 57)) none [] (.st (some 59) (.call 86 [(.t 58), (.c (.int .u8 44))]) none [] (.st (some 8) (.mv (.t 59)) none [] .fin)))))) (.seq (.seq (.plan (.st (some 9) (.mv (.c (.int .i64 0))) none [] .fin)) (.block 2 (.loop (.seq (.seq (.plan (.st (some 60) (.mv (.t 9)) none [] (.st (some 61) (.bin .add (.t 60) (.c (.int .i64 1))) none [] (.st (some 62) (.mv (.t 8)) none [] (.st (some 63) (.len (.t 62)) none [] (.st (some 64) (.bin .lss (.t 61) (.t 63)) none [] .fin)))))) (.cond (.t 64) .skip (.exit 2))) (.seq (.block 3 (.plan (.st (some 67) (.fa 3 (.t 6)) none [] (.st (some 68) (.ld (.t 67)) none [] (.st (some 69) (.mv (.t 8)) none [] (.st (some 70) (.mv (.t 9)) none [] (.st (some 71) (.ia 1 (.t 69) (.t 70)) none [] (.st (some 72) (.ld (.t 71)) none [] (.st (some 73) (.call 87 [(.t 72)]) none [((some 68), ((.ld (.t 67)), none))] (.st (some 74) (.lit 3 1 1 [(.int .i64 0)] [(0, (1, (.t 73)))]) none [((some 68), ((.ld (.t 67)), none))] (.st (some 75) (.app 3 1 8 (.t 68) (.t 74)) none [] (.st (some 76) (.fa 3 (.t 6)) none [] (.st none (.st 1 (.t 76) (.t 75)) none [] .fin))))))))))))) (.plan (.st (some 65) (.mv (.t 9)) none [] (.st (some 66) (.bin .add (.t 65) (.c (.int .i64 1))) none [] (.st (some 9) (.mv (.t 66)) none [] .fin))))))))) (.seq (.plan (.st (some 77) (.lda 5 (.t 6)) none [] (.st (some 78) (.lda 5 (.t 6)) none [] (.st (some 80) (.mv (.t 0)) none [] (.st (some 79) (.call 52 [(.t 78)]) none [((some 77), ((.lda 5 (.t 6)), none))] (.st (some 81) (.bin .eql (.t 79) (.t 80)) none [] (.st none (.st 5 (.t 2) (.t 77)) none [] (.st (some 3) (.mv (.t 81)) none [] .fin)))))))) .ret)))))))))), [(.ca 2 5), (.t 3)]⟩
theorem h_spec_l22Hear : compF Try.prog 76 = some c_spec_l22Hear := by kernel_rfl
def c_spec_l21Hear : CF := ⟨38, (.seq (.plan (.st (some 2) (.alloc 72 [(.str ⟨#[]⟩), (.int .i64 0), (.bool false), (.int .i64 0)]) none [] .fin)) (.seq (.plan (.st (some 5) (.mv (.t 0)) none [] (.st (some 6) (.call 86 [(.t 5), (.c (.int .u8 45))]) none [] (.st (some 3) (.mv (.t 6)) none [] .fin)))) (.seq (.seq (.plan (.st (some 7) (.mv (.t 3)) none [] (.st (some 8) (.len (.t 7)) none [] (.st (some 9) (.bin .neq (.t 8) (.c (.int .i64 2))) none [] .fin)))) (.cond (.t 9) (.seq (.plan (.st (some 10) (.build [(.str ⟨#[]⟩), (.int .i64 0), (.bool false), (.int .i64 0)] []) none [] (.st none (.st 4 (.t 2) (.t 10)) none [] .fin))) .ret) .skip)) (.seq (.plan (.st (some 11) (.mv (.t 3)) none [] (.st (some 12) (.ia 1 (.t 11) (.c (.int .i64 0))) none [] (.st (some 13) (.ld (.t 12)) none [] (.st (some 14) (.call 86 [(.t 13), (.c (.int .u8 61))]) none [] (.st (some 4) (.mv (.t 14)) none [] .fin)))))) (.seq (.seq (.plan (.st (some 15) (.mv (.t 4)) none [] (.st (some 16) (.len (.t 15)) none [] (.st (some 17) (.bin .eql (.t 16) (.c (.int .i64 2))) none [] .fin)))) (.cond (.t 17) (.seq (.plan (.st (some 18) (.mv (.t 4)) none [] (.st (some 19) (.ia 1 (.t 18) (.c (.int .i64 0))) none [] (.st (some 20) (.ld (.t 19)) none [] (.st (some 21) (.mv (.t 4)) none [] (.st (some 22) (.ia 1 (.t 21) (.c (.int .i64 1))) none [] (.st (some 23) (.ld (.t 22)) none [] (.st (some 25) (.mv (.t 3)) none [] (.st (some 26) (.ia 1 (.t 25) (.c (.int .i64 1))) none [] (.st (some 27) (.ld (.t 26)) none [] (.st (some 24) (.call 87 [(.t 23)]) none [((some 27), ((.ld (.t 26)), none)), ((some 26), ((.ia 1 (.t 25) (.c (.int .i64 1))), none)), ((some 20), ((.ld (.t 19)), none)), ((some 19), ((.ia 1 (.t 18) (.c (.int .i64 0))), none))] (.st (some 28) (.call 87 [(.t 27)]) none [((some 20), ((.ld (.t 19)), none)), ((some 19), ((.ia 1 (.t 18) (.c (.int .i64 0))), none))] (.st (some 29) (.build [(.str ⟨#[]⟩), (.int .i64 0), (.bool false), (.int .i64 0)] [(0, (1, (.t 20))), (1, (1, (.t 24))), (3, (1, (.t 28)))]) none [] (.st none (.st 4 (.t 2) (.t 29)) none [] .fin)))))))))))))) .ret) .skip)) (.seq (.plan (.st (some 30) (.mv (.t 3)) none [] (.st (some 31) (.ia 1 (.t 30) (.c (.int .i64 0))) none [] (.st (some 32) (.ld (.t 31)) none [] (.st (some 33) (.mv (.t 3)) none [] (.st (some 34) (.ia 1 (.t 33) (.c (.int .i64 1))) none [] (.st (some 35) (.ld (.t 34)) none [] (.st (some 36) (.call 87 [(.t 35)]) none [((some 32), ((.ld (.t 31)), none)), ((some 31), ((.ia 1 (.t 30) (.c (.int .i64 0))), none))] (.st (some 37) (.build [(.str ⟨#[]⟩), (.int .i64 0), (.bool false), (.int .i64 0)] [(0, (1, (.t 32))), (2, (1, (.c (.bool true)))), (3, (1, (.t 36)))]) none [] (.st none (.st 4 (.t 2) (.t 37)) none [] .fin)))))))))) .ret)))))), [(.ca 2 4)]⟩
theorem h_spec_l21Hear : compF Try.prog 88 = some c_spec_l21Hear := by kernel_rfl
def c_spec_BlockText : CF := ⟨14, (.seq (.plan (.st (some 2) (.mv (.c (.str ⟨#[]⟩))) none [] .fin)) (.seq (.seq (.plan (.st (some 4) (.mv (.t 0)) none [] (.st (some 5) (.call 46 [(.t 4)]) none [] (.st (some 6) (.not (.t 5)) none [] .fin)))) (.cond (.t 6) (.seq (.plan (.st (some 2) (.mv (.c (.str ⟨#[]⟩))) none [] .fin)) .ret) .skip)) (.seq (.plan (.st (some 7) (.mv (.t 0)) none [] (.st (some 8) (.call 35 [(.t 7)]) none [] (.st (some 9) (.call 66 [(.t 8)]) none [] (.st (some 3) (.mv (.t 9)) none [] .fin))))) (.seq (.seq (.plan (.st (some 10) (.mv (.t 3)) none [] (.st (some 11) (.lns (.t 10)) none [] (.st (some 12) (.bin .gtr (.t 11) (.c (.int .i64 400))) none [] .fin)))) (.cond (.t 12) (.seq (.plan (.st (some 2) (.mv (.c (.str ⟨#[]⟩))) none [] .fin)) .ret) .skip)) (.seq (.plan (.st (some 13) (.mv (.t 3)) none [] (.st (some 2) (.mv (.t 13)) none [] .fin))) .ret))))), [(.t 2)]⟩
theorem h_spec_BlockText : compF Try.prog 51 = some c_spec_BlockText := by kernel_rfl
def c_spec_BlockRead : CF := ⟨42, (.seq (.plan (.st (some 2) (.mv (.c .nils)) none [] (.st (some 3) (.mv (.c (.bool false))) none [] .fin))) (.seq (.seq (.plan (.st (some 7) (.mv (.t 0)) none [] (.st (some 8) (.lns (.t 7)) none [] (.st (some 9) (.bin .gtr (.t 8) (.c (.int .i64 400))) none [] .fin)))) (.cond (.t 9) (.seq (.plan (.st (some 10) (.lit 72 4 0 [] []) none [] (.st (some 2) (.mv (.t 10)) none [] (.st (some 3) (.mv (.c (.bool false))) none [] .fin)))) .ret) .skip)) (.seq (.plan (.st (some 11) (.lit 72 4 0 [] []) none [] (.st (some 4) (.mv (.t 11)) none [] .fin))) (.seq (.plan (.st (some 12) (.mv (.t 0)) none [] (.st (some 13) (.call 86 [(.t 12), (.c (.int .u8 33))]) none [] (.st (some 14) (.ia 1 (.t 13) (.c (.int .i64 0))) none [] (.st (some 15) (.ld (.t 14)) none [] (.st (some 16) (.call 86 [(.t 15), (.c (.int .u8 59))]) none [] (.st (some 5) (.mv (.t 16)) none [] .fin))))))) (.seq (.seq (.plan (.st (some 6) (.mv (.c (.int .i64 0))) none [] .fin)) (.block 0 (.loop (.seq (.seq (.plan (.st (some 17) (.mv (.t 6)) none [] (.st (some 18) (.bin .add (.t 17) (.c (.int .i64 1))) none [] (.st (some 19) (.mv (.t 5)) none [] (.st (some 20) (.len (.t 19)) none [] (.st (some 21) (.bin .lss (.t 18) (.t 20)) none [] .fin)))))) (.cond (.t 21) .skip (.exit 0))) (.seq (.block 1 (.plan (.st (some 24) (.mv (.t 4)) none [] (.st (some 25) (.mv (.t 5)) none [] (.st (some 26) (.mv (.t 6)) none [] (.st (some 27) (.ia 1 (.t 25) (.t 26)) none [] (.st (some 28) (.ld (.t 27)) none [] (.st (some 29) (.call 88 [(.t 28)]) none [] (.st (some 30) (.lit 72 4 1 [(.str ⟨#[]⟩), (.int .i64 0), (.bool false), (.int .i64 0)] [(0, (4, (.t 29)))]) none [] (.st (some 31) (.app 72 4 40 (.t 24) (.t 30)) none [] (.st (some 4) (.mv (.t 31)) none [] .fin))))))))))) (.plan (.st (some 22) (.mv (.t 6)) none [] (.st (some 23) (.bin .add (.t 22) (.c (.int .i64 1))) none [] (.st (some 6) (.mv (.t 23)) none [] .fin))))))))) (.seq (.seq (.plan (.st (some 32) (.mv (.t 0)) none [] (.st (some 33) (.bin .eql (.t 32) (.c (.str ⟨#[]⟩))) none [] (.st (some 34) (.mv (.t 33)) none [] (.st (some 35) (.mv (.t 4)) (some (34, false)) [] (.st (some 36) (.call 51 [(.t 35)]) (some (34, false)) [] (.st (some 37) (.mv (.t 0)) (some (34, false)) [] (.st (some 38) (.bin .neq (.t 36) (.t 37)) (some (34, false)) [] (.st (some 39) (.pick (.t 34) (.c (.bool true)) (.t 38)) none [] .fin))))))))) (.cond (.t 39) (.seq (.plan (.st (some 40) (.lit 72 4 0 [] []) none [] (.st (some 2) (.mv (.t 40)) none [] (.st (some 3) (.mv (.c (.bool false))) none [] .fin)))) .ret) .skip)) (.seq (.plan (.st (some 41) (.mv (.t 4)) none [] (.st (some 2) (.mv (.t 41)) none [] (.st (some 3) (.mv (.c (.bool true))) none [] .fin)))) .ret))))))), [(.t 2), (.t 3)]⟩
theorem h_spec_BlockRead : compF Try.prog 77 = some c_spec_BlockRead := by kernel_rfl
def c_spec_l22Store : CF := ⟨109, (.seq (.plan (.st (some 4) (.alloc 65 [.nils, .nils, .nils, (.int .i64 0), (.int .i64 0), .nils]) none [] (.st (some 5) (.alloc 80 [(.int .i64 0), (.int .i64 0), (.int .i64 0), .nils, .nils]) none [] (.st (some 6) (.mv (.c (.bool false))) none [] .fin)))) (.seq (.plan (.st (some 18) (.mv (.t 0)) none [] (.st (some 19) (.mv (.t 1)) none [] (.st (some 20) (.ia 1 (.t 18) (.t 19)) none [] (.st (some 21) (.ld (.t 20)) none [] (.st (some 22) (.call 76 [(.t 21)]) none [] (.st (some 17) (.mv (.t 22)) none [] (.st (some 23) (.ext 0 (.t 17)) none [] (.st (some 24) (.ext 1 (.t 17)) none [] (.st (some 7) (.alloc 80 [(.int .i64 0), (.int .i64 0), (.int .i64 0), .nils, .nils]) none [] (.st none (.st 5 (.t 7) (.t 23)) none [] (.st (some 8) (.mv (.t 24)) none [] .fin)))))))))))) (.seq (.seq (.plan (.st (some 25) (.mv (.t 8)) none [] (.st (some 26) (.not (.t 25)) none [] .fin))) (.cond (.t 26) (.seq (.plan (.st (some 27) (.build [.nils, .nils, .nils, (.int .i64 0), (.int .i64 0), .nils] []) none [] (.st (some 28) (.lda 5 (.t 7)) none [] (.st none (.st 6 (.t 4) (.t 27)) none [((some 28), ((.lda 5 (.t 7)), none))] (.st none (.st 5 (.t 5) (.t 28)) none [] (.st (some 6) (.mv (.c (.bool false))) none [] .fin)))))) .ret) .skip)) (.seq (.plan (.st (some 29) (.lit 55 1 0 [] []) none [] (.st (some 9) (.mv (.t 29)) none [] .fin))) (.seq (.seq (.plan (.st (some 10) (.mv (.c (.int .i64 0))) none [] .fin)) (.block 0 (.loop (.seq (.seq (.plan (.st (some 30) (.mv (.t 10)) none [] (.st (some 31) (.fa 4 (.t 7)) none [] (.st (some 32) (.ld (.t 31)) none [] (.st (some 33) (.len (.t 32)) none [] (.st (some 34) (.bin .lss (.t 30) (.t 33)) none [] .fin)))))) (.cond (.t 34) .skip (.exit 0))) (.seq (.block 1 (.seq (.seq (.plan (.st (some 37) (.fa 4 (.t 7)) none [] (.st (some 38) (.ld (.t 37)) none [] (.st (some 39) (.mv (.t 10)) none [] (.st (some 40) (.ia 1 (.t 38) (.t 39)) none [] (.st (some 41) (.ld (.t 40)) none [] (.st (some 42) (.call 29 [(.t 41), (.c (.int .i64 2)), (.c (.int .i64 9))]) none [] (.st (some 43) (.not (.t 42)) none [] .fin)))))))) (.cond (.t 43) (.seq (.plan (.st (some 44) (.build [.nils, .nils, .nils, (.int .i64 0), (.int .i64 0), .nils] []) none [] (.st (some 45) (.lda 5 (.t 7)) none [] (.st none (.st 6 (.t 4) (.t 44)) none [((some 45), ((.lda 5 (.t 7)), none))] (.st none (.st 5 (.t 5) (.t 45)) none [] (.st (some 6) (.mv (.c (.bool false))) none [] .fin)))))) .ret) .skip)) (.seq (.plan (.st (some 47) (.mv (.t 0)) none [] (.st (some 48) (.fa 4 (.t 7)) none [] (.st (some 49) (.ld (.t 48)) none [] (.st (some 50) (.mv (.t 10)) none [] (.st (some 51) (.ia 1 (.t 49) (.t 50)) none [] (.st (some 52) (.ld (.t 51)) none [] (.st (some 53) (.ia 1 (.t 47) (.t 52)) none [] (.st (some 54) (.ld (.t 53)) none [] (.st (some 55) (.call 77 [(.t 54)]) none [] (.st (some 46) (.mv (.t 55)) none [] (.st (some 56) (.ext 0 (.t 46)) none [] (.st (some 57) (.ext 1 (.t 46)) none [] (.st (some 11) (.mv (.t 56)) none [] (.st (some 12) (.mv (.t 57)) none [] .fin))))))))))))))) (.seq (.seq (.plan (.st (some 58) (.mv (.t 12)) none [] (.st (some 59) (.not (.t 58)) none [] .fin))) (.cond (.t 59) (.seq (.plan (.st (some 60) (.build [.nils, .nils, .nils, (.int .i64 0), (.int .i64 0), .nils] []) none [] (.st (some 61) (.lda 5 (.t 7)) none [] (.st none (.st 6 (.t 4) (.t 60)) none [((some 61), ((.lda 5 (.t 7)), none))] (.st none (.st 5 (.t 5) (.t 61)) none [] (.st (some 6) (.mv (.c (.bool false))) none [] .fin)))))) .ret) .skip)) (.plan (.st (some 62) (.mv (.t 9)) none [] (.st (some 63) (.mv (.t 11)) none [] (.st (some 64) (.lit 55 1 1 [.nils] [(0, (1, (.t 63)))]) none [] (.st (some 65) (.app 55 1 24 (.t 62) (.t 64)) none [] (.st (some 9) (.mv (.t 65)) none [] .fin)))))))))) (.plan (.st (some 35) (.mv (.t 10)) none [] (.st (some 36) (.bin .add (.t 35) (.c (.int .i64 1))) none [] (.st (some 10) (.mv (.t 36)) none [] .fin))))))))) (.seq (.plan (.st (some 66) (.mv (.t 9)) none [] (.st (some 67) (.ia 1 (.t 66) (.c (.int .i64 0))) none [] (.st (some 68) (.ld (.t 67)) none [] (.st (some 69) (.mv (.t 9)) none [] (.st (some 70) (.cut 1 (.t 69) (some (.c (.int .i64 1))) none) none [] (.st (some 71) (.fa 1 (.t 7)) none [] (.st (some 72) (.ld (.t 71)) none [] (.st (some 73) (.fa 2 (.t 7)) none [] (.st (some 74) (.ld (.t 73)) none [] (.st (some 76) (.fa 3 (.t 7)) none [] (.st (some 77) (.ld (.t 76)) none [] (.both (.st (some 75) (.lit 3 1 0 [] []) none [((some 77), ((.ld (.t 76)), none)), ((some 74), ((.ld (.t 73)), none)), ((some 72), ((.ld (.t 71)), none)), ((some 70), ((.cut 1 (.t 69) (some (.c (.int .i64 1))) none), none)), ((some 68), ((.ld (.t 67)), none)), ((some 67), ((.ia 1 (.t 66) (.c (.int .i64 0))), none))] (.both (.st (some 78) (.app 3 1 8 (.t 75) (.t 77)) none [((some 74), ((.ld (.t 73)), none)), ((some 72), ((.ld (.t 71)), none)), ((some 70), ((.cut 1 (.t 69) (some (.c (.int .i64 1))) none), none)), ((some 68), ((.ld (.t 67)), none)), ((some 67), ((.ia 1 (.t 66) (.c (.int .i64 0))), none))] (.st (some 79) (.build [.nils, .nils, .nils, (.int .i64 0), (.int .i64 0), .nils] [(0, (1, (.t 68))), (1, (1, (.t 70))), (3, (1, (.t 72))), (4, (1, (.t 74))), (5, (1, (.t 78)))]) none [] (.st (some 13) (.alloc 65 [.nils, .nils, .nils, (.int .i64 0), (.int .i64 0), .nils]) none [((some 77), ((.ld (.t 76)), none)), ((some 74), ((.ld (.t 73)), none)), ((some 72), ((.ld (.t 71)), none)), ((some 70), ((.cut 1 (.t 69) (some (.c (.int .i64 1))) none), none)), ((some 68), ((.ld (.t 67)), none)), ((some 67), ((.ia 1 (.t 66) (.c (.int .i64 0))), none))] (.st none (.st 6 (.t 13) (.t 79)) none [] .fin)))) (.st (some 13) (.alloc 65 [.nils, .nils, .nils, (.int .i64 0), (.int .i64 0), .nils]) none [((some 77), ((.ld (.t 76)), none)), ((some 74), ((.ld (.t 73)), none)), ((some 72), ((.ld (.t 71)), none)), ((some 70), ((.cut 1 (.t 69) (some (.c (.int .i64 1))) none), none)), ((some 68), ((.ld (.t 67)), none)), ((some 67), ((.ia 1 (.t 66) (.c (.int .i64 0))), none))] (.st (some 78) (.app 3 1 8 (.t 75) (.t 77)) none [((some 74), ((.ld (.t 73)), none)), ((some 72), ((.ld (.t 71)), none)), ((some 70), ((.cut 1 (.t 69) (some (.c (.int .i64 1))) none), none)), ((some 68), ((.ld (.t 67)), none)), ((some 67), ((.ia 1 (.t 66) (.c (.int .i64 0))), none))] (.st (some 79) (.build [.nils, .nils, .nils, (.int .i64 0), (.int .i64 0), .nils] [(0, (1, (.t 68))), (1, (1, (.t 70))), (3, (1, (.t 72))), (4, (1, (.t 74))), (5, (1, (.t 78)))]) none [] (.st none (.st 6 (.t 13) (.t 79)) none [] .fin)))))) (.st (some 13) (.alloc 65 [.nils, .nils, .nils, (.int .i64 0), (.int .i64 0), .nils]) none [((some 77), ((.ld (.t 76)), none)), ((some 74), ((.ld (.t 73)), none)), ((some 72), ((.ld (.t 71)), none)), ((some 70), ((.cut 1 (.t 69) (some (.c (.int .i64 1))) none), none)), ((some 68), ((.ld (.t 67)), none)), ((some 67), ((.ia 1 (.t 66) (.c (.int .i64 0))), none))] (.st (some 75) (.lit 3 1 0 [] []) none [((some 77), ((.ld (.t 76)), none)), ((some 74), ((.ld (.t 73)), none)), ((some 72), ((.ld (.t 71)), none)), ((some 70), ((.cut 1 (.t 69) (some (.c (.int .i64 1))) none), none)), ((some 68), ((.ld (.t 67)), none)), ((some 67), ((.ia 1 (.t 66) (.c (.int .i64 0))), none))] (.st (some 78) (.app 3 1 8 (.t 75) (.t 77)) none [((some 74), ((.ld (.t 73)), none)), ((some 72), ((.ld (.t 71)), none)), ((some 70), ((.cut 1 (.t 69) (some (.c (.int .i64 1))) none), none)), ((some 68), ((.ld (.t 67)), none)), ((some 67), ((.ia 1 (.t 66) (.c (.int .i64 0))), none))] (.st (some 79) (.build [.nils, .nils, .nils, (.int .i64 0), (.int .i64 0), .nils] [(0, (1, (.t 68))), (1, (1, (.t 70))), (3, (1, (.t 72))), (4, (1, (.t 74))), (5, (1, (.t 78)))]) none [] (.st none (.st 6 (.t 13) (.t 79)) none [] .fin)))))))))))))))))) (.seq (.seq (.plan (.st (some 14) (.mv (.c (.int .i64 0))) none [] .fin)) (.block 2 (.loop (.seq (.seq (.plan (.st (some 80) (.mv (.t 14)) none [] (.st (some 81) (.fa 1 (.t 13)) none [] (.st (some 82) (.ld (.t 81)) none [] (.st (some 83) (.len (.t 82)) none [] (.st (some 84) (.bin .lss (.t 80) (.t 83)) none [] .fin)))))) (.cond (.t 84) .skip (.exit 2))) (.seq (.block 3 (.seq (.plan (.st (some 88) (.fa 1 (.t 13)) none [] (.st (some 89) (.ld (.t 88)) none [] (.st (some 90) (.mv (.t 14)) none [] (.st (some 91) (.ia 1 (.t 89) (.t 90)) none [] (.st (some 92) (.ld (.t 91)) none [] (.st (some 94) (.fa 3 (.t 13)) none [] (.st (some 95) (.ld (.t 94)) none [] (.both (.st (some 93) (.call 73 [(.t 92)]) none [((some 95), ((.ld (.t 94)), none))] (.both (.st (some 96) (.call 72 [(.t 93), (.t 95)]) none [] (.st (some 87) (.mv (.t 96)) none [] (.st (some 97) (.ext 0 (.t 87)) none [] (.st (some 98) (.ext 1 (.t 87)) none [] (.st (some 15) (.alloc 103 [(.str ⟨#[]⟩), (.str ⟨#[]⟩), (.str ⟨#[]⟩), .nils, (.int .i64 0)]) none [((some 95), ((.ld (.t 94)), none)), ((some 92), ((.ld (.t 91)), none)), ((some 91), ((.ia 1 (.t 89) (.t 90)), none)), ((some 89), ((.ld (.t 88)), none))] (.st none (.st 5 (.t 15) (.t 97)) none [] (.st (some 16) (.mv (.t 98)) none [] .fin))))))) (.st (some 15) (.alloc 103 [(.str ⟨#[]⟩), (.str ⟨#[]⟩), (.str ⟨#[]⟩), .nils, (.int .i64 0)]) none [((some 95), ((.ld (.t 94)), none)), ((some 92), ((.ld (.t 91)), none)), ((some 91), ((.ia 1 (.t 89) (.t 90)), none)), ((some 89), ((.ld (.t 88)), none))] (.st (some 96) (.call 72 [(.t 93), (.t 95)]) none [] (.st (some 87) (.mv (.t 96)) none [] (.st (some 97) (.ext 0 (.t 87)) none [] (.st (some 98) (.ext 1 (.t 87)) none [] (.st none (.st 5 (.t 15) (.t 97)) none [] (.st (some 16) (.mv (.t 98)) none [] .fin))))))))) (.st (some 15) (.alloc 103 [(.str ⟨#[]⟩), (.str ⟨#[]⟩), (.str ⟨#[]⟩), .nils, (.int .i64 0)]) none [((some 95), ((.ld (.t 94)), none)), ((some 92), ((.ld (.t 91)), none)), ((some 91), ((.ia 1 (.t 89) (.t 90)), none)), ((some 89), ((.ld (.t 88)), none))] (.st (some 93) (.call 73 [(.t 92)]) none [((some 95), ((.ld (.t 94)), none))] (.st (some 96) (.call 72 [(.t 93), (.t 95)]) none [] (.st (some 87) (.mv (.t 96)) none [] (.st (some 97) (.ext 0 (.t 87)) none [] (.st (some 98) (.ext 1 (.t 87)) none [] (.st none (.st 5 (.t 15) (.t 97)) none [] (.st (some 16) (.mv (.t 98)) none [] .fin))))))))))))))))) (.plan (.st (some 99) (.fa 2 (.t 13)) none [] (.st (some 100) (.ld (.t 99)) none [] (.st (some 101) (.lda 5 (.t 15)) none [] (.st (some 102) (.lit 103 5 1 [(.str ⟨#[]⟩), (.str ⟨#[]⟩), (.str ⟨#[]⟩), .nils, (.int .i64 0)] [(0, (5, (.t 101)))]) none [] (.st (some 103) (.app 103 5 80 (.t 100) (.t 102)) none [] (.st (some 104) (.fa 2 (.t 13)) none [] (.st none (.st 1 (.t 104) (.t 103)) none [] .fin)))))))))) (.plan (.st (some 85) (.mv (.t 14)) none [] (.st (some 86) (.bin .add (.t 85) (.c (.int .i64 1))) none [] (.st (some 14) (.mv (.t 86)) none [] .fin))))))))) (.seq (.plan (.st (some 105) (.lda 6 (.t 13)) none [] (.st (some 106) (.lda 5 (.t 7)) none [] (.st (some 107) (.lda 6 (.t 13)) none [] (.st (some 108) (.call 48 [(.t 107)]) none [((some 106), ((.lda 5 (.t 7)), none)), ((some 105), ((.lda 6 (.t 13)), none))] (.st none (.st 6 (.t 4) (.t 105)) none [((some 106), ((.lda 5 (.t 7)), none))] (.st none (.st 5 (.t 5) (.t 106)) none [] (.st (some 6) (.mv (.t 108)) none [] .fin)))))))) .ret)))))))), [(.ca 4 6), (.ca 5 5), (.t 6)]⟩
theorem h_spec_l22Store : compF Try.prog 64 = some c_spec_l22Store := by kernel_rfl
def c_spec_l22Last : CF := ⟨41, (.seq (.plan (.st (some 2) (.alloc 65 [.nils, .nils, .nils, (.int .i64 0), (.int .i64 0), .nils]) none [] (.st (some 3) (.alloc 80 [(.int .i64 0), (.int .i64 0), (.int .i64 0), .nils, .nils]) none [] (.st (some 4) (.mv (.c (.int .i64 0))) none [] (.st (some 5) (.mv (.c (.bool false))) none [] .fin))))) (.seq (.plan (.st (some 13) (.mv (.t 0)) none [] (.st (some 14) (.call 64 [(.t 13), (.c (.int .i64 0))]) none [] (.st (some 12) (.mv (.t 14)) none [] (.st (some 15) (.ext 0 (.t 12)) none [] (.st (some 16) (.ext 1 (.t 12)) none [] (.st (some 17) (.ext 2 (.t 12)) none [] (.st (some 6) (.alloc 65 [.nils, .nils, .nils, (.int .i64 0), (.int .i64 0), .nils]) none [] (.st (some 7) (.alloc 80 [(.int .i64 0), (.int .i64 0), (.int .i64 0), .nils, .nils]) none [] (.st none (.st 6 (.t 6) (.t 15)) none [] (.st none (.st 5 (.t 7) (.t 16)) none [] (.st (some 8) (.mv (.t 17)) none [] .fin)))))))))))) (.seq (.plan (.st (some 19) (.mv (.t 0)) none [] (.st (some 20) (.call 64 [(.t 19), (.c (.int .i64 1))]) none [] (.st (some 18) (.mv (.t 20)) none [] (.st (some 21) (.ext 0 (.t 18)) none [] (.st (some 22) (.ext 1 (.t 18)) none [] (.st (some 23) (.ext 2 (.t 18)) none [] (.st (some 9) (.alloc 65 [.nils, .nils, .nils, (.int .i64 0), (.int .i64 0), .nils]) none [] (.st (some 10) (.alloc 80 [(.int .i64 0), (.int .i64 0), (.int .i64 0), .nils, .nils]) none [] (.st none (.st 6 (.t 9) (.t 21)) none [] (.st none (.st 5 (.t 10) (.t 22)) none [] (.st (some 11) (.mv (.t 23)) none [] .fin)))))))))))) (.seq (.seq (.plan (.st (some 24) (.mv (.t 8)) none [] (.st (some 25) (.mv (.t 24)) none [] (.st (some 26) (.mv (.t 11)) (some (25, true)) [] (.st (some 27) (.not (.t 26)) (some (25, true)) [] (.st (some 28) (.mv (.t 27)) (some (25, true)) [] (.st (some 29) (.fa 0 (.t 7)) (some (28, false)) [] (.st (some 30) (.ld (.t 29)) (some (28, false)) [] (.st (some 31) (.fa 0 (.t 10)) (some (28, false)) [] (.st (some 32) (.ld (.t 31)) (some (28, false)) [] (.st (some 33) (.bin .gtr (.t 30) (.t 32)) (some (28, false)) [] (.st (some 34) (.pick (.t 28) (.c (.bool true)) (.t 33)) (some (25, true)) [] (.st (some 35) (.pick (.t 25) (.t 34) (.c (.bool false))) none [] .fin))))))))))))) (.cond (.t 35) (.seq (.plan (.st (some 36) (.lda 6 (.t 6)) none [] (.st (some 37) (.lda 5 (.t 7)) none [] (.st none (.st 6 (.t 2) (.t 36)) none [((some 37), ((.lda 5 (.t 7)), none))] (.st none (.st 5 (.t 3) (.t 37)) none [] (.st (some 4) (.mv (.c (.int .i64 0))) none [] (.st (some 5) (.mv (.c (.bool true))) none [] .fin))))))) .ret) .skip)) (.seq (.plan (.st (some 38) (.lda 6 (.t 9)) none [] (.st (some 39) (.lda 5 (.t 10)) none [] (.st (some 40) (.mv (.t 11)) none [] (.st none (.st 6 (.t 2) (.t 38)) none [((some 39), ((.lda 5 (.t 10)), none))] (.st none (.st 5 (.t 3) (.t 39)) none [] (.st (some 4) (.mv (.c (.int .i64 1))) none [] (.st (some 5) (.mv (.t 40)) none [] .fin)))))))) .ret))))), [(.ca 2 6), (.ca 3 5), (.t 4), (.t 5)]⟩
theorem h_spec_l22Last : compF Try.prog 49 = some c_spec_l22Last := by kernel_rfl
def c_spec_l22Used : CF := ⟨38, (.seq (.plan (.st (some 2) (.mv (.c .nils)) none [] .fin)) (.seq (.plan (.st (some 9) (.mv (.t 0)) none [] (.st (some 10) (.len (.t 9)) none [] (.st (some 11) (.mk 4 1 1 [(.bool false)] (.t 10)) none [] (.st (some 3) (.mv (.t 11)) none [] .fin))))) (.seq (.plan (.st (some 13) (.mv (.t 0)) none [] (.st (some 14) (.call 49 [(.t 13)]) none [] (.st (some 12) (.mv (.t 14)) none [] (.st (some 15) (.ext 0 (.t 12)) none [] (.st (some 16) (.ext 1 (.t 12)) none [] (.st (some 17) (.ext 2 (.t 12)) none [] (.st (some 18) (.ext 3 (.t 12)) none [] (.st (some 4) (.alloc 65 [.nils, .nils, .nils, (.int .i64 0), (.int .i64 0), .nils]) none [] (.st (some 5) (.alloc 80 [(.int .i64 0), (.int .i64 0), (.int .i64 0), .nils, .nils]) none [] (.st none (.st 6 (.t 4) (.t 15)) none [] (.st none (.st 5 (.t 5) (.t 16)) none [] (.st (some 6) (.mv (.t 17)) none [] (.st (some 7) (.mv (.t 18)) none [] .fin)))))))))))))) (.seq (.seq (.plan (.st (some 19) (.mv (.t 7)) none [] .fin)) (.cond (.t 19) (.seq (.plan (.st (some 20) (.mv (.t 3)) none [] (.st (some 21) (.mv (.t 6)) none [] (.st (some 22) (.ia 1 (.t 20) (.t 21)) none [] (.st none (.st 1 (.t 22) (.c (.bool true))) none [] .fin))))) (.seq (.plan (.st (some 8) (.mv (.c (.int .i64 0))) none [] .fin)) (.block 0 (.loop (.seq (.seq (.plan (.st (some 23) (.mv (.t 8)) none [] (.st (some 24) (.fa 4 (.t 5)) none [] (.st (some 25) (.ld (.t 24)) none [] (.st (some 26) (.len (.t 25)) none [] (.st (some 27) (.bin .lss (.t 23) (.t 26)) none [] .fin)))))) (.cond (.t 27) .skip (.exit 0))) (.seq (.block 1 (.plan (.st (some 30) (.mv (.t 3)) none [] (.st (some 31) (.fa 4 (.t 5)) none [] (.st (some 32) (.ld (.t 31)) none [] (.st (some 33) (.mv (.t 8)) none [] (.st (some 34) (.ia 1 (.t 32) (.t 33)) none [] (.st (some 35) (.ld (.t 34)) none [] (.st (some 36) (.ia 1 (.t 30) (.t 35)) none [] (.st none (.st 1 (.t 36) (.c (.bool true))) none [] .fin)))))))))) (.plan (.st (some 28) (.mv (.t 8)) none [] (.st (some 29) (.bin .add (.t 28) (.c (.int .i64 1))) none [] (.st (some 8) (.mv (.t 29)) none [] .fin)))))))))) .skip)) (.seq (.plan (.st (some 37) (.mv (.t 3)) none [] (.st (some 2) (.mv (.t 37)) none [] .fin))) .ret))))), [(.t 2)]⟩
theorem h_spec_l22Used : compF Try.prog 65 = some c_spec_l22Used := by kernel_rfl
def c_spec_l22Free : CF := ⟨33, (.seq (.plan (.st (some 4) (.mv (.c .nils)) none [] .fin)) (.seq (.plan (.st (some 8) (.lit 3 1 0 [] []) none [] (.st (some 5) (.mv (.t 8)) none [] .fin))) (.seq (.plan (.st (some 9) (.mv (.t 0)) none [] (.st (some 10) (.call 65 [(.t 9)]) none [] (.st (some 6) (.mv (.t 10)) none [] .fin)))) (.seq (.seq (.plan (.st (some 7) (.mv (.c (.int .i64 2))) none [] .fin)) (.block 0 (.loop (.seq (.seq (.plan (.st (some 11) (.mv (.t 7)) none [] (.st (some 12) (.mv (.t 0)) none [] (.st (some 13) (.len (.t 12)) none [] (.st (some 14) (.bin .lss (.t 11) (.t 13)) none [] (.st (some 15) (.mv (.t 14)) none [] (.st (some 16) (.mv (.t 5)) (some (15, true)) [] (.st (some 17) (.len (.t 16)) (some (15, true)) [] (.st (some 18) (.mv (.t 1)) (some (15, true)) [] (.st (some 19) (.bin .lss (.t 17) (.t 18)) (some (15, true)) [] (.st (some 20) (.pick (.t 15) (.t 19) (.c (.bool false))) none [] .fin))))))))))) (.cond (.t 20) .skip (.exit 0))) (.seq (.block 1 (.seq (.plan (.st (some 23) (.mv (.t 6)) none [] (.st (some 24) (.mv (.t 7)) none [] (.st (some 25) (.ia 1 (.t 23) (.t 24)) none [] (.st (some 26) (.ld (.t 25)) none [] (.st (some 27) (.not (.t 26)) none [] .fin)))))) (.cond (.t 27) (.plan (.st (some 28) (.mv (.t 5)) none [] (.st (some 29) (.mv (.t 7)) none [] (.st (some 30) (.lit 3 1 1 [(.int .i64 0)] [(0, (1, (.t 29)))]) none [] (.st (some 31) (.app 3 1 8 (.t 28) (.t 30)) none [] (.st (some 5) (.mv (.t 31)) none [] .fin)))))) .skip))) (.plan (.st (some 21) (.mv (.t 7)) none [] (.st (some 22) (.bin .add (.t 21) (.c (.int .i64 1))) none [] (.st (some 7) (.mv (.t 22)) none [] .fin))))))))) (.seq (.plan (.st (some 32) (.mv (.t 5)) none [] (.st (some 4) (.mv (.t 32)) none [] .fin))) .ret))))), [(.t 4)]⟩
theorem h_spec_l22Free : compF Try.prog 50 = some c_spec_l22Free := by kernel_rfl
def c_spec_DiskSave : CF := ⟨116, (.seq (.plan (.st (some 3) (.box 65 6 (.t 1)) none [] (.st (some 4) (.mv (.c .nils)) none [] (.st (some 5) (.mv (.c (.bool false))) none [] .fin)))) (.seq (.seq (.plan (.st (some 17) (.mv (.t 0)) none [] (.st (some 18) (.call 47 [(.t 17)]) none [] (.st (some 19) (.not (.t 18)) none [] (.st (some 20) (.mv (.t 19)) none [] (.st (some 21) (.lda 6 (.t 3)) (some (20, false)) [] (.st (some 22) (.call 48 [(.t 21)]) (some (20, false)) [] (.st (some 23) (.not (.t 22)) (some (20, false)) [] (.st (some 24) (.pick (.t 20) (.c (.bool true)) (.t 23)) none [] .fin))))))))) (.cond (.t 24) (.seq (.plan (.st (some 25) (.lit 44 2 0 [] []) none [] (.st (some 4) (.mv (.t 25)) none [] (.st (some 5) (.mv (.c (.bool false))) none [] .fin)))) .ret) .skip)) (.seq (.plan (.st (some 27) (.mv (.t 0)) none [] (.st (some 28) (.call 49 [(.t 27)]) none [] (.st (some 26) (.mv (.t 28)) none [] (.st (some 29) (.ext 0 (.t 26)) none [] (.st (some 30) (.ext 1 (.t 26)) none [] (.st (some 31) (.ext 2 (.t 26)) none [] (.st (some 32) (.ext 3 (.t 26)) none [] (.st (some 6) (.alloc 65 [.nils, .nils, .nils, (.int .i64 0), (.int .i64 0), .nils]) none [] (.st (some 7) (.alloc 80 [(.int .i64 0), (.int .i64 0), (.int .i64 0), .nils, .nils]) none [] (.st none (.st 6 (.t 6) (.t 29)) none [] (.st none (.st 5 (.t 7) (.t 30)) none [] (.st (some 8) (.mv (.t 31)) none [] (.st (some 9) (.mv (.t 32)) none [] .fin)))))))))))))) (.seq (.plan (.st (some 33) (.fa 3 (.t 3)) none [] (.st (some 34) (.ld (.t 33)) none [] (.st (some 35) (.fa 4 (.t 3)) none [] (.st (some 36) (.ld (.t 35)) none [] (.st (some 37) (.fa 5 (.t 3)) none [] (.st (some 38) (.ld (.t 37)) none [] (.st (some 39) (.build [(.int .i64 0), (.int .i64 0), (.int .i64 0), .nils, .nils] [(0, (1, (.c (.int .i64 1)))), (1, (1, (.t 34))), (2, (1, (.t 36))), (3, (1, (.t 38)))]) none [] (.st (some 10) (.alloc 80 [(.int .i64 0), (.int .i64 0), (.int .i64 0), .nils, .nils]) none [] (.st none (.st 5 (.t 10) (.t 39)) none [] .fin)))))))))) (.seq (.plan (.st (some 11) (.mv (.c (.int .i64 0))) none [] .fin)) (.seq (.seq (.plan (.st (some 40) (.mv (.t 9)) none [] .fin)) (.cond (.t 40) (.seq (.plan (.st (some 41) (.fa 0 (.t 7)) none [] (.st (some 42) (.ld (.t 41)) none [] (.st (some 43) (.bin .add (.t 42) (.c (.int .i64 1))) none [] (.st (some 44) (.fa 0 (.t 10)) none [] (.st none (.st 1 (.t 44) (.t 43)) none [] .fin)))))) (.plan (.st (some 45) (.mv (.t 8)) none [] (.st (some 46) (.bin .sub (.c (.int .i64 1)) (.t 45)) none [] (.st (some 11) (.mv (.t 46)) none [] .fin))))) .skip)) (.seq (.plan (.st (some 47) (.mv (.t 0)) none [] (.st (some 48) (.call 50 [(.t 47), (.c (.int .i64 4))]) none [] (.st (some 49) (.fa 4 (.t 10)) none [] (.st none (.st 1 (.t 49) (.t 48)) none [] .fin))))) (.seq (.plan (.st (some 50) (.lit 44 2 0 [] []) none [] (.st (some 12) (.mv (.t 50)) none [] .fin))) (.seq (.seq (.plan (.st (some 13) (.mv (.c (.int .i64 0))) none [] .fin)) (.block 0 (.loop (.seq (.seq (.plan (.st (some 51) (.mv (.t 13)) none [] (.st (some 52) (.bin .lss (.t 51) (.c (.int .i64 2))) none [] .fin))) (.cond (.t 52) .skip (.exit 0))) (.seq (.block 1 (.seq (.plan (.st (some 55) (.mv (.t 9)) none [] (.st (some 56) (.not (.t 55)) none [] (.st (some 57) (.mv (.t 56)) none [] (.st (some 58) (.mv (.t 13)) (some (57, false)) [] (.st (some 59) (.mv (.t 8)) (some (57, false)) [] (.st (some 60) (.bin .neq (.t 58) (.t 59)) (some (57, false)) [] (.st (some 61) (.pick (.t 57) (.c (.bool true)) (.t 60)) none [] .fin)))))))) (.cond (.t 61) (.plan (.st (some 62) (.mv (.t 12)) none [] (.st (some 63) (.mv (.t 13)) none [] (.st (some 64) (.build [(.int .i64 0), (.str ⟨#[]⟩)] [(0, (1, (.t 63)))]) none [] (.st (some 65) (.lit 44 2 1 [(.int .i64 0), (.str ⟨#[]⟩)] [(0, (2, (.t 64)))]) none [] (.st (some 66) (.app 44 2 24 (.t 62) (.t 65)) none [] (.st (some 12) (.mv (.t 66)) none [] .fin))))))) .skip))) (.plan (.st (some 53) (.mv (.t 13)) none [] (.st (some 54) (.bin .add (.t 53) (.c (.int .i64 1))) none [] (.st (some 13) (.mv (.t 54)) none [] .fin))))))))) (.seq (.plan (.st (some 67) (.fa 0 (.t 3)) none [] (.st (some 68) (.ld (.t 67)) none [] (.st (some 69) (.lit 55 1 1 [.nils] [(0, (1, (.t 68)))]) none [] (.st (some 70) (.fa 1 (.t 3)) none [] (.st (some 71) (.ld (.t 70)) none [] (.st (some 72) (.app 55 1 24 (.t 69) (.t 71)) none [] (.st (some 14) (.mv (.t 72)) none [] .fin)))))))) (.seq (.seq (.plan (.st (some 15) (.mv (.c (.int .i64 0))) none [] .fin)) (.block 2 (.loop (.seq (.seq (.plan (.st (some 73) (.mv (.t 15)) none [] (.st (some 74) (.mv (.t 14)) none [] (.st (some 75) (.len (.t 74)) none [] (.st (some 76) (.bin .lss (.t 73) (.t 75)) none [] .fin))))) (.cond (.t 76) .skip (.exit 2))) (.seq (.block 3 (.seq (.plan (.st (some 79) (.mv (.t 14)) none [] (.st (some 80) (.mv (.t 15)) none [] (.st (some 81) (.ia 1 (.t 79) (.t 80)) none [] (.st (some 82) (.ld (.t 81)) none [] (.st (some 83) (.call 51 [(.t 82)]) none [] (.st (some 16) (.mv (.t 83)) none [] .fin))))))) (.seq (.seq (.plan (.st (some 84) (.mv (.t 16)) none [] (.st (some 85) (.bin .eql (.t 84) (.c (.str ⟨#[]⟩))) none [] (.st (some 86) (.mv (.t 85)) none [] (.st (some 87) (.mv (.t 15)) (some (86, false)) [] (.st (some 88) (.fa 4 (.t 10)) (some (86, false)) [] (.st (some 89) (.ld (.t 88)) (some (86, false)) [] (.st (some 90) (.len (.t 89)) (some (86, false)) [] (.st (some 91) (.bin .geq (.t 87) (.t 90)) (some (86, false)) [] (.st (some 92) (.pick (.t 86) (.c (.bool true)) (.t 91)) none [] (.st (some 93) (.mv (.t 92)) none [] (.st (some 94) (.fa 0 (.t 10)) (some (93, false)) [] (.st (some 95) (.ld (.t 94)) (some (93, false)) [] (.st (some 96) (.bin .gtr (.t 95) (.c (.int .i64 9999))) (some (93, false)) [] (.st (some 97) (.pick (.t 93) (.c (.bool true)) (.t 96)) none [] .fin))))))))))))))) (.cond (.t 97) (.seq (.plan (.st (some 98) (.lit 44 2 0 [] []) none [] (.st (some 4) (.mv (.t 98)) none [] (.st (some 5) (.mv (.c (.bool false))) none [] .fin)))) .ret) .skip)) (.plan (.st (some 99) (.mv (.t 12)) none [] (.st (some 100) (.fa 4 (.t 10)) none [] (.st (some 101) (.ld (.t 100)) none [] (.st (some 102) (.mv (.t 15)) none [] (.st (some 103) (.ia 1 (.t 101) (.t 102)) none [] (.st (some 104) (.ld (.t 103)) none [] (.st (some 105) (.mv (.t 16)) none [] (.st (some 106) (.build [(.int .i64 0), (.str ⟨#[]⟩)] [(0, (1, (.t 104))), (1, (1, (.t 105)))]) none [] (.st (some 107) (.lit 44 2 1 [(.int .i64 0), (.str ⟨#[]⟩)] [(0, (2, (.t 106)))]) none [] (.st (some 108) (.app 44 2 24 (.t 99) (.t 107)) none [] (.st (some 12) (.mv (.t 108)) none [] .fin))))))))))))))) (.plan (.st (some 77) (.mv (.t 15)) none [] (.st (some 78) (.bin .add (.t 77) (.c (.int .i64 1))) none [] (.st (some 15) (.mv (.t 78)) none [] .fin))))))))) (.seq (.plan (.st (some 109) (.mv (.t 12)) none [] (.st (some 110) (.mv (.t 11)) none [] (.st (some 111) (.lda 5 (.t 10)) none [] (.st (some 112) (.call 52 [(.t 111)]) none [] (.st (some 113) (.build [(.int .i64 0), (.str ⟨#[]⟩)] [(0, (1, (.t 110))), (1, (1, (.t 112)))]) none [] (.st (some 114) (.lit 44 2 1 [(.int .i64 0), (.str ⟨#[]⟩)] [(0, (2, (.t 113)))]) none [] (.st (some 115) (.app 44 2 24 (.t 109) (.t 114)) none [] (.st (some 4) (.mv (.t 115)) none [] (.st (some 5) (.mv (.c (.bool true))) none [] .fin)))))))))) .ret)))))))))))), [(.t 4), (.t 5)]⟩
theorem h_spec_DiskSave : compF Try.prog 39 = some c_spec_DiskSave := by kernel_rfl
def c_spec_l71Disk : CF := ⟨58, (.seq (.plan (.st (some 2) (.mv (.c .nils)) none [] .fin)) (.seq (.plan (.st (some 9) (.call 11 []) none [] (.st (some 3) (.mv (.t 9)) none [] .fin))) (.seq (.seq (.plan (.st (some 10) (.mv (.t 0)) none [] (.st (some 11) (.call 41 [(.t 10), (.c (.int .i64 4))]) none [] (.st (some 4) (.mv (.t 11)) none [] .fin)))) (.block 0 (.loop (.seq (.seq (.plan (.st (some 12) (.mv (.t 4)) none [] (.st (some 13) (.bin .gtr (.t 12) (.c (.int .i64 0))) none [] .fin))) (.cond (.t 13) .skip (.exit 0))) (.seq (.block 1 (.seq (.plan (.st (some 17) (.mv (.t 3)) none [] (.st (some 18) (.mv (.t 0)) none [] (.st (some 19) (.call 40 [(.t 18)]) none [] (.st (some 20) (.call 39 [(.t 17), (.t 19)]) none [] (.st (some 16) (.mv (.t 20)) none [] (.st (some 21) (.ext 0 (.t 16)) none [] (.st (some 22) (.ext 1 (.t 16)) none [] (.st (some 5) (.mv (.t 21)) none [] (.st (some 6) (.mv (.t 22)) none [] .fin)))))))))) (.seq (.seq (.plan (.st (some 23) (.mv (.t 6)) none [] (.st (some 24) (.not (.t 23)) none [] .fin))) (.cond (.t 24) (.exit 1) .skip)) (.seq (.plan (.st (some 25) (.mv (.t 5)) none [] (.st (some 26) (.len (.t 25)) none [] (.st (some 7) (.mv (.t 26)) none [] .fin)))) (.seq (.plan (.st (some 8) (.mv (.c (.int .i64 400))) none [] .fin)) (.seq (.seq (.plan (.st (some 27) (.mv (.t 0)) none [] (.st (some 28) (.call 41 [(.t 27), (.c (.int .i64 3))]) none [] (.st (some 29) (.bin .eql (.t 28) (.c (.int .i64 0))) none [] .fin)))) (.cond (.t 29) (.seq (.plan (.st (some 30) (.mv (.t 0)) none [] (.st (some 31) (.mv (.t 5)) none [] (.st (some 32) (.len (.t 31)) none [] (.st (some 33) (.bin .add (.t 32) (.c (.int .i64 1))) none [] (.st (some 34) (.call 41 [(.t 30), (.t 33)]) none [] (.st (some 7) (.mv (.t 34)) none [] .fin))))))) (.plan (.st (some 35) (.mv (.t 0)) none [] (.st (some 36) (.call 41 [(.t 35), (.c (.int .i64 40))]) none [] (.st (some 8) (.mv (.t 36)) none [] .fin))))) .skip)) (.plan (.st (some 37) (.mv (.t 3)) none [] (.st (some 38) (.mv (.t 5)) none [] (.st (some 39) (.mv (.t 7)) none [] (.st (some 40) (.cut 2 (.t 38) none (some (.t 39))) none [] (.st (some 41) (.mv (.t 8)) none [] (.st (some 42) (.call 18 [(.t 37), (.t 40), (.t 41)]) none [] (.st (some 3) (.mv (.t 42)) none [] .fin)))))))))))))) (.plan (.st (some 14) (.mv (.t 4)) none [] (.st (some 15) (.bin .sub (.t 14) (.c (.int .i64 1))) none [] (.st (some 4) (.mv (.t 15)) none [] .fin))))))))) (.seq (.seq (.plan (.st (some 43) (.mv (.t 0)) none [] (.st (some 44) (.call 41 [(.t 43), (.c (.int .i64 20))]) none [] .fin))) (.block 2 (.seq (.plan (.st (some 46) (.bin .eql (.t 44) (.c (.int .i64 0))) none [] (.st (some 45) (.mv (.t 46)) none [] .fin))) (.cond (.t 45) (.plan (.st (some 47) (.mv (.t 3)) none [] (.st (some 48) (.mv (.t 0)) none [] (.st (some 49) (.mv (.t 3)) none [] (.st (some 50) (.len (.t 49)) none [] (.st (some 51) (.call 41 [(.t 48), (.t 50)]) none [] (.st (some 52) (.ia 1 (.t 47) (.t 51)) none [] (.st none (.st 1 (.t 52) (.c (.str ⟨#[106, 117, 110, 107]⟩))) none [] .fin)))))))) (.seq (.plan (.st (some 54) (.bin .eql (.t 44) (.c (.int .i64 1))) none [] (.st (some 53) (.mv (.t 54)) none [] .fin))) (.cond (.t 53) (.seq (.plan (.st (some 55) (.mv (.t 3)) none [] (.st (some 56) (.cut 1 (.t 55) (some (.c (.int .i64 1))) none) none [] (.st (some 2) (.mv (.t 56)) none [] .fin)))) .ret) .skip)))))) (.seq (.plan (.st (some 57) (.mv (.t 3)) none [] (.st (some 2) (.mv (.t 57)) none [] .fin))) .ret))))), [(.t 2)]⟩
theorem h_spec_l71Disk : compF Try.prog 38 = some c_spec_l71Disk := by kernel_rfl
def c_spec_DrawDiskDo : CF := ⟨56, (.seq (.plan (.st (some 2) (.mv (.c .nils)) none [] (.st (some 3) (.mv (.c .nils)) none [] (.st (some 4) (.mv (.c (.int .i64 0))) none [] .fin)))) (.seq (.plan (.st (some 9) (.mv (.t 0)) none [] (.st (some 10) (.call 34 [(.t 9)]) none [] (.st (some 5) (.mv (.t 10)) none [] .fin)))) (.seq (.plan (.st (some 11) (.mv (.t 5)) none [] (.st (some 12) (.call 38 [(.t 11)]) none [] (.st (some 6) (.mv (.t 12)) none [] .fin)))) (.seq (.plan (.st (some 14) (.mv (.t 6)) none [] (.st (some 15) (.mv (.t 5)) none [] (.st (some 16) (.call 40 [(.t 15)]) none [] (.st (some 17) (.call 39 [(.t 14), (.t 16)]) none [] (.st (some 13) (.mv (.t 17)) none [] (.st (some 18) (.ext 0 (.t 13)) none [] (.st (some 19) (.ext 1 (.t 13)) none [] (.st (some 7) (.mv (.t 18)) none [] (.st (some 8) (.mv (.t 19)) none [] .fin)))))))))) (.seq (.seq (.plan (.st (some 20) (.mv (.t 7)) none [] (.st (some 21) (.len (.t 20)) none [] (.st (some 22) (.bin .gtr (.t 21) (.c (.int .i64 0))) none [] (.st (some 23) (.mv (.t 22)) none [] (.st (some 24) (.mv (.t 5)) (some (23, true)) [] (.st (some 25) (.call 41 [(.t 24), (.c (.int .i64 2))]) (some (23, true)) [] (.st (some 26) (.bin .eql (.t 25) (.c (.int .i64 0))) (some (23, true)) [] (.st (some 27) (.pick (.t 23) (.t 26) (.c (.bool false))) none [] .fin))))))))) (.cond (.t 27) (.plan (.st (some 28) (.mv (.t 7)) none [] (.st (some 29) (.mv (.t 5)) none [] (.st (some 30) (.mv (.t 7)) none [] (.st (some 31) (.len (.t 30)) none [] (.st (some 32) (.bin .add (.t 31) (.c (.int .i64 1))) none [] (.st (some 33) (.call 41 [(.t 29), (.t 32)]) none [] (.st (some 34) (.cut 2 (.t 28) none (some (.t 33))) none [] (.st (some 7) (.mv (.t 34)) none [] .fin))))))))) .skip)) (.seq (.seq (.plan (.st (some 35) (.mv (.t 5)) none [] (.st (some 36) (.call 41 [(.t 35), (.c (.int .i64 12))]) none [] (.st (some 37) (.bin .eql (.t 36) (.c (.int .i64 0))) none [] .fin)))) (.cond (.t 37) (.plan (.st (some 38) (.mv (.t 7)) none [] (.st (some 39) (.lit 3 1 2 [(.int .i64 0), (.int .i64 0)] [(0, (1, (.c (.int .i64 (-1))))), (1, (1, (.c (.int .i64 10))))]) none [] (.st (some 40) (.mv (.t 5)) none [] (.st (some 41) (.call 41 [(.t 40), (.c (.int .i64 2))]) none [] (.st (some 42) (.ia 1 (.t 39) (.t 41)) none [] (.st (some 43) (.ld (.t 42)) none [] (.st (some 44) (.build [(.int .i64 0), (.str ⟨#[]⟩)] [(0, (1, (.t 43))), (1, (1, (.c (.str ⟨#[120]⟩))))]) none [] (.st (some 45) (.lit 44 2 1 [(.int .i64 0), (.str ⟨#[]⟩)] [(0, (2, (.t 44)))]) none [] (.st (some 46) (.app 44 2 24 (.t 38) (.t 45)) none [] (.st (some 7) (.mv (.t 46)) none [] .fin))))))))))) .skip)) (.seq (.plan (.st (some 47) (.mv (.t 6)) none [] (.st (some 48) (.mv (.t 7)) none [] (.st (some 49) (.mv (.t 5)) none [] (.st (some 52) (.mv (.t 5)) none [] (.st (some 50) (.call 41 [(.t 49), (.c (.int .i64 60))]) none [] (.both (.st (some 51) (.lit 3 1 4 [(.int .i64 0), (.int .i64 0), (.int .i64 0), (.int .i64 0)] [(0, (1, (.c (.int .i64 400)))), (1, (1, (.c (.int .i64 400)))), (2, (1, (.t 50))), (3, (1, (.c (.int .i64 (-1)))))]) none [] (.st (some 53) (.call 41 [(.t 52), (.c (.int .i64 4))]) none [] (.st (some 54) (.ia 1 (.t 51) (.t 53)) none [] (.st (some 55) (.ld (.t 54)) none [] (.st (some 2) (.mv (.t 47)) none [] (.st (some 3) (.mv (.t 48)) none [] (.st (some 4) (.mv (.t 55)) none [] .fin))))))) (.st (some 53) (.call 41 [(.t 52), (.c (.int .i64 4))]) none [] (.st (some 2) (.mv (.t 47)) none [] (.st (some 3) (.mv (.t 48)) none [] (.st (some 51) (.lit 3 1 4 [(.int .i64 0), (.int .i64 0), (.int .i64 0), (.int .i64 0)] [(0, (1, (.c (.int .i64 400)))), (1, (1, (.c (.int .i64 400)))), (2, (1, (.t 50))), (3, (1, (.c (.int .i64 (-1)))))]) none [] (.st (some 54) (.ia 1 (.t 51) (.t 53)) none [] (.st (some 55) (.ld (.t 54)) none [] (.st (some 4) (.mv (.t 55)) none [] .fin)))))))))))))) .ret))))))), [(.t 2), (.t 3), (.t 4)]⟩
theorem h_spec_DrawDiskDo : compF Try.prog 25 = some c_spec_DrawDiskDo := by kernel_rfl
def c_laws_ltSames : CF := ⟨26, (.seq (.plan (.st (some 4) (.mv (.c (.bool false))) none [] .fin)) (.seq (.seq (.plan (.st (some 6) (.mv (.t 0)) none [] (.st (some 7) (.len (.t 6)) none [] (.st (some 8) (.mv (.t 1)) none [] (.st (some 9) (.len (.t 8)) none [] (.st (some 10) (.bin .neq (.t 7) (.t 9)) none [] .fin)))))) (.cond (.t 10) (.seq (.plan (.st (some 4) (.mv (.c (.bool false))) none [] .fin)) .ret) .skip)) (.seq (.seq (.plan (.st (some 5) (.mv (.c (.int .i64 0))) none [] .fin)) (.block 0 (.loop (.seq (.seq (.plan (.st (some 11) (.mv (.t 5)) none [] (.st (some 12) (.mv (.t 0)) none [] (.st (some 13) (.len (.t 12)) none [] (.st (some 14) (.bin .lss (.t 11) (.t 13)) none [] .fin))))) (.cond (.t 14) .skip (.exit 0))) (.seq (.block 1 (.seq (.plan (.st (some 17) (.mv (.t 0)) none [] (.st (some 18) (.mv (.t 5)) none [] (.st (some 19) (.ia 1 (.t 17) (.t 18)) none [] (.st (some 20) (.ld (.t 19)) none [] (.st (some 21) (.mv (.t 1)) none [] (.st (some 22) (.mv (.t 5)) none [] (.st (some 23) (.ia 1 (.t 21) (.t 22)) none [] (.st (some 24) (.ld (.t 23)) none [] (.st (some 25) (.bin .neq (.t 20) (.t 24)) none [] .fin)))))))))) (.cond (.t 25) (.seq (.plan (.st (some 4) (.mv (.c (.bool false))) none [] .fin)) .ret) .skip))) (.plan (.st (some 15) (.mv (.t 5)) none [] (.st (some 16) (.bin .add (.t 15) (.c (.int .i64 1))) none [] (.st (some 5) (.mv (.t 16)) none [] .fin))))))))) (.seq (.plan (.st (some 4) (.mv (.c (.bool true))) none [] .fin)) .ret)))), [(.t 4)]⟩
theorem h_laws_ltSames : compF Try.prog 26 = some c_laws_ltSames := by kernel_rfl
def c_laws_FnDiskDo : CF := ⟨77, (.seq (.plan (.st (some 2) (.mv (.c (.bool false))) none [] .fin)) (.seq (.seq (.plan (.st (some 10) (.mv (.t 0)) none [] (.st (some 11) (.len (.t 10)) none [] (.st (some 12) (.bin .gtr (.t 11) (.c (.int .i64 1048576))) none [] .fin)))) (.cond (.t 12) (.seq (.plan (.st (some 2) (.mv (.c (.bool true))) none [] .fin)) .ret) .skip)) (.seq (.plan (.st (some 14) (.mv (.t 0)) none [] (.st (some 15) (.call 25 [(.t 14)]) none [] (.st (some 13) (.mv (.t 15)) none [] (.st (some 16) (.ext 0 (.t 13)) none [] (.st (some 17) (.ext 1 (.t 13)) none [] (.st (some 18) (.ext 2 (.t 13)) none [] (.st (some 3) (.mv (.t 16)) none [] (.st (some 4) (.mv (.t 17)) none [] (.st (some 5) (.mv (.t 18)) none [] .fin)))))))))) (.seq (.plan (.st (some 19) (.mv (.t 3)) none [] (.st (some 20) (.mv (.t 4)) none [] (.st (some 21) (.mv (.t 5)) none [] (.st (some 22) (.call 21 [(.t 19), (.t 20), (.t 21)]) none [] (.st (some 6) (.mv (.t 22)) none [] .fin)))))) (.seq (.seq (.plan (.st (some 23) (.mv (.t 6)) none [] (.st (some 24) (.mv (.t 3)) none [] (.st (some 25) (.mv (.t 4)) none [] (.st (some 26) (.mv (.t 5)) none [] (.st (some 27) (.call 18 [(.t 24), (.t 25), (.t 26)]) none [] (.st (some 28) (.call 26 [(.t 23), (.t 27)]) none [] (.st (some 29) (.not (.t 28)) none [] .fin)))))))) (.cond (.t 29) (.seq (.plan (.st (some 2) (.mv (.c (.bool false))) none [] .fin)) .ret) .skip)) (.seq (.seq (.plan (.st (some 7) (.mv (.c (.int .i64 0))) none [] .fin)) (.block 0 (.loop (.seq (.seq (.plan (.st (some 30) (.mv (.t 7)) none [] (.st (some 31) (.mv (.t 6)) none [] (.st (some 32) (.len (.t 31)) none [] (.st (some 33) (.bin .lss (.t 30) (.t 32)) none [] .fin))))) (.cond (.t 33) .skip (.exit 0))) (.seq (.block 1 (.seq (.plan (.st (some 8) (.mv (.c (.bool false))) none [] .fin)) (.seq (.seq (.plan (.st (some 9) (.mv (.c (.int .i64 0))) none [] .fin)) (.block 2 (.loop (.seq (.seq (.plan (.st (some 36) (.mv (.t 9)) none [] (.st (some 37) (.mv (.t 4)) none [] (.st (some 38) (.len (.t 37)) none [] (.st (some 39) (.bin .lss (.t 36) (.t 38)) none [] .fin))))) (.cond (.t 39) .skip (.exit 2))) (.seq (.block 3 (.plan (.st (some 42) (.mv (.t 8)) none [] (.st (some 43) (.mv (.t 42)) none [] (.st (some 44) (.mv (.t 4)) (some (43, false)) [] (.st (some 45) (.mv (.t 9)) (some (43, false)) [] (.st (some 46) (.ia 2 (.t 44) (.t 45)) (some (43, false)) [] (.st (some 47) (.fa 0 (.t 46)) (some (43, false)) [] (.st (some 48) (.ld (.t 47)) (some (43, false)) [] (.st (some 49) (.mv (.t 7)) (some (43, false)) [] (.st (some 50) (.bin .eql (.t 48) (.t 49)) (some (43, false)) [] (.st (some 51) (.pick (.t 43) (.c (.bool true)) (.t 50)) none [] (.st (some 8) (.mv (.t 51)) none [] .fin))))))))))))) (.plan (.st (some 40) (.mv (.t 9)) none [] (.st (some 41) (.bin .add (.t 40) (.c (.int .i64 1))) none [] (.st (some 9) (.mv (.t 41)) none [] .fin))))))))) (.seq (.plan (.st (some 52) (.mv (.t 8)) none [] (.st (some 53) (.not (.t 52)) none [] (.st (some 54) (.mv (.t 53)) none [] (.st (some 55) (.mv (.t 6)) (some (54, true)) [] (.st (some 56) (.mv (.t 7)) (some (54, true)) [] (.st (some 57) (.ia 1 (.t 55) (.t 56)) (some (54, true)) [] (.st (some 58) (.ld (.t 57)) (some (54, true)) [] (.st (some 59) (.mv (.t 3)) (some (54, true)) [] (.st (some 60) (.mv (.t 7)) (some (54, true)) [] (.st (some 61) (.ia 1 (.t 59) (.t 60)) (some (54, true)) [] (.st (some 62) (.ld (.t 61)) (some (54, true)) [] (.st (some 63) (.bin .neq (.t 58) (.t 62)) (some (54, true)) [] (.st (some 64) (.pick (.t 54) (.t 63) (.c (.bool false))) none [] .fin)))))))))))))) (.cond (.t 64) (.seq (.plan (.st (some 2) (.mv (.c (.bool false))) none [] .fin)) .ret) .skip))))) (.plan (.st (some 34) (.mv (.t 7)) none [] (.st (some 35) (.bin .add (.t 34) (.c (.int .i64 1))) none [] (.st (some 7) (.mv (.t 35)) none [] .fin))))))))) (.seq (.plan (.st (some 65) (.mv (.t 6)) none [] (.st (some 66) (.len (.t 65)) none [] (.st (some 67) (.mv (.t 3)) none [] (.st (some 68) (.len (.t 67)) none [] (.st (some 69) (.bin .eql (.t 66) (.t 68)) none [] (.st (some 70) (.mv (.t 69)) none [] (.st (some 71) (.mv (.t 3)) (some (70, true)) [] (.st (some 72) (.mv (.t 5)) (some (70, true)) [] (.st (some 73) (.call 21 [(.t 71), (.c .nils), (.t 72)]) (some (70, true)) [] (.st (some 74) (.mv (.t 3)) (some (70, true)) [] (.st (some 75) (.call 26 [(.t 73), (.t 74)]) (some (70, true)) [] (.st (some 76) (.pick (.t 70) (.t 75) (.c (.bool false))) none [] (.st (some 2) (.mv (.t 76)) none [] .fin)))))))))))))) .ret))))))), [(.t 2)]⟩
theorem h_laws_FnDiskDo : compF Try.prog 7 = some c_laws_FnDiskDo := by kernel_rfl
def c_laws_FnDiskDoCut : CF := ⟨65, (.seq (.plan (.st (some 4) (.mv (.c (.bool false))) none [] .fin)) (.seq (.seq (.plan (.st (some 11) (.mv (.t 0)) none [] (.st (some 12) (.len (.t 11)) none [] (.st (some 13) (.bin .gtr (.t 12) (.c (.int .i64 1048576))) none [] (.st (some 14) (.mv (.t 13)) none [] (.st (some 15) (.mv (.t 1)) (some (14, false)) [] (.st (some 16) (.len (.t 15)) (some (14, false)) [] (.st (some 17) (.bin .gtr (.t 16) (.c (.int .i64 1048576))) (some (14, false)) [] (.st (some 18) (.pick (.t 14) (.c (.bool true)) (.t 17)) none [] .fin))))))))) (.cond (.t 18) (.seq (.plan (.st (some 4) (.mv (.c (.bool true))) none [] .fin)) .ret) .skip)) (.seq (.plan (.st (some 20) (.mv (.t 0)) none [] (.st (some 21) (.call 25 [(.t 20)]) none [] (.st (some 19) (.mv (.t 21)) none [] (.st (some 22) (.ext 0 (.t 19)) none [] (.st (some 23) (.ext 1 (.t 19)) none [] (.st (some 24) (.ext 2 (.t 19)) none [] (.st (some 5) (.mv (.t 22)) none [] (.st (some 6) (.mv (.t 23)) none [] (.st (some 7) (.mv (.t 24)) none [] .fin)))))))))) (.seq (.plan (.st (some 25) (.mv (.t 5)) none [] (.st (some 26) (.mv (.t 6)) none [] (.st (some 27) (.mv (.t 7)) none [] (.st (some 28) (.call 21 [(.t 25), (.t 26), (.t 27)]) none [] (.st (some 8) (.mv (.t 28)) none [] .fin)))))) (.seq (.seq (.plan (.st (some 29) (.mv (.t 8)) none [] (.st (some 30) (.mv (.t 5)) none [] (.st (some 31) (.mv (.t 6)) none [] (.st (some 32) (.mv (.t 7)) none [] (.st (some 33) (.call 18 [(.t 30), (.t 31), (.t 32)]) none [] (.st (some 34) (.call 26 [(.t 29), (.t 33)]) none [] (.st (some 35) (.not (.t 34)) none [] (.st (some 36) (.mv (.t 35)) none [] (.st (some 37) (.mv (.t 6)) (some (36, false)) [] (.st (some 38) (.len (.t 37)) (some (36, false)) [] (.st (some 39) (.bin .eql (.t 38) (.c (.int .i64 0))) (some (36, false)) [] (.st (some 40) (.pick (.t 36) (.c (.bool true)) (.t 39)) none [] .fin))))))))))))) (.cond (.t 40) (.seq (.plan (.st (some 41) (.mv (.t 8)) none [] (.st (some 42) (.mv (.t 5)) none [] (.st (some 43) (.mv (.t 6)) none [] (.st (some 44) (.mv (.t 7)) none [] (.st (some 45) (.call 18 [(.t 42), (.t 43), (.t 44)]) none [] (.st (some 46) (.call 26 [(.t 41), (.t 45)]) none [] (.st (some 4) (.mv (.t 46)) none [] .fin)))))))) .ret) .skip)) (.seq (.plan (.st (some 47) (.mv (.t 1)) none [] (.st (some 48) (.len (.t 47)) none [] (.st (some 49) (.mv (.t 6)) none [] (.st (some 50) (.len (.t 49)) none [] (.st (some 51) (.bin .rem (.t 48) (.t 50)) none [] (.st (some 9) (.mv (.t 51)) none [] .fin))))))) (.seq (.plan (.st (some 52) (.mv (.t 5)) none [] (.st (some 53) (.mv (.t 6)) none [] (.st (some 54) (.mv (.t 9)) none [] (.st (some 55) (.cut 2 (.t 53) none (some (.t 54))) none [] (.st (some 57) (.mv (.t 6)) none [] (.st (some 58) (.mv (.t 9)) none [] (.st (some 59) (.cut 2 (.t 57) (some (.t 58)) none) none [] (.st (some 60) (.mv (.t 7)) none [] (.st (some 56) (.call 21 [(.t 52), (.t 55), (.c (.int .i64 400))]) none [((some 59), ((.cut 2 (.t 57) (some (.t 58)) none), none))] (.st (some 61) (.call 21 [(.t 56), (.t 59), (.t 60)]) none [] (.st (some 10) (.mv (.t 61)) none [] .fin)))))))))))) (.seq (.plan (.st (some 62) (.mv (.t 10)) none [] (.st (some 63) (.mv (.t 8)) none [] (.st (some 64) (.call 26 [(.t 62), (.t 63)]) none [] (.st (some 4) (.mv (.t 64)) none [] .fin))))) .ret)))))))), [(.t 4)]⟩
theorem h_laws_FnDiskDoCut : compF Try.prog 8 = some c_laws_FnDiskDoCut := by kernel_rfl
end Go.Proofs.Ytkdnijiipegabaa.B

namespace Go.Proofs.Ytkdnijiipegabaa.B
open Go.RowKit Go.Proofs
set_option linter.unusedVariables false
set_option linter.unusedSimpArgs false
variable {E : Env}

/-- A function whose result holds no memory. -/
theorem AC_byp {C : CallP} (hC : CLe C (AC Try.prog E)) {f : Nat} {cf : CF} (hc : compF Try.prog f = some cf) {args : List AV} {H : Hp} {r : AV} (hp : r.plain = true) (h : W C cf.body (endX cf.res (fun v H' => v = r ∧ HLe H H')) (initT args) H) :
    AC Try.prog E f args H (fun v H' => v = r ∧ H' = H) := by
  refine AC.gc ((AC_by fol hC hc h).mono (fun v H' e => ⟨e.2, by rw [e.1]; exact hp, e.1, rfl⟩))
theorem CLe.refl (C : CallP) : CLe C C := fun _ _ _ _ h => h
theorem wrapN {i : Nat} (h : i < 9223372036854775807) : IntKind.i64.wrap ((i : Int) + 1) = ((i + 1 : Nat) : Int) := wrap64 (by omega) (by omega)

/-- Calls read off a table, else by what is known of them. -/
def tC (T : Nat → List AV → Option AV) (C : CallP) : CallP := fun f args H K => match T f args with | some r => K r H | none => C f args H K
def TabOK (T : Nat → List AV → Option AV) (P : Program) (E : Env) : Prop := ∀ f args r H, T f args = some r → AC P E f args H (fun v H' => v = r ∧ H' = H)
theorem tC_le {T : Nat → List AV → Option AV} {P : Program} (h : TabOK T P E) : CLe (tC T (AC P E)) (AC P E) := fun f args H K hk => by
  unfold tC at hk
  split at hk
  · rename_i r e
    exact (h f args r H e).mono (fun v H' hh => by rw [hh.1, hh.2]; exact hk)
  · exact hk
theorem tC_mono {T : Nat → List AV → Option AV} {C : CallP} (h : CMono C) : CMono (tC T C) := fun f args H K K' hk hh => by
  unfold tC at hh ⊢
  split at hh
  · exact hk _ _ hh
  · exact h f args H K K' hk hh

theorem cg_use {T : Nat → List AV → Option AV} {P : Program} {f : Nat} {args : List AV} {H H2 : Hp} {r : AV} {d : Option Nat} {ag} {p : Plan} {t : Tm} {K : Tm → Hp → Prop} (h : AC P E f args H (fun v H' => v = r ∧ H' = H2))
    (hk : againG ag (updO t d r) H2 ∧ RgP (tC T (AC P E)) p (updO t d r) H2 K) (hT : T f args = none := by rfl) : callG (tC T (AC P E)) f args d ag p t H K := by
  unfold callG tC
  rw [hT]
  exact h.mono (fun v H' e => by rw [e.1, e.2]; exact hk)
theorem cg_ex {T : Nat → List AV → Option AV} {P : Program} {f : Nat} {args : List AV} {H : Hp} {R : AV → Hp → Prop} {d : Option Nat} {ag} {p : Plan} {t : Tm} {K : Tm → Hp → Prop} (h : AC P E f args H R)
    (hk : ∀ v H', R v H' → againG ag (updO t d v) H' ∧ RgP (tC T (AC P E)) p (updO t d v) H' K) (hT : T f args = none := by rfl) : callG (tC T (AC P E)) f args d ag p t H K := by
  unfold callG tC
  rw [hT]
  exact h.mono hk

theorem callG_tab {T : Nat → List AV → Option AV} {C : CallP} {f : Nat} {args : List AV} {r : AV} (h : T f args = some r) {d : Option Nat} {ag} {p : Plan} {t : Tm} {H : Hp} {K : Tm → Hp → Prop} :
    callG (tC T C) f args d ag p t H K = (againG ag (updO t d r) H ∧ RgP (tC T C) p (updO t d r) H K) := by
  show (match T f args with | some r => againG ag (updO t d r) H ∧ RgP (tC T C) p (updO t d r) H K | none => _) = _
  rw [h]

theorem AC_use {f : Nat} {args : List AV} {H H2 : Hp} {r : AV} {K : AV → Hp → Prop} (h : AC Try.prog E f args H (fun v H' => v = r ∧ H' = H2)) (hk : K r H2) : AC Try.prog E f args H K := h.mono (fun v H' e => by rw [e.1, e.2]; exact hk)
theorem callG_use {P : Program} {f : Nat} {args : List AV} {H H2 : Hp} {r : AV} {d : Option Nat} {ag} {p : Plan} {t : Tm} {K : Tm → Hp → Prop} (h : AC P E f args H (fun v H' => v = r ∧ H' = H2))
    (hk : againG ag (updO t d r) H2 ∧ RgP (AC P E) p (updO t d r) H2 K) : callG (AC P E) f args d ag p t H K := h.mono (fun v H' e => by rw [e.1, e.2]; exact hk)
theorem callG_ex {P : Program} {f : Nat} {args : List AV} {H : Hp} {R : AV → Hp → Prop} {d : Option Nat} {ag} {p : Plan} {t : Tm} {K : Tm → Hp → Prop} (h : AC P E f args H R)
    (hk : ∀ v H', R v H' → againG ag (updO t d v) H' ∧ RgP (AC P E) p (updO t d v) H' K) : callG (AC P E) f args d ag p t H K := h.mono hk

end Go.Proofs.Ytkdnijiipegabaa.B

namespace Go.Proofs.Ytkdnijiipegabaa.B
open Go.RowKit Go.Proofs
set_option linter.unusedVariables false
set_option linter.unusedSimpArgs false
variable {E : Env}

/-! ### Numbers -/
def tab0 (f : Nat) (args : List AV) : Option AV :=
  match f, args with
  | 29, [.int .i64 n, .int .i64 l, .int .i64 h] => some (.bool (decide (l ≤ n ∧ n ≤ h)))
  | _, _ => none
theorem l6In_ok (n l h : Int) (H : Hp) : AC Try.prog E 29 [.int .i64 n, .int .i64 l, .int .i64 h] H (fun v H' => v = .bool (decide (l ≤ n ∧ n ≤ h)) ∧ H' = H) := by
  refine AC_by fol (CLe.refl (AC Try.prog E)) h_spec_l6In ?_
  simp [c_spec_l6In]
  refine g_split (fun hq => ?_) (fun hq => ?_) (by simp) <;> simp at hq <;> simp [hq]
  omega
theorem tab0_ok : TabOK tab0 Try.prog E := by
  intro f args r H h
  unfold tab0 at h
  split at h
  · cases h
    exact l6In_ok _ _ _ _
  · cases h
@[simp] theorem tab0_in (C : CallP) (n l h : Int) (d : Option Nat) (ag) (p : Plan) (t : Tm) (H : Hp) (K : Tm → Hp → Prop) : callG (tC tab0 C) 29 [.int .i64 n, .int .i64 l, .int .i64 h] d ag p t H K =
  (againG ag (updO t d (.bool (decide (l ≤ n ∧ n ≤ h)))) H ∧ RgP (tC tab0 C) p (updO t d (.bool (decide (l ≤ n ∧ n ≤ h)))) H K) := rfl

theorem ix_nat (s : ByteArray) (i : Nat) : bt s (i : Int) = bt s i := rfl
theorem u8_le (s : ByteArray) (i : Int) : 0 ≤ bt s i ∧ bt s i < 256 := by
  unfold bt
  cases h : s[i.toNat]? with
  | none => simp
  | some b =>
    have := b.toNat_lt
    simp only [Option.map_some, Option.getD_some]
    omega
theorem wrap_bt (s : ByteArray) (i : Int) : IntKind.i64.wrap (bt s i) = bt s i := by
  have := u8_le s i
  exact wrap64 (by omega) (by omega)

theorem KeyOk_ok (k : ByteArray) (H : Hp) (hk : k.size < 4611686018427387904) : AC Try.prog E 70 [.str k] H (fun v H' => v = .bool (keyOk k) ∧ H' = H) := by
  refine AC_byp (tC_le tab0_ok) h_spec_KeyOk (by simp) ?_
  simp [c_spec_KeyOk]
  refine W_for (fun m t H' => ∃ i : Nat, i + m = k.size ∧ t 0 = .str k ∧ t 3 = .int .i64 i ∧ (∀ j : Nat, j < i → 97 ≤ bt k j ∧ bt k j ≤ 100) ∧ H' = H) k.size ?_ (tC_mono AC_mono) ?_
  · exact ⟨0, by simp⟩
  rintro m t H' ⟨i, him, h0, h3, hI, rfl⟩
  simp [h0, h3]
  refine c_split (fun hq => ?_) (fun hq => ?_) <;> simp at hq
  · simp [h0, h3, hq, wrap_bt]
    refine c_split (fun hq2 => ?_) (fun hq2 => ?_) <;> simp at hq2
    · simp [h0, h3]
      simp only [keyOk, decide_eq_false_iff_not]
      intro hh
      have := hh.1 i hq
      omega
    · have hw := wrapN (i := i) (by omega)
      simp [h0, h3, hw]
      refine ⟨m - 1, by omega, i + 1, by omega, rfl, fun j hj => ?_⟩
      rcases Nat.lt_or_ge j i with h | h
      · exact hI j h
      · have : j = i := by omega
        subst this
        exact hq2
  · have : i = k.size := by omega
    subst this
    simp [h0]
    simp only [keyOk, decide_eq_decide]
    exact ⟨fun h => ⟨hI, by omega⟩, fun h => by omega⟩

theorem l11Ahead_ok (a b : Ent) (H : Hp) : AC Try.prog E 59 [.ag (entRow a), .ag (entRow b)] H (fun v H' => v = .bool (ahead a b) ∧ H' = H) := by
  refine AC_byp (tC_le tab0_ok) h_spec_l11Ahead (by simp) ?_
  simp [c_spec_l11Ahead, entRow]
  refine g_split (fun hq => ?_) (fun hq => ?_) (by simp) <;> simp [hq, ahead]
  refine g_split (fun hq2 => ?_) (fun hq2 => ?_) (by simp) <;> simp at hq2 <;> simp [hq, hq2]

def tab1 (f : Nat) (args : List AV) : Option AV :=
  match f, args with
  | 29, [.int .i64 n, .int .i64 l, .int .i64 h] => some (.bool (decide (l ≤ n ∧ n ≤ h)))
  | 70, [.str k] => if k.size < 4611686018427387904 then some (.bool (keyOk k)) else none
  | _, _ => none
theorem tab1_ok : TabOK tab1 Try.prog E := by
  intro f args r H h
  unfold tab1 at h
  split at h
  · cases h
    exact l6In_ok _ _ _ _
  · split at h
    · cases h
      exact KeyOk_ok _ _ (by assumption)
    · cases h
  · cases h
@[simp] theorem tab1_in (C : CallP) (n l h : Int) (d : Option Nat) (ag) (p : Plan) (t : Tm) (H : Hp) (K : Tm → Hp → Prop) : callG (tC tab1 C) 29 [.int .i64 n, .int .i64 l, .int .i64 h] d ag p t H K =
  (againG ag (updO t d (.bool (decide (l ≤ n ∧ n ≤ h)))) H ∧ RgP (tC tab1 C) p (updO t d (.bool (decide (l ≤ n ∧ n ≤ h)))) H K) := rfl
theorem tab1_key (C : CallP) (k : ByteArray) (hk : k.size < 4611686018427387904) (d : Option Nat) (ag) (p : Plan) (t : Tm) (H : Hp) (K : Tm → Hp → Prop) : callG (tC tab1 C) 70 [.str k] d ag p t H K =
  (againG ag (updO t d (.bool (keyOk k))) H ∧ RgP (tC tab1 C) p (updO t d (.bool (keyOk k))) H K) := callG_tab (if_pos hk)

theorem l11Ok_ok (e : Ent) (H : Hp) (hk : e.key.size < 4611686018427387904) : AC Try.prog E 60 [.ag (entRow e)] H (fun v H' => v = .bool (entOk e) ∧ H' = H) := by
  refine AC_byp (tC_le tab1_ok) h_spec_l11Ok (by simp) ?_
  simp [c_spec_l11Ok, entRow, tab1_key _ _ hk]
  refine g_split (fun h1 => ?_) (fun h1 => ?_) (by simp) <;> simp [h1, entOk]
  refine g_split (fun h2 => ?_) (fun h2 => ?_) (by simp) <;> simp at h2 <;> simp [h2]
  · refine g_split (fun h3 => ?_) (fun h3 => ?_) (by simp) <;> simp at h3 <;> simp [h3]
    refine g_split (fun h4 => ?_) (fun h4 => ?_) (by simp) <;> simp at h4 <;> simp [h4]
  · intro a b
    have := h2 a
    omega

def tab2 (f : Nat) (args : List AV) : Option AV :=
  match f, args with
  | 29, [.int .i64 n, .int .i64 l, .int .i64 h] => some (.bool (decide (l ≤ n ∧ n ≤ h)))
  | 70, [.str k] => if k.size < 4611686018427387904 then some (.bool (keyOk k)) else none
  | 59, [.ag [.str a1, .int .i64 a2, .bool a3, .int .i64 a4], .ag [.str b1, .int .i64 b2, .bool b3, .int .i64 b4]] => some (.bool (ahead ⟨a1, a2, a3, a4⟩ ⟨b1, b2, b3, b4⟩))
  | 60, [.ag [.str a1, .int .i64 a2, .bool a3, .int .i64 a4]] => if a1.size < 4611686018427387904 then some (.bool (entOk ⟨a1, a2, a3, a4⟩)) else none
  | _, _ => none
theorem tab2_ok : TabOK tab2 Try.prog E := by
  intro f args r H h
  unfold tab2 at h
  split at h
  · cases h
    exact l6In_ok _ _ _ _
  · split at h
    · cases h
      exact KeyOk_ok _ _ (by assumption)
    · cases h
  · cases h
    exact l11Ahead_ok ⟨_, _, _, _⟩ ⟨_, _, _, _⟩ H
  · split at h
    · cases h
      exact l11Ok_ok ⟨_, _, _, _⟩ H (by assumption)
    · cases h
  · cases h
section
variable (C : CallP) (d : Option Nat) (ag : List (Option Nat × AOp × Option (Nat × Bool))) (p : Plan) (t : Tm) (H : Hp) (K : Tm → Hp → Prop)
@[simp] theorem tab2_in (n l h : Int) : callG (tC tab2 C) 29 [.int .i64 n, .int .i64 l, .int .i64 h] d ag p t H K =
  (againG ag (updO t d (.bool (decide (l ≤ n ∧ n ≤ h)))) H ∧ RgP (tC tab2 C) p (updO t d (.bool (decide (l ≤ n ∧ n ≤ h)))) H K) := rfl
theorem tab2_key (k : ByteArray) (hk : k.size < 4611686018427387904) : callG (tC tab2 C) 70 [.str k] d ag p t H K =
  (againG ag (updO t d (.bool (keyOk k))) H ∧ RgP (tC tab2 C) p (updO t d (.bool (keyOk k))) H K) := callG_tab (if_pos hk)
@[simp] theorem tab2_ahead (a1 b1 : ByteArray) (a2 b2 a4 b4 : Int) (a3 b3 : Bool) : callG (tC tab2 C) 59 [.ag [.str a1, .int .i64 a2, .bool a3, .int .i64 a4], .ag [.str b1, .int .i64 b2, .bool b3, .int .i64 b4]] d ag p t H K =
  (againG ag (updO t d (.bool (ahead ⟨a1, a2, a3, a4⟩ ⟨b1, b2, b3, b4⟩))) H ∧ RgP (tC tab2 C) p (updO t d (.bool (ahead ⟨a1, a2, a3, a4⟩ ⟨b1, b2, b3, b4⟩))) H K) := rfl
theorem tab2_ok1 (a1 : ByteArray) (a2 a4 : Int) (a3 : Bool) (hk : a1.size < 4611686018427387904) : callG (tC tab2 C) 60 [.ag [.str a1, .int .i64 a2, .bool a3, .int .i64 a4]] d ag p t H K =
  (againG ag (updO t d (.bool (entOk ⟨a1, a2, a3, a4⟩))) H ∧ RgP (tC tab2 C) p (updO t d (.bool (entOk ⟨a1, a2, a3, a4⟩))) H K) := callG_tab (if_pos hk)
end

theorem ent_eta (e : Ent) : (⟨e.key, e.val, e.gone, e.time⟩ : Ent) = e := rfl

theorem RunOk_ok (a : AV) (r : List Ent) (H : Hp) (ha : Ents H a r) (hs : Short r) (hn : r.length < 4611686018427387904) : AC Try.prog E 46 [a] H (fun v H' => v = .bool (runOk r) ∧ H' = H) := by
  refine AC_byp (tC_le tab2_ok) h_spec_RunOk (by simp) ?_
  have l1 := ha.len
  simp [c_spec_RunOk]
  refine W_for (fun m t H' => ∃ i : Nat, i + m = r.length ∧ t 0 = a ∧ t 3 = .int .i64 i ∧ (∀ j : Nat, ∀ h : j < r.length, j < i → entOk r[j] = true ∧ ∀ h0 : 0 < j, ahead r[j - 1] r[j] = true) ∧ H' = H) r.length ?_ (tC_mono AC_mono) ?_
  · exact ⟨0, by simp⟩
  rintro m t H' ⟨i, him, h0, h3, hI, rfl⟩
  simp [h0, h3, l1, ha.slc]
  refine c_split (fun hq => ?_) (fun hq => ?_) <;> simp at hq
  · have hw := wrapN (i := i) (by omega)
    obtain ⟨o1, i1, ob1, rfl, a1, a2, a3⟩ := ha.get hq
    have no : (entOk r[i] = true ∧ ∀ h0 : 0 < i, ahead r[i - 1] r[i] = true) ∨ runOk r = false := by
      rcases Classical.em (entOk r[i] = true ∧ ∀ h0 : 0 < i, ahead r[i - 1] r[i] = true) with h | h
      · exact .inl h
      · refine .inr ?_
        simp only [runOk, decide_eq_false_iff_not]
        exact fun hh => h (hh.1 i hq)
    have yes : (entOk r[i] = true ∧ ∀ h0 : 0 < i, ahead r[i - 1] r[i] = true) → ∀ j : Nat, ∀ h : j < r.length, j < i + 1 → entOk r[j] = true ∧ ∀ h0 : 0 < j, ahead r[j - 1] r[j] = true := by
      intro hi j hj hji
      rcases Nat.lt_or_ge j i with h | h
      · exact hI j hj h
      · have : j = i := by omega
        subst this
        exact hi
    cases he : entOk r[i] with
    | false =>
      simp [h0, h3, hq, a1, a2, a3, tab2_ok1 _ _ _ _ _ _ _ _ _ _ _ (hs.get hq), ent_eta, he]
      exact no.resolve_left (fun h => by rw [he] at h; cases h.1)
    | true =>
      rcases Nat.eq_zero_or_pos i with rfl | hp
      · rw [Nat.add_zero] at a3
        simp [h0, h3, hq, a1, a2, a3, tab2_ok1 _ _ _ _ _ _ _ _ _ _ _ (hs.get hq), ent_eta, he]
        exact ⟨m - 1, by omega, 1, by omega, rfl, fun j hj hj1 => yes ⟨he, fun h => by omega⟩ j hj (by omega)⟩
      · have hw2 : IntKind.i64.wrap ((i : Int) - 1) = ((i - 1 : Nat) : Int) := by rw [wrap64 (by omega) (by omega)]; omega
        have hlt : i - 1 < r.length := by omega
        obtain ⟨o2, i2, ob2, e2, b1, b2, b3⟩ := ha.get hlt
        cases e2
        rw [a1] at b1
        cases b1
        cases hb : ahead r[i - 1] r[i] with
        | false =>
          simp [h0, h3, hq, hp, hlt, hw2, a1, a2, a3, b3, tab2_ok1 _ _ _ _ _ _ _ _ _ _ _ (hs.get hq), ent_eta, he, hb]
          exact no.resolve_left (fun h => by rw [h.2 hp] at hb; cases hb)
        | true =>
          simp [h0, h3, hq, hp, hlt, hw, hw2, a1, a2, a3, b3, tab2_ok1 _ _ _ _ _ _ _ _ _ _ _ (hs.get hq), ent_eta, he, hb]
          exact ⟨m - 1, by omega, i + 1, by omega, rfl, yes ⟨he, fun _ => hb⟩⟩
  · have : i = r.length := by omega
    subst this
    simp [h0, l1, ha.slc]
    simp only [runOk, decide_eq_decide]
    exact ⟨fun h => ⟨fun j hj => hI j hj hj, by omega⟩, fun h => by omega⟩

end Go.Proofs.Ytkdnijiipegabaa.B

namespace Go.Proofs.Ytkdnijiipegabaa.B
open Go.RowKit Go.Proofs
set_option linter.unusedVariables false
set_option linter.unusedSimpArgs false
variable {E : Env}

/-- Strings that are one's own, made since. -/
abbrev OwnS := OwnM (α := ByteArray) 1 9 strRow
theorem strRow_map (xs : List ByteArray) : xs.map strRow = xs.map fun s => [.str s] := rfl
theorem OwnS.strs {H0 H : Hp} {v : AV} {xs : List ByteArray} (h : OwnS H0 H v xs) : Strs H v xs := h.1.rows
theorem OwnM.strs {ety : Nat} {H0 H : Hp} {v : AV} {xs : List ByteArray} (h : OwnM 1 ety strRow H0 H v xs) : Strs H v xs := h.1.rows
theorem OwnM.ents {ety : Nat} {H0 H : Hp} {v : AV} {xs : List Ent} (h : OwnM 4 ety entRow H0 H v xs) : Ents H v xs := h.1.rows
theorem Strs.at {H : Hp} {o n e : Nat} {ro : Bool} {xs : List ByteArray} (h : H.at o = some ⟨xs.map strRow, 1, e, ro⟩) (hn : n = xs.length) : Strs H (.sl o 0 n) xs := by
  subst hn
  have := Rows.whole h
  simp only [List.length_map] at this
  exact this

theorem l2Put_ok (a : AV) (k : ByteArray) (ks : List ByteArray) (H : Hp) (ha : Strs H a ks) (hn : ks.length < 1099511627776) :
    AC Try.prog E 57 [a, .str k] H (fun v H' => HLe H H' ∧ ((v = a ∧ putK k ks = ks) ∨ OwnS H H' v (putK k ks))) := by
  refine AC_by fol (tC_le tab2_ok) h_spec_l2Put ?_
  have l1 := ha.len
  simp [c_spec_l2Put]
  refine W_for (fun m t H' => ∃ i v, i + m = ks.length ∧ t 0 = a ∧ t 1 = .str k ∧ t 5 = v ∧ t 6 = .bool (putD k (ks.take i)) ∧ t 7 = .int .i64 (i : Nat) ∧ k ∉ ks.take i ∧ HLe H H' ∧ OwnS H H' v (putP k (ks.take i))) ks.length ?_ (tC_mono AC_mono) ?_
  · refine ⟨0, _, by simp, by simp, by simp, rfl, by simp [putD], by simp, by simp, HLe.self _ _, Own.obj (by simp [putP, putD]) (by simp [putP, putD]), by simp⟩
  rintro m t H' ⟨i, v, him, h0, h1, h5, h6, h7, hI, hle, how, hab⟩
  simp [h0, h1, h5, h6, h7, l1, ha.slc]
  refine c_split (fun hq => ?_) (fun hq => ?_) <;> simp at hq
  · have hw := wrapN (i := i) (by omega)
    obtain ⟨o1, i1, ob1, rfl, aH, a2, a3⟩ := ha.get hq
    have a1 := hle.2 _ _ aH
    simp [h0, h1, h5, h6, h7, hq, a1, a2, a3]
    refine c_split (fun hq2 => ?_) (fun hq2 => ?_) <;> simp at hq2
    · simp [hle, h0]
      exact .inl (putK_in (hq2 ▸ List.getElem_mem hq))
    · have htk : ks.take (i + 1) = ks.take i ++ [ks[i]] := List.take_succ_eq_append_getElem hq
      have hI2 : k ∉ ks.take (i + 1) := by
        rw [htk, List.mem_append, List.mem_singleton]
        exact fun h => h.elim hI (fun e => hq2 e.symm)
      have hlen := putP_len k (ks.take i)
      rw [List.length_take] at hlen
      have hpa := putP_app k ks[i] (ks.take i)
      have hda := putD_app k ks[i] (ks.take i)
      rw [← htk] at hpa hda
      have add : ∀ {y : ByteArray} {v2 v3 : AV} {H2 H3 : Hp} {xs : List ByteArray}, OwnS H H2 v2 xs → HLe H H2 → Own 1 9 H3 v3 (xs.map strRow ++ [[.str y]]) → Fr v2.of H2 H3 → (∀ o, v3.of o → v2.of o ∨ H2.length ≤ o) → HLe H H3 ∧ OwnS H H3 v3 (xs ++ [y]) := by
        intro y v2 v3 H2 H3 xs g1 g2 g3 g4 g5
        exact ⟨g2.fr_le g4 g1.2, by simpa [strRow] using g3, fun o ho => (g5 o ho).elim (g1.2 o) (fun h => Nat.le_trans g2.1 h)⟩
      have put : putD k (ks.take i) = true ∨ sless k ks[i] = false → putP k (ks.take (i + 1)) = putP k (ks.take i) ++ [ks[i]] := by
        intro h
        rw [hpa]
        rcases h with h | h <;> simp [h]
      have fin : ∀ (v2 : AV) (H2 : Hp), HLe H H2 → OwnS H H2 v2 (putP k (ks.take (i + 1))) → ∃ k', k' < m ∧ ∃ i_1 : Nat, i_1 + k' = ks.length ∧ putD k (ks.take (i + 1)) = putD k (ks.take i_1) ∧ ((i + 1 : Nat) : Int) = i_1 ∧ k ∉ ks.take i_1 ∧ HLe H H2 ∧ OwnS H H2 v2 (putP k (ks.take i_1)) :=
        fun v2 H2 g1 g2 => ⟨m - 1, by omega, i + 1, by omega, rfl, rfl, hI2, g1, g2⟩
      by_cases hc : putD k (ks.take i) = true ∨ sless k ks[i] = false
      · have hp := put hc
        have hd2 : putD k (ks.take i) = putD k (ks.take (i + 1)) := by
          rw [hda]
          rcases hc with h | h <;> simp [h]
        have app : ∀ (H2 : Hp), H2 = H' → True := fun _ _ => trivial
        rcases hd : putD k (ks.take i) with _ | _
        · have hx : sless k ks[i] = false := hc.resolve_left (by simp [hd])
          simp [h0, h1, h5, h6, h7, hq, hq2, a1, a2, a3, hd, hx]
          refine appG_one (R := (putP k (ks.take i)).map strRow) how (by simp; have := hlen; omega) (fun v2 H2 g1 g2 g3 => ?_)
          obtain ⟨e1, e2⟩ := add ⟨how, hab⟩ hle g1 g2 g3
          rw [← hp] at e2
          simp [h0, h1, h5, h6, h7, hw, hd]
          exact ⟨m - 1, by omega, i + 1, by omega, by rw [← hd2, hd], by omega, hI2, e1, e2⟩
        · simp [h0, h1, h5, h6, h7, hq, hq2, a1, a2, a3, hd]
          refine appG_one (R := (putP k (ks.take i)).map strRow) how (by simp; have := hlen; omega) (fun v2 H2 g1 g2 g3 => ?_)
          obtain ⟨e1, e2⟩ := add ⟨how, hab⟩ hle g1 g2 g3
          rw [← hp] at e2
          simp [h0, h1, h5, h6, h7, hw, hd]
          exact ⟨m - 1, by omega, i + 1, by omega, by rw [← hd2, hd], by omega, hI2, e1, e2⟩
      · have hd : putD k (ks.take i) = false := by
          cases h : putD k (ks.take i) with
          | false => rfl
          | true => exact (hc (.inl h)).elim
        have hx : sless k ks[i] = true := by
          cases h : sless k ks[i] with
          | false => exact (hc (.inr h)).elim
          | true => rfl
        simp [hd, hx] at hpa hda
        simp [h0, h1, h5, h6, h7, hq, hq2, a1, a2, a3, hd, hx]
        refine appG_one (R := (putP k (ks.take i)).map strRow) how (by simp; have := hlen; omega) (fun v2 H2 g1 g2 g3 => ?_)
        obtain ⟨e1, e2⟩ := add ⟨how, hab⟩ hle g1 g2 g3
        have a1' := e1.2 _ _ aH
        simp [h0, h1, h5, h6, h7, hw, hd, hq, a1', a2, a3]
        refine appG_one (R := (putP k (ks.take i) ++ [k]).map strRow) e2.1 (by simp; have := hlen; omega) (fun v3 H3 g1 g2 g3 => ?_)
        obtain ⟨f1, f2⟩ := add e2 e1 g1 g2 g3
        rw [List.append_assoc] at f2
        simp only [List.singleton_append] at f2
        rw [← hpa] at f2
        simp [h0, h1, h5, h6, h7, hw, hd]
        exact ⟨m - 1, by omega, i + 1, by omega, by rw [hda], by omega, hI2, f1, f2⟩
  · have : i = ks.length := by omega
    subst this
    rw [List.take_length] at h6 how hI
    have hlen := putP_len k ks
    cases hd : putD k ks with
    | true =>
      simp [h0, h1, h5, h6, h7, hd]
      refine ⟨hle, .inr ?_⟩
      rw [putK_out hI, hd]
      simp
      exact ⟨how, hab⟩
    | false =>
      simp [h0, h1, h5, h6, h7, hd]
      refine appG_one (R := (putP k ks).map strRow) how (by simp; omega) (fun v2 H2 g1 g2 g3 => ?_)
      simp
      refine ⟨hle.fr_le g2 hab, .inr ?_⟩
      rw [putK_out hI, hd]
      exact ⟨by simpa [strRow] using g1, fun o ho => (g3 o ho).elim (hab o) (fun h => Nat.le_trans hle.1 h)⟩

/-- How far a join has come. -/
def joinS (xs ys : List Ent) : Nat → Nat × List Ent
  | 0 => (0, [])
  | k + 1 =>
    let s := joinS xs ys k
    match ys[k]? with
    | some b => (s.1 + ((xs.drop s.1).takeWhile (fun a => ahead a b)).length, s.2 ++ (xs.drop s.1).takeWhile (fun a => ahead a b) ++ [b])
    | none => s
theorem joinS_le (xs ys : List Ent) : ∀ k, (joinS xs ys k).1 ≤ xs.length ∧ (joinS xs ys k).2.length = (joinS xs ys k).1 + min k ys.length
  | 0 => by simp [joinS]
  | k + 1 => by
    obtain ⟨h1, h2⟩ := joinS_le xs ys k
    simp only [joinS]
    split
    · rename_i b hb
      have hk : k < ys.length := (List.getElem?_eq_some_iff.1 hb).1
      have h3 : ((xs.drop (joinS xs ys k).1).takeWhile (fun a => ahead a b)).length ≤ (xs.drop (joinS xs ys k).1).length := (List.takeWhile_sublist _).length_le
      simp only [List.length_drop] at h3
      simp only [List.length_append, List.length_singleton, h2]
      omega
    · rename_i hb
      have hk : ys.length ≤ k := List.getElem?_eq_none_iff.1 hb
      omega
theorem joinS_eq : ∀ (ys xs : List Ent), (joinS xs ys ys.length).2 ++ xs.drop (joinS xs ys ys.length).1 = joinL xs ys := by
  have key : ∀ (ys xs : List Ent) (c : List Ent) (n : Nat), True := fun _ _ _ _ => trivial
  have gen : ∀ (k : Nat) (ys xs : List Ent), k ≤ ys.length → (joinS xs ys k).2 ++ joinL (xs.drop (joinS xs ys k).1) (ys.drop k) = joinL xs ys := by
    intro k
    induction k with
    | zero => intro ys xs _; simp [joinS]
    | succ k ih =>
      intro ys xs hk
      have h0 := ih ys xs (by omega)
      have hb : ys[k]? = some ys[k] := List.getElem?_eq_getElem (by omega)
      rw [List.drop_eq_getElem_cons (show k < ys.length by omega)] at h0
      simp only [joinL] at h0
      simp only [joinS, hb]
      rw [← h0]
      simp only [List.append_assoc, List.singleton_append]
      congr 2
      rw [← List.drop_drop]
      have e : ∀ (l : List Ent) (p : Ent → Bool), l.drop (l.takeWhile p).length = l.dropWhile p := by
        intro l p
        calc l.drop (l.takeWhile p).length = (l.takeWhile p ++ l.dropWhile p).drop (l.takeWhile p).length := by rw [List.takeWhile_append_dropWhile]
          _ = l.dropWhile p := List.drop_left
      rw [e]
  intro ys xs
  have := gen ys.length ys xs (Nat.le_refl _)
  simpa [joinL] using this
theorem joinL_len (xs ys : List Ent) : (joinL xs ys).length = xs.length + ys.length := by
  rw [← joinS_eq]
  obtain ⟨h1, h2⟩ := joinS_le xs ys ys.length
  simp [h2]
  omega

abbrev OwnE := OwnM (α := Ent) 4 72 entRow
theorem twl_step {xs : List Ent} {p : Ent → Bool} {j : Nat} (hj : j < xs.length) (hall : ∀ e ∈ xs.take j, p e = true) (hp : p xs[j] = true) : ∀ e ∈ xs.take (j + 1), p e = true := by
  rw [List.take_succ_eq_append_getElem hj]
  intro e he
  rcases List.mem_append.1 he with h | h
  · exact hall e h
  · rw [List.mem_singleton.1 h]; exact hp
theorem twl_end {xs : List Ent} {p : Ent → Bool} {j : Nat} (hall : ∀ e ∈ xs.take j, p e = true) (hp : ∀ h : j < xs.length, p xs[j] = false) : xs.takeWhile p = xs.take j := by
  have h1 : ∀ (l m : List Ent), (∀ e ∈ l, p e = true) → (l ++ m).takeWhile p = l ++ m.takeWhile p := by
    intro l m hl
    induction l with
    | nil => rfl
    | cons x l ih =>
      rw [List.cons_append, List.takeWhile_cons, hl x (by simp), ih (fun e he => hl e (List.mem_cons_of_mem _ he))]
      rfl
  conv => lhs; rw [← List.take_append_drop j xs]
  rw [h1 _ _ hall]
  rcases Nat.lt_or_ge j xs.length with hj | hj
  · rw [List.drop_eq_getElem_cons hj, List.takeWhile_cons, hp hj]
    simp
  · rw [List.drop_of_length_le hj]
    simp

theorem l11Join_ok (a b : AV) (xs ys : List Ent) (H : Hp) (ha : Ents H a xs) (hb : Ents H b ys) (hn : xs.length + ys.length < 1099511627776) :
    AC Try.prog E 45 [a, b] H (fun v H' => HLe H H' ∧ OwnE H H' v (joinL xs ys)) := by
  refine AC_by fol (tC_le tab2_ok) h_spec_l11Join ?_
  have l1 := ha.len
  have l2 := hb.len
  simp [c_spec_l11Join]
  refine W_for (fun m t H' => ∃ k v, k + m = ys.length ∧ t 0 = a ∧ t 1 = b ∧ t 5 = v ∧ t 6 = .int .i64 ((joinS xs ys k).1 : Nat) ∧ t 7 = .int .i64 (k : Nat) ∧ HLe H H' ∧ OwnE H H' v (joinS xs ys k).2) ys.length ?_ (tC_mono AC_mono) ?_
  · exact ⟨0, _, by simp, by simp, by simp, rfl, by simp [joinS], by simp, HLe.self _ _, OwnM.lit0 (HLe.refl _)⟩
  rintro m t H' ⟨k, v, hkm, h0, h1, h5, h6, h7, hle, hv⟩
  simp [h0, h1, h5, h6, h7, l2, hb.slc]
  obtain ⟨hj1, hj2⟩ := joinS_le xs ys k
  refine c_split (fun hq => ?_) (fun hq => ?_) <;> simp at hq
  · have hw := wrapN (i := k) (by omega)
    obtain ⟨o2, i2, ob2, rfl, bH, b2, b3⟩ := hb.get hq
    have hbk : ys[k]? = some ys[k] := List.getElem?_eq_getElem hq
    have hmin : min k ys.length = k := by omega
    rw [hmin] at hj2
    refine W_for (fun m2 t H' => ∃ (j : Nat) (v : AV), j + m2 = xs.length ∧ (joinS xs ys k).1 ≤ j ∧ t 0 = a ∧ t 1 = .sl o2 i2 ys.length ∧ t 5 = v ∧ t 6 = .int .i64 j ∧ t 7 = .int .i64 (k : Nat) ∧ HLe H H' ∧
      (∀ e ∈ (xs.drop (joinS xs ys k).1).take (j - (joinS xs ys k).1), ahead e ys[k] = true) ∧ OwnE H H' v ((joinS xs ys k).2 ++ (xs.drop (joinS xs ys k).1).take (j - (joinS xs ys k).1))) (xs.length - (joinS xs ys k).1) ?_ (tC_mono AC_mono) ?_
    · exact ⟨(joinS xs ys k).1, v, by omega, Nat.le_refl _, h0, h1, h5, h6, h7, hle, by simp, by simpa using hv⟩
    rintro m2 t H2 ⟨j, v, hjm, hjk, h0, h1, h5, h6, h7, hle2, hall, hv⟩
    have b1 := hle2.2 _ _ bH
    simp [h0, h1, h5, h6, h7, l1, ha.slc]
    have hend : (∀ h : j < xs.length, ahead xs[j] ys[k] = false) → (joinS xs ys (k + 1)).1 = j ∧ (joinS xs ys (k + 1)).2 = (joinS xs ys k).2 ++ (xs.drop (joinS xs ys k).1).take (j - (joinS xs ys k).1) ++ [ys[k]] := by
      intro hp
      have := twl_end (xs := xs.drop (joinS xs ys k).1) (p := fun a => ahead a ys[k]) (j := j - (joinS xs ys k).1) hall (fun h => by
        simp only [List.length_drop] at h
        simp only [List.getElem_drop]
        have e : (joinS xs ys k).1 + (j - (joinS xs ys k).1) = j := by omega
        simp only [e]
        exact hp (by omega))
      simp only [joinS, hbk, this]
      refine ⟨?_, trivial⟩
      simp
      omega
    have hadd : ∀ h : j < xs.length, (xs.drop (joinS xs ys k).1).take (j + 1 - (joinS xs ys k).1) = (xs.drop (joinS xs ys k).1).take (j - (joinS xs ys k).1) ++ [xs[j]] := by
      intro h
      rw [show j + 1 - (joinS xs ys k).1 = (j - (joinS xs ys k).1) + 1 by omega, List.take_succ_eq_append_getElem (by simp; omega)]
      simp only [List.getElem_drop]
      have e : (joinS xs ys k).1 + (j - (joinS xs ys k).1) = j := by omega
      simp only [e]
    have leave : (∀ h : j < xs.length, ahead xs[j] ys[k] = false) → True := fun _ => trivial
    refine g_split (fun hq2 => ?_) (fun hq2 => ?_) (by simp) <;> simp at hq2
    · obtain ⟨o1, i1, ob1, rfl, aH, a2, a3⟩ := ha.get hq2
      have a1 := hle2.2 _ _ aH
      have hw2 := wrapN (i := j) (by omega)
      cases hah : ahead xs[j] ys[k] with
      | false =>
        simp [h0, h1, h5, h6, h7, hq, hq2, a1, a2, a3, b1, b2, b3, ent_eta, hah]
        refine appG_add hv hle2 (by simp; omega) (show _ = entRow ys[k] from rfl) (fun v3 H3 g1 g2 g3 g4 => ?_)
        simp [h0, h1, h5, h6, h7, hw]
        obtain ⟨e1, e2⟩ := hend (fun _ => hah)
        exact ⟨m - 1, by omega, k + 1, by omega, by rw [e1], by omega, g1, by rw [e2]; exact g2⟩
      | true =>
        simp [h0, h1, h5, h6, h7, hq, hq2, a1, a2, a3, b1, b2, b3, ent_eta, hah]
        refine appG_add hv hle2 (by simp; omega) (show _ = entRow xs[j] from rfl) (fun v3 H3 g1 g2 g3 g4 => ?_)
        simp [h0, h1, h5, h6, h7, hw2]
        rw [List.append_assoc, ← hadd hq2] at g2
        refine ⟨m2 - 1, by omega, j + 1, by omega, by omega, by omega, g1, ?_, g2⟩
        rw [hadd hq2]
        intro e he
        rcases List.mem_append.1 he with h | h
        · exact hall e h
        · rw [List.mem_singleton.1 h]; exact hah
    · have hnl : ¬ j < xs.length := by omega
      simp [h0, h1, h5, h6, h7, hq, hnl, b1, b2, b3]
      refine appG_add hv hle2 (by simp; omega) (show _ = entRow ys[k] from rfl) (fun v3 H3 g1 g2 g3 g4 => ?_)
      simp [h0, h1, h5, h6, h7, hw]
      obtain ⟨e1, e2⟩ := hend (fun h => absurd h hnl)
      exact ⟨m - 1, by omega, k + 1, by omega, by rw [e1], by omega, g1, by rw [e2]; exact g2⟩
  · have : k = ys.length := by omega
    subst this
    simp [h0, h1, h5, h6, h7, l1, ha.slc]
    refine cutG_from (ha.le hle) _ rfl (by simpa using hj1) (fun u u1 u2 => ?_)
    rw [← List.map_drop] at u1
    simp [h5]
    refine appG_cat hv u1 hle (by simp [hj2]; omega) (fun v3 H3 g1 g2 g3 g4 => ?_)
    rw [joinS_eq] at g2
    simp
    exact ⟨g1, g2⟩

theorem sumStep (n : Int) (h : 0 ≤ n ∧ n < 9973) (b : Int) (hb : 0 ≤ b ∧ b < 256) : IntKind.i64.wrap (IntKind.i64.wrap (IntKind.i64.wrap (n * 31) + b) + 1) = n * 31 + b + 1 := by
  rw [wrap64 (n := n * 31) (by omega) (by omega), wrap64 (n := n * 31 + b) (by omega) (by omega), wrap64 (by omega) (by omega)]

/-- The sum of the first bytes. -/
def sumTo (s : ByteArray) : Nat → Int
  | 0 => 7
  | i + 1 => (sumTo s i * 31 + bt s i + 1) % 9973
theorem sumTo_bound (s : ByteArray) : ∀ i, 0 ≤ sumTo s i ∧ sumTo s i < 9973
  | 0 => by simp [sumTo]
  | i + 1 => by simp only [sumTo]; omega
theorem bt_at {s : ByteArray} {i : Nat} (h : i < s.data.toList.length) : bt s i = (s.data.toList[i]).toNat := by
  have h2 : i < s.data.size := by simpa using h
  have e : s[i]? = some s.data[i] := by
    rw [getElem?_pos s i h2]
    rfl
  simp only [bt, Int.toNat_natCast, e, Option.map_some, Option.getD_some]
  simp
theorem sumTo_eq (s : ByteArray) : sumTo s s.size = sumB s := by
  have key : ∀ i, i ≤ s.data.toList.length → sumTo s i = (s.data.toList.take i).foldl (fun n b => (n * 31 + (b.toNat : Int) + 1) % 9973) 7 := by
    intro i
    induction i with
    | zero => intro _; simp [sumTo]
    | succ i ih =>
      intro hi
      rw [List.take_succ_eq_append_getElem (by omega), List.foldl_append]
      simp only [List.foldl_cons, List.foldl_nil, sumTo]
      rw [ih (by omega), bt_at (by omega)]
  have hl : s.data.toList.length = s.size := Array.length_toList
  have := key s.size (by omega)
  rw [this, List.take_of_length_le (by omega)]
  rfl
theorem sumB_bound (s : ByteArray) : 0 ≤ sumB s ∧ sumB s < 9973 := by
  rw [← sumTo_eq]
  exact sumTo_bound s _

theorem specSum_ok (s : ByteArray) (H : Hp) (hk : s.size < 4611686018427387904) : AC Try.prog E 9 [.str s] H (fun v H' => v = .int .i64 (sumB s) ∧ H' = H) := by
  refine AC_byp (tC_le tab2_ok) h_spec_BlockSum (by simp) ?_
  simp [c_spec_BlockSum]
  refine W_for (fun m t H' => ∃ i : Nat, i + m = s.size ∧ t 0 = .str s ∧ t 3 = .int .i64 (sumTo s i) ∧ t 4 = .int .i64 i ∧ H' = H) s.size ?_ (tC_mono AC_mono) ?_
  · exact ⟨0, by simp [sumTo]⟩
  rintro m t H' ⟨i, him, h0, h3, h4, rfl⟩
  simp [h0, h3, h4]
  refine c_split (fun hq => ?_) (fun hq => ?_) <;> simp at hq
  · have hw := wrapN (i := i) (by omega)
    have hs := sumStep _ (sumTo_bound s i) _ (u8_le s i)
    have hb := sumTo_bound s i
    have hu := u8_le s i
    have ht : (sumTo s i * 31 + bt s i + 1).tmod 9973 = (sumTo s i * 31 + bt s i + 1) % 9973 := Int.tmod_eq_emod_of_nonneg (by omega)
    simp [h0, h3, h4, hq, wrap_bt, hs, ht, hw]
    exact ⟨m - 1, by omega, i + 1, by omega, rfl, rfl⟩
  · have : i = s.size := by omega
    subst this
    simp [h3, sumTo_eq]
theorem implSum_ok (s : ByteArray) (H : Hp) (hk : s.size < 4611686018427387904) : AC Try.prog E 10 [.str s] H (fun v H' => v = .int .i64 (sumB s) ∧ H' = H) := by
  refine AC_byp (tC_le tab2_ok) h_impl_BlockSum (by simp) ?_
  simp [c_impl_BlockSum]
  refine W_for (fun m t H' => ∃ i : Nat, i + m = s.size ∧ t 0 = .str s ∧ t 3 = .int .i64 (sumTo s i) ∧ t 6 = .int .i64 s.size ∧ t 7 = .int .i64 i ∧ H' = H) s.size ?_ (tC_mono AC_mono) ?_
  · exact ⟨0, by simp [sumTo]⟩
  rintro m t H' ⟨i, him, h0, h3, h6, h7, rfl⟩
  simp [h0, h3, h6, h7]
  refine c_split (fun hq => ?_) (fun hq => ?_) <;> simp at hq
  · have hw := wrapN (i := i) (by omega)
    have hs := sumStep _ (sumTo_bound s i) _ (u8_le s i)
    rw [Int.mul_comm] at hs
    have hb := sumTo_bound s i
    have hu := u8_le s i
    have ht : (31 * sumTo s i + bt s i + 1).tmod 9973 = (sumTo s i * 31 + bt s i + 1) % 9973 := by
      rw [Int.mul_comm]
      exact Int.tmod_eq_emod_of_nonneg (by omega)
    simp [h0, h3, h6, h7, hq, wrap_bt, hs, ht, hw]
    exact ⟨m - 1, by omega, i + 1, by omega, rfl, rfl⟩
  · have : i = s.size := by omega
    subst this
    simp [h3, sumTo_eq]

theorem dec_lt {n : Int} (h : n < 0) : dec n = lit1 45 ++ dec (-n) := by
  simp only [dec, Lib.itoa, if_pos h, if_neg (show ¬ -n < 0 by omega)]
  have : (-n).toNat = n.natAbs := by omega
  rw [this]
  rfl
theorem dec_small {n : Int} (h0 : 0 ≤ n) (h : n < 10) : dec n = lit1 (UInt8.ofNat (48 + n.toNat)) := by
  simp only [dec, Lib.itoa, if_neg (show ¬ n < 0 by omega)]
  rw [Lib.decDigits, dif_pos (by omega)]
  rfl
theorem dec_big {n : Int} (h0 : 10 ≤ n) : dec n = dec (n / 10) ++ lit1 (UInt8.ofNat (48 + (n % 10).toNat)) := by
  simp only [dec, Lib.itoa, if_neg (show ¬ n < 0 by omega), if_neg (show ¬ n / 10 < 0 by omega)]
  rw [Lib.decDigits, dif_neg (by omega)]
  have e1 : n.toNat / 10 = (n / 10).toNat := by omega
  have e2 : n.toNat % 10 = (n % 10).toNat := by omega
  rw [e1, e2]
  have : ∀ (a b : List UInt8), (⟨(a ++ b).toArray⟩ : ByteArray) = ⟨a.toArray⟩ ++ ⟨b.toArray⟩ := by
    intro a b
    apply ByteArray.ext
    simp
  exact this _ _
theorem dec_size (n : Int) (h : -9223372036854775808 ≤ n ∧ n < 9223372036854775808) : (dec n).size ≤ 20 := by
  have pos : ∀ (k : Nat) (n : Int), 0 ≤ n → n < 10 ^ (k + 1) → (dec n).size ≤ k + 1 := by
    intro k
    induction k with
    | zero =>
      intro n h0 h1
      rw [dec_small h0 (by simpa using h1)]
      exact Nat.le_refl _
    | succ k ih =>
      intro n h0 h1
      by_cases h : n < 10
      · rw [dec_small h0 h]
        show 1 ≤ _
        omega
      · rw [dec_big (by omega), ByteArray.size_append]
        have := ih (n / 10) (by omega) (by
          rw [Int.pow_succ] at h1
          omega)
        have e : (lit1 (UInt8.ofNat (48 + (n % 10).toNat))).size = 1 := rfl
        omega
  by_cases h0 : n < 0
  · rw [dec_lt h0, ByteArray.size_append]
    have := pos 18 (-n) (by omega) (by omega)
    have e : (lit1 45).size = 1 := rfl
    omega
  · have := pos 18 n (by omega) (by omega)
    omega

theorem strOf1 (n : Int) (h0 : 0 ≤ n) (h1 : n < 10) : strOf [IntKind.u8.wrap (IntKind.i64.wrap (48 + n))] = lit1 (UInt8.ofNat (48 + n.toNat)) := by
  have e : IntKind.u8.wrap (IntKind.i64.wrap (48 + n)) = 48 + n := by
    rw [wrap64 (by omega) (by omega), IntKind.wrap_u8]
    omega
  rw [e]
  have : (48 + n).toNat = 48 + n.toNat := by omega
  simp only [strOf, List.foldl_cons, List.foldl_nil, this]
  rfl

theorem l6Dec_pos : ∀ (k : Nat) (n : Int) (H : Hp), n.toNat < k → 0 ≤ n ∧ n < 9223372036854775808 → AC Try.prog E 56 [.int .i64 n] H (fun v H' => v = .str (dec n) ∧ H' = H) := by
  intro k
  induction k with
  | zero => intro n H h; omega
  | succ k ih =>
    intro n H hk hn
    refine AC_byp (tC_le tab2_ok) h_spec_l6Dec (by simp) ?_
    have a1 : ¬ n < -9223372036854775807 := by omega
    have a2 : ¬ n < 0 := by omega
    simp [c_spec_l6Dec, a1, a2]
    refine c_split (fun hq3 => ?_) (fun hq3 => ?_) <;> simp at hq3 <;> simp
    · rw [strOf1 n hn.1 hq3]
      exact (dec_small hn.1 hq3).symm
    · have e1 : IntKind.i64.wrap (n.tdiv 10) = n / 10 := by
        rw [Int.tdiv_eq_ediv_of_nonneg hn.1]
        exact wrap64 (by omega) (by omega)
      have e2 : n.tmod 10 = n % 10 := Int.tmod_eq_emod_of_nonneg hn.1
      have e3 := strOf1 (n % 10) (by omega) (by omega)
      have e4 := dec_size (n / 10) (by omega)
      have e5 : (lit1 (UInt8.ofNat (48 + (n % 10).toNat))).size = 1 := rfl
      rw [e1, e2]
      refine ⟨cg_use (ih (n / 10) _ (by omega) (by omega)) ?_, cg_use (ih (n / 10) _ (by omega) (by omega)) ?_⟩
      · simp [e3, e5, -UInt8.ofNat_add]
        exact ⟨by omega, (dec_big hq3).symm⟩
      · simp [e3, e5, -UInt8.ofNat_add]
        exact ⟨by omega, (dec_big hq3).symm⟩
theorem l6Dec_ok (n : Int) (H : Hp) (hn : -9223372036854775808 ≤ n ∧ n < 9223372036854775808) : AC Try.prog E 56 [.int .i64 n] H (fun v H' => v = .str (dec n) ∧ H' = H) := by
  by_cases h0 : 0 ≤ n
  · exact l6Dec_pos (n.toNat + 1) n H (by omega) ⟨h0, hn.2⟩
  · refine AC_byp (tC_le tab2_ok) h_spec_l6Dec (by simp) ?_
    simp [c_spec_l6Dec]
    refine c_split (fun hq => ?_) (fun hq => ?_) <;> simp at hq <;> simp
    · have : n = -9223372036854775808 := by omega
      subst this
      decide +kernel
    · have a2 : n < 0 := by omega
      have hw : IntKind.i64.wrap (-n) = -n := wrap64 (by omega) (by omega)
      have e4 := dec_size (-n) (by omega)
      simp [a2, hw]
      refine cg_use (l6Dec_pos ((-n).toNat + 1) (-n) _ (by omega) (by omega)) ?_
      have e5 : (⟨#[45]⟩ : ByteArray).size = 1 := rfl
      simp [e5]
      exact ⟨by omega, (dec_lt a2).symm⟩

/-- An entry that a machine can hold. -/
def I64 (n : Int) : Prop := -9223372036854775808 ≤ n ∧ n < 9223372036854775808
def Fit (e : Ent) : Prop := e.key.size < 4611686018427387904 ∧ I64 e.val ∧ I64 e.time
def Fits (es : List Ent) : Prop := ∀ e ∈ es, Fit e
theorem Fits.short {es : List Ent} (h : Fits es) : Short es := fun e he => (h e he).1
theorem entOk_fit {e : Ent} (h : entOk e = true) : Fit e ∧ e.key.size ≤ 5 := by
  simp only [entOk, keyOk, Bool.and_eq_true, decide_eq_true_eq] at h
  exact ⟨⟨by omega, ⟨by omega, by omega⟩, by omega, by omega⟩, h.1.1.1.2⟩
theorem runOk_fits {r : List Ent} (h : runOk r = true) : Fits r ∧ r.length ≤ 40 ∧ ∀ e ∈ r, e.key.size ≤ 5 := by
  simp only [runOk, decide_eq_true_eq] at h
  have key : ∀ e ∈ r, entOk e = true := by
    intro e he
    obtain ⟨i, hi, rfl⟩ := List.mem_iff_getElem.1 he
    exact (h.1 i hi).1
  exact ⟨fun e he => (entOk_fit (key e he)).1, h.2, fun e he => (entOk_fit (key e he)).2⟩
theorem entText_size {e : Ent} (h : Fit e) : (entText e).size ≤ e.key.size + 43 := by
  have h1 := dec_size e.val h.2.1
  have h2 := dec_size e.time h.2.2
  have e1 : ∀ c, (lit1 c).size = 1 := fun _ => rfl
  unfold entText
  split <;> simp only [ByteArray.size_append, e1] <;> omega

theorem l21Entry_ok (e : Ent) (H : Hp) (he : Fit e) : AC Try.prog E 42 [.ag (entRow e)] H (fun v H' => v = .str (entText e) ∧ H' = H) := by
  refine AC_byp (tC_le tab2_ok) h_spec_l21Entry (by simp) ?_
  have h1 := dec_size e.val he.2.1
  have h2 := dec_size e.time he.2.2
  have e1 : ∀ c : UInt8, (⟨#[c]⟩ : ByteArray).size = 1 := fun _ => rfl
  have h0 := he.1
  simp [c_spec_l21Entry, entRow, e1]
  refine c_split (fun hq => ?_) (fun hq => ?_) <;> simp [e1]
  · refine ⟨by omega, cg_use (l6Dec_ok e.time _ he.2.2) ?_⟩
    simp [e1]
    refine ⟨by omega, by omega, ?_⟩
    simp [entText, hq, lit1]
  · refine ⟨by omega, cg_use (l6Dec_ok e.val _ he.2.1) ?_⟩
    simp [e1]
    refine ⟨by omega, by omega, ?_⟩
    refine cg_use (l6Dec_ok e.time _ he.2.2) ?_
    simp [e1]
    refine ⟨by omega, by omega, ?_⟩
    simp [entText, hq, lit1]

theorem runText_take (r : List Ent) {i : Nat} (h : i < r.length) : runText (r.take (i + 1)) = runText (r.take i) ++ entText r[i] := by
  unfold runText
  rw [List.take_succ_eq_append_getElem h, List.foldl_append]
  rfl
theorem runText_size (r : List Ent) (h : ∀ e ∈ r, Fit e ∧ e.key.size ≤ 1000) : ∀ i, i ≤ r.length → (runText (r.take i)).size ≤ 1043 * i
  | 0, _ => by simp [runText]
  | i + 1, hi => by
    have := runText_size r h i (by omega)
    rw [runText_take r (by omega), ByteArray.size_append]
    have h1 := h r[i] (List.getElem_mem (by omega))
    have h2 := entText_size h1.1
    omega
theorem l21Run_ok (a : AV) (r : List Ent) (H : Hp) (ha : Ents H a r) (hr : ∀ e ∈ r, Fit e ∧ e.key.size ≤ 1000) (hn : r.length < 1099511627776) : AC Try.prog E 35 [a] H (fun v H' => v = .str (runText r) ∧ H' = H) := by
  refine AC_byp (tC_le tab2_ok) h_spec_l21Run (by simp) ?_
  have l1 := ha.len
  simp [c_spec_l21Run]
  refine W_for (fun m t H' => ∃ i : Nat, i + m = r.length ∧ t 0 = a ∧ t 3 = .str (runText (r.take i)) ∧ t 4 = .int .i64 i ∧ H' = H) r.length ?_ (tC_mono AC_mono) ?_
  · exact ⟨0, by simp, by simp, by simp; rfl, by simp, rfl⟩
  rintro m t H' ⟨i, him, h0, h3, h4, rfl⟩
  simp [h0, h3, h4, l1, ha.slc]
  refine c_split (fun hq => ?_) (fun hq => ?_) <;> simp at hq
  · have hw := wrapN (i := i) (by omega)
    obtain ⟨o1, i1, ob1, rfl, a1, a2, a3⟩ := ha.get hq
    have hf := hr r[i] (List.getElem_mem hq)
    have hs := runText_size r hr i (by omega)
    have hs2 := entText_size hf.1
    have ht := runText_take r hq
    simp [h0, h3, h4, hq, a1, a2, a3]
    refine cg_use (l21Entry_ok r[i] _ hf.1) ?_
    simp [h0, h3, h4, hw, ← ht]
    exact ⟨by omega, m - 1, by omega, i + 1, by omega, rfl, rfl⟩
  · have : i = r.length := by omega
    subst this
    simp [h3]

end Go.Proofs.Ytkdnijiipegabaa.B

namespace Go.Proofs.Ytkdnijiipegabaa.B
open Go.RowKit Go.Proofs
set_option linter.unusedVariables false
set_option linter.unusedSimpArgs false
variable {E : Env}

def byteRow (n : Int) : List AV := [.int .u8 n]
/-- A slice of bytes. -/
def Bytes (H : Hp) (v : AV) (bs : List Int) : Prop := Rows 1 H v (bs.map byteRow) ∧ ∀ n ∈ bs, 0 ≤ n ∧ n < 256
theorem Bytes.len {H : Hp} {v : AV} {bs : List Int} (h : Bytes H v bs) : lenV v = .int .i64 bs.length := by simpa using h.1.len
/-- A reader: it has read so many times at most. -/
def Rd (H : Hp) (o : Nat) (N : Nat) : Prop := ∃ b bs, ∃ p : Nat, H.at o = some ⟨[[b, .int .i64 p]], 2, 69, false⟩ ∧ Bytes H b bs ∧ bs.length ≤ 2000 ∧ p ≤ N
theorem Rd.mono {H : Hp} {o N M : Nat} (h : Rd H o N) (hM : N ≤ M) : Rd H o M := by
  obtain ⟨b, bs, p, h1, h2, h3, h4⟩ := h
  exact ⟨b, bs, p, h1, h2, h3, by omega⟩
theorem Rd.fr {S : Nat → Prop} {H H' : Hp} {o N : Nat} (h : Rd H o N) (hf : Fr S H H') (hs : ¬ S o) (hb : ∀ x ob, S x → H.at x = some ob → ob.esz ≠ 1) : Rd H' o N := by
  obtain ⟨b, bs, p, h1, h2, h3, h4⟩ := h
  refine ⟨b, bs, p, hf.2 _ _ hs h1, ⟨?_, h2.2⟩, h3, h4⟩
  rcases h2.1 with h | h | ⟨o', i, ob, rfl, a2, a3, a4⟩
  · exact .inl h
  · exact .inr (.inl h)
  · exact .inr (.inr ⟨o', i, ob, rfl, hf.2 _ _ (fun hh => hb o' ob hh a2 a3) a2, a3, a4⟩)
theorem Rd.le {H H' : Hp} {o N : Nat} (h : Rd H o N) (hle : HLe H H') : Rd H' o N := h.fr (hle.fr (S := fun _ => False)) (fun h => h) (fun _ _ h => h.elim)
theorem Rd.lt {H : Hp} {o N : Nat} (h : Rd H o N) : o < H.length := by
  obtain ⟨b, bs, p, h1, _⟩ := h
  exact Hp.at_lt h1
/-- What drawing does to memory. -/
abbrev Dr (o : Nat) (H H' : Hp) : Prop := Fr (fun x => x = o) H H'

theorem l6Open_ok (c : AV) (bs : List Int) (H : Hp) (hc : Bytes H c bs) (hn : bs.length < 4611686018427387904) :
    AC Try.prog E 34 [c] H (fun v H' => ∃ o, v = .pt o 0 0 ∧ H.length ≤ o ∧ HLe H H' ∧ Rd H' o 0) := by
  refine AC_by fol (tC_le tab2_ok) h_spec_l6Open ?_
  have l1 := hc.len
  simp [c_spec_l6Open, l1, hc.1.slc]
  have fin : ∀ (u : AV) (cs : List Int), Rows 1 H u (cs.map byteRow) → (∀ n ∈ cs, 0 ≤ n ∧ n < 256) → cs.length ≤ 2000 → Rd (H ++ [some ⟨[[u, .int .i64 0]], 2, 69, false⟩]) H.length 0 :=
    fun u cs h1 h2 h3 => ⟨u, cs, 0, by simp, ⟨h1.le (HLe.self _ _), h2⟩, h3, Nat.le_refl _⟩
  refine c_split (fun hq => ?_) (fun hq => ?_) <;> simp at hq
  · simp
    refine cutG_upto hc.1 2000 rfl (by simp; omega) (fun u u1 u2 _ => ?_)
    rw [← List.map_take] at u1
    simp [u1.cells, u1.cells1, u1.one]
    exact fin u _ u1 (fun n hn => hc.2 n (List.mem_of_mem_take hn)) (by simp; omega)
  · simp [hc.1.cells, hc.1.cells1, hc.1.one]
    exact fin c bs hc.1 hc.2 (by omega)

theorem xor_pos {x y : Int} (hx : 0 ≤ x ∧ x < 4611686018427387904) (hy : 0 ≤ y ∧ y < 4611686018427387904) : ∃ z : Int, binV .xor (.int .i64 x) (.int .i64 y) = .int .i64 z ∧ 0 ≤ z ∧ z < 9223372036854775808 := by
  have hlt : (BitVec.ofInt IntKind.i64.bits x ^^^ BitVec.ofInt IntKind.i64.bits y).toNat < 2 ^ 62 := by
    rw [BitVec.toNat_xor]
    have e : ∀ z : Int, 0 ≤ z ∧ z < 4611686018427387904 → (BitVec.ofInt IntKind.i64.bits z).toNat < 2 ^ 62 := by
      intro z hz
      rw [BitVec.toNat_ofInt]
      have : IntKind.i64.bits = 64 := rfl
      rw [this]
      omega
    exact Nat.xor_lt_two_pow (e x hx) (e y hy)
  refine ⟨_, rfl, ?_, ?_⟩
  · rw [wrap64 (by omega) (by omega)]
    omega
  · rw [wrap64 (by omega) (by omega)]
    omega

theorem pick_ok (o N : Nat) (n : Int) (H : Hp) (hr : Rd H o N) (hN : N < 1099511627776) (hn : n < 4611686018427387904) :
    AC Try.prog E 41 [.pt o 0 0, .int .i64 n] H (fun v H' => ∃ m : Nat, v = .int .i64 m ∧ ((m : Int) < n ∨ m = 0) ∧ Dr o H H' ∧ Rd H' o (N + 1) ∧ H'.length = H.length) := by
  obtain ⟨b, bs, p, hat, hb, hbl, hp⟩ := hr
  have hlt := Hp.at_lt hat
  have hw := wrapN (i := p) (by omega)
  have hw1 : IntKind.i64.wrap (((p + 1 : Nat) : Int) - 1) = p := by rw [wrap64 (by omega) (by omega)]; omega
  have l1 := hb.len
  have s1 := hb.1.slc
  have fin : ∀ x : Option Ob, x = some ⟨[[b, .int .i64 ((p + 1 : Nat) : Int)]], 2, 69, false⟩ → Dr o H (List.set H o x) ∧ Rd (List.set H o x) o (N + 1) ∧ (List.set H o x).length = H.length := by
    rintro x rfl
    refine ⟨(Fr.refl (fun x => x = o) H).set (.inl rfl) _, ⟨b, bs, p + 1, Hp.at_set _ hlt, ⟨?_, hb.2⟩, hbl, by omega⟩, by simp⟩
    rcases hb.1 with h | h | ⟨o', i, ob, rfl, a2, a3, a4⟩
    · exact .inl h
    · exact .inr (.inl h)
    · refine .inr (.inr ⟨o', i, ob, rfl, ?_, a3, a4⟩)
      rw [Hp.at_set_ne]
      · exact a2
      · rintro rfl
        rw [hat] at a2
        cases a2
        cases a3
  have f0 := fin _ rfl
  refine AC_by fol (tC_le tab2_ok) h_spec_l6Rd_pick ?_
  by_cases hn1 : n < 1
  · simp [c_spec_l6Rd_pick, hat, Hp.at_set _ hlt, hw, hn1]
    exact ⟨0, rfl, .inr rfl, by simpa using f0⟩
  · simp [c_spec_l6Rd_pick, hat, Hp.at_set _ hlt, hw, hn1, l1, s1]
    refine c_split (fun hq => ?_) (fun hq => ?_) <;> simp at hq
    · simp
      exact ⟨0, rfl, .inr rfl, by simpa using f0⟩
    · have hpos : 0 < bs.length := List.length_pos_iff.2 hq
      obtain ⟨o', i', ob, rfl, a2, a3, _⟩ := hb.1.get (j := 0) (by simpa using hpos)
      have row : ∀ j (h : j < bs.length), ob.rows[i' + j]? = some [.int .u8 bs[j]] := by
        intro j h
        obtain ⟨o2, i2, ob2, e1, e2, e3, e4⟩ := hb.1.get (j := j) (by simpa using h)
        cases e1
        rw [a2] at e2
        cases e2
        simpa [byteRow] using e4
      have hne : o ≠ o' := by
        rintro rfl
        rw [hat] at a2
        cases a2
        cases a3
      have hat' : ∀ x, Hp.at (List.set H o x) o' = some ob := fun x => by rw [Hp.at_set_ne hne]; exact a2
      simp at f0
      have hwp : IntKind.i64.wrap (p : Int) = p := wrap64 (by omega) (by omega)
      simp [hat, Hp.at_set _ hlt, hat', hwp, a3]
      refine c_split (fun hq2 => ?_) (fun hq2 => ?_) <;> simp at hq2
      · have hbd := hb.2 _ (List.getElem_mem hq2)
        have hwb : IntKind.i64.wrap bs[p] = bs[p] := wrap64 (by omega) (by omega)
        have hm : bs[p].tmod n = ((bs[p].tmod n).toNat : Int) := by
          have := Int.tmod_nonneg n hbd.1
          omega
        have hn0 : n ≠ 0 := by omega
        have hlt2 : bs[p].tmod n < n := Int.tmod_lt_of_pos _ (by omega)
        simp [hat, Hp.at_set _ hlt, hat', hq2, a3, row p hq2, hwb, hn0]
        exact ⟨(bs[p].tmod n).toNat, hm, .inl (by omega), f0⟩
      · have q1 : p % bs.length < bs.length := Nat.mod_lt _ hpos
        have q2 : (p * 7 + 3) % bs.length < bs.length := Nat.mod_lt _ hpos
        have m1 : (p : Int).tmod (bs.length : Int) = ((p % bs.length : Nat) : Int) := by
          rw [Int.tmod_eq_emod_of_nonneg (by omega)]
          exact (Int.natCast_emod _ _).symm
        have m2 : ((p : Int) * 7 + 3).tmod (bs.length : Int) = (((p * 7 + 3) % bs.length : Nat) : Int) := by
          rw [Int.tmod_eq_emod_of_nonneg (by omega), Int.natCast_emod]
          rfl
        have d1 : (p : Int).tdiv (bs.length : Int) = ((p / bs.length : Nat) : Int) := by
          rw [Int.tdiv_eq_ediv_of_nonneg (by omega)]
          exact (Int.natCast_ediv _ _).symm
        have d2 : p / bs.length ≤ p := Nat.div_le_self _ _
        have b1 := hb.2 _ (List.getElem_mem q1)
        have b2 := hb.2 _ (List.getElem_mem q2)
        have r1 := row _ q1
        have r2 := row _ q2
        generalize bs[p % bs.length] = A at b1 r1
        generalize bs[(p * 7 + 3) % bs.length] = B at b2 r2
        generalize p % bs.length = i1 at q1 m1 r1
        generalize (p * 7 + 3) % bs.length = i2 at q2 m2 r2
        generalize p / bs.length = qq at d1 d2
        have w1 : IntKind.i64.wrap A = A := wrap64 (by omega) (by omega)
        have w2 : IntKind.i64.wrap B = B := wrap64 (by omega) (by omega)
        have w3 : IntKind.i64.wrap (A * 131) = A * 131 := wrap64 (by omega) (by omega)
        have w4 : IntKind.i64.wrap (B * 1117) = B * 1117 := wrap64 (by omega) (by omega)
        have w5 : IntKind.i64.wrap (A * 131 + B * 1117) = A * 131 + B * 1117 := wrap64 (by omega) (by omega)
        have w6 : IntKind.i64.wrap ((p : Int) * 29) = p * 29 := wrap64 (by omega) (by omega)
        have w7 : IntKind.i64.wrap (A * 131 + B * 1117 + p * 29) = A * 131 + B * 1117 + p * 29 := wrap64 (by omega) (by omega)
        have w8 : IntKind.i64.wrap (qq : Int) = qq := wrap64 (by omega) (by omega)
        have w9 : IntKind.i64.wrap ((qq : Int) * 53) = qq * 53 := wrap64 (by omega) (by omega)
        obtain ⟨X, hXe⟩ : ∃ X : Int, X = A * 131 + B * 1117 + p * 29 + qq * 53 := ⟨_, rfl⟩
        have w10 : IntKind.i64.wrap (A * 131 + B * 1117 + p * 29 + qq * 53) = X := by rw [hXe]; exact wrap64 (by omega) (by omega)
        have w11 : IntKind.i64.wrap ((p : Int) * 7) = p * 7 := wrap64 (by omega) (by omega)
        have w12 : IntKind.i64.wrap ((p : Int) * 7 + 3) = p * 7 + 3 := wrap64 (by omega) (by omega)
        have hX : 0 ≤ X ∧ X < 4611686018427387904 := by omega
        have e1 : X.tdiv 64 = X / 64 := Int.tdiv_eq_ediv_of_nonneg hX.1
        have w13 : IntKind.i64.wrap (X / 64) = X / 64 := wrap64 (by omega) (by omega)
        obtain ⟨Z, hZ, z1, z2⟩ := xor_pos (x := X) (y := X / 64) hX (by omega)
        have hn0 : n ≠ 0 := by omega
        have hbn : bs.length ≠ 0 := by omega
        have hm : Z.tmod n = ((Z.tmod n).toNat : Int) := by
          have := Int.tmod_nonneg n z1
          omega
        have hlt2 : Z.tmod n < n := Int.tmod_lt_of_pos _ (by omega)
        simp [-binV_ixor, hat, Hp.at_set _ hlt, hat', a3, hn0, hq, m1, m2, d1, r1, r2, q1, q2, w1, w2, w3, w4, w5, w6, w7, w8, w9, w10, w11, w12, w13, e1, hZ]
        exact ⟨(Z.tmod n).toNat, hm, .inl (by omega), f0⟩

end Go.Proofs.Ytkdnijiipegabaa.B

namespace Go.Proofs.Ytkdnijiipegabaa.B
open Go.RowKit Go.Proofs
set_option linter.unusedVariables false
set_option linter.unusedSimpArgs false
variable {E : Env}

theorem Rd.ne {H : Hp} {o N : Nat} (h : Rd H o N) {esz : Nat} {v : AV} {R : List (List AV)} (hv : Rows esz H v R) (he : esz ≠ 2) {x : Nat} (hx : v.of x) : x ≠ o := by
  obtain ⟨b, bs, p, h1, _⟩ := h
  rcases hv with ⟨rfl, _⟩ | ⟨rfl, _⟩ | ⟨o', i, ob, rfl, a2, a3, _⟩
  · exact hx.elim
  · exact hx.elim
  · rintro rfl
    have : o' = x := hx
    subst this
    rw [h1] at a2
    cases a2
    exact he a3.symm
theorem Rows.dr {H H' : Hp} {o N : Nat} (hr : Rd H o N) {esz : Nat} {v : AV} {R : List (List AV)} (hv : Rows esz H v R) (he : esz ≠ 2) (hd : Dr o H H') : Rows esz H' v R := hv.fr hd (fun x hx => hr.ne hv he hx)
theorem OwnM.dr {α : Type} {H0 H H' : Hp} {o N : Nat} (hr : Rd H o N) {esz ety : Nat} {row : α → List AV} {v : AV} {xs : List α} (hv : OwnM esz ety row H0 H v xs) (he : esz ≠ 2) (hd : Dr o H H') : OwnM esz ety row H0 H' v xs := hv.fr hd (fun x hx => hr.ne hv.rows he hx)
theorem HLe.dr {H H' : Hp} (h : HLe H H') (o : Nat) : Dr o H H' := h.fr
/-- Behind something that is read alone. -/
theorem Rd.own {H H' : Hp} {o N : Nat} (h : Rd H o N) (hle : HLe H H') : Rd H' o N := h.le hle
theorem Rd.frv {H0 H H' : Hp} {o N : Nat} {v : AV} (h : Rd H0 o N) (hle : HLe H0 H) (hf : Fr v.of H H') (hv : ∀ x, v.of x → H0.length ≤ x) : Rd H' o N := h.le (hle.fr_le hf hv)

theorem of_ok (o N : Nat) (l : AV) (xs : List ByteArray) (H : Hp) (hr : Rd H o N) (hl : Strs H l xs) (hx : xs ≠ []) (hx2 : xs.length < 1099511627776) (hN : N < 1099511627776) :
    AC Try.prog E 37 [.pt o 0 0, l] H (fun v H' => ∃ s, s ∈ xs ∧ v = .str s ∧ Dr o H H' ∧ Rd H' o (N + 1) ∧ H'.length = H.length) := by
  refine AC_by fol (tC_le tab2_ok) h_spec_l6Rd_of ?_
  have l1 := hl.len
  have hpos : 0 < xs.length := List.length_pos_iff.2 hx
  simp [c_spec_l6Rd_of, l1, hl.slc]
  refine cg_ex (pick_ok o N xs.length H hr hN (by omega)) ?_
  rintro v H' ⟨m, rfl, hm, hd, hr', hlen⟩
  have hm2 : m < xs.length := by omega
  obtain ⟨o1, i1, ob1, rfl, a1, a2, a3⟩ := Strs.get (Rows.dr hr hl (by decide) hd : Strs H' l xs) hm2
  simp [a1, a2, a3, hm2]
  exact ⟨xs[m], List.getElem_mem hm2, rfl, hd, hr', hlen⟩

theorem l71Key_ok (o N : Nat) (H : Hp) (hr : Rd H o N) (hN : N < 549755813888) :
    AC Try.prog E 58 [.pt o 0 0] H (fun v H' => ∃ k, v = .str k ∧ k.size ≤ 5 ∧ Dr o H H' ∧ Rd H' o (N + 6)) := by
  refine AC_by fol (tC_le tab2_ok) h_spec_l71Key ?_
  simp [c_spec_l71Key]
  refine cg_ex (pick_ok o N 6 H hr (by omega) (by omega)) ?_
  rintro v H1 ⟨n, rfl, hn, hd, hr1, -⟩
  simp
  refine W_for (fun m t H' => ∃ k : ByteArray, m ≤ 5 ∧ t 0 = .pt o 0 0 ∧ t 3 = .str k ∧ t 4 = .int .i64 m ∧ k.size + m ≤ 5 ∧ Dr o H H' ∧ Rd H' o (N + 6 - m)) n ?_ (tC_mono AC_mono) ?_
  · exact ⟨⟨#[]⟩, by omega, by simp, by simp, by simp, by show 0 + n ≤ 5; omega, hd, hr1.mono (by omega)⟩
  rintro m t H' ⟨k, hm5, h0, h3, h4, hk, hd, hr⟩
  simp [h0, h3, h4]
  refine c_split (fun hq => ?_) (fun hq => ?_) <;> simp at hq
  · have hw : IntKind.i64.wrap ((m : Int) - 1) = ((m - 1 : Nat) : Int) := by rw [wrap64 (by omega) (by omega)]; omega
    simp [h0, h3, h4]
    have hl : Strs (H' ++ [some ⟨[[.str ⟨#[97]⟩], [.str ⟨#[98]⟩], [.str ⟨#[97]⟩], [.str ⟨#[99]⟩], [.str ⟨#[100]⟩]], 1, 9, false⟩]) (.sl H'.length 0 5) [⟨#[97]⟩, ⟨#[98]⟩, ⟨#[97]⟩, ⟨#[99]⟩, ⟨#[100]⟩] := Strs.at (e := 9) (ro := false) (by simp [strRow]) rfl
    refine cg_ex (of_ok o (N + 6 - m) _ _ _ (hr.le (HLe.self _ _)) hl (by simp) (by simp) (by omega)) ?_
    rintro v H2 ⟨s, hs, rfl, hd2, hr2, -⟩
    have hs1 : s.size = 1 := by
      simp at hs
      rcases hs with h | h | h | h | h <;> rw [h] <;> rfl
    simp [h0, h3, h4, hw]
    refine ⟨by omega, m - 1, by omega, by omega, rfl, by omega, ?_, hr2.mono (by omega)⟩
    exact (hd.app _).same hd2
  · have : m = 0 := by omega
    subst this
    simp [h3]
    exact ⟨by omega, hd, hr⟩

theorem l71Near_ok (o N : Nat) (l : AV) (xs : List ByteArray) (H : Hp) (hr : Rd H o N) (hl : Strs H l xs) (hx : xs.length < 1099511627776) (hs : ∀ s ∈ xs, s.size ≤ 5) (hN : N < 274877906944) :
    AC Try.prog E 44 [.pt o 0 0, l] H (fun v H' => ∃ k, v = .str k ∧ k.size ≤ 5 ∧ Dr o H H' ∧ Rd H' o (N + 7)) := by
  refine AC_by fol (tC_le tab2_ok) h_spec_l71Near ?_
  have l1 := hl.len
  simp [c_spec_l71Near, l1, hl.slc]
  refine g_split (fun hq => ?_) (fun hq => ?_) (by simp) <;> simp at hq <;> simp [hq]
  · refine cg_ex (l71Key_ok o N _ hr (by omega)) ?_
    rintro v H1 ⟨k, rfl, hk, hd, hr1⟩
    simp
    exact ⟨hk, hd, hr1.mono (by omega)⟩
  · have hpos : 0 < xs.length := List.length_pos_iff.2 hq
    refine cg_ex (pick_ok o N 4 H hr (by omega) (by omega)) ?_
    rintro v H1 ⟨n, rfl, hn, hd1, hr1, -⟩
    simp
    have hl1 : Strs H1 l xs := Rows.dr hr hl (by decide) hd1
    refine c_split (fun hq2 => ?_) (fun hq2 => ?_) <;> simp at hq2 <;> simp
    · refine cg_ex (l71Key_ok o _ _ hr1 (by omega)) ?_
      rintro v H2 ⟨k, rfl, hk, hd, hr2⟩
      simp
      exact ⟨hk, hd1.same hd, hr2.mono (by omega)⟩
    · simp [l1, hl.slc]
      refine cg_ex (pick_ok o _ xs.length H1 hr1 (by omega) (by omega)) ?_
      rintro v H2 ⟨m, rfl, hm, hd2, hr2, -⟩
      have hm2 : m < xs.length := by omega
      obtain ⟨o1, i1, ob1, rfl, a1, a2, a3⟩ := Strs.get (Rows.dr hr1 hl1 (by decide) hd2 : Strs H2 l xs) hm2
      have hsz := hs _ (List.getElem_mem hm2)
      simp [a1, a2, a3, hm2]
      refine cg_ex (pick_ok o _ 4 H2 hr2 (by omega) (by omega)) ?_
      rintro v H3 ⟨c, rfl, hc, hd3, hr3, -⟩
      have hd13 := (hd1.same hd2).same hd3
      simp
      refine c_split (fun hq3 => ?_) (fun hq3 => ?_) <;> simp at hq3 <;> simp
      · have hw : IntKind.i64.wrap ((xs[m].size : Int) + 1) = ((xs[m].size + 1 : Nat) : Int) := wrapN (by omega)
        rw [hw]
        refine cg_ex (pick_ok o _ ((xs[m].size + 1 : Nat) : Int) H3 hr3 (by omega) (by omega)) ?_
        rintro v H4 ⟨e, rfl, he, hd4, hr4, -⟩
        have he2 : e ≤ xs[m].size := by omega
        simp [he2]
        exact ⟨by omega, hd13.same hd4, hr4.mono (by omega)⟩
      · refine c_split (fun hq4 => ?_) (fun hq4 => ?_) <;> simp at hq4 <;> simp
        · refine c_split (fun hq5 => ?_) (fun hq5 => ?_) <;> simp at hq5 <;> simp
          · have hl3 : Strs (H3 ++ [some ⟨[[.str ⟨#[97]⟩], [.str ⟨#[98]⟩], [.str ⟨#[100]⟩]], 1, 9, false⟩]) (.sl H3.length 0 3) [⟨#[97]⟩, ⟨#[98]⟩, ⟨#[100]⟩] := Strs.at (e := 9) (ro := false) (by simp [strRow]) rfl
            refine cg_ex (of_ok o _ _ _ _ (hr3.le (HLe.self _ _)) hl3 (by simp) (by simp) (by omega)) ?_
            rintro v H4 ⟨s, hs4, rfl, hd4, hr4, -⟩
            have hs1 : s.size = 1 := by
              simp at hs4
              rcases hs4 with h | h | h <;> rw [h] <;> rfl
            simp
            exact ⟨by omega, by omega, (hd13.app _).same hd4, hr4.mono (by omega)⟩
          · exact ⟨hsz, hd13, hr3.mono (by omega)⟩
        · exact ⟨hsz, hd13, hr3.mono (by omega)⟩

theorem putP_mem {k x : ByteArray} {ks : List ByteArray} (h : x ∈ putP k ks) : x = k ∨ x ∈ ks := by
  unfold putP at h
  rcases List.mem_append.1 h with h | h
  · exact .inr ((List.takeWhile_sublist _).subset h)
  · split at h
    · rcases List.mem_cons.1 h with h | h
      · exact .inl h
      · exact .inr ((List.dropWhile_sublist _).subset h)
    · simp at h
theorem putK_mem {k x : ByteArray} {ks : List ByteArray} (h : x ∈ putK k ks) : x = k ∨ x ∈ ks := by
  by_cases hk : k ∈ ks
  · rw [putK_in hk] at h
    exact .inr h
  · rw [putK_out hk] at h
    rcases List.mem_append.1 h with h | h
    · exact putP_mem h
    · split at h
      · simp at h
      · exact .inl (by simpa using h)

theorem l71Keys_ok (o N : Nat) (most : Nat) (H : Hp) (hr : Rd H o N) (hm : most < 1000) (hN : N < 137438953472) :
    AC Try.prog E 43 [.pt o 0 0, .int .i64 most] H (fun v H' => ∃ ks, OwnS H H' v ks ∧ ks.length ≤ most ∧ (∀ s ∈ ks, s.size ≤ 5) ∧ Dr o H H' ∧ Rd H' o (N + 1 + 7 * most)) := by
  refine AC_by fol (tC_le tab2_ok) h_spec_l71Keys ?_
  have hw0 := wrapN (i := most) (by omega)
  simp [c_spec_l71Keys, hw0]
  refine cg_ex (pick_ok o N ((most : Int) + 1) _ (hr.le (HLe.self _ _)) (by omega) (by omega)) ?_
  rintro v H1 ⟨n, rfl, hn, hd, hr1, hlen⟩
  have hd0 : Dr o H H1 := ((HLe.self H _).dr o).same hd
  simp
  have hn1 : n ≤ most := by omega
  refine W_for (fun m t H' => ∃ ks v, m ≤ most ∧ t 0 = .pt o 0 0 ∧ t 5 = v ∧ t 6 = .int .i64 m ∧ OwnS H H' v ks ∧ ks.length + m ≤ most ∧ (∀ s ∈ ks, s.size ≤ 5) ∧ Dr o H H' ∧ Rd H' o (N + 1 + 7 * (most - m))) n ?_ (tC_mono AC_mono) ?_
  · refine ⟨[], _, hn1, by simp, by simp; rfl, by simp, ?_, by simpa using hn1, by simp, hd0, hr1.mono (by omega)⟩
    exact OwnM.dr (hr.le (HLe.self _ _)) (OwnM.lit0 (HLe.refl H)) (by decide) hd
  rintro m t H' ⟨ks, v, hm5, h0, h5, h6, hv, hk, hs, hd, hr⟩
  simp [h0, h5, h6]
  refine c_split (fun hq => ?_) (fun hq => ?_) <;> simp at hq
  · have hw : IntKind.i64.wrap ((m : Int) - 1) = ((m - 1 : Nat) : Int) := by rw [wrap64 (by omega) (by omega)]; omega
    simp [h0, h5, h6]
    refine cg_ex (l71Near_ok o _ v ks H' hr hv.strs (by omega) hs (by omega)) ?_
    rintro _ H2 ⟨k, rfl, hk5, hd2, hr2⟩
    have hv2 := OwnM.dr hr hv (by decide) hd2
    simp [h0, h5, h6]
    refine cg_ex (l2Put_ok v k ks H2 hv2.strs (by omega)) ?_
    rintro v3 H3 ⟨hle3, hv3⟩
    have hsz := putK_len k ks
    have hv3' : OwnS H H3 v3 (putK k ks) := by
      rcases hv3 with ⟨rfl, e⟩ | h
      · rw [e]
        exact hv2.le hle3
      · exact h.base (Nat.le_trans hd.len hd2.len)
    simp [h0, h5, h6, hw]
    refine ⟨m - 1, by omega, by omega, rfl, putK k ks, hv3', by omega, fun s hs' => ?_, (hd.same hd2).le_fr hle3, (hr2.le hle3).mono (by omega)⟩
    rcases putK_mem hs' with rfl | h
    · exact hk5
    · exact hs s h
  · have : m = 0 := by omega
    subst this
    simp [h5]
    exact ⟨ks, hv, by omega, hs, hd, hr.mono (by omega)⟩

theorem joinL_mem : ∀ {xs ys : List Ent} {e : Ent}, e ∈ joinL xs ys → e ∈ xs ∨ e ∈ ys
  | xs, [], e, h => .inl h
  | xs, y :: ys, e, h => by
    simp only [joinL] at h
    rcases List.mem_append.1 h with h | h
    · exact .inl ((List.takeWhile_sublist _).subset h)
    · rcases List.mem_cons.1 h with h | h
      · exact .inr (by rw [h]; simp)
      · rcases joinL_mem h with h | h
        · exact .inl ((List.dropWhile_sublist _).subset h)
        · exact .inr (List.mem_cons_of_mem _ h)
theorem l71Run_ok (o N : Nat) (most : Nat) (H : Hp) (hr : Rd H o N) (hm : most < 1000) (hN : N < 68719476736) :
    AC Try.prog E 36 [.pt o 0 0, .int .i64 most] H (fun v H' => ∃ es, OwnE H H' v es ∧ runOk es = true ∧ Dr o H H' ∧ Rd H' o (N + 37 + 10 * most)) := by
  refine AC_by fol (tC_le tab2_ok) h_spec_l71Run ?_
  have hw0 := wrapN (i := most) (by omega)
  simp [c_spec_l71Run, hw0]
  refine cg_ex (l71Keys_ok o N 5 H hr (by omega) (by omega)) ?_
  rintro kv H1 ⟨ks, hks, hkl, hksz, hd1, hr1⟩
  simp [hw0]
  refine cg_ex (pick_ok o _ ((most : Int) + 1) _ (hr1.le (HLe.self _ _)) (by omega) (by omega)) ?_
  rintro v H2 ⟨n, rfl, hn, hd2, hr2, hlen⟩
  have hd0 : Dr o H H2 := (hd1.app _).same hd2
  have hn1 : n ≤ most := by omega
  have hks2 : OwnS H H2 kv ks := OwnM.dr (hr1.le (HLe.self _ _)) (hks.le (HLe.self _ _)) (by decide) hd2
  simp
  refine W_for (fun m t H' => ∃ es v, m ≤ most ∧ t 0 = .pt o 0 0 ∧ t 5 = kv ∧ t 6 = v ∧ t 7 = .int .i64 m ∧ OwnE H H' v es ∧ OwnS H H' kv ks ∧ runOk es = true ∧ Dr o H H' ∧ Rd H' o (N + 37 + 10 * (most - m))) n ?_ (tC_mono AC_mono) ?_
  · refine ⟨[], _, hn1, by simp, by simp, by simp; rfl, by simp, ?_, hks2, by simp [runOk], hd0, hr2.mono (by omega)⟩
    exact (OwnM.dr (hr1.le (HLe.self _ _)) (OwnM.lit0 (HLe.refl H1)) (by decide) hd2).base hd1.len
  rintro m t H' ⟨es, v, hm5, h0, h5, h6, h7, hv, hkv, hok, hd, hr⟩
  simp [h0, h5, h6, h7]
  refine c_split (fun hq => ?_) (fun hq => ?_) <;> simp at hq
  · have hw : IntKind.i64.wrap ((m : Int) - 1) = ((m - 1 : Nat) : Int) := by rw [wrap64 (by omega) (by omega)]; omega
    simp [h0, h5, h6, h7]
    refine cg_ex (l71Near_ok o _ kv ks H' hr hkv.strs (by omega) hksz (by omega)) ?_
    rintro _ H2 ⟨k, rfl, hk5, hd2, hr2⟩
    have hkv2 := OwnM.dr hr hkv (by decide) hd2
    have hv2 := OwnM.dr hr hv (by decide) hd2
    simp [h0, h5, h6, h7]
    refine cg_ex (pick_ok o _ 100 _ hr2 (by omega) (by omega)) ?_
    rintro _ H3 ⟨val, rfl, hval, hd3, hr3, -⟩
    have hkv3 := OwnM.dr hr2 hkv2 (by decide) hd3
    have hv3 := OwnM.dr hr2 hv2 (by decide) hd3
    simp [h0, h5, h6, h7]
    refine cg_ex (pick_ok o _ 60 _ hr3 (by omega) (by omega)) ?_
    rintro _ H4 ⟨tm, rfl, htm, hd4, hr4, -⟩
    have hkv4 := OwnM.dr hr3 hkv3 (by decide) hd4
    have hv4 := OwnM.dr hr3 hv3 (by decide) hd4
    have hwt : IntKind.i64.wrap (1 + (tm : Int)) = ((tm + 1 : Nat) : Int) := by rw [wrap64 (by omega) (by omega)]; omega
    simp [h0, h5, h6, h7, hwt]
    refine cg_ex (pick_ok o _ 4 _ (hr4.le (HLe.self _ _)) (by omega) (by omega)) ?_
    rintro _ H5 ⟨g, rfl, hg, hd5, hr5, -⟩
    have ho4 := hr4.lt
    have hat := hd5.2 H4.length _ (show ¬ (H4.length = o) by omega) (Hp.at_app_0.trans Hp.at_0)
    have hb5 := Hp.at_lt hat
    have hkv5 := OwnM.dr (hr4.le (HLe.self _ _)) (hkv4.le (HLe.self _ _)) (by decide) hd5
    have hv5 := OwnM.dr (hr4.le (HLe.self _ _)) (hv4.le (HLe.self _ _)) (by decide) hd5
    have hd05 := (((((hd.same hd2).same hd3).same hd4).app _).same hd5)
    have hl4 := hd.len
    have hl42 := hd2.len
    have hl43 := hd3.len
    have hl44 := hd4.len
    simp [h0, h5, h6, h7, hat]
    have hlen5 := runOk_fits hok
    refine c_split (fun hq3 => ?_) (fun hq3 => ?_) <;> simp at hq3
    · simp [h0, h5, h6, h7, hat, Hp.at_set _ hb5]
      have hf6 : Fr (fun x => x = H4.length) H5 (List.set H5 H4.length (some ⟨[[.str k, .int .i64 0, .bool true, .int .i64 ((tm : Int) + 1)]], 4, 72, false⟩)) := (Fr.refl (fun x => x = H4.length) H5).set (.inl rfl) _
      have hl6 : (List.set H5 H4.length (some ⟨[[.str k, .int .i64 0, .bool true, .int .i64 ((tm : Int) + 1)]], 4, 72, false⟩)).length = H5.length := by simp
      have hd06 := hd05.trans hf6 (fun x hx => .inr (by subst hx; omega))
      have hv6 := hv5.fr hf6 (fun x hx => by have := hv4.1.lt hx; omega)
      have hkv6 := hkv5.fr hf6 (fun x hx => by have := hkv4.1.lt hx; omega)
      have hr6 := hr5.fr hf6 (by omega) (fun x ob hx hh => by subst hx; rw [hat] at hh; cases hh; simp)
      refine cg_ex (l11Join_ok v (.sl H5.length 0 1) es [⟨k, 0, true, ((tm + 1 : Nat) : Int)⟩] (List.set H5 H4.length (some ⟨[[.str k, .int .i64 0, .bool true, .int .i64 ((tm : Int) + 1)]], 4, 72, false⟩) ++ [some ⟨[entRow ⟨k, 0, true, ((tm + 1 : Nat) : Int)⟩], 4, 72, false⟩]) (hv6.ents.le (HLe.self _ _)) (Rows.whole (ob := ⟨[entRow ⟨k, 0, true, ((tm + 1 : Nat) : Int)⟩], 4, 72, false⟩) (by rw [← hl6]; exact Hp.at_app_0.trans Hp.at_0)) (by simp; omega)) ?_
      rintro v7 H7 ⟨hle7, hv7⟩
      have hle67 := (HLe.self (List.set H5 H4.length (some ⟨[[.str k, .int .i64 0, .bool true, .int .i64 ((tm : Int) + 1)]], 4, 72, false⟩)) [some ⟨[entRow ⟨k, 0, true, ((tm + 1 : Nat) : Int)⟩], 4, 72, false⟩]).trans hle7
      have hd7 := hd06.le_fr hle67
      have hr7 := hr6.le hle67
      have hlen7 := joinL_len es [⟨k, 0, true, ((tm + 1 : Nat) : Int)⟩]
      simp only [List.length_singleton] at hlen7
      have hsh : Short (joinL es [⟨k, 0, true, ((tm + 1 : Nat) : Int)⟩]) := by
        intro x hx
        rcases joinL_mem hx with h | h
        · exact (runOk_fits hok).1.short x h
        · rw [List.mem_singleton.1 h]; show k.size < _; omega
      simp [h0, h5, h6, h7]
      refine cg_use (RunOk_ok v7 (joinL es [⟨k, 0, true, ((tm + 1 : Nat) : Int)⟩]) H7 hv7.ents hsh (by omega)) ?_
      simp [h0, h5, h6, h7]
      refine c_split (fun hq4 => ?_) (fun hq4 => ?_) <;> simp [h0, h5, h6, h7, hw]
      · refine ⟨m - 1, by omega, by omega, rfl, joinL es [⟨k, 0, true, ((tm + 1 : Nat) : Int)⟩], hv7.base (by simp; omega), hkv6.le hle67, hq4, hd7, hr7.mono (by omega)⟩
      · exact ⟨m - 1, by omega, by omega, rfl, es, hv6.le hle67, hkv6.le hle67, hok, hd7, hr7.mono (by omega)⟩
    · simp [h0, h5, h6, h7, hat]
      have hl6 : H5.length = H5.length := rfl
      have hd06 := hd05
      have hv6 := hv5
      have hkv6 := hkv5
      have hr6 := hr5
      refine cg_ex (l11Join_ok v (.sl H5.length 0 1) es [⟨k, val, false, ((tm + 1 : Nat) : Int)⟩] (H5 ++ [some ⟨[entRow ⟨k, val, false, ((tm + 1 : Nat) : Int)⟩], 4, 72, false⟩]) (hv6.ents.le (HLe.self _ _)) (Rows.whole (ob := ⟨[entRow ⟨k, val, false, ((tm + 1 : Nat) : Int)⟩], 4, 72, false⟩) (by rw [← hl6]; exact Hp.at_app_0.trans Hp.at_0)) (by simp; omega)) ?_
      rintro v7 H7 ⟨hle7, hv7⟩
      have hle67 := (HLe.self (H5) [some ⟨[entRow ⟨k, val, false, ((tm + 1 : Nat) : Int)⟩], 4, 72, false⟩]).trans hle7
      have hd7 := hd06.le_fr hle67
      have hr7 := hr6.le hle67
      have hlen7 := joinL_len es [⟨k, val, false, ((tm + 1 : Nat) : Int)⟩]
      simp only [List.length_singleton] at hlen7
      have hsh : Short (joinL es [⟨k, val, false, ((tm + 1 : Nat) : Int)⟩]) := by
        intro x hx
        rcases joinL_mem hx with h | h
        · exact (runOk_fits hok).1.short x h
        · rw [List.mem_singleton.1 h]; show k.size < _; omega
      simp [h0, h5, h6, h7]
      refine cg_use (RunOk_ok v7 (joinL es [⟨k, val, false, ((tm + 1 : Nat) : Int)⟩]) H7 hv7.ents hsh (by omega)) ?_
      simp [h0, h5, h6, h7]
      refine c_split (fun hq4 => ?_) (fun hq4 => ?_) <;> simp [h0, h5, h6, h7, hw]
      · refine ⟨m - 1, by omega, by omega, rfl, joinL es [⟨k, val, false, ((tm + 1 : Nat) : Int)⟩], hv7.base (by simp; omega), hkv6.le hle67, hq4, hd7, hr7.mono (by omega)⟩
      · exact ⟨m - 1, by omega, by omega, rfl, es, hv6.le hle67, hkv6.le hle67, hok, hd7, hr7.mono (by omega)⟩
  · have : m = 0 := by omega
    subst this
    simp [h6]
    exact ⟨es, hv, hok, hd, hr.mono (by omega)⟩

end Go.Proofs.Ytkdnijiipegabaa.B

namespace Go.Proofs.Ytkdnijiipegabaa.B
open Go.RowKit Go.Proofs
set_option linter.unusedVariables false
set_option linter.unusedSimpArgs false
variable {E : Env}

theorem runText_le {r : List Ent} (h : runOk r = true) : (runText r).size ≤ 41720 := by
  obtain ⟨h1, h2, h3⟩ := runOk_fits h
  have := runText_size r (fun e he => ⟨h1 e he, by have := h3 e he; omega⟩) r.length (Nat.le_refl _)
  rw [List.take_length] at this
  omega

theorem DrawBlockSum_ok (c : AV) (bs : List Int) (H : Hp) (hc : Bytes H c bs) (hn : bs.length < 4611686018427387904) :
    AC Try.prog E 24 [c] H (fun v H' => ∃ s, v = .str s ∧ s.size ≤ 50000 ∧ HLe H H') := by
  refine AC_by fol (tC_le tab2_ok) h_spec_DrawBlockSum ?_
  simp [c_spec_DrawBlockSum]
  refine cg_ex (l6Open_ok c bs H hc hn) ?_
  rintro v H1 ⟨o, rfl, ho, hle1, hr1⟩
  simp
  refine cg_ex (l71Run_ok o 0 8 H1 hr1 (by omega) (by omega)) ?_
  rintro v H2 ⟨es, hv, hok, hd2, hr2⟩
  obtain ⟨f1, f2, f3⟩ := runOk_fits hok
  have hsz := runText_le hok
  simp
  refine cg_use (l21Run_ok v es H2 hv.ents (fun e he => ⟨f1 e he, by have := f3 e he; omega⟩) (by omega)) ?_
  simp
  have hl : Strs (H2 ++ [some ⟨[[.str ⟨#[]⟩], [.str ⟨#[97]⟩], [.str ⟨#[98]⟩], [.str ⟨#[33]⟩], [.str ⟨#[48]⟩]], 1, 9, false⟩]) (.sl H2.length 0 5) [⟨#[]⟩, ⟨#[97]⟩, ⟨#[98]⟩, ⟨#[33]⟩, ⟨#[48]⟩] := Strs.at (e := 9) (ro := false) (by simp [strRow]) rfl
  refine cg_ex (of_ok o _ _ _ _ (hr2.le (HLe.self _ _)) hl (by simp) (by simp) (by omega)) ?_
  rintro v H3 ⟨s, hs, rfl, hd3, hr3, -⟩
  have hs1 : s.size ≤ 1 := by
    simp at hs
    rcases hs with h | h | h | h | h <;> rw [h] <;> first | exact Nat.le_refl _ | exact Nat.zero_le _
  simp
  exact ⟨by omega, by omega, ((hle1.fr_le hd2 (fun x hx => by omega)).app _).fr_le hd3 (fun x hx => by omega)⟩

/-- Another byte, another sum. -/
theorem fold_ne (l : List UInt8) : ∀ a b : Int, 0 ≤ a ∧ a < 9973 → 0 ≤ b ∧ b < 9973 → a ≠ b → l.foldl (fun n b => (n * 31 + (b.toNat : Int) + 1) % 9973) a ≠ l.foldl (fun n b => (n * 31 + (b.toNat : Int) + 1) % 9973) b := by
  induction l with
  | nil => intro a b _ _ h; exact h
  | cons x l ih =>
    intro a b ha hb h
    exact ih _ _ (by dsimp only; omega) (by dsimp only; omega) (by dsimp only; omega)
theorem fold_bd (l : List UInt8) : ∀ a : Int, 0 ≤ a ∧ a < 9973 → 0 ≤ l.foldl (fun n b => (n * 31 + (b.toNat : Int) + 1) % 9973) a ∧ l.foldl (fun n b => (n * 31 + (b.toNat : Int) + 1) % 9973) a < 9973 := by
  induction l with
  | nil => intro a h; exact h
  | cons x l ih =>
    intro a ha
    exact ih _ (by dsimp only; omega)
theorem sumB_other (s : ByteArray) (i : Nat) (hi : i < s.size) (c : UInt8) (hc : (c.toNat : Int) ≠ bt s i) : sumB (s.extract 0 i ++ lit1 c ++ s.extract (i + 1) s.size) ≠ sumB s := by
  have hl : s.data.toList.length = s.size := Array.length_toList
  have e1 : s.data.toList = s.data.toList.take i ++ s.data.toList[i] :: s.data.toList.drop (i + 1) := by
    rw [← List.drop_eq_getElem_cons (by omega), List.take_append_drop]
  have e2 : (s.extract 0 i ++ lit1 c ++ s.extract (i + 1) s.size).data.toList = s.data.toList.take i ++ c :: s.data.toList.drop (i + 1) := by
    have h9 : s.data.size = s.size := rfl
    simp [lit1, ByteArray.data_append, ByteArray.data_extract, Array.toList_extract, List.extract_eq_take_drop]
    rw [List.take_of_length_le (by simp)]
  unfold sumB
  rw [e2]
  conv => rhs; rw [e1]
  rw [List.foldl_append, List.foldl_append, List.foldl_cons, List.foldl_cons]
  have hb := bt_at (s := s) (i := i) (by omega)
  have f := fold_bd (s.data.toList.take i) 7 (by omega)
  have c1 := c.toNat_lt
  have c2 := (s.data.toList[i]).toNat_lt
  refine fold_ne _ _ _ (by omega) (by omega) ?_
  omega

theorem lawBlockSum_ok (a b : AV) (xs ys : List Int) (H : Hp) (ha : Bytes H a xs) (hb : Bytes H b ys) (hx : xs.length < 4611686018427387904) (hy : ys.length < 4611686018427387904) :
    AC Try.prog E 6 [a, b] H (fun v H' => v = .bool true) := by
  refine AC_by fol (tC_le tab2_ok) h_laws_FnBlockSum ?_
  have l1 := ha.len
  have l2 := hb.len
  simp [c_laws_FnBlockSum, l1, l2, ha.1.slc, hb.1.slc]
  have main : ∀ (t : Tm), True := fun _ => trivial
  refine g_split (fun hq => ?_) (fun hq => ?_) (by simp) <;> simp at hq <;> simp [hq, l1, l2, ha.1.slc, hb.1.slc]
  refine c_split (fun hq2 => ?_) (fun hq2 => ?_) <;> simp at hq2 <;> simp
  refine cg_ex (DrawBlockSum_ok a xs H ha hx) ?_
  rintro v H1 ⟨s, rfl, hs, hle⟩
  simp
  refine cg_use (implSum_ok s _ (by omega)) ?_
  simp
  refine cg_use (specSum_ok s _ (by omega)) ?_
  simp
  refine c_split (fun hq3 => ?_) (fun hq3 => ?_) <;> simp at hq3 <;> simp
  · refine cg_use (specSum_ok s _ (by omega)) ?_
    simp
  · have hpos : 0 < s.size := Nat.pos_of_ne_zero (fun h => hq3 (by simpa using h))
    have hm : (ys.length : Int).tmod (s.size : Int) = ((ys.length % s.size : Nat) : Int) := by
      rw [Int.tmod_eq_emod_of_nonneg (by omega)]
      exact (Int.natCast_emod _ _).symm
    have hi : ys.length % s.size < s.size := Nat.mod_lt _ hpos
    generalize ys.length % s.size = i at hm hi
    have hw := wrapN (i := i) (by omega)
    have hw2 : IntKind.i64.wrap ((i : Int) + 1) = (i : Int) + 1 := wrap64 (by omega) (by omega)
    have hb0 := sumB_bound s
    have ht : ((i : Int) + 1).toNat = i + 1 := by omega
    have e1 : ∀ c : UInt8, (⟨#[c]⟩ : ByteArray).size = 1 := fun _ => rfl
    simp [l2, hb.1.slc, hm, hi, hq3]
    refine c_split (fun hq4 => ?_) (fun hq4 => ?_) <;> simp at hq4
    · have ne := sumB_other s i hi 98 (by rw [hq4]; decide)
      simp [hb0.1, hb0.2, hi, hw2, ht, e1]
      refine ⟨by omega, by omega, by omega, by omega, ?_⟩
      refine cg_use (implSum_ok _ _ (by simp [e1]; omega)) ?_
      simp
      exact fun h => ne h
    · have ne := sumB_other s i hi 97 (fun h => hq4 h.symm)
      simp [hb0.1, hb0.2, hi, hw2, ht, e1]
      refine ⟨by omega, by omega, by omega, by omega, ?_⟩
      refine cg_use (implSum_ok _ _ (by simp [e1]; omega)) ?_
      simp
      exact fun h => ne h

theorem Ty.bytes {H : Hp} {v : AV} (h : Ty H (.kl [.ki .u8]) v) : ∃ bs : List Int, Bytes H v bs ∧ bs.length ≤ 140737488351232 := by
  obtain ⟨rows, h1, h2, h3⟩ := h.sl
  obtain ⟨xs, rfl, hq⟩ := rows_map (f := byteRow) (Q := fun n => 0 ≤ n ∧ n < 256) (fun r hr => by
    obtain ⟨v, us, rfl, a1, a2⟩ := (h3 r hr).cons
    obtain ⟨n, rfl, hn⟩ := a1.u8
    rw [a2.nil]
    exact ⟨n, rfl, hn⟩)
  exact ⟨xs, ⟨h1, hq⟩, by simpa using h2⟩

end Go.Proofs.Ytkdnijiipegabaa.B

namespace Go.Proofs.Ytkdnijiipegabaa.B
open Go.RowKit
set_option linter.unusedVariables false
set_option linter.unusedSimpArgs false

/-! ### Runs -/

/-- Can an entry be found at some times, or now, if the one ahead of it is so. -/
def seenB (times : List Int) (p : Option Ent) (e : Ent) : Bool :=
  match p with
  | none => true
  | some q => !decide (q.key = e.key) || times.any fun t => decide (e.time ≤ t) && decide (t < q.time)
def trim1 (times : List Int) : Option Ent → List Ent → List Ent
  | _, [] => []
  | p, e :: es => if seenB times p e = true then e :: trim1 times (some e) es else trim1 times (some e) es
/-- Is an entry its key's last one. -/
def lastB (e : Ent) : List Ent → Bool
  | [] => true
  | f :: _ => !decide (f.key = e.key)
/-- What was taken away at last is left out. -/
def drop1 : List Ent → List Ent
  | [] => []
  | e :: es => if (!e.gone || !lastB e es) = true then e :: drop1 es else drop1 es
/-- Does the one ahead have another key. -/
def newK (p : Option Ent) (e : Ent) : Bool :=
  match p with
  | none => true
  | some q => !decide (q.key = e.key)
def trimR (r : List Ent) (times : List Int) (bottom : Bool) : List Ent := if bottom = true then drop1 (trim1 times none r) else trim1 times none r
def keys1 : Option Ent → List Ent → List ByteArray
  | _, [] => []
  | p, e :: es => if newK p e = true then e.key :: keys1 (some e) es else keys1 (some e) es
/-- The keys of a run. -/
def keysR (r : List Ent) : List ByteArray := keys1 none r
/-- What was put last of a key up to a time. -/
def atR (k : ByteArray) (time : Int) : List Ent → Option Ent
  | [] => none
  | e :: es => if e.key = k ∧ e.time ≤ time then some e else atR k time es
def newE (below : List Ent) (time : Int) (e : Ent) : Bool := decide (e.time ≤ time) && (match atR e.key 999 below with | none => true | some f => decide (f.time < e.time))
def newestR (below : List Ent) (time : Int) : List Ent → Bool
  | [] => true
  | e :: es => newE below time e && newestR below time es
def asc1 (now : Int) : Option Int → List Int → Bool
  | _, [] => true
  | p, t :: ts => decide (0 ≤ t) && decide (t ≤ now) && (match p with | none => true | some q => decide (q < t)) && asc1 now (some t) ts
def timesR (ts : List Int) (now : Int) : Bool := asc1 now none ts && decide (ts.length ≤ 3)

/-! ### Sieves -/
structure Sv where
  l : ByteArray
  m : ByteArray
  f : ByteArray
  r : List ByteArray
  k : Int
deriving DecidableEq, Inhabited

/-- A key's letter at a place, - at its end. -/
def letter (k : ByteArray) (d : Nat) : UInt8 := if h : d < k.size then k.data[d] else 45
/-- Keys of the same letter as the first one. -/
def grp (d : Nat) (ks : List ByteArray) : List ByteArray :=
  match ks with
  | [] => []
  | k :: _ => ks.filter fun x => letter x d == letter k d
theorem grp_pos (d : Nat) (k : ByteArray) (ks : List ByteArray) : 0 < (grp d (k :: ks)).length := by
  simp [grp]
/-- The branches of a fork. -/
def brs (d : Nat) : List ByteArray → List (List ByteArray)
  | [] => []
  | k :: ks => grp d (k :: ks) :: brs d ((k :: ks).drop (grp d (k :: ks)).length)
termination_by ks => ks.length
decreasing_by
  have := grp_pos d k ks
  simp only [List.length_drop, List.length_cons]
  omega
/-- What is kept of a key behind so many letters. -/
def restK (k : ByteArray) (d : Nat) (keep : Int) : ByteArray := (k.extract d k.size).extract 0 (min (k.size - d) keep.toNat)
abbrev Fk := List ByteArray × Nat
def many (g : List ByteArray) : Bool := decide (1 < g.length)
/-- A branch behind others. -/
def addB (d : Nat) (first : Bool) (s : Sv) (g : List ByteArray) : Sv :=
  { s with
    l := s.l ++ lit1 (letter (g.headD ⟨#[]⟩) d)
    f := s.f ++ lit1 (if first = true then 49 else 48)
    m := s.m ++ lit1 (if many g = true then 49 else 48)
    r := if many g = true then s.r else s.r ++ [restK (g.headD ⟨#[]⟩) (d + 1) s.k] }
def addBs (d : Nat) : Bool → Sv → List (List ByteArray) → Sv
  | _, s, [] => s
  | b, s, g :: gs => addBs d false (addB d b s g) gs
def subs (d : Nat) (gs : List (List ByteArray)) : List Fk := (gs.filter many).map fun g => (g, d + 1)
/-- Fork by fork. -/
def bfs : Nat → List Fk → Sv → Sv
  | 0, _, s => s
  | _ + 1, [], s => s
  | n + 1, (ks, d) :: q, s => bfs n (q ++ subs d (brs d ks)) (addBs d true s (brs d ks))
def sieveR (ks : List ByteArray) (keep : Int) : Sv := bfs 500 [(ks, 0)] ⟨⟨#[]⟩, ⟨#[]⟩, ⟨#[]⟩, [], keep⟩
def sieveO (ks : List ByteArray) (keep : Int) : Option Sv := if keysOk ks = true ∧ 0 ≤ keep ∧ keep ≤ 5 then some (sieveR ks keep) else none

/-! ### Stores -/
structure Sr where
  top : List Ent
  lev : List (List Ent)
  sv : List Sv
  keep : Int
  time : Int
  tms : List Int
deriving DecidableEq, Inhabited

def sizeL (i : Nat) : Nat := 8 * (i + 1)
def levelOk (s : Sr) (i : Nat) : Bool := runOk (s.lev.getD i []) && decide ((s.lev.getD i []).length ≤ sizeL i) && decide (sieveO (keysR (s.lev.getD i [])) s.keep = some (s.sv.getD i default))
def lowOk (s : Sr) (i k : Nat) : Bool := newestR (s.lev.getD k []) s.time (s.lev.getD i [])
def okAt (s : Sr) (i : Nat) : Prop := levelOk s i = true ∧ newestR (s.lev.getD i []) s.time s.top = true ∧ ∀ k, k < 3 → i < k → lowOk s i k = true
instance decOkAt (s : Sr) (i : Nat) : Decidable (okAt s i) := by unfold okAt; infer_instance
def headOk (s : Sr) : Bool := decide (s.lev.length = 3) && decide (s.sv.length = 3) && decide (0 ≤ s.keep ∧ s.keep ≤ 5) && decide (0 ≤ s.time ∧ s.time ≤ 999) && timesR s.tms s.time
def storeOk (s : Sr) : Bool := headOk s && (runOk s.top && decide (s.top.length ≤ 4)) && decide (okAt s 0 ∧ okAt s 1 ∧ okAt s 2)

def setR (s : Sr) (i : Nat) (r : List Ent) : Option Sr :=
  match sieveO (keysR r) s.keep with
  | none => none
  | some x => if r.length ≤ sizeL i then some { s with lev := s.lev.set i r, sv := s.sv.set i x } else none
/-- A run into the level that has so many below it. -/
def intoR : Nat → Sr → List Ent → Option Sr
  | 0, s, r => setR s 2 (trimR (joinL r (s.lev.getD 2 [])) s.tms true)
  | n + 1, s, r =>
    match setR s (1 - n) (trimR (joinL r (s.lev.getD (1 - n) [])) s.tms false) with
    | some x => some x
    | none => match intoR n s (s.lev.getD (1 - n) []) with
      | none => none
      | some x => setR x (1 - n) (trimR r x.tms false)
def downR (s : Sr) : Option Sr := intoR 2 { s with top := [] } s.top
def addR (s : Sr) (e : Ent) : Option Sr :=
  if (storeOk s && entOk e) = true then
    match (if 4 ≤ s.top.length then downR s else some s) with
    | none => none
    | some x => some { x with top := joinL [e] x.top, time := e.time }
  else none
def putR (s : Sr) (k : ByteArray) (v : Int) : Option Sr := addR s ⟨k, v, false, s.time + 1⟩
def takeR (s : Sr) (k : ByteArray) : Option Sr := addR s ⟨k, 0, true, s.time + 1⟩
def holdR (s : Sr) : Option Sr :=
  if storeOk s = true then
    let ts := if s.tms.getLast? = some s.time then s.tms else s.tms ++ [s.time]
    if timesR ts s.time = true then some { s with tms := ts } else none
  else none
def freeR (s : Sr) (t : Int) : Option Sr :=
  if storeOk s = true then
    let ts := s.tms.filter fun x => !decide (x = t)
    if ts.length = s.tms.length then none else some { s with tms := ts }
  else none
def letR (s : Sr) : Option Sr := if storeOk s = true then downR s else none
def joinR (s : Sr) (l : Int) : Option Sr :=
  if storeOk s = true ∧ 0 ≤ l ∧ l ≤ 1 then
    match setR s l.toNat [] with
    | none => none
    | some x => intoR (1 - l.toNat) x (s.lev.getD l.toNat [])
  else none
structure Dd where
  kind : Int
  key : ByteArray
  num : Int
deriving DecidableEq, Inhabited
def doR (s : Sr) (d : Dd) : Option Sr :=
  if d.kind = 1 then putR s d.key d.num else if d.kind = 2 then takeR s d.key else if d.kind = 3 then holdR s else if d.kind = 4 then freeR s d.num
  else if d.kind = 5 then letR s else if d.kind = 6 then joinR s d.num else none
def doAll (s : Sr) (ds : List Dd) : Sr := ds.foldl (fun s d => (doR s d).getD s) s
def pastR (s : Sr) (ds : List Dd) : Option Sr := if (storeOk s && decide (ds.length ≤ 40)) = true then some (doAll s ds) else none
def newR (keep : Int) : Option Sr := if 0 ≤ keep ∧ keep ≤ 5 then some ⟨[], [[], [], []], List.replicate 3 ⟨⟨#[]⟩, ⟨#[]⟩, ⟨#[]⟩, [], keep⟩, keep, 0, []⟩ else none

end Go.Proofs.Ytkdnijiipegabaa.B

namespace Go.Proofs.Ytkdnijiipegabaa.B
open Go.RowKit Go.Proofs
set_option linter.unusedVariables false
set_option linter.unusedSimpArgs false
variable {E : Env}

def intRow (n : Int) : List AV := [.int .i64 n]
/-- Numbers. -/
def Ints (H : Hp) (v : AV) (xs : List Int) : Prop := Rows 1 H v (xs.map intRow)
theorem Ints.le {H H' : Hp} {v : AV} {xs : List Int} (h : Ints H v xs) (hle : HLe H H') : Ints H' v xs := Rows.le h hle
theorem Ints.len {H : Hp} {v : AV} {xs : List Int} (h : Ints H v xs) : lenV v = .int .i64 xs.length := by simpa using Rows.len h
theorem Ints.slc {H : Hp} {v : AV} {xs : List Int} (h : Ints H v xs) : slC v := Rows.slc h
theorem Ints.get {H : Hp} {v : AV} {xs : List Int} (h : Ints H v xs) {j : Nat} (hj : j < xs.length) : ∃ o i ob, v = .sl o i xs.length ∧ H.at o = some ob ∧ ob.esz = 1 ∧ ob.rows[i + j]? = some [.int .i64 xs[j]] := by
  obtain ⟨o, i, ob, h1, h2, h3, h4⟩ := Rows.get h (j := j) (by simpa using hj)
  exact ⟨o, i, ob, by simpa using h1, h2, h3, by simpa [intRow] using h4⟩
abbrev OwnI := OwnM (α := Int) 1 3 intRow
theorem OwnM.ints {ety : Nat} {H0 H : Hp} {v : AV} {xs : List Int} (h : OwnM 1 ety intRow H0 H v xs) : Ints H v xs := h.1.rows
/-- The one ahead. -/
def prev {α : Type} (r : List α) (i : Nat) : Option α := if i = 0 then none else r[i - 1]?
theorem prev_succ {α : Type} {r : List α} {i : Nat} (h : i < r.length) : prev r (i + 1) = some r[i] := by simp [prev, h]
theorem prev_pos {α : Type} {r : List α} {i : Nat} (h0 : 0 < i) (h : i ≤ r.length) : prev r i = some (r[i - 1]'(by omega)) := by
  have hlt : i - 1 < r.length := by omega
  simp [prev, show ¬ i = 0 by omega, hlt]
theorem wrapP {i : Nat} (h0 : 0 < i) (h : i < 9223372036854775807) : IntKind.i64.wrap ((i : Int) - 1) = ((i - 1 : Nat) : Int) := by rw [wrap64 (by omega) (by omega)]; omega

theorem l11Seen_ok (a b : AV) (r : List Ent) (ts : List Int) (i : Nat) (H : Hp) (ha : Ents H a r) (hb : Ints H b ts) (hi : i < r.length) (hn : r.length < 1099511627776) (ht : ts.length < 1099511627776) :
    AC Try.prog E 97 [a, .int .i64 i, b] H (fun v H' => v = .bool (seenB ts (prev r i) r[i]) ∧ H' = H) := by
  refine AC_byp (tC_le tab2_ok) h_spec_l11Seen (by simp) ?_
  have l2 := hb.len
  rcases Nat.eq_zero_or_pos i with rfl | hp
  · simp [c_spec_l11Seen, prev, seenB]
  · have hlt : i - 1 < r.length := by omega
    have hw := wrapP hp (by omega)
    obtain ⟨o, i0, ob, rfl, a1, a2, a3⟩ := ha.get hi
    obtain ⟨o2, i2, ob2, e2, b1, b2, b3⟩ := ha.get hlt
    cases e2
    rw [a1] at b1
    cases b1
    have hi0 : ¬ i = 0 := by omega
    rw [prev_pos hp (by omega)]
    simp [c_spec_l11Seen, hi0, hi, hlt, hw, a1, a2, a3, b3]
    refine c_split (fun hq => ?_) (fun hq => ?_) <;> simp at hq <;> simp [seenB, hq]
    refine W_for (fun m t H' => ∃ j : Nat, j + m = ts.length ∧ t 0 = .sl o i0 r.length ∧ t 1 = .int .i64 i ∧ t 2 = b ∧ t 7 = .int .i64 j ∧ ((ts.drop j).any fun t => decide (r[i].time ≤ t) && decide (t < r[i - 1].time)) = (ts.any fun t => decide (r[i].time ≤ t) && decide (t < r[i - 1].time)) ∧ H' = H) ts.length ?_ (tC_mono AC_mono) ?_
    · exact ⟨0, by simp⟩
    rintro m t H' ⟨j, hjm, h0, h1, h2, h7, hI, rfl⟩
    simp [h0, h1, h2, h7, l2, hb.slc]
    refine c_split (fun hq2 => ?_) (fun hq2 => ?_) <;> simp at hq2
    · obtain ⟨o3, i3, ob3, rfl, c1, c2, c3⟩ := hb.get hq2
      have hw2 := wrapN (i := j) (by omega)
      rw [List.drop_eq_getElem_cons hq2, List.any_cons] at hI
      simp [h0, h1, h2, h7, hi, hlt, hw, a1, a2, a3, b3, c1, c2, c3, hq2]
      refine g_split (fun hq3 => ?_) (fun hq3 => ?_) (by simp) <;> simp at hq3 <;> simp [h0, h1, h2, h7, hi, hlt, hw, a1, a2, a3, b3, c1, c2, c3, hq2, hw2]
      · refine c_split (fun hq4 => ?_) (fun hq4 => ?_) <;> simp at hq4 <;> simp [h0, h1, h2, h7, hw2]
        · exact ⟨ts[j], List.getElem_mem hq2, hq3, hq4⟩
        · refine ⟨m - 1, by omega, j + 1, by omega, by omega, ?_⟩
          rw [← hI]
          simp [show ¬ ts[j] < r[i - 1].time by omega]
      · refine ⟨m - 1, by omega, j + 1, by omega, by omega, ?_⟩
        rw [← hI]
        simp [show ¬ r[i].time ≤ ts[j] by omega]
    · have : j = ts.length := by omega
      subst this
      simp at hI
      simp
      exact hI

theorem trim1_len (ts : List Int) : ∀ (p : Option Ent) (r : List Ent), (trim1 ts p r).length ≤ r.length
  | _, [] => by simp [trim1]
  | p, e :: es => by
    have := trim1_len ts (some e) es
    simp only [trim1]
    split <;> simp <;> omega
theorem drop1_len : ∀ (r : List Ent), (drop1 r).length ≤ r.length
  | [] => by simp [drop1]
  | e :: es => by
    have := drop1_len es
    simp only [drop1]
    split <;> simp <;> omega
theorem trimR_len (r : List Ent) (ts : List Int) (b : Bool) : (trimR r ts b).length ≤ r.length := by
  unfold trimR
  have := trim1_len ts none r
  have := drop1_len (trim1 ts none r)
  split <;> omega
theorem trim1_sub (ts : List Int) : ∀ (p : Option Ent) (r : List Ent), (trim1 ts p r).Sublist r
  | _, [] => by simp [trim1]
  | p, e :: es => by
    simp only [trim1]
    split
    · exact (trim1_sub ts (some e) es).cons_cons e
    · exact (trim1_sub ts (some e) es).cons e
theorem drop1_sub : ∀ (r : List Ent), (drop1 r).Sublist r
  | [] => by simp [drop1]
  | e :: es => by
    simp only [drop1]
    split
    · exact (drop1_sub es).cons_cons e
    · exact (drop1_sub es).cons e
theorem trimR_sub (r : List Ent) (ts : List Int) (b : Bool) : (trimR r ts b).Sublist r := by
  unfold trimR
  split
  · exact (drop1_sub _).trans (trim1_sub _ _ _)
  · exact trim1_sub _ _ _

theorem l11Trim_ok (a b : AV) (r : List Ent) (ts : List Int) (bot : Bool) (H : Hp) (ha : Ents H a r) (hb : Ints H b ts) (hn : r.length < 1099511627776) (ht : ts.length < 1099511627776) :
    AC Try.prog E 96 [a, b, .bool bot] H (fun v H' => HLe H H' ∧ OwnE H H' v (trimR r ts bot)) := by
  refine AC_by fol (tC_le tab2_ok) h_spec_l11Trim ?_
  have l1 := ha.len
  simp [c_spec_l11Trim]
  refine W_for (fun m t H' => ∃ i out v, i + m = r.length ∧ t 0 = a ∧ t 1 = b ∧ t 2 = .bool bot ∧ t 7 = v ∧ t 8 = .int .i64 (i : Nat) ∧ HLe H H' ∧ OwnE H H' v out ∧ out ++ trim1 ts (prev r i) (r.drop i) = trim1 ts none r) r.length ?_ (tC_mono AC_mono) ?_
  · exact ⟨0, [], _, by simp, by simp, by simp, by simp, rfl, by simp, HLe.self _ _, OwnM.lit0 (HLe.refl _), by simp [prev]⟩
  rintro m t H' ⟨i, out, v, him, h0, h1, h2, h7, h8, hle, hv, hI⟩
  simp [h0, h1, h2, h7, h8, l1, ha.slc]
  refine c_split (fun hq => ?_) (fun hq => ?_) <;> simp at hq
  · have hw := wrapN (i := i) (by omega)
    have hol : out.length ≤ r.length := by
      have := congrArg List.length hI
      simp only [List.length_append] at this
      have := trim1_len ts none r
      omega
    simp [h0, h1, h2, h7, h8]
    refine cg_use (l11Seen_ok a b r ts i H' (ha.le hle) (hb.le hle) hq hn ht) ?_
    obtain ⟨o, i0, ob, rfl, aH, a2, a3⟩ := ha.get hq
    have a1 := hle.2 _ _ aH
    rw [List.drop_eq_getElem_cons hq] at hI
    simp only [trim1] at hI
    simp
    refine c_split (fun hq3 => ?_) (fun hq3 => ?_)
    · rw [if_pos hq3] at hI
      simp [h0, h1, h2, h7, h8, hq, a1, a2, a3]
      refine appG_add hv hle (by omega) (show _ = entRow r[i] from rfl) (fun v3 H3 g1 g2 g3 g4 => ?_)
      simp [h0, h1, h2, h7, h8, hw]
      exact ⟨m - 1, by omega, i + 1, by omega, by omega, g1, out ++ [r[i]], g2, by rw [prev_succ hq]; simpa using hI⟩
    · rw [if_neg (by rw [hq3]; simp)] at hI
      simp [h0, h1, h2, h7, h8, hw]
      exact ⟨m - 1, by omega, i + 1, by omega, by omega, hle, out, hv, by rw [prev_succ hq]; exact hI⟩
  · have : i = r.length := by omega
    subst this
    rw [List.drop_length] at hI
    simp only [trim1, List.append_nil] at hI
    subst hI
    simp [h0, h1, h2, h7, h8]
    cases bot with
    | false =>
      simp [h7]
      exact ⟨hle, by simpa [trimR] using hv⟩
    | true =>
      have hx := trim1_len ts none r
      have l7 := hv.len
      simp
      refine W_for (fun m t H2 => ∃ j out v9, j + m = (trim1 ts none r).length ∧ t 7 = v ∧ t 9 = v9 ∧ t 10 = .int .i64 (j : Nat) ∧ HLe H' H2 ∧ OwnE H' H2 v9 out ∧ out ++ drop1 ((trim1 ts none r).drop j) = drop1 (trim1 ts none r)) (trim1 ts none r).length ?_ (tC_mono AC_mono) ?_
      · exact ⟨0, [], _, by simp, by simp [h7], rfl, by simp, HLe.self _ _, OwnM.lit0 (HLe.refl _), by simp⟩
      generalize hx0 : trim1 ts none r = x at hx hv l7
      rintro m t H2 ⟨j, out, v9, hjm, h7, h9, h10, hle2, hv9, hI⟩
      simp [h7, h9, h10, l7, hv.slc]
      refine c_split (fun hq => ?_) (fun hq => ?_) <;> simp at hq
      · have hw := wrapN (i := j) (by omega)
        have hol : out.length ≤ x.length := by
          have := congrArg List.length hI
          simp only [List.length_append] at this
          have := drop1_len x
          omega
        obtain ⟨o, i0, ob, rfl, aH, a2, a3⟩ := hv.ents.get hq
        have a1 := hle2.2 _ _ aH
        rw [List.drop_eq_getElem_cons hq] at hI
        simp only [drop1] at hI
        by_cases hlast : j + 1 < x.length
        · have hw2 := wrapN (i := j) (by omega)
          obtain ⟨o', i0', ob', e2, bH, b2, b3⟩ := hv.ents.get hlast
          cases e2
          rw [aH] at bH
          cases bH
          have hlb : lastB x[j] (x.drop (j + 1)) = !decide (x[j + 1].key = x[j].key) := by
            rw [List.drop_eq_getElem_cons hlast]
            rfl
          have hnl : ¬ ((x.length : Int) ≤ (j : Int) + 1) := by omega
          have b3' : ob.rows[i0 + j + 1]? = some [.str x[j + 1].key, .int .i64 x[j + 1].val, .bool x[j + 1].gone, .int .i64 x[j + 1].time] := b3
          have hlast' : (j : Int) + 1 < x.length := by omega
          have hj0 : (0 : Int) ≤ (j : Int) + 1 := by omega
          have ht1 : ((j : Int) + 1).toNat = j + 1 := by omega
          rw [hlb] at hI
          have keep : (!x[j].gone || !!decide (x[j + 1].key = x[j].key)) = true → out ++ [x[j]] ++ drop1 (x.drop (j + 1)) = drop1 x := by
            intro h
            rw [if_pos h] at hI
            simpa using hI
          have lose : ¬ (!x[j].gone || !!decide (x[j + 1].key = x[j].key)) = true → out ++ drop1 (x.drop (j + 1)) = drop1 x := by
            intro h
            rw [if_neg h] at hI
            exact hI
          cases hg : x[j].gone with
          | false =>
            simp [h7, h9, h10, hw, hnl, hlast', hj0, ht1, hq, a1, a2, a3, b3, hg]
            refine appG_add (y := x[j]) hv9 hle2 (by omega) (by simp [entRow, hg]) (fun v3 H3 g1 g2 g3 g4 => ?_)
            simp [h7, h9, h10, hw]
            exact ⟨m - 1, by omega, j + 1, by omega, by omega, g1, out ++ [x[j]], g2, keep (by simp [hg])⟩
          | true =>
            by_cases hk : x[j + 1].key = x[j].key
            · simp [h7, h9, h10, hw, hnl, hlast', hj0, ht1, hq, a1, a2, a3, b3, hg, hk]
              refine appG_add (y := x[j]) hv9 hle2 (by omega) (by simp [entRow, hg]) (fun v3 H3 g1 g2 g3 g4 => ?_)
              simp [h7, h9, h10, hw]
              exact ⟨m - 1, by omega, j + 1, by omega, by omega, g1, out ++ [x[j]], g2, keep (by simp [hk])⟩
            · simp [h7, h9, h10, hw, hnl, hlast', hj0, ht1, hq, a1, a2, a3, b3, hg, hk]
              exact ⟨m - 1, by omega, j + 1, by omega, by omega, hle2, out, hv9, lose (by simp [hg, hk])⟩
        · have hnl : ((x.length : Int) ≤ (j : Int) + 1) := by omega
          have hlb : lastB x[j] (x.drop (j + 1)) = true := by
            rw [List.drop_of_length_le (by omega)]
            rfl
          rw [hlb] at hI
          cases hg : x[j].gone with
          | false =>
            rw [if_pos (by simp [hg])] at hI
            simp [h7, h9, h10, hw, hnl, hq, a1, a2, a3, hg]
            refine appG_add (y := x[j]) hv9 hle2 (by omega) (by simp [entRow, hg]) (fun v3 H3 g1 g2 g3 g4 => ?_)
            simp [h7, h9, h10, hw]
            exact ⟨m - 1, by omega, j + 1, by omega, by omega, g1, out ++ [x[j]], g2, by simpa using hI⟩
          | true =>
            rw [if_neg (by simp [hg])] at hI
            simp [h7, h9, h10, hw, hnl, hq, a1, a2, a3, hg]
            exact ⟨m - 1, by omega, j + 1, by omega, by omega, hle2, out, hv9, hI⟩
      · have : j = x.length := by omega
        subst this
        rw [List.drop_length] at hI
        simp only [drop1, List.append_nil] at hI
        subst hI
        simp [h9]
        exact ⟨hle.trans hle2, by simpa [trimR, hx0] using hv9.base hle.1⟩

end Go.Proofs.Ytkdnijiipegabaa.B

namespace Go.Proofs.Ytkdnijiipegabaa.B
open Go.RowKit Go.Proofs
set_option linter.unusedVariables false
set_option linter.unusedSimpArgs false
variable {E : Env}

theorem wrap1 : IntKind.i64.wrap 1 = 1 := wrap64 (by omega) (by omega)
theorem keys1_len : ∀ (p : Option Ent) (r : List Ent), (keys1 p r).length ≤ r.length
  | _, [] => by simp [keys1]
  | p, e :: es => by
    have := keys1_len (some e) es
    simp only [keys1]
    split <;> simp <;> omega
theorem keys1_mem : ∀ (p : Option Ent) (r : List Ent) (k : ByteArray), k ∈ keys1 p r → ∃ e ∈ r, e.key = k
  | _, [], k, h => by simp [keys1] at h
  | p, e :: es, k, h => by
    simp only [keys1] at h
    split at h
    · rcases List.mem_cons.1 h with h | h
      · exact ⟨e, by simp, h.symm⟩
      · obtain ⟨x, h1, h2⟩ := keys1_mem (some e) es k h
        exact ⟨x, List.mem_cons_of_mem _ h1, h2⟩
    · obtain ⟨x, h1, h2⟩ := keys1_mem (some e) es k h
      exact ⟨x, List.mem_cons_of_mem _ h1, h2⟩

theorem l11Keys_ok (a : AV) (r : List Ent) (H : Hp) (ha : Ents H a r) (hn : r.length < 1099511627776) :
    AC Try.prog E 73 [a] H (fun v H' => HLe H H' ∧ OwnS H H' v (keysR r)) := by
  refine AC_by fol (tC_le tab2_ok) h_spec_l11Keys ?_
  have l1 := ha.len
  simp [c_spec_l11Keys]
  refine W_for (fun m t H' => ∃ i out v, i + m = r.length ∧ t 0 = a ∧ t 3 = v ∧ t 4 = .int .i64 (i : Nat) ∧ HLe H H' ∧ OwnS H H' v out ∧ out ++ keys1 (prev r i) (r.drop i) = keysR r) r.length ?_ (tC_mono AC_mono) ?_
  · exact ⟨0, [], _, by simp, by simp, rfl, by simp, HLe.self _ _, OwnM.lit0 (HLe.refl _), by simp [prev, keysR]⟩
  rintro m t H' ⟨i, out, v, him, h0, h3, h4, hle, hv, hI⟩
  simp [h0, h3, h4, l1, ha.slc]
  refine c_split (fun hq => ?_) (fun hq => ?_) <;> simp at hq
  · have hw := wrapN (i := i) (by omega)
    have hol : out.length ≤ r.length := by
      have := congrArg List.length hI
      simp only [List.length_append] at this
      have h9 : (keysR r).length ≤ r.length := keys1_len none r
      omega
    obtain ⟨o, i0, ob, rfl, aH, a2, a3⟩ := ha.get hq
    have a1 := hle.2 _ _ aH
    rw [List.drop_eq_getElem_cons hq] at hI
    simp only [keys1] at hI
    rcases Nat.eq_zero_or_pos i with rfl | hp
    · rw [Nat.add_zero] at a3
      rw [if_pos (by simp [prev, newK])] at hI
      simp [h0, h3, h4, hq, a1, a2, a3, hw]
      refine appG_add (y := r[0].key) hv hle (by omega) rfl (fun v3 H3 g1 g2 g3 g4 => ?_)
      simp [h0, h3, h4, wrap1]
      exact ⟨m - 1, by omega, 1, by omega, by omega, g1, out ++ [r[0].key], g2, by rw [prev_succ hq]; simpa using hI⟩
    · have hlt : i - 1 < r.length := by omega
      have hw1 := wrapP hp (by omega)
      obtain ⟨o2, i2, ob2, e2, b1, b2, b3⟩ := ha.get hlt
      cases e2
      rw [aH] at b1
      cases b1
      have hi0 : ¬ i = 0 := by omega
      rw [prev_pos hp (by omega)] at hI
      by_cases hk : r[i - 1].key = r[i].key
      · rw [if_neg (by simp [newK, hk])] at hI
        simp [h0, h3, h4, hq, hlt, hi0, a1, a2, a3, b3, hw, hw1, hk]
        exact ⟨m - 1, by omega, i + 1, by omega, by omega, hle, out, hv, by rw [prev_succ hq]; exact hI⟩
      · rw [if_pos (by simp [newK, hk])] at hI
        simp [h0, h3, h4, hq, hlt, hi0, a1, a2, a3, b3, hw, hw1, hk]
        refine appG_add (y := r[i].key) hv hle (by omega) rfl (fun v3 H3 g1 g2 g3 g4 => ?_)
        simp [h0, h3, h4, hw]
        exact ⟨m - 1, by omega, i + 1, by omega, by omega, g1, out ++ [r[i].key], g2, by rw [prev_succ hq]; simpa using hI⟩
  · have : i = r.length := by omega
    subst this
    rw [List.drop_length] at hI
    simp only [keys1, List.append_nil] at hI
    subst hI
    simp [h3]
    exact ⟨hle, hv⟩

def entAV (o : Option Ent) : List AV := match o with | some e => [.ag (entRow e), .bool true] | none => [.ag (entRow ⟨⟨#[]⟩, 0, false, 0⟩), .bool false]
theorem l11At_ok (a : AV) (r : List Ent) (k : ByteArray) (time : Int) (H : Hp) (ha : Ents H a r) (hn : r.length < 1099511627776) :
    AC Try.prog E 75 [a, .str k, .int .i64 time] H (fun v H' => v = .tu (entAV (atR k time r)) ∧ H' = H) := by
  refine AC_byp (tC_le tab2_ok) h_spec_l11At (by unfold entAV; split <;> simp [entRow]) ?_
  have l1 := ha.len
  simp [c_spec_l11At]
  refine W_for (fun m t H' => ∃ i, i + m = r.length ∧ t 0 = a ∧ t 1 = .str k ∧ t 2 = .int .i64 time ∧ t 6 = .pt H.length 0 0 ∧ t 8 = .int .i64 (i : Nat) ∧ H' = H ++ [some ⟨[[.str ⟨#[]⟩, .int .i64 0, .bool false, .int .i64 0]], 4, 72, false⟩] ∧ atR k time (r.drop i) = atR k time r) r.length ?_ (tC_mono AC_mono) ?_
  · exact ⟨0, by simp⟩
  rintro m t H' ⟨i, him, h0, h1, h2, h6, h8, rfl, hI⟩
  simp [h0, h1, h2, h6, h8, l1, ha.slc]
  refine c_split (fun hq => ?_) (fun hq => ?_) <;> simp at hq
  · have hw := wrapN (i := i) (by omega)
    obtain ⟨o, i0, ob, rfl, aH, a2, a3⟩ := ha.get hq
    have a1 := (HLe.self H [some ⟨[[.str ⟨#[]⟩, .int .i64 0, .bool false, .int .i64 0]], 4, 72, false⟩]).2 _ _ aH
    rw [List.drop_eq_getElem_cons hq] at hI
    simp only [atR] at hI
    by_cases hk : r[i].key = k
    · by_cases ht : r[i].time ≤ time
      · rw [if_pos ⟨hk, ht⟩] at hI
        simp [h0, h1, h2, h6, h8, hq, a1, a2, a3, hw, hk, ht]
        rw [← hI]
        simp [entAV, entRow, hk]
      · rw [if_neg (fun h => ht h.2)] at hI
        simp [h0, h1, h2, h6, h8, hq, a1, a2, a3, hw, hk, ht]
        exact ⟨m - 1, by omega, i + 1, by omega, by omega, hI⟩
    · rw [if_neg (fun h => hk h.1)] at hI
      simp [h0, h1, h2, h6, h8, hq, a1, a2, a3, hw, hk]
      exact ⟨m - 1, by omega, i + 1, by omega, by omega, hI⟩
  · have : i = r.length := by omega
    subst this
    rw [List.drop_length] at hI
    rw [← hI]
    simp [h6, atR, entAV, entRow]

theorem l12Newest_ok (a b : AV) (r s : List Ent) (time : Int) (H : Hp) (ha : Ents H a r) (hb : Ents H b s) (hn : r.length < 1099511627776) (hs : s.length < 1099511627776) :
    AC Try.prog E 63 [a, b, .int .i64 time] H (fun v H' => v = .bool (newestR s time r) ∧ H' = H) := by
  refine AC_byp (tC_le tab2_ok) h_spec_l12Newest (by simp) ?_
  have l1 := ha.len
  simp [c_spec_l12Newest]
  refine W_for (fun m t H' => ∃ i, i + m = r.length ∧ t 0 = a ∧ t 1 = b ∧ t 2 = .int .i64 time ∧ t 7 = .int .i64 (i : Nat) ∧ HLe H H' ∧ newestR s time (r.drop i) = newestR s time r) r.length ?_ (tC_mono AC_mono) ?_
  · exact ⟨0, by simp⟩
  rintro m t H' ⟨i, him, h0, h1, h2, h7, hle, hI⟩
  simp [h0, h1, h2, h7, l1, ha.slc]
  refine c_split (fun hq => ?_) (fun hq => ?_) <;> simp at hq
  · have hw := wrapN (i := i) (by omega)
    obtain ⟨o, i0, ob, rfl, aH, a2, a3⟩ := ha.get hq
    have a1 := hle.2 _ _ aH
    rw [List.drop_eq_getElem_cons hq] at hI
    simp only [newestR, newE] at hI
    simp [h0, h1, h2, h7, hq, a1, a2, a3]
    refine c_split (fun hq2 => ?_) (fun hq2 => ?_) <;> simp at hq2
    · simp [hle, h0]
      rw [← hI]
      simp [show ¬ r[i].time ≤ time by omega]
    · simp [h0, h1, h2, h7, hq, a1, a2, a3]
      refine cg_use (l11At_ok b s r[i].key 999 H' (hb.le hle) hs) ?_
      simp only [hq2, decide_true, Bool.true_and] at hI
      cases hat : atR r[i].key 999 s with
      | none =>
        rw [hat] at hI
        simp [entAV, entRow, h0, h1, h2, h7, hw]
        exact ⟨m - 1, by omega, i + 1, by omega, by omega, hle.app _, by simpa using hI⟩
      | some f =>
        rw [hat] at hI
        have a1' := (HLe.self H' [some ⟨[[.str f.key, .int .i64 f.val, .bool f.gone, .int .i64 f.time]], 4, 72, false⟩]).2 _ _ a1
        by_cases hf : f.time < r[i].time
        · have hf' : ¬ r[i].time ≤ f.time := by omega
          simp [hf] at hI
          simp [entAV, entRow, h0, h1, h2, h7, hw, hq, a1', a2, a3, hf']
          exact ⟨m - 1, by omega, i + 1, by omega, by omega, hle.app _, hI⟩
        · have hf' : r[i].time ≤ f.time := by omega
          simp [hf] at hI
          simp [entAV, entRow, h0, h1, h2, h7, hw, hq, a1', a2, a3, hf']
          exact ⟨hI, hle.app _⟩
  · have : i = r.length := by omega
    subst this
    rw [List.drop_length] at hI
    rw [← hI]
    simp [hle, newestR]

theorem l12Times_ok (a : AV) (ts : List Int) (now : Int) (H : Hp) (ha : Ints H a ts) (hn : ts.length < 1099511627776) :
    AC Try.prog E 61 [a, .int .i64 now] H (fun v H' => v = .bool (timesR ts now) ∧ H' = H) := by
  refine AC_byp (tC_le tab2_ok) h_spec_l12Times (by simp) ?_
  have l1 := ha.len
  simp [c_spec_l12Times]
  refine W_for (fun m t H' => ∃ i, i + m = ts.length ∧ t 0 = a ∧ t 1 = .int .i64 now ∧ t 5 = .int .i64 (i : Nat) ∧ H' = H ∧ asc1 now (prev ts i) (ts.drop i) = asc1 now none ts) ts.length ?_ (tC_mono AC_mono) ?_
  · exact ⟨0, by simp [prev]⟩
  rintro m t H' ⟨i, him, h0, h1, h5, rfl, hI⟩
  simp [h0, h1, h5, l1, ha.slc]
  refine c_split (fun hq => ?_) (fun hq => ?_) <;> simp at hq
  · have hw := wrapN (i := i) (by omega)
    obtain ⟨o, i0, ob, rfl, a1, a2, a3⟩ := ha.get hq
    rw [List.drop_eq_getElem_cons hq] at hI
    simp only [asc1] at hI
    by_cases hin : 0 ≤ ts[i] ∧ ts[i] ≤ now
    · rcases Nat.eq_zero_or_pos i with rfl | hp
      · rw [Nat.add_zero] at a3
        simp [prev, hin.1, hin.2] at hI
        simp [h0, h1, h5, hq, a1, a2, a3, wrap1, hin.1, hin.2]
        exact ⟨m - 1, by omega, 1, by omega, by omega, by rw [prev_succ hq]; simpa using hI⟩
      · have hlt : i - 1 < ts.length := by omega
        have hw1 := wrapP hp (by omega)
        obtain ⟨o2, i2, ob2, e2, b1, b2, b3⟩ := ha.get hlt
        cases e2
        rw [a1] at b1
        cases b1
        rw [prev_pos hp (by omega)] at hI
        by_cases hk : ts[i - 1] < ts[i]
        · have hk' : ¬ ts[i] ≤ ts[i - 1] := by omega
          simp [hk, hin.1, hin.2] at hI
          simp [h0, h1, h5, hq, hlt, hp, a1, a2, a3, b3, hw, hw1, hin.1, hin.2, hk']
          exact ⟨m - 1, by omega, i + 1, by omega, by omega, by rw [prev_succ hq]; exact hI⟩
        · have hk' : ts[i] ≤ ts[i - 1] := by omega
          simp [hk, hin.1, hin.2] at hI
          simp [h0, h1, h5, hq, hlt, hp, a1, a2, a3, b3, hw, hw1, hin.1, hin.2, hk']
          simp [timesR, hI]
    · have hno : timesR ts now = false := by
        rw [timesR, ← hI]
        by_cases h : 0 ≤ ts[i]
        · simp [show ¬ ts[i] ≤ now by omega]
        · simp [h]
      simp [h0, h1, h5, hq, a1, a2, a3, hw]
      refine g_split (fun hq3 => ?_) (fun hq3 => ?_) (by simp)
      · simp [hno]
      · simp at hq3
        omega
  · have : i = ts.length := by omega
    subst this
    rw [List.drop_length] at hI
    simp only [asc1] at hI
    simp [h0, l1, ha.slc, timesR, ← hI]
    omega

theorem l12Size_ok (i : Nat) (H : Hp) (hi : i < 1000000) : AC Try.prog E 71 [.int .i64 i] H (fun v H' => v = .int .i64 (sizeL i : Nat) ∧ H' = H) := by
  refine AC_byp (tC_le tab2_ok) h_spec_l12Size (by simp) ?_
  have hw := wrapN (i := i) (by omega)
  have hw2 : IntKind.i64.wrap (8 * ((i + 1 : Nat) : Int)) = ((8 * (i + 1) : Nat) : Int) := by rw [wrap64 (by omega) (by omega)]; omega
  have hw3 : IntKind.i64.wrap (8 * ((i : Int) + 1)) = 8 * ((i : Int) + 1) := by rw [wrap64 (by omega) (by omega)]
  simp [c_spec_l12Size, hw, hw2, hw3, sizeL]

end Go.Proofs.Ytkdnijiipegabaa.B

namespace Go.Proofs.Ytkdnijiipegabaa.B
open Go.RowKit Go.Proofs
set_option linter.unusedVariables false
set_option linter.unusedSimpArgs false
variable {E : Env}

/-! ### Letters, in plain Lean -/
theorem letter_lt {k : ByteArray} {d : Nat} (h : d < k.size) : (letter k d).toNat = bt k d := by
  have hl : k.data.toList.length = k.size := Array.length_toList
  rw [bt_at (by omega), letter, dif_pos h]
  simp
theorem letter_ge {k : ByteArray} {d : Nat} (h : k.size ≤ d) : letter k d = 45 := dif_neg (by omega)
theorem keyOk_size {k : ByteArray} (h : keyOk k = true) : k.size ≤ 5 := by simp only [keyOk, decide_eq_true_eq] at h; exact h.2
theorem letter_ok {k : ByteArray} (h : keyOk k = true) (d : Nat) : letter k d = 45 ↔ k.size ≤ d := by
  constructor
  · intro e
    rcases Nat.lt_or_ge d k.size with hl | hl
    · simp only [keyOk, decide_eq_true_eq] at h
      have h1 := h.1 d hl
      rw [← letter_lt hl, e] at h1
      simp at h1
    · exact hl
  · exact letter_ge
theorem letters_inj {k k' : ByteArray} (h : keyOk k = true) (h' : keyOk k' = true) (he : ∀ i, i < 6 → letter k i = letter k' i) : k = k' := by
  have s1 := keyOk_size h
  have s2 := keyOk_size h'
  have hs : k.size = k'.size := by
    rcases Nat.lt_trichotomy k.size k'.size with hl | hl | hl
    · have := (letter_ok h k.size).2 (Nat.le_refl _)
      rw [he _ (by omega)] at this
      have := (letter_ok h' k.size).1 this
      omega
    · exact hl
    · have := (letter_ok h' k'.size).2 (Nat.le_refl _)
      rw [← he _ (by omega)] at this
      have := (letter_ok h k'.size).1 this
      omega
  apply ByteArray.ext
  apply Array.ext hs
  intro i h1 h2
  have := he i (by have : k.data.size = k.size := rfl; omega)
  have h1' : i < k.size := h1
  have h2' : i < k'.size := h2
  simpa [letter, h1', h2'] using this

/-- A fork of which sieves are made. -/
def Good (f : Fk) : Prop := f.1.Nodup ∧ (∀ k ∈ f.1, keyOk k = true) ∧ (∀ k ∈ f.1, ∀ k' ∈ f.1, ∀ i, i < f.2 → letter k i = letter k' i) ∧ (f.2 = 0 ∨ 2 ≤ f.1.length)
theorem Good.deep {f : Fk} (h : Good f) : f.2 ≤ 5 := by
  obtain ⟨ks, d⟩ := f
  obtain ⟨h1, h2, h3, h4⟩ := h
  rcases h4 with h4 | h4
  · simp only at h4 ⊢; omega
  · match ks, h1, h2, h3, h4 with
    | a :: b :: r, h1, h2, h3, _ =>
      rcases Nat.lt_or_ge 5 d with hd | hd
      · exfalso
        have : a = b := letters_inj (h2 a (by simp)) (h2 b (by simp)) (fun i hi => h3 a (by simp) b (by simp) i (by simp only; omega))
        subst this
        simp at h1
      · exact hd
theorem brs_cons (d : Nat) (k : ByteArray) (ks : List ByteArray) : brs d (k :: ks) = grp d (k :: ks) :: brs d ((k :: ks).drop (grp d (k :: ks)).length) := by rw [brs]
theorem grp_sub (d : Nat) (ks : List ByteArray) : (grp d ks).Sublist ks := by
  unfold grp
  split
  · exact List.Sublist.refl _
  · exact List.filter_sublist
theorem grp_same {d : Nat} {ks : List ByteArray} {a b : ByteArray} (ha : a ∈ grp d ks) (hb : b ∈ grp d ks) : letter a d = letter b d := by
  unfold grp at ha hb
  split at ha
  · simp at ha
  · simp only [List.mem_filter, beq_iff_eq] at ha hb
    rw [ha.2, hb.2]
theorem brs_sub : ∀ (n : Nat) (d : Nat) (ks : List ByteArray), ks.length ≤ n → ∀ g ∈ brs d ks, ∃ ks', ks'.Sublist ks ∧ g = grp d ks' := by
  intro n
  induction n with
  | zero =>
    intro d ks hn g hg
    have : ks = [] := List.length_eq_zero_iff.1 (by omega)
    subst this
    simp [brs] at hg
  | succ n ih =>
    intro d ks hn g hg
    cases ks with
    | nil => simp [brs] at hg
    | cons k ks =>
      rw [brs_cons] at hg
      rcases List.mem_cons.1 hg with rfl | hg
      · exact ⟨_, List.Sublist.refl _, rfl⟩
      · have hp := grp_pos d k ks
        obtain ⟨ks', h1, h2⟩ := ih d _ (by simp only [List.length_drop, List.length_cons] at hn ⊢; omega) g hg
        exact ⟨ks', h1.trans (List.drop_sublist _ _), h2⟩
theorem brs_sum : ∀ (n : Nat) (d : Nat) (ks : List ByteArray), ks.length ≤ n → ((brs d ks).map List.length).sum = ks.length ∧ (brs d ks).length ≤ ks.length := by
  intro n
  induction n with
  | zero =>
    intro d ks hn
    have : ks = [] := List.length_eq_zero_iff.1 (by omega)
    subst this
    simp [brs]
  | succ n ih =>
    intro d ks hn
    cases ks with
    | nil => simp [brs]
    | cons k ks =>
      rw [brs_cons]
      have hp := grp_pos d k ks
      have hs := (grp_sub d (k :: ks)).length_le
      obtain ⟨h1, h2⟩ := ih d ((k :: ks).drop (grp d (k :: ks)).length) (by simp only [List.length_drop, List.length_cons] at hn ⊢; omega)
      simp only [List.map_cons, List.sum_cons, h1, List.length_cons, List.length_drop] at h2 hs hp ⊢
      omega
def mu (q : List Fk) : Nat := (q.map fun f => 1 + 2 * f.1.length * (7 - f.2)).sum
theorem mu_subs (d : Nat) (gs : List (List ByteArray)) : mu (subs d gs) ≤ (gs.map List.length).sum + 2 * (gs.map List.length).sum * (6 - d) := by
  induction gs with
  | nil => simp [subs, mu]
  | cons g gs ih =>
    have e : mu (subs d (g :: gs)) = (if many g = true then 1 + 2 * g.length * (7 - (d + 1)) else 0) + mu (subs d gs) := by
      unfold subs mu
      rw [List.filter_cons]
      split <;> simp
    rw [e]
    simp only [List.map_cons, List.sum_cons]
    have h7 : 7 - (d + 1) = 6 - d := by omega
    rw [h7]
    have : (if many g = true then 1 + 2 * g.length * (6 - d) else 0) ≤ g.length + 2 * g.length * (6 - d) := by
      split
      · rename_i h
        simp only [many, decide_eq_true_eq] at h
        omega
      · omega
    rw [Nat.mul_add, Nat.add_mul]
    omega
theorem mu_step {ks : List ByteArray} {d : Nat} {q : List Fk} (h : Good (ks, d)) : mu (q ++ subs d (brs d ks)) < mu ((ks, d) :: q) := by
  have hd : d ≤ 5 := h.deep
  have h1 := mu_subs d (brs d ks)
  rw [(brs_sum ks.length d ks (Nat.le_refl _)).1] at h1
  have e1 : mu (q ++ subs d (brs d ks)) = mu q + mu (subs d (brs d ks)) := by simp [mu]
  have e2 : mu ((ks, d) :: q) = 1 + 2 * ks.length * (7 - d) + mu q := by simp [mu]
  rw [e1, e2]
  have e3 : 7 - d = (6 - d) + 1 := by omega
  rw [e3, Nat.mul_add]
  omega
theorem Good.subs {ks : List ByteArray} {d : Nat} (h : Good (ks, d)) : ∀ f ∈ subs d (brs d ks), Good f := by
  intro f hf
  simp only [B.subs, List.mem_map, List.mem_filter] at hf
  obtain ⟨g, ⟨hg, hm⟩, rfl⟩ := hf
  obtain ⟨ks', h1, rfl⟩ := brs_sub ks.length d ks (Nat.le_refl _) g hg
  have hs := (grp_sub d ks').trans h1
  refine ⟨h.1.sublist hs, fun k hk => h.2.1 k (hs.subset hk), fun k hk k' hk' i hi => ?_, .inr ?_⟩
  · rcases Nat.lt_or_ge i d with hl | hl
    · exact h.2.2.1 k (hs.subset hk) k' (hs.subset hk') i hl
    · have : i = d := by simp only at hi; omega
      subst this
      exact grp_same hk hk'
  · have h9 : 1 < (grp d ks').length := by simpa [many] using hm
    exact h9
theorem keysOk_good {ks : List ByteArray} (h : keysOk ks = true) : Good (ks, 0) ∧ ks.length ≤ 24 := by
  simp only [keysOk, decide_eq_true_eq] at h
  obtain ⟨h1, h2⟩ := h
  have key : ∀ k ∈ ks, keyOk k = true := by
    intro k hk
    obtain ⟨i, hi, rfl⟩ := List.mem_iff_getElem.1 hk
    exact (h1 i hi).1
  have asc : ∀ (j i : Nat) (hi : i < ks.length) (hj : j < i), sless (ks[j]'(by omega)) ks[i] = true := by
    intro j i
    induction i with
    | zero => intro _ hj; omega
    | succ i ih =>
      intro hi hj
      have hs := (h1 (i + 1) hi).2 (by omega)
      simp only [Nat.add_sub_cancel] at hs
      rcases Nat.lt_or_ge j i with hl | hl
      · exact sless_trans (ih (by omega) hl) hs
      · have : j = i := by omega
        subst this
        exact hs
  refine ⟨⟨?_, key, fun _ _ _ _ i hi => absurd hi (Nat.not_lt_zero _), .inl rfl⟩, h2⟩
  rw [List.Nodup, List.pairwise_iff_getElem]
  intro i j hi hj hij e
  have := asc i j hj hij
  rw [e, sless_irrefl] at this
  cases this

end Go.Proofs.Ytkdnijiipegabaa.B

namespace Go.Proofs.Ytkdnijiipegabaa.B
open Go.RowKit Go.Proofs
set_option linter.unusedVariables false
set_option linter.unusedSimpArgs false
variable {E : Env}

theorem extract1 {k : ByteArray} {d : Nat} (h : d < k.size) : k.extract d (d + 1) = lit1 (letter k d) := by
  apply ByteArray.ext
  apply Array.ext
  · simp [lit1, ByteArray.data_extract]
    have : k.data.size = k.size := rfl
    omega
  · intro i h1 h2
    have : i = 0 := by simp [lit1] at h2; omega
    subst this
    simp [lit1, letter, h, ByteArray.data_extract]

theorem l3Letter_ok (k : ByteArray) (d : Nat) (H : Hp) (hd : d < 4611686018427387904) : AC Try.prog E 94 [.str k, .int .i64 d] H (fun v H' => v = .str (lit1 (letter k d)) ∧ H' = H) := by
  refine AC_byp (tC_le tab2_ok) h_spec_l3Letter (by simp) ?_
  have hw := wrapN (i := d) (by omega)
  simp [c_spec_l3Letter]
  refine c_split (fun hq => ?_) (fun hq => ?_) <;> simp at hq <;> simp [hw]
  · rw [letter_ge hq]
    rfl
  · have ht : ((d : Int) + 1).toNat = d + 1 := by omega
    have e := extract1 hq
    simp [ht, e]
    omega

theorem restK_ge {k : ByteArray} {d : Nat} (h : k.size ≤ d) (keep : Int) : restK k d keep = ⟨#[]⟩ := by
  apply ByteArray.ext
  apply Array.ext
  · simp [restK, ByteArray.data_extract]
    have : k.data.size = k.size := rfl
    omega
  · intro i h1 h2
    simp at h2
theorem restK_size (k : ByteArray) (d : Nat) (keep : Int) : (restK k d keep).size ≤ k.size := by
  unfold restK
  simp
  omega
theorem l3Rest_ok (k : ByteArray) (d : Nat) (keep : Int) (H : Hp) (hd : d < 4611686018427387904) (hk : 0 ≤ keep) : AC Try.prog E 95 [.str k, .int .i64 d, .int .i64 keep] H (fun v H' => v = .str (restK k d keep) ∧ H' = H) := by
  refine AC_byp (tC_le tab2_ok) h_spec_l3Rest (by simp) ?_
  simp [c_spec_l3Rest]
  refine c_split (fun hq => ?_) (fun hq => ?_) <;> simp at hq <;> simp
  · exact (restK_ge hq _).symm
  · have e : (k.size : Int) - d = ((k.size - d : Nat) : Int) := by omega
    trace_state
    have e2 : ∀ z : Int, z = min ((k.size - d : Nat) : Int) keep → (k.extract d k.size).extract 0 z.toNat = restK k d keep := by
      intro z hz
      unfold restK
      congr 1
      omega
    refine ⟨by omega, ?_, e2 _ ?_⟩
    · split <;> omega
    · split <;> omega

/-- The name of a fork's row. -/
def FkRow (H : Hp) (row : List AV) (f : Fk) : Prop := ∃ u, row = [u, .int .i64 f.2] ∧ Strs H u f.1
def All2 {α β : Type} (P : α → β → Prop) : List α → List β → Prop
  | [], [] => True
  | a :: xs, b :: ys => P a b ∧ All2 P xs ys
  | _, _ => False
theorem All2.length {α β : Type} {P : α → β → Prop} : ∀ {xs : List α} {ys : List β}, All2 P xs ys → xs.length = ys.length
  | [], [], _ => rfl
  | _ :: _, _ :: _, h => by rw [List.length_cons, List.length_cons, All2.length h.2]
theorem All2.mono {α β : Type} {P Q : α → β → Prop} (hpq : ∀ a b, P a b → Q a b) : ∀ {xs : List α} {ys : List β}, All2 P xs ys → All2 Q xs ys
  | [], [], _ => trivial
  | _ :: _, _ :: _, h => ⟨hpq _ _ h.1, All2.mono hpq h.2⟩
theorem All2.append {α β : Type} {P : α → β → Prop} : ∀ {xs : List α} {ys : List β} {xs' : List α} {ys' : List β}, All2 P xs ys → All2 P xs' ys' → All2 P (xs ++ xs') (ys ++ ys')
  | [], [], _, _, _, h => h
  | _ :: _, _ :: _, _, _, h, k => ⟨h.1, All2.append h.2 k⟩
theorem All2.get {α β : Type} {P : α → β → Prop} : ∀ {xs : List α} {ys : List β}, All2 P xs ys → ∀ (i : Nat) (h : i < xs.length) (h' : i < ys.length), P xs[i] ys[i]
  | _ :: _, _ :: _, h, 0, _, _ => h.1
  | _ :: _, _ :: _, h, i + 1, h1, h2 => All2.get h.2 i (by simpa using h1) (by simpa using h2)
theorem All2.drop {α β : Type} {P : α → β → Prop} : ∀ {xs : List α} {ys : List β}, All2 P xs ys → ∀ n, All2 P (xs.drop n) (ys.drop n)
  | _, _, h, 0 => h
  | [], [], _, _ + 1 => trivial
  | _ :: _, _ :: _, h, n + 1 => All2.drop h.2 n
theorem All2.set {α β : Type} {P : α → β → Prop} : ∀ {xs : List α} {ys : List β}, All2 P xs ys → ∀ (i : Nat) {a : α} {b : β}, P a b → All2 P (xs.set i a) (ys.set i b)
  | [], [], _, _, _, _, _ => trivial
  | _ :: _, _ :: _, h, 0, _, _, p => ⟨p, h.2⟩
  | _ :: _, _ :: _, h, i + 1, _, _, p => ⟨h.1, All2.set h.2 i p⟩

theorem app2 (H : Hp) (a b : Option Ob) : H ++ [a] ++ [b] = H ++ [a, b] := by simp
theorem l3Group_ok (u : AV) (ks : List ByteArray) (d : Nat) (H : Hp) (hu : Strs H u ks) (hn : ks.length < 1099511627776) (hd : d < 4611686018427387904) :
    AC Try.prog E 93 [.ag [u, .int .i64 d]] H (fun v H' => HLe H H' ∧ OwnS H H' v (grp d ks)) := by
  refine AC_by fol (tC_le tab2_ok) h_spec_l3Group ?_
  have l1 := hu.len
  simp [c_spec_l3Group, hu.cells, hu.cells1, hu.one]
  obtain ⟨H1, hH1⟩ : ∃ H1, H1 = H ++ [some ⟨[[u, .int .i64 d]], 2, 125, false⟩] := ⟨_, rfl⟩
  have hbx : H1.at H.length = some ⟨[[u, .int .i64 d]], 2, 125, false⟩ := by rw [hH1]; simp
  have hle1 : HLe H H1 := hH1 ▸ HLe.self _ _
  refine W_for (fun m t H' => ∃ i out v, i + m = ks.length ∧ t 1 = .pt H.length 0 0 ∧ t 3 = v ∧ t 4 = .int .i64 (i : Nat) ∧ HLe H1 H' ∧ OwnS H1 H' v out ∧ (∀ k0 r, ks = k0 :: r → out ++ (ks.drop i).filter (fun x => letter x d == letter k0 d) = grp d ks) ∧ out.length ≤ i) ks.length ?_ (tC_mono AC_mono) ?_
  · refine ⟨0, [], _, by simp, by simp, rfl, by simp, ?_, ?_, fun k0 r e => by subst e; simp [grp], Nat.le_refl _⟩
    · rw [hH1, ← app2]; exact HLe.self _ _
    · rw [hH1]
      refine ⟨Own.obj (R := []) ?_ rfl, fun o ho => ?_⟩
      · simp
      · simp at ho ⊢; omega
  rintro m t H' ⟨i, out, v, him, h1, h3, h4, hle, hv, hI, hol⟩
  have hb := hle.2 _ _ hbx
  have hle2 := hle1.trans hle
  simp [h1, h3, h4, hb, l1, hu.slc]
  refine c_split (fun hq => ?_) (fun hq => ?_) <;> simp at hq
  · have hw := wrapN (i := i) (by omega)
    obtain ⟨k0, r, hks⟩ : ∃ k0 r, ks = k0 :: r := by
      cases ks with
      | nil => simp at hq
      | cons a b => exact ⟨a, b, rfl⟩
    have h0 : 0 < ks.length := by omega
    obtain ⟨o, i0, ob, rfl, aH, a2, a3⟩ := hu.get hq
    obtain ⟨o2, i2, ob2, e2, bH, b2, b3⟩ := hu.get h0
    cases e2
    rw [aH] at bH
    cases bH
    rw [Nat.add_zero] at b3
    have a1 := hle2.2 _ _ aH
    have hk0 : ks[0] = k0 := by simp [hks]
    have hI' := hI k0 r hks
    rw [List.drop_eq_getElem_cons hq, List.filter_cons] at hI'
    simp [h1, h3, h4, hb, hq, h0, a1, a2, a3, b3]
    refine cg_use (l3Letter_ok ks[i] d H' hd) ?_
    simp [h1, h3, h4, hb, hq, h0, a1, a2, a3, b3]
    refine cg_use (l3Letter_ok ks[0] d H' hd) ?_
    simp [h1, h3, h4, hb, hq, h0, a1, a2, a3, b3]
    have hlit : (lit1 (letter ks[i] d) = lit1 (letter ks[0] d)) ↔ letter ks[i] d = letter k0 d := by
      rw [hk0]
      constructor
      · intro h
        have := congrArg ByteArray.data h
        simpa [lit1] using this
      · intro h; rw [h]
    refine c_split (fun hq2 => ?_) (fun hq2 => ?_) <;> simp at hq2
    · rw [hlit] at hq2
      rw [if_pos (by simpa using hq2)] at hI'
      simp [h1, h3, h4, hb, hq, h0, a1, a2, a3, b3]
      refine appG_add (y := ks[i]) hv hle (by omega) rfl (fun v3 H3 g1 g2 g3 g4 => ?_)
      simp [h1, h3, h4, hw]
      refine ⟨m - 1, by omega, i + 1, by omega, by omega, g1, out ++ [ks[i]], g2, fun k1 r1 e => ?_, by simp; omega⟩
      rw [hks] at e
      cases e
      simpa using hI'
    · rw [hlit] at hq2
      rw [if_neg (by simpa using hq2)] at hI'
      simp [h1, h3, h4, hw]
      refine ⟨m - 1, by omega, i + 1, by omega, by omega, hle, out, hv, fun k1 r1 e => ?_, by omega⟩
      rw [hks] at e
      cases e
      exact hI'
  · have : i = ks.length := by omega
    subst this
    simp [h3]
    refine ⟨hle2, ?_⟩
    have hv2 := hv.base hle1.1
    cases hks : ks with
    | nil =>
      have : out = [] := List.length_eq_zero_iff.1 (by rw [hks] at hol; simpa using hol)
      subst this
      simpa [grp] using hv2
    | cons k0 r =>
      have := hI k0 r hks
      rw [List.drop_length] at this
      simp at this
      rw [← hks, ← this]
      exact hv2

end Go.Proofs.Ytkdnijiipegabaa.B

namespace Go.Proofs.Ytkdnijiipegabaa.B
open Go.RowKit Go.Proofs
set_option linter.unusedVariables false
set_option linter.unusedSimpArgs false
variable {E : Env}

/-- A fork's row; its keys are not in some objects. -/
def FkR (H : Hp) (X : Nat → Prop) (row : List AV) (f : Fk) : Prop := ∃ u, row = [u, .int .i64 f.2] ∧ Strs H u f.1 ∧ ∀ x, u.of x → ¬ X x
theorem FkR.fr {S X X' : Nat → Prop} {H H' : Hp} {row : List AV} {f : Fk} (h : FkR H X row f) (hf : Fr S H H') (hs : ∀ x ob, S x → H.at x = some ob → ob.esz ≠ 1 ∨ X x) (hx : ∀ x, x < H.length → X' x → X x) : FkR H' X' row f := by
  obtain ⟨u, h1, h2, h3⟩ := h
  refine ⟨u, h1, ?_, fun x hu hx' => h3 x hu (hx x (Rows.lt h2 hu) hx')⟩
  rcases h2 with h | h | ⟨o', i, ob, rfl, a2, a3, a4⟩
  · exact .inl h
  · exact .inr (.inl h)
  · exact .inr (.inr ⟨o', i, ob, rfl, hf.2 _ _ (fun hh => (hs o' ob hh a2).elim (fun hne => hne a3) (fun hX => h3 o' rfl hX)) a2, a3, a4⟩)
theorem grp_head (d : Nat) (k : ByteArray) (ks : List ByteArray) : ∃ r, grp d (k :: ks) = k :: r := by simp [grp]
theorem addBs_cons (d : Nat) (b : Bool) (s : Sv) (g : List ByteArray) (gs : List (List ByteArray)) : addBs d b s (g :: gs) = addBs d false (addB d b s g) gs := rfl
theorem subs_cons (d : Nat) (g : List ByteArray) (gs : List (List ByteArray)) : subs d (g :: gs) = (if many g = true then [(g, d + 1)] else []) ++ subs d gs := by
  unfold subs
  rw [List.filter_cons]
  split <;> simp

theorem Fr.one (H : Hp) (o : Nat) (x : Option Ob) : Fr (fun y => y = o) H (List.set H o x) := (Fr.refl (fun y => y = o) H).set (.inl rfl) x
theorem appG_one' {ety esz bytes n : Nat} {x : AV} {row : List AV} {H : Hp} {R : List (List AV)} {C : CallP} {d : Option Nat} {ag : List (Option Nat × AOp × Option (Nat × Bool))} {p : Plan} {t : Tm} {K : Tm → Hp → Prop}
    (hl : n = H.length) (hx : Own esz ety H x R) (hb : (R.length + 1) * bytes ≤ 140737488355328)
    (hk : ∀ v H', Own esz ety H' v (R ++ [row]) → Fr x.of H H' → (∀ o, v.of o → x.of o ∨ H.length ≤ o) → againG ag (updO t d v) H' ∧ RgP C p (updO t d v) H' K) :
    appG x (.sl n 0 1) ety esz bytes C d ag p t (H ++ [some ⟨[row], esz, ety, false⟩]) K := by
  subst hl
  exact appG_one hx hb hk

theorem Rows.ne_of {esz : Nat} {H : Hp} {v : AV} {R : List (List AV)} (h : Rows esz H v R) {o : Nat} {ob : Ob} (ho : H.at o = some ob) (he : ob.esz ≠ esz) {x : Nat} (hx : v.of x) : x ≠ o := by
  rcases h with ⟨rfl, _⟩ | ⟨rfl, _⟩ | ⟨o', i, ob', rfl, a2, a3, _⟩
  · exact hx.elim
  · exact hx.elim
  · rintro rfl
    have : o' = x := hx
    subst this
    rw [ho] at a2
    cases a2
    exact he a3
theorem Rows.apart {e1 e2 : Nat} {H : Hp} {v w : AV} {R1 R2 : List (List AV)} (h : Rows e1 H v R1) (k : Rows e2 H w R2) (he : e1 ≠ e2) {x : Nat} (hx : v.of x) : ¬ w.of x := by
  intro hw
  rcases k with ⟨rfl, _⟩ | ⟨rfl, _⟩ | ⟨o', i, ob', rfl, a2, a3, _⟩
  · exact hw.elim
  · exact hw.elim
  · have : o' = x := hw
    subst this
    exact h.ne_of a2 (by rw [a3]; exact he.symm) hx rfl

theorem l3Put_ok (s : Sv) (r u : AV) (ks : List ByteArray) (d : Nat) (H0 H : Hp) (hr : OwnS H0 H r s.r) (hu : Strs H u ks) (hne : ∀ x, u.of x → ¬ r.of x) (h0H : H0.length ≤ H.length)
    (hB : s.l.size < 549755813888 ∧ s.m.size < 549755813888 ∧ s.f.size < 549755813888 ∧ s.r.length < 549755813888) (hn : ks.length < 1073741824) (hd : d < 1099511627776) (hk : 0 ≤ s.k) :
    AC Try.prog E 85 [.ag [.str s.l, .str s.m, .str s.f, r, .int .i64 s.k], .ag [u, .int .i64 d]] H (fun v H' => ∃ s', s' = addBs d true s (brs d ks) ∧ ∃ r' w rows, v = .tu [.ag [.str s'.l, .str s'.m, .str s'.f, r', .int .i64 s'.k], w] ∧
      OwnS H0 H' r' s'.r ∧ Own 2 125 H' w rows ∧ (∀ o, w.of o → H.length ≤ o) ∧ All2 (FkR H' r'.of) rows (subs d (brs d ks)) ∧ Fr r.of H H' ∧ (∀ o, r'.of o → r.of o ∨ H.length ≤ o) ∧
      s'.k = s.k ∧ s'.l.size ≤ s.l.size + ks.length ∧ s'.m.size ≤ s.m.size + ks.length ∧ s'.f.size ≤ s.f.size + ks.length ∧ s'.r.length ≤ s.r.length + ks.length) := by
  refine AC_by fol (tC_le tab2_ok) h_spec_l3Put ?_
  simp [c_spec_l3Put, hr.rows.cells, hr.rows.cells1, hr.rows.one, hu.cells, hu.cells1, hu.one]
  have hrlt : ∀ x, r.of x → x < H.length := fun x hx => hr.1.lt hx
  refine W_for (fun m t H' => ∃ s1 r1 rem u1 nx nrows fs b, m = rem.length ∧ t 2 = .pt H.length 0 0 ∧ t 3 = .pt (H.length + 1) 0 0 ∧ t 4 = .pt (H.length + 2) 0 0 ∧ t 6 = nx ∧ t 7 = .str (lit1 (if b = true then 49 else 48)) ∧
      H'.at H.length = some ⟨[[.str s1.l, .str s1.m, .str s1.f, r1, .int .i64 s1.k]], 5, 103, false⟩ ∧ H'.at (H.length + 1) = some ⟨[[u1, .int .i64 d]], 2, 125, false⟩ ∧
      (∃ x1 x2 x3 x4 x5, H'.at (H.length + 2) = some ⟨[[x1, x2, x3, x4, x5]], 5, 103, false⟩) ∧
      Strs H' u1 rem ∧ OwnS H0 H' r1 s1.r ∧ (∀ x, u1.of x → ¬ r1.of x) ∧ Own 2 125 H' nx nrows ∧ (∀ o, nx.of o → H.length + 3 ≤ o) ∧ All2 (FkR H' r1.of) nrows fs ∧ Fr r.of H H' ∧ (∀ o, r1.of o → r.of o ∨ H.length + 3 ≤ o) ∧
      addBs d b s1 (brs d rem) = addBs d true s (brs d ks) ∧ fs ++ subs d (brs d rem) = subs d (brs d ks) ∧ s1.k = s.k ∧ s1.l.size + rem.length ≤ s.l.size + ks.length ∧ s1.m.size + rem.length ≤ s.m.size + ks.length ∧ s1.f.size + rem.length ≤ s.f.size + ks.length ∧ s1.r.length + rem.length ≤ s.r.length + ks.length ∧ nrows.length + rem.length ≤ ks.length) ks.length ?_ (tC_mono AC_mono) ?_
  · refine ⟨s, r, ks, u, _, [], [], true, rfl, by simp, by simp, by simp, by simp; rfl, by simp; rfl, by simp, by simp, ⟨.str ⟨#[]⟩, .str ⟨#[]⟩, .str ⟨#[]⟩, .nils, .int .i64 0, by simp⟩, hu.le (HLe.self _ _), hr.le (HLe.self _ _), hne, Own.obj (R := []) (by simp) rfl, by simp, trivial, (HLe.self _ _).fr, fun o h => .inl h, rfl, rfl, rfl, Nat.le_refl _, Nat.le_refl _, Nat.le_refl _, Nat.le_refl _, by simp⟩
  rintro m t H' ⟨s1, r1, rem, u1, nx, nrows, fs, b, rfl, h2, h3, h4, h6, h7, hb2, hb3, ⟨x1, x2, x3, x4, x5, hb4⟩, hu1, hr1, hne1, hnx, hnxa, hfs, hfr, hr1a, hI1, hI2, hI3, hI4, hI5, hI6, hI7, hI8⟩
  have l1 := hu1.len
  simp [h2, h3, h4, h6, h7, hb3, l1, hu1.slc]
  refine c_split (fun hq => ?_) (fun hq => ?_) <;> simp at hq
  · obtain ⟨k0, rt, rfl⟩ : ∃ k0 rt, rem = k0 :: rt := by
      cases rem with
      | nil => simp at hq
      | cons a b => exact ⟨a, b, rfl⟩
    obtain ⟨gt, hg⟩ := grp_head d k0 rt
    have hgs := (grp_sub d (k0 :: rt)).length_le
    have hgp := grp_pos d k0 rt
    rw [brs_cons, addBs_cons] at hI1
    rw [brs_cons, subs_cons] at hI2
    generalize hgg : grp d (k0 :: rt) = g at hg hgs hgp hI1 hI2
    have hlim : s1.l.size < 1099511627776 ∧ s1.m.size < 1099511627776 ∧ s1.f.size < 1099511627776 ∧ s1.r.length < 1099511627776 ∧ nrows.length < 1099511627776 := by
      simp only [List.length_cons] at hI4 hI5 hI6 hI7 hI8
      omega
    simp [h2, h3, h4, h6, h7, hb3]
    refine cg_ex (l3Group_ok u1 (k0 :: rt) d H' hu1 (by simp only [List.length_cons] at hI8 ⊢; omega) (by omega)) ?_
    rintro v8 H2 ⟨hle2, hv8⟩
    rw [hgg] at hv8
    have hb2' := hle2.2 _ _ hb2
    have hb3' := hle2.2 _ _ hb3
    have hb4' := hle2.2 _ _ hb4
    have hH' := hfr.len
    obtain ⟨o8, i8, ob8, hv8e, c1, c2, c3⟩ := hv8.strs.get hgp
    rw [Nat.add_zero] at c3
    have hg0 : g[0] = k0 := by simp [hg]
    rw [hg0] at c3
    have ho8 : H'.length ≤ o8 := hv8.2 o8 (by rw [hv8e]; rfl)
    simp [h2, h3, h4, h6, h7, hb2', hb3', hv8e, c1, c2, c3, hgp]
    refine cg_use (l3Letter_ok k0 d H2 (by omega)) ?_
    have e1 : ∀ c : UInt8, (lit1 c).size = 1 := fun _ => rfl
    have hw := wrapN (i := d) (by omega)
    have hlt2 := Hp.at_lt hb2'
    have hlt3 := Hp.at_lt hb3'
    have n1 : H.length ≠ H.length + 1 := by omega
    have n2 : H.length ≠ H.length + 2 := by omega
    have n3 : H.length + 1 ≠ H.length := by omega
    have n4 : H.length ≠ o8 := by have := Hp.at_lt hb4; omega
    simp [h2, h3, h4, h6, h7, hb2', hb3', c1, c2, c3, hgp, e1, Hp.at_set _ hlt2, Hp.at_set_ne n4]
    refine ⟨by omega, by omega, ?_⟩
    have hs2 : addB d b s1 g = { s1 with l := s1.l ++ lit1 (letter k0 d), f := s1.f ++ lit1 (if b = true then 49 else 48), m := s1.m ++ lit1 (if many g = true then 49 else 48), r := if many g = true then s1.r else s1.r ++ [restK k0 (d + 1) s1.k] } := by
      simp [addB, hg]
    refine c_split (fun hq2 => ?_) (fun hq2 => ?_) <;> simp at hq2
    · have hm : many g = true := by simp [many]; omega
      rw [hm] at hs2 hI2
      simp [h2, h3, h4, h6, h7, hb2', hb3', c1, c2, c3, hgp, e1, Hp.at_set _ hlt2, Hp.at_set_ne n1, hw]
      have e1' : (⟨#[49]⟩ : ByteArray).size = 1 := rfl
      refine ⟨by omega, ?_⟩
      refine appG_one' (R := nrows) (by simp) ((hnx.le hle2).fr (Fr.one _ _ _) (fun x hx => by have := hnxa x hx; omega)) (by omega) (fun v9 H4 g1 g2 g3 => ?_)
      have hls : (List.set H2 H.length (some ⟨[[.str (s1.l ++ lit1 (letter k0 d)), .str (s1.m ++ ⟨#[49]⟩), .str (s1.f ++ lit1 (if b = true then 49 else 48)), r1, .int .i64 s1.k]], 5, 103, false⟩)).length = H2.length := by simp
      have d2 := g2.2 H.length _ (fun hx => by have := hnxa _ hx; omega) (Hp.at_set _ hlt2)
      have d3 := g2.2 (H.length + 1) _ (fun hx => by have := hnxa _ hx; omega) (by rw [Hp.at_set_ne n1]; exact hb3')
      have d4 := g2.2 (H.length + 2) _ (fun hx => by have := hnxa _ hx; omega) (by rw [Hp.at_set_ne n2]; exact hb4')
      have d8 := g2.2 o8 _ (fun hx => by have := hnx.lt hx; omega) (by rw [Hp.at_set_ne n4]; exact c1)
      have dl3 := Hp.at_lt d3
      have hF4 : Fr (fun x => x = H.length ∨ x = H.length + 1 ∨ nx.of x) H' H4 := ((hle2.fr.set (.inl (.inl rfl)) _).trans g2 (fun x hx => .inl (.inr (.inr hx))))
      have hu4 : Strs H4 u1 (k0 :: rt) := hu1.fr hF4 (fun x hx hs => by
        rcases hs with h | h | h
        · exact hu1.ne_of hb2 (by simp) hx h
        · exact hu1.ne_of hb3 (by simp) hx h
        · exact hu1.apart hnx.rows (by simp) hx h)
      simp [h2, h3, h4, h6, h7, d3]
      refine cutG_from hu4 g.length rfl (by simpa using hgs) (fun u9 w1 w2 => ?_)
      rw [← List.map_drop] at w1
      simp [h3, d3, hls, w1.one, w1.cells, w1.cells1]
      have hF5 := hF4.set (.inl (.inr (.inl rfl))) (some ⟨[[u9, .int .i64 d]], 2, 125, false⟩)
      have hst := Fr.one H4 (H.length + 1) (some ⟨[[u9, .int .i64 d]], 2, 125, false⟩)
      have w1' : Strs H4 u9 ((k0 :: rt).drop g.length) := w1
      have nr : ∀ x, r1.of x → ¬ (x = H.length ∨ x = H.length + 1 ∨ nx.of x) := fun x hx hs => by
        rcases hs with h | h | h
        · exact hr1.rows.ne_of hb2 (by simp) hx h
        · exact hr1.rows.ne_of hb3 (by simp) hx h
        · exact hr1.rows.apart hnx.rows (by simp) hx h
      have nSz : ∀ x ob, (x = H.length ∨ x = H.length + 1 ∨ nx.of x) → H'.at x = some ob → ob.esz ≠ 1 ∨ r1.of x := fun x ob hs ho => .inl (by
        rcases hs with h | h | h
        · subst h; rw [hb2] at ho; cases ho; simp
        · subst h; rw [hb3] at ho; cases ho; simp
        · intro e
          rcases hnx with ⟨rfl, _⟩ | ⟨rfl, _⟩ | ⟨o', ob', rfl, a2, a3, a4, a5⟩
          · exact h.elim
          · exact h.elim
          · have : o' = x := h
            subst this
            rw [ho] at a2
            cases a2
            omega)
      have hdl : ((k0 :: rt).drop g.length).length + g.length = rt.length + 1 := by
        simp only [List.length_drop, List.length_cons] at hgs ⊢
        omega
      have v9a : ∀ o, v9.of o → H.length + 3 ≤ o := fun o ho => by
        rcases g3 o ho with h | h
        · exact hnxa o h
        · have := Hp.at_lt hb4'
          rw [hls] at h
          omega
      have ss : (addB d b s1 g).l = s1.l ++ lit1 (letter k0 d) ∧ (addB d b s1 g).m = s1.m ++ ⟨#[49]⟩ ∧ (addB d b s1 g).f = s1.f ++ lit1 (if b = true then 49 else 48) ∧ (addB d b s1 g).r = s1.r ∧ (addB d b s1 g).k = s1.k := by
        rw [hs2]
        exact ⟨rfl, rfl, rfl, rfl, rfl⟩
      obtain ⟨sl, sm, sf, sr, sk⟩ := ss
      have hsl : (addB d b s1 g).l.size = s1.l.size + 1 := by rw [sl, ByteArray.size_append]; rfl
      have hsm : (addB d b s1 g).m.size = s1.m.size + 1 := by rw [sm, ByteArray.size_append]; rfl
      have hsf : (addB d b s1 g).f.size = s1.f.size + 1 := by rw [sf, ByteArray.size_append]; rfl
      simp only [List.length_cons] at hI4 hI5 hI6 hI7 hI8
      have hv8' : Strs H4 (.sl o8 i8 g.length) g := by
        rw [← hv8e]
        exact ((hv8.strs.fr (Fr.one H2 H.length _) (fun x hx => by have := hv8.2 x hx; have := Hp.at_lt hb4; omega)).fr g2 (fun x hx h => by have := hv8.2 x hx; have := hnx.lt h; omega))
      refine ⟨_, ?_, addB d b s1 g, r1, (k0 :: rt).drop g.length, rfl, h2, h4, u9, nrows ++ [[AV.sl o8 i8 g.length, AV.int IntKind.i64 ((d : Int) + 1)]], fs ++ [(g, d + 1)], .inl ⟨rfl, ?_, ?_, ⟨x1, x2, x3, x4, x5, ?_⟩, ?_, ?_, fun x hx => hne1 x (w2 x hx), ?_, v9a, ?_, hfr.trans hF5 ?_, hr1a, hI1, ?_, ?_, ?_, ?_, ?_, ?_, ?_⟩⟩
      · omega
      · rw [Hp.at_set_ne n3, d2, sl, sm, sf, sk]
      · exact Hp.at_set _ dl3
      · rw [Hp.at_set_ne (by omega)]; exact d4
      · exact w1'.fr hst (fun x hx h => hu4.ne_of d3 (by simp) (w2 x hx) h)
      · rw [sr]
        exact hr1.fr hF5 nr
      · exact g1.fr hst (fun x hx => by have := v9a x hx; omega)
      · refine (All2.mono (fun row f h => h.fr hF5 nSz (fun x _ h => h)) hfs).append ⟨⟨.sl o8 i8 g.length, rfl, ?_, fun x hx hr => ?_⟩, trivial⟩
        · exact hv8'.fr hst (fun x hx h => by have : o8 = x := hx; have := Hp.at_lt hb4; omega)
        · have : o8 = x := hx
          have := hr1.1.lt hr
          omega
      · exact fun x hx => by
          rcases hx with h | h | h
          · exact .inr (by omega)
          · exact .inr (by omega)
          · exact .inr (by have := hnxa x h; omega)
      · simpa using hI2
      · rw [sk]; exact hI3
      · omega
      · omega
      · omega
      · rw [sr]; omega
      · simp; omega
    · have hm : many g = false := by simp [many]; omega
      rw [hm] at hs2 hI2
      simp [h2, h3, h4, h6, h7, hb2', hb3', c1, c2, c3, hgp, e1, Hp.at_set _ hlt2, Hp.at_set_ne n1, Hp.at_set_ne n4, hw]
      have e1' : (⟨#[48]⟩ : ByteArray).size = 1 := rfl
      refine ⟨by omega, ?_⟩
      refine cg_use (by simpa using l3Rest_ok k0 (d + 1) s1.k _ (by omega) (by omega)) ?_
      have hr1H2 : Own 1 9 H2 r1 (s1.r.map strRow) := hr1.1.le hle2
      have nL : ∀ x, r1.of x → x ≠ H.length ∧ x ≠ H.length + 1 := fun x hx => ⟨hr1.rows.ne_of hb2 (by simp) hx, hr1.rows.ne_of hb3 (by simp) hx⟩
      simp [h2, h3, h4, h6, h7, Hp.at_set _ hlt2]
      have hlk : (Hp.at (List.set H2 H.length (some ⟨[[.str (s1.l ++ lit1 (letter k0 d)), .str (s1.m ++ ⟨#[48]⟩), .str (s1.f ++ lit1 (if b = true then 49 else 48)), r1, .int .i64 s1.k]], 5, 103, false⟩)) H.length) = _ := Hp.at_set _ hlt2
      refine ⟨by rw [Hp.at_app _ (by simpa using hlt2), hlk]; simp, appG_one' (R := s1.r.map strRow) (by simp) (hr1H2.fr (Fr.one _ _ _) (fun x hx => (nL x hx).1)) (by simp; omega) (fun v9 H4 g1 g2 g3 => ?_)⟩
      have hls : (List.set H2 H.length (some ⟨[[.str (s1.l ++ lit1 (letter k0 d)), .str (s1.m ++ ⟨#[48]⟩), .str (s1.f ++ lit1 (if b = true then 49 else 48)), r1, .int .i64 s1.k]], 5, 103, false⟩)).length = H2.length := by simp
      have d2 := g2.2 H.length _ (fun hx => (nL _ hx).1 rfl) (Hp.at_set _ hlt2)
      have d3 := g2.2 (H.length + 1) _ (fun hx => (nL _ hx).2 rfl) (by rw [Hp.at_set_ne n1]; exact hb3')
      have d4 := g2.2 (H.length + 2) _ (fun hx => by
        rcases hr1a _ hx with h | h
        · have := hrlt _ h; omega
        · omega) (by rw [Hp.at_set_ne n2]; exact hb4')
      have dl2 := Hp.at_lt d2
      have dl3 := Hp.at_lt d3
      have hF4 : Fr (fun x => x = H.length ∨ x = H.length + 1 ∨ r1.of x) H' H4 := ((hle2.fr.set (.inl (.inl rfl)) _).trans g2 (fun x hx => .inl (.inr (.inr hx))))
      have nu : ∀ x, u1.of x → ¬ (x = H.length ∨ x = H.length + 1 ∨ r1.of x) := fun x hx hs => by
        rcases hs with h | h | h
        · exact hu1.ne_of hb2 (by simp) hx h
        · exact hu1.ne_of hb3 (by simp) hx h
        · exact hne1 x hx h
      have hu4 : Strs H4 u1 (k0 :: rt) := hu1.fr hF4 nu
      obtain ⟨X, hX⟩ : ∃ X : Ob, X = ⟨[[.str (s1.l ++ lit1 (letter k0 d)), .str (s1.m ++ ⟨#[48]⟩), .str (s1.f ++ lit1 (if b = true then 49 else 48)), v9, .int .i64 s1.k]], 5, 103, false⟩ := ⟨_, rfl⟩
      have d3' : Hp.at (List.set H4 H.length (some X)) (H.length + 1) = _ := (Hp.at_set_ne n1).trans d3
      simp [h2, h3, h4, h6, h7, d2, g1.rows.one, g1.rows.cells, g1.rows.cells1, Hp.at_set_ne n1, d3, ← hX]
      refine cutG_from (hu4.fr (Fr.one H4 H.length (some X)) (fun x hx h => nu x hx (.inl h))) g.length rfl (by simpa using hgs) (fun u9 w1 w2 => ?_)
      rw [← List.map_drop] at w1
      simp [h3, d3', w1.one, w1.cells, w1.cells1]
      have hF5 := (hF4.set (.inl (.inl rfl)) (some X)).set (.inl (.inr (.inl rfl))) (some ⟨[[u9, .int .i64 d]], 2, 125, false⟩)
      have hst := Fr.one (List.set H4 H.length (some X)) (H.length + 1) (some ⟨[[u9, .int .i64 d]], 2, 125, false⟩)
      have w1' : Strs (List.set H4 H.length (some X)) u9 ((k0 :: rt).drop g.length) := w1
      have nSz : ∀ x ob, (x = H.length ∨ x = H.length + 1 ∨ r1.of x) → H'.at x = some ob → ob.esz ≠ 1 ∨ r1.of x := fun x ob hs ho => by
        rcases hs with h | h | h
        · exact .inl (by subst h; rw [hb2] at ho; cases ho; simp)
        · exact .inl (by subst h; rw [hb3] at ho; cases ho; simp)
        · exact .inr h
      have hdl : ((k0 :: rt).drop g.length).length + g.length = rt.length + 1 := by
        simp only [List.length_drop, List.length_cons] at hgs ⊢
        omega
      have v9a : ∀ o, v9.of o → r1.of o ∨ H'.length ≤ o := fun o ho => (g3 o ho).imp id (fun h => by rw [hls] at h; exact Nat.le_trans hle2.1 h)
      have hb4lt := Hp.at_lt hb4
      have ss : (addB d b s1 g).l = s1.l ++ lit1 (letter k0 d) ∧ (addB d b s1 g).m = s1.m ++ ⟨#[48]⟩ ∧ (addB d b s1 g).f = s1.f ++ lit1 (if b = true then 49 else 48) ∧ (addB d b s1 g).r = s1.r ++ [restK k0 (d + 1) s1.k] ∧ (addB d b s1 g).k = s1.k := by
        rw [hs2]
        exact ⟨rfl, rfl, rfl, rfl, rfl⟩
      obtain ⟨sl, sm, sf, sr, sk⟩ := ss
      have hsl : (addB d b s1 g).l.size = s1.l.size + 1 := by rw [sl, ByteArray.size_append]; rfl
      have hsm : (addB d b s1 g).m.size = s1.m.size + 1 := by rw [sm, ByteArray.size_append]; rfl
      have hsf : (addB d b s1 g).f.size = s1.f.size + 1 := by rw [sf, ByteArray.size_append]; rfl
      simp only [List.length_cons] at hI4 hI5 hI6 hI7 hI8
      have v9L : ∀ x, v9.of x → x ≠ H.length ∧ x ≠ H.length + 1 := fun x hx => by
        rcases v9a x hx with h | h
        · exact nL x h
        · omega
      refine ⟨_, ?_, addB d b s1 g, v9, (k0 :: rt).drop g.length, rfl, h2, h4, u9, nrows, fs, .inl ⟨rfl, ?_, ?_, ⟨x1, x2, x3, x4, x5, ?_⟩, ?_, ⟨?_, fun o ho => (v9a o ho).elim (hr1.2 o) (fun h => by omega)⟩, fun x hx hv => ?_, ?_, by rw [h6]; exact hnxa, ?_, hfr.trans hF5 ?_, fun o ho => (v9a o ho).elim (hr1a o) (fun h => .inr (by omega)), hI1, by simpa using hI2, by rw [sk]; exact hI3, by omega, by omega, by omega, by rw [sr]; simp; omega, by omega⟩⟩
      · omega
      · rw [Hp.at_set_ne n3, Hp.at_set _ dl2, sl, sm, sf, sk, hX]
      · exact Hp.at_set _ (by simpa using dl3)
      · rw [Hp.at_set_ne (by omega), Hp.at_set_ne n2]; exact d4
      · exact w1'.fr hst (fun x hx h => nu x (w2 x hx) (.inr (.inl h)))
      · rw [sr]
        have := (g1.fr (Fr.one H4 H.length (some X)) (fun x hx => (v9L x hx).1)).fr hst (fun x hx => (v9L x hx).2)
        simpa [strRow] using this
      · rcases v9a x hv with h | h
        · exact hne1 x (w2 x hx) h
        · have := Rows.lt hu1 (w2 x hx)
          omega
      · rw [h6]
        exact hnx.fr hF5 (fun x hx hs => by
          have := hnxa x hx
          rcases hs with h | h | h
          · omega
          · omega
          · exact hr1.rows.apart hnx.rows (by simp) h hx)
      · exact All2.mono (fun row f h => h.fr hF5 nSz (fun x hx hv => (v9a x hv).elim id (fun h => by omega))) hfs
      · exact fun x hx => by
          rcases hx with h | h | h
          · exact .inr (by omega)
          · exact .inr (by omega)
          · exact (hr1a x h).imp id (fun h => by omega)
  · subst hq
    simp [brs, addBs, subs] at hI1 hI2
    subst hI1 hI2
    have hlt4 := Hp.at_lt hb4
    simp only [List.length_nil, Nat.add_zero] at hI4 hI5 hI6 hI7
    simp [h2, h3, h4, h6, h7, hb2, hb3, hb4, hr1.rows.one, Hp.at_set _ hlt4]
    have hst := Fr.one H' (H.length + 2) (some ⟨[[.str (addBs d true s (brs d ks)).l, .str (addBs d true s (brs d ks)).m, .str (addBs d true s (brs d ks)).f, r1, .int .i64 (addBs d true s (brs d ks)).k]], 5, 103, false⟩)
    refine ⟨r1, nx, ⟨rfl, rfl⟩, hr1.fr hst (fun x hx => ?_), nrows, hnx.fr hst (fun x hx => by have := hnxa x hx; omega), fun o ho => by have := hnxa o ho; omega, ?_, hfr.set (.inr (by omega)) _, fun o ho => (hr1a o ho).imp id (fun h => by omega), hI3, hI4, hI5, hI6, hI7⟩
    · rcases hr1a x hx with h | h
      · have := hrlt x h; omega
      · omega
    · exact All2.mono (fun row f h => h.fr hst (fun x ob hx ho => .inl (by subst hx; rw [hb4] at ho; cases ho; simp)) (fun x _ h => h)) hfs

end Go.Proofs.Ytkdnijiipegabaa.B

namespace Go.Proofs.Ytkdnijiipegabaa.B
open Go.RowKit Go.Proofs
set_option linter.unusedVariables false
set_option linter.unusedSimpArgs false
variable {E : Env}

theorem KeysOk_ok (a : AV) (ks : List ByteArray) (H : Hp) (ha : Strs H a ks) (hs : ∀ k ∈ ks, k.size < 4611686018427387904) (hn : ks.length < 4611686018427387904) : AC Try.prog E 84 [a] H (fun v H' => v = .bool (keysOk ks) ∧ H' = H) := by
  refine AC_byp (tC_le tab2_ok) h_spec_KeysOk (by simp) ?_
  have l1 := ha.len
  simp [c_spec_KeysOk]
  refine W_for (fun m t H' => ∃ i : Nat, i + m = ks.length ∧ t 0 = a ∧ t 3 = .int .i64 i ∧ (∀ j : Nat, ∀ h : j < ks.length, j < i → keyOk ks[j] = true ∧ ∀ h0 : 0 < j, sless ks[j - 1] ks[j] = true) ∧ H' = H) ks.length ?_ (tC_mono AC_mono) ?_
  · exact ⟨0, by simp⟩
  rintro m t H' ⟨i, him, h0, h3, hI, rfl⟩
  simp [h0, h3, l1, ha.slc]
  refine c_split (fun hq => ?_) (fun hq => ?_) <;> simp at hq
  · have hw := wrapN (i := i) (by omega)
    obtain ⟨o1, i1, ob1, rfl, a1, a2, a3⟩ := ha.get hq
    have no : (keyOk ks[i] = true ∧ ∀ h0 : 0 < i, sless ks[i - 1] ks[i] = true) ∨ keysOk ks = false := by
      rcases Classical.em (keyOk ks[i] = true ∧ ∀ h0 : 0 < i, sless ks[i - 1] ks[i] = true) with h | h
      · exact .inl h
      · refine .inr ?_
        simp only [keysOk, decide_eq_false_iff_not]
        exact fun hh => h (hh.1 i hq)
    have yes : (keyOk ks[i] = true ∧ ∀ h0 : 0 < i, sless ks[i - 1] ks[i] = true) → ∀ j : Nat, ∀ h : j < ks.length, j < i + 1 → keyOk ks[j] = true ∧ ∀ h0 : 0 < j, sless ks[j - 1] ks[j] = true := by
      intro hi j hj hji
      rcases Nat.lt_or_ge j i with h | h
      · exact hI j hj h
      · have : j = i := by omega
        subst this
        exact hi
    have hsz := hs _ (List.getElem_mem hq)
    cases he : keyOk ks[i] with
    | false =>
      simp [h0, h3, hq, a1, a2, a3, tab2_key _ _ _ _ _ _ _ _ hsz, he]
      exact no.resolve_left (fun h => by rw [he] at h; cases h.1)
    | true =>
      rcases Nat.eq_zero_or_pos i with rfl | hp
      · rw [Nat.add_zero] at a3
        simp [h0, h3, hq, a1, a2, a3, tab2_key _ _ _ _ _ _ _ _ hsz, he]
        exact ⟨m - 1, by omega, 1, by omega, rfl, fun j hj hj1 => yes ⟨he, fun h => by omega⟩ j hj (by omega)⟩
      · have hw2 := wrapP hp (by omega)
        have hlt : i - 1 < ks.length := by omega
        obtain ⟨o2, i2, ob2, e2, b1, b2, b3⟩ := ha.get hlt
        cases e2
        rw [a1] at b1
        cases b1
        cases hb : sless ks[i - 1] ks[i] with
        | false =>
          simp [h0, h3, hq, hp, hlt, hw2, a1, a2, a3, b3, tab2_key _ _ _ _ _ _ _ _ hsz, he, hb]
          exact no.resolve_left (fun h => by rw [h.2 hp] at hb; cases hb)
        | true =>
          simp [h0, h3, hq, hp, hlt, hw, hw2, a1, a2, a3, b3, tab2_key _ _ _ _ _ _ _ _ hsz, he, hb]
          exact ⟨m - 1, by omega, i + 1, by omega, rfl, yes ⟨he, fun _ => hb⟩⟩
  · have : i = ks.length := by omega
    subst this
    simp [h0, l1, ha.slc]
    simp only [keysOk, decide_eq_decide]
    exact ⟨fun h => ⟨fun j hj => hI j hj hj, by omega⟩, fun h => by omega⟩

/-- A sieve's value. -/
def svAV (s : Sv) (r : AV) : AV := .ag [.str s.l, .str s.m, .str s.f, r, .int .i64 s.k]
/-- What SieveOf returns. -/
def SvRet (H H' : Hp) (v : AV) (o : Option Sv) : Prop :=
  match o with
  | some s => ∃ r, v = .tu [svAV s r, .bool true] ∧ OwnS H H' r s.r ∧ s.r.length ≤ 12000
  | none => v = .tu [.ag [.str ⟨#[]⟩, .str ⟨#[]⟩, .str ⟨#[]⟩, .nils, .int .i64 0], .bool false]

theorem Own.lit0 {esz ety n : Nat} {H : Hp} (hl : n = H.length) : Own esz ety (H ++ [some ⟨[], esz, ety, false⟩]) (.sl n 0 0) [] := by
  subst hl
  exact Own.obj (by simp) rfl
theorem bfs_nil (n : Nat) (s : Sv) : bfs n [] s = s := by cases n <;> rfl
theorem subs_len {d : Nat} {ks : List ByteArray} {M : Nat} (h : ks.length ≤ M) : ∀ f ∈ subs d (brs d ks), f.1.length ≤ M := by
  intro f hf
  simp only [subs, List.mem_map, List.mem_filter] at hf
  obtain ⟨g, ⟨hg, _⟩, rfl⟩ := hf
  obtain ⟨ks', h1, rfl⟩ := brs_sub ks.length d ks (Nat.le_refl _) g hg
  have := ((grp_sub d ks').trans h1).length_le
  simp only
  omega
theorem mu_len (q : List Fk) : q.length ≤ mu q := by
  induction q with
  | nil => simp
  | cons f q ih =>
    have : mu (f :: q) = 1 + 2 * f.1.length * (7 - f.2) + mu q := by simp [mu]
    rw [List.length_cons]
    omega

theorem SieveOf_ok (a : AV) (ks : List ByteArray) (keep : Int) (H : Hp) (ha : Strs H a ks) (hs : ∀ k ∈ ks, k.size < 4611686018427387904) (hn : ks.length < 4611686018427387904) :
    AC Try.prog E 72 [a, .int .i64 keep] H (fun v H' => HLe H H' ∧ SvRet H H' v (sieveO ks keep)) := by
  refine AC_by fol (tC_le tab2_ok) h_spec_SieveOf ?_
  simp [c_spec_SieveOf]
  refine cg_use (KeysOk_ok a ks _ (ha.le (HLe.self _ _)) hs hn) ?_
  simp
  cases hk : keysOk ks with
  | false =>
    have hso : sieveO ks keep = none := by simp [sieveO, hk]
    rw [hso]
    simp [SvRet]
  | true =>
    simp
    refine c_split (fun hq => ?_) (fun hq => ?_) <;> simp at hq
    · have hso : sieveO ks keep = none := if_neg (fun h => by omega)
      rw [hso]
      simp [SvRet]
    · obtain ⟨hgood, hkl⟩ := keysOk_good hk
      have hso : sieveO ks keep = some (sieveR ks keep) := by simp [sieveO, hk, hq]
      rw [hso]
      simp [ha.cells, ha.cells1, ha.one]
      refine W_for (fun n t H' => ∃ s r q v frows, t 4 = .pt H.length 0 0 ∧ t 6 = .pt (H.length + 2) 0 0 ∧ t 7 = v ∧
        (∃ x1 x2 x3 x4 x5, H'.at H.length = some ⟨[[x1, x2, x3, x4, x5]], 5, 103, false⟩) ∧ H'.at (H.length + 2) = some ⟨[[.str s.l, .str s.m, .str s.f, r, .int .i64 s.k]], 5, 103, false⟩ ∧
        HLe H H' ∧ OwnS H H' r s.r ∧ Rows 2 H' v frows ∧ All2 (FkR H' r.of) frows q ∧ bfs n q s = sieveR ks keep ∧ mu q ≤ n ∧ n ≤ 500 ∧ (∀ f ∈ q, Good f ∧ f.1.length ≤ 24) ∧ s.k = keep ∧
        s.l.size + 24 * n ≤ 24 * 500 ∧ s.m.size + 24 * n ≤ 24 * 500 ∧ s.f.size + 24 * n ≤ 24 * 500 ∧ s.r.length + 24 * n ≤ 24 * 500) 500 ?_ (tC_mono AC_mono) ?_
      · refine ⟨⟨⟨#[]⟩, ⟨#[]⟩, ⟨#[]⟩, [], keep⟩, .sl (H.length + 1) 0 0, [(ks, 0)], _, [[a, .int .i64 0]], by simp, by simp, by simp; rfl, ⟨.str ⟨#[]⟩, .str ⟨#[]⟩, .str ⟨#[]⟩, .nils, .int .i64 0, by simp⟩, by simp, HLe.self _ _, ?_, ?_, ⟨⟨a, rfl, ha.le (HLe.self _ _), fun x hx hr => ?_⟩, trivial⟩, rfl, ?_, Nat.le_refl _, ?_, rfl, by show 0 + _ ≤ _; omega, by show 0 + _ ≤ _; omega, by show 0 + _ ≤ _; omega, by show 0 + _ ≤ _; omega⟩
        · exact ⟨Own.obj (R := []) (by simp) rfl, fun o ho => by simp at ho; omega⟩
        · exact Rows.whole (ob := ⟨[[a, .int .i64 0]], 2, 125, false⟩) (by simp)
        · have := Rows.lt ha hx
          simp at hr
          omega
        · simp [mu]
          omega
        · intro f hf
          rw [List.mem_singleton.1 hf]
          exact ⟨hgood, hkl⟩
      rintro n t H' ⟨s, r, q, v, frows, h4, h6, h7, ⟨x1, x2, x3, x4, x5, hb4⟩, hb6, hle, hr, hv, hq2, hI, hmu, hn5, hqg, hsk, z1, z2, z3, z4⟩
      have l7 := hv.len
      have hfl := All2.length hq2
      simp [h4, h6, h7, l7, hv.slc]
      refine c_split (fun hq3 => ?_) (fun hq3 => ?_) <;> simp at hq3
      · obtain ⟨⟨k1, d⟩, q', rfl⟩ : ∃ f q', q = f :: q' := by
          cases q with
          | nil => simp at hfl; rw [hfl] at hq3; simp at hq3
          | cons f q => exact ⟨f, q, rfl⟩
        obtain ⟨row, frows', rfl⟩ : ∃ row fr', frows = row :: fr' := by
          cases frows with
          | nil => simp at hq3
          | cons f q => exact ⟨f, q, rfl⟩
        obtain ⟨⟨u, rfl, hu, hne⟩, hq2'⟩ := hq2
        obtain ⟨n, rfl⟩ : ∃ n', n = n' + 1 := ⟨n - 1, by have := mu_len ((k1, d) :: q'); simp at this; omega⟩
        obtain ⟨hg1, hg2⟩ := hqg _ (List.mem_cons_self ..)
        have hg2 : k1.length ≤ 24 := hg2
        have hdd : d ≤ 5 := hg1.deep
        have hms := mu_step (q := q') hg1
        simp only [bfs] at hI
        obtain ⟨o, i, ob, rfl, c1, c2, c3⟩ := hv.get (j := 0) (by simp)
        rw [Nat.add_zero] at c3
        have hlt6 := Hp.at_lt hb6
        have n6 : H.length + 2 ≠ o := hv.ne_of hb6 (by simp) rfl |>.symm
        have co := Hp.at_lt c1
        have cle := (HLe.self H' [some ⟨[], 2, 125, false⟩])
        have c1' := cle.2 _ _ c1
        have hb6' := cle.2 _ _ hb6
        simp [h4, h6, h7, hb6', c1', c2, c3]
        refine cg_ex (l3Put_ok s r u k1 d H _ (hr.le cle) (hu.le cle) hne (by simp; have := hle.1; omega) ⟨by omega, by omega, by omega, by omega⟩ (by omega) (by omega) (by rw [hsk]; exact hq.1)) ?_
        rintro v2 H2 ⟨s', rfl, r', w, rows, rfl, hr', hw, hwa, hws, hfr, hra, hsk', y1, y2, y3, y4⟩
        have hb62 := hfr.2 _ _ (fun hx => hr.rows.ne_of hb6 (by simp) hx rfl) hb6'
        have hb42 := hfr.2 _ _ (fun hx => hr.rows.ne_of hb4 (by simp) hx rfl) (cle.2 _ _ hb4)
        have hlt62 := Hp.at_lt hb62
        simp only [List.length_append, List.length_singleton] at hwa hra
        simp [h4, h6, h7, hb62, hr'.rows.one]
        obtain ⟨X, hX⟩ : ∃ X : Ob, X = ⟨[[.str (addBs d true s (brs d k1)).l, .str (addBs d true s (brs d k1)).m, .str (addBs d true s (brs d k1)).f, r', .int .i64 (addBs d true s (brs d k1)).k]], 5, 103, false⟩ := ⟨_, rfl⟩
        rw [← hX]
        have c12 : H2.at o = some ob := hfr.2 _ _ (fun hx => hr.rows.apart hv (by simp) hx rfl) c1'
        have hF3 := Fr.one H2 (H.length + 2) (some X)
        have hv3 : Rows 2 (List.set H2 (H.length + 2) (some X) ++ [some ⟨[], 2, 125, false⟩]) (.sl o i (frows'.length + 1)) ([u, .int .i64 d] :: frows') :=
          (((hv.le cle).fr hfr (fun x hx h => hr.rows.apart hv (by simp) h hx)).fr hF3 (fun x hx h => n6 (h ▸ hx.symm))).le (HLe.self _ _)
        refine cutG_from hv3 1 rfl (by simp) (fun u9 w1 w2 => ?_)
        simp only [List.drop_one, List.tail_cons] at w1
        simp [h7]
        refine appG_own (R := []) (R2 := frows') (Own.lit0 (by simp)) w1 (by simp; have := mu_len ((k1, d) :: q'); simp at this hfl; omega) (fun v10 H4 g1 g2 g3 => ?_)
        simp
        have hrl := All2.length hws
        have hsubl : (subs d (brs d k1)).length ≤ 24 := by
          unfold subs
          rw [List.length_map]
          have h1 := (List.filter_sublist (p := many) (l := brs d k1)).length_le
          have h2 := (brs_sum k1.length d k1 (Nat.le_refl _)).2
          omega
        have hw4 : Rows 2 H4 w rows := ((hw.rows.fr hF3 (fun x hx h => by have := hwa x hx; have := Hp.at_lt hb6; omega)).le (HLe.self _ _)).fr g2 (fun x hx h => by have := hw.lt hx; simp at h; omega)
        refine appG_own g1 hw4 (by have := mu_len ((k1, d) :: q'); simp at this hfl ⊢; omega) (fun v11 H5 g4 g5 g6 => ?_)
        have v10a : ∀ x, v10.of x → H2.length ≤ x := fun x hx => by
          rcases g3 x hx with h | h
          · simp at h; omega
          · simp at h; omega
        have hF5 : Fr (fun x => x = H.length + 2) H2 H5 := ((hF3.le_fr (HLe.self _ _)).trans g2 (fun x hx => .inr (by simp at hx; omega))).trans g5 (fun x hx => .inr (v10a x hx))
        have e6 : H5.at (H.length + 2) = some X := g5.2 _ _ (fun hx => by have := v10a _ hx; omega) (g2.2 _ _ (fun hx => by simp at hx; omega) ((HLe.self _ _).2 _ _ (Hp.at_set _ hlt62)))
        have hleH2 : HLe H H2 := (hle.trans cle).fr_le hfr hr.2
        have hb45 := hF5.2 _ _ (by omega) hb42
        simp [h4, h6]
        refine ⟨n, by omega, ⟨x1, x2, x3, x4, x5, hb45⟩, addBs d true s (brs d k1), r', by rw [e6, hX], hleH2.fr_le hF5 (fun x hx => by omega), hr'.fr hF5 (fun x hx => hr'.rows.ne_of hb62 (by simp) hx), q' ++ subs d (brs d k1), frows' ++ rows, by simpa using g4.rows, ?_, hI, by omega, by omega, ?_, by rw [hsk', hsk], by omega, by omega, by omega, by omega⟩
        · refine All2.append ?_ ?_
          · refine All2.mono (fun row f h => ?_) hq2'
            have h2 := FkR.fr (X' := r'.of) h ((cle.fr (S := r.of)).same hfr) (fun x ob hx _ => .inr hx) (fun x hx hx' => (hra x hx').elim id (fun h => by omega))
            exact h2.fr hF5 (fun x ob hx ho => .inl (by subst hx; rw [hb62] at ho; cases ho; simp)) (fun x _ h => h)
          · exact All2.mono (fun row f h => h.fr hF5 (fun x ob hx ho => .inl (by subst hx; rw [hb62] at ho; cases ho; simp)) (fun x _ h => h)) hws
        · intro f1 f2 hf
          rcases List.mem_append.1 hf with h | h
          · exact hqg (f1, f2) (List.mem_cons_of_mem _ h)
          · exact ⟨hg1.subs (f1, f2) h, subs_len hg2 (f1, f2) h⟩
      · have hq0 : q = [] := List.length_eq_zero_iff.1 (by rw [← hfl]; simpa using hq3)
        subst hq0
        rw [bfs_nil] at hI
        subst hI
        have hlt := Hp.at_lt hb4
        simp [h4, h6, h7, hb4, hb6, hr.rows.one, Hp.at_set _ hlt]
        have hst := Fr.one H' H.length (some ⟨[[.str (sieveR ks keep).l, .str (sieveR ks keep).m, .str (sieveR ks keep).f, r, .int .i64 (sieveR ks keep).k]], 5, 103, false⟩)
        exact ⟨hle.fr_le hst (fun x hx => by omega), r, rfl, hr.fr hst (fun x hx => hr.rows.ne_of hb4 (by simp) hx), by omega⟩

end Go.Proofs.Ytkdnijiipegabaa.B

namespace Go.Proofs.Ytkdnijiipegabaa.B
open Go.RowKit
set_option linter.unusedVariables false
set_option linter.unusedSimpArgs false

def gGa (x : AV) (g : Nat) (b : Bool) (C : CallP) (d : Option Nat) (op : AOp) (ag : List (Option Nat × AOp × Option (Nat × Bool))) (p : Plan) (t : Tm) (H : Hp) (K : Tm → Hp → Prop) : Prop :=
  match x with
  | .bool r => (r = b → RgP C (.st d op none ag p) t H K) ∧ (r = !b → againG ag (updO t d .un) H ∧ RgP C p (updO t d .un) H K)
  | .un => againG ag (updO t d .un) H ∧ RgP C p (updO t d .un) H K
  | _ => False
section
variable (C : CallP) (t : Tm) (H : Hp) (K : Tm → Hp → Prop) (g : Nat) (d : Option Nat) (op : AOp) (q : Option Nat × AOp × Option (Nat × Bool)) (ag : List (Option Nat × AOp × Option (Nat × Bool))) (p : Plan)
@[simp] theorem RgP_gag (b : Bool) : RgP C (.st d op (some (g, b)) (q :: ag) p) t H K = gGa (t g) g b C d op (q :: ag) p t H K := by
  simp only [RgP, roK, want, gGa, againG]
  generalize t g = x
  cases x <;> try rfl
  rename_i r
  cases r <;> cases b <;> simp
@[simp] theorem gGa_tt : gGa (.bool true) g true C d op ag p t H K = RgP C (.st d op none ag p) t H K := by simp [gGa]
@[simp] theorem gGa_tf : gGa (.bool true) g false C d op ag p t H K = (againG ag (updO t d .un) H ∧ RgP C p (updO t d .un) H K) := by simp [gGa]
@[simp] theorem gGa_ft : gGa (.bool false) g true C d op ag p t H K = (againG ag (updO t d .un) H ∧ RgP C p (updO t d .un) H K) := by simp [gGa]
@[simp] theorem gGa_ff : gGa (.bool false) g false C d op ag p t H K = RgP C (.st d op none ag p) t H K := by simp [gGa]
@[simp] theorem gGa_un (b : Bool) : gGa .un g b C d op ag p t H K = (againG ag (updO t d .un) H ∧ RgP C p (updO t d .un) H K) := rfl
end
def pG (x : AV) (b : Bool) (t : Tm) (H : Hp) (d : Nat) (op : AOp) : Prop :=
  match x with
  | .bool r => (r = b → stepC t H op ∧ t d = stepV t H op) ∧ (r = !b → t d = .un)
  | .un => t d = .un
  | _ => False
@[simp] theorem pend1_g (t : Tm) (H : Hp) (d : Nat) (op : AOp) (g : Nat) (b : Bool) (l : List Nat) : pend1 t H ⟨some d, op, some (g, b), l⟩ = pG (t g) b t H d op := by
  have key : pend1 t H ⟨some d, op, none, l⟩ = (stepC t H op ∧ t d = stepV t H op) := pend1_n t H d op l
  simp only [pend1, roA, want] at key
  simp only [pend1, roA, want, pG]
  generalize t g = x
  cases x <;> simp
  · rename_i r
    cases r <;> cases b <;> simp at key ⊢ <;> first | exact key | exact eq_comm
@[simp] theorem pG_tt (t : Tm) (H : Hp) (d : Nat) (op : AOp) : pG (.bool true) true t H d op = (stepC t H op ∧ t d = stepV t H op) := by simp [pG]
@[simp] theorem pG_tf (t : Tm) (H : Hp) (d : Nat) (op : AOp) : pG (.bool true) false t H d op = (t d = .un) := by simp [pG]
@[simp] theorem pG_ft (t : Tm) (H : Hp) (d : Nat) (op : AOp) : pG (.bool false) true t H d op = (t d = .un) := by simp [pG]
@[simp] theorem pG_ff (t : Tm) (H : Hp) (d : Nat) (op : AOp) : pG (.bool false) false t H d op = (stepC t H op ∧ t d = stepV t H op) := by simp [pG]
@[simp] theorem pG_un (b : Bool) (t : Tm) (H : Hp) (d : Nat) (op : AOp) : pG .un b t H d op = (t d = .un) := rfl

end Go.Proofs.Ytkdnijiipegabaa.B

namespace Go.Proofs.Ytkdnijiipegabaa.B
open Go.RowKit Go.Proofs
set_option linter.unusedVariables false
set_option linter.unusedSimpArgs false
variable {E : Env}

def LvRow (H : Hp) (row : List AV) (es : List Ent) : Prop := ∃ u, row = [u] ∧ Ents H u es
def SvRow (H : Hp) (X : Nat → Prop) (row : List AV) (s : Sv) : Prop := ∃ r, row = [.str s.l, .str s.m, .str s.f, r, .int .i64 s.k] ∧ Strs H r s.r ∧ ∀ x, r.of x → ¬ X x
def stAV (a b c : AV) (s : Sr) (d : AV) : AV := .ag [a, b, c, .int .i64 s.keep, .int .i64 s.time, d]
/-- A store. -/
def St (H : Hp) (v : AV) (s : Sr) : Prop := ∃ a b c d lr sr, v = stAV a b c s d ∧ Ents H a s.top ∧ Rows 1 H b lr ∧ All2 (LvRow H) lr s.lev ∧ Rows 5 H c sr ∧ All2 (SvRow H (fun _ => False)) sr s.sv ∧ Ints H d s.tms
/-- Entries that a machine can hold. -/
def EsB (es : List Ent) : Prop := es.length < 1099511627776 ∧ Fits es
def StB (s : Sr) : Prop := EsB s.top ∧ (∀ es ∈ s.lev, EsB es) ∧ s.lev.length < 1099511627776 ∧ s.sv.length < 1099511627776 ∧ s.tms.length < 1099511627776 ∧ (∀ x ∈ s.sv, x.r.length < 1099511627776) ∧ I64 s.time ∧ I64 s.keep ∧ (∀ t ∈ s.tms, I64 t)
theorem LvRow.le {H H' : Hp} (hle : HLe H H') {row : List AV} {es : List Ent} (h : LvRow H row es) : LvRow H' row es := by
  obtain ⟨u, h1, h2⟩ := h
  exact ⟨u, h1, h2.le hle⟩
theorem SvRow.le {H H' : Hp} (hle : HLe H H') {X : Nat → Prop} {row : List AV} {s : Sv} (h : SvRow H X row s) : SvRow H' X row s := by
  obtain ⟨u, h1, h2, h3⟩ := h
  exact ⟨u, h1, h2.le hle, h3⟩
theorem St.le {H H' : Hp} {v : AV} {s : Sr} (h : St H v s) (hle : HLe H H') : St H' v s := by
  obtain ⟨a, b, c, d, lr, sr, h1, h2, h3, h4, h5, h6, h7⟩ := h
  exact ⟨a, b, c, d, lr, sr, h1, h2.le hle, h3.le hle, All2.mono (fun _ _ => LvRow.le hle) h4, h5.le hle, All2.mono (fun _ _ => SvRow.le hle) h6, h7.le hle⟩
theorem All2.len2 {α β : Type} {P : α → β → Prop} {xs : List α} {ys : List β} (h : All2 P xs ys) : ys.length = xs.length := h.length.symm

theorem l3Sames_ok (a b : AV) (xs ys : List ByteArray) (H : Hp) (ha : Strs H a xs) (hb : Strs H b ys) (hx : xs.length < 4611686018427387904) : AC Try.prog E 74 [a, b] H (fun v H' => v = .bool (decide (xs = ys)) ∧ H' = H) := by
  refine AC_byp (tC_le tab2_ok) h_spec_l3Sames (by simp) ?_
  have l1 := ha.len
  have l2 := hb.len
  simp [c_spec_l3Sames, l1, l2, ha.slc, hb.slc]
  refine c_split (fun hq => ?_) (fun hq => ?_) <;> simp at hq <;> simp
  · intro h
    subst h
    exact hq rfl
  · refine W_for (fun k t H' => ∃ i : Nat, i + k = xs.length ∧ t 0 = a ∧ t 1 = b ∧ t 5 = .int .i64 i ∧ (∀ j : Nat, j < i → xs[j]? = ys[j]?) ∧ HLe H H') xs.length ?_ (tC_mono AC_mono) ?_
    · exact ⟨0, by simp⟩
    rintro k t H' ⟨i, hik, h0, h1, h5, hI, hle⟩
    simp [h0, h1, h5, l1, ha.slc]
    refine c_split (fun hq2 => ?_) (fun hq2 => ?_) <;> simp at hq2
    · have hw := wrapN (i := i) (by omega)
      obtain ⟨o1, i1, ob1, rfl, a1, a2, a3⟩ := (ha.le hle).get hq2
      obtain ⟨o2, i2, ob2, rfl, b1, b2, b3⟩ := (hb.le hle).get (j := i) (by omega)
      simp [h0, h1, h5, a1, a2, a3, b1, b2, b3, hq2, ← hq]
      refine c_split (fun hq3 => ?_) (fun hq3 => ?_) <;> simp at hq3 <;> simp [h0, h1, h5, hw, hle]
      · intro h
        subst h
        exact hq3 rfl
      · refine ⟨k - 1, by omega, i + 1, by omega, rfl, fun j hj => ?_⟩
        rcases Nat.lt_or_ge j i with h | h
        · exact hI j h
        · have : j = i := by omega
          subst this
          rw [List.getElem?_eq_getElem hq2, List.getElem?_eq_getElem (by omega), hq3]
    · simp [hle]
      apply List.ext_getElem?
      intro j
      rcases Nat.lt_or_ge j i with h | h
      · exact hI j h
      · rw [List.getElem?_eq_none (by omega), List.getElem?_eq_none (by omega)]

theorem keysR_short {r : List Ent} (h : Fits r) : ∀ k ∈ keysR r, k.size < 4611686018427387904 := by
  intro k hk
  obtain ⟨e, he, rfl⟩ := keys1_mem _ _ _ hk
  exact (h e he).1
theorem keysR_len (r : List Ent) : (keysR r).length ≤ r.length := keys1_len none r

theorem l12Level_ok (v : AV) (s : Sr) (i : Nat) (H : Hp) (hs : St H v s) (hb : StB s) (hi : i < s.lev.length) (hi2 : i < s.sv.length) (hi3 : i < 1000) :
    AC Try.prog E 62 [v, .int .i64 i] H (fun u H' => u = .bool (levelOk s i) ∧ H' = H) := by
  obtain ⟨a, b, c, d, lr, sr, rfl, ha, hb1, hlr, hc, hsr, hd⟩ := hs
  obtain ⟨hB1, hB2, hB3, hB4, hB5, hB6, hB7, hB8, hB9⟩ := hb
  refine AC_byp (tC_le tab2_ok) h_spec_l12Level (by simp) ?_
  have hil : i < lr.length := by rw [hlr.length]; exact hi
  have his : i < sr.length := by rw [hsr.length]; exact hi2
  obtain ⟨o1, i1, ob1, rfl, c1, c2, c3⟩ := hb1.get hil
  obtain ⟨o2, i2, ob2, rfl, e1, e2, e3⟩ := hc.get his
  obtain ⟨u, hu, hue⟩ := hlr.get i hil hi
  obtain ⟨r, hr, hrs, -⟩ := hsr.get i his hi2
  rw [hu] at c3
  rw [hr] at e3
  have hg1 : s.lev.getD i [] = s.lev[i] := by simp [hi]
  have hg2 : s.sv.getD i default = s.sv[i] := by simp [hi2]
  have hes := hB2 _ (List.getElem_mem hi)
  simp only [levelOk, hg1, hg2]
  generalize s.lev[i] = es at hue hes
  generalize s.sv[i] = y at hr hrs e3
  have hlt1 := Hp.at_lt c1
  have hlt2 := Hp.at_lt e1
  have g1 : ∀ l, Hp.at (H ++ l) o1 = some ob1 := fun l => (Hp.at_app l hlt1).trans c1
  have g2 : ∀ l, Hp.at (H ++ l) o2 = some ob2 := fun l => (Hp.at_app l hlt2).trans e1
  obtain ⟨H1, hH1⟩ : ∃ H1, H1 = H ++ [some ⟨[[a, .sl o1 i1 lr.length, .sl o2 i2 sr.length, .int .i64 s.keep, .int .i64 s.time, d]], 6, 65, false⟩] := ⟨_, rfl⟩
  have hle1 : HLe H H1 := by rw [hH1]; exact HLe.self _ _
  have k0 : H1.at H.length = some ⟨[[a, .sl o1 i1 lr.length, .sl o2 i2 sr.length, .int .i64 s.keep, .int .i64 s.time, d]], 6, 65, false⟩ := by rw [hH1]; simp
  have k1 := hle1.2 _ _ c1
  have k2 := hle1.2 _ _ e1
  have hks := keysR_short hes.2
  have hkl := keysR_len es
  simp [c_spec_l12Level, stAV, ha.one, hd.one, ← hH1, k0, hil, k1, c2, c3]
  refine cg_use (RunOk_ok u es H1 (hue.le hle1) hes.2.short (by have := hes.1; omega)) ?_
  cases hro : runOk es with
  | false => simp [hle1]
  | true =>
    have lu := hue.len
    simp [k0, hil, k1, c2, c3, lu, hue.slc]
    refine cg_use (l12Size_ok i H1 (by omega)) ?_
    simp [k0, hil, k1, c2, c3]
    refine c_split (fun hq => ?_) (fun hq => ?_) <;> simp at hq
    · simp [hle1]
      omega
    · have hsz : es.length ≤ sizeL i := by omega
      simp [k0, hil, k1, c2, c3, hsz]
      have sim : ∀ (x : Sv), (decide (some x = some y) : Bool) = (decide (x.l = y.l) && (decide (x.m = y.m) && (decide (x.f = y.f) && (decide (x.k = y.k) && decide (x.r = y.r))))) := by
        intro x
        obtain ⟨x1, x2, x3, x4, x5⟩ := x
        obtain ⟨y1, y2, y3, y4, y5⟩ := y
        simp only [Option.some.injEq, Sv.mk.injEq, Bool.decide_and]
        cases decide (x1 = y1) <;> cases decide (x2 = y2) <;> cases decide (x3 = y3) <;> cases decide (x4 = y4) <;> cases decide (x5 = y5) <;> rfl
      refine ⟨cg_ex (l11Keys_ok u es H1 (hue.le hle1) hes.1) ?_, ?_⟩
      · rintro v2 H2 ⟨hle2, hk2⟩
        have k02 := hle2.2 _ _ k0
        have k12 := hle2.2 _ _ k1
        have k22 := hle2.2 _ _ k2
        simp [k02, k12, c2, c3, hil]
        refine ⟨cg_ex (SieveOf_ok v2 (keysR es) s.keep H2 hk2.strs hks (by have := hes.1; omega)) ?_, ?_⟩
        · rintro v3 H3 ⟨hle3, hret⟩
          have k03 : ∀ l, Hp.at (H3 ++ l) H.length = _ := fun l => ((hle3.app l).2 _ _ k02)
          have k13 : ∀ l, Hp.at (H3 ++ l) o1 = some ob1 := fun l => ((hle3.app l).2 _ _ k12)
          have k23 : ∀ l, Hp.at (H3 ++ l) o2 = some ob2 := fun l => ((hle3.app l).2 _ _ k22)
          have hle13 := (hle1.trans hle2).trans hle3
          cases hso : sieveO (keysR es) s.keep with
          | none =>
            rw [hso] at hret
            obtain rfl := hret
            simp [k03, k13, k23, c2, c3, e2, e3, hil, his, hrs.one]
            simp [k03, k13, k23, c2, c3, e2, e3, hil, his, hrs.one, hle13, hle13.app]
          | some x =>
            rw [hso] at hret
            obtain ⟨r', rfl, hr', hrl⟩ := hret
            rw [sim x]
            simp [svAV, hr'.rows.one, k03, k13, k23, c2, c3, e2, e3, hil, his, hrs.one]
            refine g_split (fun q0 => ?_) (fun q0 => ?_) (by simp) <;> simp at q0 <;> simp [q0, k03, k13, k23, c2, c3, e2, e3, hil, his, hrs.one, hle13, hle13.app]
            refine g_split (fun q1 => ?_) (fun q1 => ?_) (by simp) <;> simp at q1 <;> simp [q1, k03, k13, k23, c2, c3, e2, e3, hil, his, hrs.one, hle13, hle13.app]
            refine g_split (fun q2 => ?_) (fun q2 => ?_) (by simp) <;> simp at q2 <;> simp [q2, k03, k13, k23, c2, c3, e2, e3, hil, his, hrs.one, hle13, hle13.app]
            refine g_split (fun q3 => ?_) (fun q3 => ?_) (by simp) <;> simp at q3 <;> simp [q3, k03, k13, k23, c2, c3, e2, e3, hil, his, hrs.one, hle13, hle13.app]
            refine cg_use (l3Sames_ok r' r x.r y.r _ (hr'.strs.le (by first | exact HLe.self _ _ | exact HLe.refl _)) ((hrs.le hle13).le (by first | exact HLe.self _ _ | exact HLe.refl _)) (by omega)) ?_
            simp [hle13, hle13.app]
        · have j0 : ∀ l, Hp.at (H2 ++ l) H.length = _ := fun l => ((HLe.self H2 l).2 _ _ k02)
          have j1 : ∀ l, Hp.at (H2 ++ l) o1 = some ob1 := fun l => ((HLe.self H2 l).2 _ _ k12)
          have j2 : ∀ l, Hp.at (H2 ++ l) o2 = some ob2 := fun l => ((HLe.self H2 l).2 _ _ k22)
          simp [j0, j1, j2, c2, c3, hil]
          refine cg_ex (SieveOf_ok v2 (keysR es) s.keep _ (hk2.strs.le (HLe.self _ _)) hks (by have := hes.1; omega)) ?_
          rintro v3 H3 ⟨hle3, hret⟩
          have k0f := hle3.2 _ _ (j0 _)
          have k1f := hle3.2 _ _ (j1 _)
          have k2f := hle3.2 _ _ (j2 _)
          have hle13 := ((hle1.trans hle2).app _).trans hle3
          have kb : ∃ B5, H3.at H2.length = some B5 ∧ B5 = ⟨[[.str ⟨#[]⟩, .str ⟨#[]⟩, .str ⟨#[]⟩, .nils, .int .i64 0]], 5, 103, false⟩ := ⟨_, hle3.2 _ _ (Hp.at_app_0.trans Hp.at_0), rfl⟩
          obtain ⟨B5, kb, hB5⟩ := kb
          have kbl := Hp.at_lt kb
          have nb0 : H2.length ≠ H.length := by have := Hp.at_lt k02; omega
          have nb1 : H2.length ≠ o1 := by have := Hp.at_lt k12; omega
          have nb2 : H2.length ≠ o2 := by have := Hp.at_lt k22; omega
          have hsl : ∀ Y : Option Ob, (List.set H3 H2.length Y).length = H3.length := fun Y => by simp
          have k03 : ∀ Y l, Hp.at (List.set H3 H2.length Y ++ l) H.length = _ := fun Y l => (Hp.at_app l (by rw [hsl]; exact Hp.at_lt k0f)).trans ((Hp.at_set_ne nb0).trans k0f)
          have k13 : ∀ Y l, Hp.at (List.set H3 H2.length Y ++ l) o1 = some ob1 := fun Y l => (Hp.at_app l (by rw [hsl]; exact Hp.at_lt k1f)).trans ((Hp.at_set_ne nb1).trans k1f)
          have k23 : ∀ Y l, Hp.at (List.set H3 H2.length Y ++ l) o2 = some ob2 := fun Y l => (Hp.at_app l (by rw [hsl]; exact Hp.at_lt k2f)).trans ((Hp.at_set_ne nb2).trans k2f)
          have k53 : ∀ Y l, Hp.at (List.set H3 H2.length Y ++ l) H2.length = Y := fun Y l => (Hp.at_app l (by rw [hsl]; exact kbl)).trans (Hp.at_set _ kbl)
          have k03' : ∀ Y, Hp.at (List.set H3 H2.length Y) H.length = _ := fun Y => (Hp.at_set_ne nb0).trans k0f
          have k13' : ∀ Y, Hp.at (List.set H3 H2.length Y) o1 = some ob1 := fun Y => (Hp.at_set_ne nb1).trans k1f
          have k23' : ∀ Y, Hp.at (List.set H3 H2.length Y) o2 = some ob2 := fun Y => (Hp.at_set_ne nb2).trans k2f
          have k73 : ∀ Y l, Hp.at (List.set H3 H2.length Y ++ l) H3.length = Hp.at l 0 := fun Y l => by rw [← hsl Y]; exact Hp.at_app_0
          have s73 : ∀ Y l x, List.set (List.set H3 H2.length Y ++ l) H3.length x = List.set H3 H2.length Y ++ List.set l 0 x := fun Y l x => by rw [← hsl Y]; exact Hp.set_app_0
          have hfin : ∀ Y l, HLe H (List.set H3 H2.length Y ++ l) := fun Y l => (hle13.fr_le (Fr.one H3 H2.length Y) (fun x hx => by subst hx; exact (hle1.trans hle2).1)).app l
          have hrf : ∀ Y l, Strs H r y.r → Strs (List.set H3 H2.length Y ++ l) r y.r := fun Y l h => h.le (hfin Y l)
          cases hso : sieveO (keysR es) s.keep with
          | none =>
            rw [hso] at hret
            obtain rfl := hret
            simp [kb, hB5, k03, k13, k23, k53, k73, s73, k03', k13', k23', c2, c3, e2, e3, hil, his, hrs.one]
            simp [hfin]
          | some x =>
            rw [hso] at hret
            obtain ⟨r', rfl, hr', hrl⟩ := hret
            rw [sim x]
            have hrF : ∀ Y l, Strs (List.set H3 H2.length Y ++ l) r' x.r := fun Y l => (hr'.strs.fr (Fr.one H3 H2.length Y) (fun z hz hh => hr'.rows.ne_of kb (by rw [hB5]; simp) hz hh)).le (HLe.self _ _)
            simp [svAV, hr'.rows.one, kb, hB5, k03, k13, k23, k53, k73, s73, k03', k13', k23', c2, c3, e2, e3, hil, his, hrs.one]
            refine g_split (fun q0 => ?_) (fun q0 => ?_) (by simp) <;> simp at q0 <;> simp [q0, k03, k13, k23, k53, k73, s73, k03', k13', k23', c2, c3, e2, e3, hil, his, hrs.one, hfin]
            refine g_split (fun q1 => ?_) (fun q1 => ?_) (by simp) <;> simp at q1 <;> simp [q1, k03, k13, k23, k53, k73, s73, k03', k13', k23', c2, c3, e2, e3, hil, his, hrs.one, hfin]
            refine g_split (fun q2 => ?_) (fun q2 => ?_) (by simp) <;> simp at q2 <;> simp [q2, k03, k13, k23, k53, k73, s73, k03', k13', k23', c2, c3, e2, e3, hil, his, hrs.one, hfin]
            refine g_split (fun q3 => ?_) (fun q3 => ?_) (by simp) <;> simp at q3 <;> simp [q3, k03, k13, k23, k53, k73, s73, k03', k13', k23', c2, c3, e2, e3, hil, his, hrs.one, hfin]
            refine cg_use (l3Sames_ok r' r x.r y.r _ (hrF _ _) (hrf _ _ hrs) (by omega)) ?_
            simp [hfin]
      · have j0 : ∀ l, Hp.at (H1 ++ l) H.length = _ := fun l => ((HLe.self H1 l).2 _ _ k0)
        have j1 : ∀ l, Hp.at (H1 ++ l) o1 = some ob1 := fun l => ((HLe.self H1 l).2 _ _ k1)
        have j2 : ∀ l, Hp.at (H1 ++ l) o2 = some ob2 := fun l => ((HLe.self H1 l).2 _ _ k2)
        simp [j0, j1, j2, c2, c3, hil]
        refine cg_ex (l11Keys_ok u es _ ((hue.le hle1).le (HLe.self _ _)) hes.1) ?_
        rintro v2 H2 ⟨hle2, hk2⟩
        have k02 := hle2.2 _ _ (j0 _)
        have k12 := hle2.2 _ _ (j1 _)
        have k22 := hle2.2 _ _ (j2 _)
        simp [k02]
        refine cg_ex (SieveOf_ok v2 (keysR es) s.keep H2 hk2.strs hks (by have := hes.1; omega)) ?_
        rintro v3 H3 ⟨hle3, hret⟩
        have k0f := hle3.2 _ _ k02
        have k1f := hle3.2 _ _ k12
        have k2f := hle3.2 _ _ k22
        have hle13 := ((hle1.app _).trans hle2).trans hle3
        have kb : ∃ B5, H3.at H1.length = some B5 ∧ B5 = ⟨[[.str ⟨#[]⟩, .str ⟨#[]⟩, .str ⟨#[]⟩, .nils, .int .i64 0]], 5, 103, false⟩ := ⟨_, hle3.2 _ _ (hle2.2 _ _ (Hp.at_app_0.trans Hp.at_0)), rfl⟩
        obtain ⟨B5, kb, hB5⟩ := kb
        have kbl := Hp.at_lt kb
        have nb0 : H1.length ≠ H.length := by have := Hp.at_lt k0; omega
        have nb1 : H1.length ≠ o1 := by have := Hp.at_lt k1; omega
        have nb2 : H1.length ≠ o2 := by have := Hp.at_lt k2; omega
        have hsl : ∀ Y : Option Ob, (List.set H3 H1.length Y).length = H3.length := fun Y => by simp
        have k03 : ∀ Y l, Hp.at (List.set H3 H1.length Y ++ l) H.length = _ := fun Y l => (Hp.at_app l (by rw [hsl]; exact Hp.at_lt k0f)).trans ((Hp.at_set_ne nb0).trans k0f)
        have k13 : ∀ Y l, Hp.at (List.set H3 H1.length Y ++ l) o1 = some ob1 := fun Y l => (Hp.at_app l (by rw [hsl]; exact Hp.at_lt k1f)).trans ((Hp.at_set_ne nb1).trans k1f)
        have k23 : ∀ Y l, Hp.at (List.set H3 H1.length Y ++ l) o2 = some ob2 := fun Y l => (Hp.at_app l (by rw [hsl]; exact Hp.at_lt k2f)).trans ((Hp.at_set_ne nb2).trans k2f)
        have k53 : ∀ Y l, Hp.at (List.set H3 H1.length Y ++ l) H1.length = Y := fun Y l => (Hp.at_app l (by rw [hsl]; exact kbl)).trans (Hp.at_set _ kbl)
        have k03' : ∀ Y, Hp.at (List.set H3 H1.length Y) H.length = _ := fun Y => (Hp.at_set_ne nb0).trans k0f
        have k13' : ∀ Y, Hp.at (List.set H3 H1.length Y) o1 = some ob1 := fun Y => (Hp.at_set_ne nb1).trans k1f
        have k23' : ∀ Y, Hp.at (List.set H3 H1.length Y) o2 = some ob2 := fun Y => (Hp.at_set_ne nb2).trans k2f
        have k73 : ∀ Y l, Hp.at (List.set H3 H1.length Y ++ l) H3.length = Hp.at l 0 := fun Y l => by rw [← hsl Y]; exact Hp.at_app_0
        have s73 : ∀ Y l x, List.set (List.set H3 H1.length Y ++ l) H3.length x = List.set H3 H1.length Y ++ List.set l 0 x := fun Y l x => by rw [← hsl Y]; exact Hp.set_app_0
        have hfin : ∀ Y l, HLe H (List.set H3 H1.length Y ++ l) := fun Y l => (hle13.fr_le (Fr.one H3 H1.length Y) (fun x hx => by subst hx; exact hle1.1)).app l
        have hrf : ∀ Y l, Strs H r y.r → Strs (List.set H3 H1.length Y ++ l) r y.r := fun Y l h => h.le (hfin Y l)
        cases hso : sieveO (keysR es) s.keep with
        | none =>
          rw [hso] at hret
          obtain rfl := hret
          simp [kb, hB5, k03, k13, k23, k53, k73, s73, k03', k13', k23', c2, c3, e2, e3, hil, his, hrs.one]
          simp [hfin]
        | some x =>
          rw [hso] at hret
          obtain ⟨r', rfl, hr', hrl⟩ := hret
          rw [sim x]
          have hrF : ∀ Y l, Strs (List.set H3 H1.length Y ++ l) r' x.r := fun Y l => (hr'.strs.fr (Fr.one H3 H1.length Y) (fun z hz hh => hr'.rows.ne_of kb (by rw [hB5]; simp) hz hh)).le (HLe.self _ _)
          simp [svAV, hr'.rows.one, kb, hB5, k03, k13, k23, k53, k73, s73, k03', k13', k23', c2, c3, e2, e3, hil, his, hrs.one]
          refine g_split (fun q0 => ?_) (fun q0 => ?_) (by simp) <;> simp at q0 <;> simp [q0, k03, k13, k23, k53, k73, s73, k03', k13', k23', c2, c3, e2, e3, hil, his, hrs.one, hfin]
          refine g_split (fun q1 => ?_) (fun q1 => ?_) (by simp) <;> simp at q1 <;> simp [q1, k03, k13, k23, k53, k73, s73, k03', k13', k23', c2, c3, e2, e3, hil, his, hrs.one, hfin]
          refine g_split (fun q2 => ?_) (fun q2 => ?_) (by simp) <;> simp at q2 <;> simp [q2, k03, k13, k23, k53, k73, s73, k03', k13', k23', c2, c3, e2, e3, hil, his, hrs.one, hfin]
          refine g_split (fun q3 => ?_) (fun q3 => ?_) (by simp) <;> simp at q3 <;> simp [q3, k03, k13, k23, k53, k73, s73, k03', k13', k23', c2, c3, e2, e3, hil, his, hrs.one, hfin]
          refine cg_use (l3Sames_ok r' r x.r y.r _ (hrF _ _) (hrf _ _ hrs) (by omega)) ?_
          simp [hfin]

theorem StoreOk_ok (v : AV) (s : Sr) (H : Hp) (hs : St H v s) (hb : StB s) : AC Try.prog E 48 [v] H (fun u H' => u = .bool (storeOk s) ∧ H' = H) := by
  obtain ⟨a, b, c, d, lr, sr, rfl, ha, hb1, hlr, hc, hsr, hd⟩ := hs
  have hs0 : St H (stAV a b c s d) s := ⟨a, b, c, d, lr, sr, rfl, ha, hb1, hlr, hc, hsr, hd⟩
  have hB := hb
  obtain ⟨hB1, hB2, hB3, hB4, hB5, hB6, hB7, hB8, hB9⟩ := hb
  refine AC_byp (tC_le tab2_ok) h_spec_StoreOk (by simp) ?_
  have l2 := hb1.len
  have l3 := hc.len
  have l1 := ha.len
  rw [hlr.length] at l2
  rw [hsr.length] at l3
  obtain ⟨H1, hH1⟩ : ∃ H1, H1 = H ++ [some ⟨[[a, b, c, .int .i64 s.keep, .int .i64 s.time, d]], 6, 65, false⟩] := ⟨_, rfl⟩
  have hle1 : HLe H H1 := by rw [hH1]; exact HLe.self _ _
  have k0 : H1.at H.length = some ⟨[[a, b, c, .int .i64 s.keep, .int .i64 s.time, d]], 6, 65, false⟩ := by rw [hH1]; simp
  simp [c_spec_StoreOk, stAV, ha.one, hb1.one, hc.one, hd.one, ← hH1, k0, l2, hb1.slc]
  have no : ∀ {p : Prop}, headOk s = false → p → storeOk s = false := fun h _ => by simp [storeOk, h]
  refine g_split (fun q1 => ?_) (fun q1 => ?_) (by simp) <;> simp at q1 <;> simp [q1, hle1, k0, l3, hc.slc]
  · simp [storeOk, headOk]
    intros; omega
  refine g_split (fun q2 => ?_) (fun q2 => ?_) (by simp) <;> simp at q2 <;> simp [q2, hle1, k0]
  · simp [storeOk, headOk]
    intros; omega
  refine g_split (fun q3 => ?_) (fun q3 => ?_) (by simp) <;> simp at q3 <;> simp [q3, hle1, k0]
  · simp [storeOk, headOk]
    intros; omega
  refine g_split (fun q4 => ?_) (fun q4 => ?_) (by simp) <;> simp at q4 <;> simp [q4, hle1, k0]
  · simp [storeOk, headOk]
    intros; omega
  refine cg_use (l12Times_ok d s.tms s.time H1 (hd.le hle1) (by omega)) ?_
  simp
  refine c_split (fun q5 => ?_) (fun q5 => ?_) <;> simp at q5 <;> simp [hle1, k0]
  · simp [storeOk, headOk, q5]
  refine cg_use (RunOk_ok a s.top H1 (ha.le hle1) hB1.2.short (by have := hB1.1; omega)) ?_
  simp [k0]
  refine g_split (fun q6 => ?_) (fun q6 => ?_) (by simp) <;> simp at q6 <;> simp [q6, hle1, k0, l1, ha.slc]
  · simp [storeOk, q6]
  refine c_split (fun q7 => ?_) (fun q7 => ?_) <;> simp at q7 <;> simp [hle1]
  · simp [storeOk]
    intros; omega
  have q1' : s.lev.length = 3 := by omega
  have q2' : s.sv.length = 3 := by omega
  have hhead : headOk s = true := by simp [headOk, q1', q2', q3, q4, q5]
  have q7' : s.top.length ≤ 4 := by omega
  have hlr3 : lr.length = 3 := by rw [hlr.length]; exact q1'
  obtain ⟨o1, i1, ob1, rfl, c1, c2, _⟩ := hb1.get (j := 0) (by omega)
  have row : ∀ j, j < 3 → ∃ u, ob1.rows[i1 + j]? = some [u] ∧ Ents H u (s.lev.getD j []) := by
    intro j hj
    obtain ⟨o2, i2, ob2, e1, e2, e3, e4⟩ := hb1.get (j := j) (by omega)
    cases e1
    rw [c1] at e2
    cases e2
    obtain ⟨u, hu, hue⟩ := hlr.get j (by omega) (by omega)
    refine ⟨u, by rw [e4, hu], ?_⟩
    have : s.lev.getD j [] = s.lev[j]'(by omega) := by
      rw [List.getD_eq_getElem?_getD, List.getElem?_eq_getElem (by omega)]
      rfl
    rw [this]
    exact hue
  have bnd : ∀ j, j < 3 → (s.lev.getD j []).length < 1099511627776 := by
    intro j hj
    rw [List.getD_eq_getElem?_getD, List.getElem?_eq_getElem (by omega)]
    exact (hB2 _ (List.getElem_mem (by omega))).1
  have fail : ∀ i, i < 3 → ¬ okAt s i → storeOk s = false := by
    intro i hi hno
    have : ¬ (okAt s 0 ∧ okAt s 1 ∧ okAt s 2) := by
      rintro ⟨h0, h1, h2⟩
      match i, hi with
      | 0, _ => exact hno h0
      | 1, _ => exact hno h1
      | 2, _ => exact hno h2
    simp [storeOk, this]
  refine W_for (fun m t H' => ∃ i : Nat, i + m = 3 ∧ t 1 = .pt H.length 0 0 ∧ t 3 = .int .i64 i ∧ H1 = H' ∧ ∀ j, j < i → okAt s j) 3 ?_ (tC_mono AC_mono) ?_
  · exact ⟨0, by simp⟩
  rintro m t H' ⟨i, him, h1, h3, rfl, hI⟩
  have k1 := hle1.2 _ _ c1
  simp [h1, h3]
  refine c_split (fun hq => ?_) (fun hq => ?_) <;> simp at hq
  · have hi3 : i < 3 := by omega
    obtain ⟨ui, r1, r2⟩ := row i hi3
    have hw := wrapN (i := i) (by omega)
    simp [h1, h3, k0]
    refine cg_use (l12Level_ok (stAV a (.sl o1 i1 lr.length) c s d) s i H1 (hs0.le hle1) hB (by omega) (by omega) (by omega)) ?_
    cases hlv : levelOk s i with
    | false =>
      simp [hle1]
      exact fail i hi3 (fun h => by have := h.1; rw [hlv] at this; cases this)
    | true =>
      have hil : i < lr.length := by omega
      simp [h1, h3, k0, k1, c2, r1, hil]
      refine cg_use (l12Newest_ok a ui s.top (s.lev.getD i []) s.time H1 (ha.le hle1) (r2.le hle1) hB1.1 (bnd i hi3)) ?_
      cases hnw : newestR (s.lev.getD i []) s.time s.top with
      | false =>
        simp [hle1]
        exact fail i hi3 (fun h => by have := h.2.1; rw [hnw] at this; cases this)
      | true =>
        simp [h1, h3, hw]
        refine W_for (fun m2 t H' => ∃ k : Nat, k + m2 = 3 ∧ i < k ∧ t 1 = .pt H.length 0 0 ∧ t 3 = .int .i64 i ∧ t 4 = .int .i64 k ∧ H1 = H' ∧ ∀ j, j < k → i < j → lowOk s i j = true) (2 - i) ?_ (tC_mono AC_mono) ?_
        · exact ⟨i + 1, by omega, by omega, by simp [h1], by simp [h3], by simp, rfl, fun j hj hij => by omega⟩
        rintro m2 t H2 ⟨k, hkm, hik, h1, h3, h4, rfl, hI2⟩
        simp [h1, h3, h4]
        refine c_split (fun hq2 => ?_) (fun hq2 => ?_) <;> simp at hq2
        · have hk3 : k < 3 := by omega
          have hkl : k < lr.length := by omega
          obtain ⟨uk, r3, r4⟩ := row k hk3
          have hw2 := wrapN (i := k) (by omega)
          simp [h1, h3, h4, k0, k1, c2, r1, r3, hil, hkl]
          refine cg_use (l12Newest_ok ui uk (s.lev.getD i []) (s.lev.getD k []) s.time _ (r2.le hle1) (r4.le hle1) (bnd i hi3) (bnd k hk3)) ?_
          cases hlo : newestR (s.lev.getD k []) s.time (s.lev.getD i []) with
          | false =>
            simp [hle1]
            exact fail i hi3 (fun h => by have := h.2.2 k hk3 hik; rw [lowOk, hlo] at this; cases this)
          | true =>
            simp [h1, h3, h4, hw2]
            refine ⟨m2 - 1, by omega, k + 1, by omega, by omega, by omega, fun j hj hij => ?_⟩
            rcases Nat.lt_or_ge j k with h | h
            · exact hI2 j h hij
            · have : j = k := by omega
              subst this
              exact hlo
        · simp [h1, h3, hw]
          refine ⟨m - 1, by omega, i + 1, by omega, by omega, fun j hj => ?_⟩
          rcases Nat.lt_or_ge j i with h | h
          · exact hI j h
          · have : j = i := by omega
            subst this
            exact ⟨hlv, hnw, fun k hk hjk => hI2 k (by omega) hjk⟩
  · simp [hle1]
    simp [storeOk, hhead, q6, q7', hI 0 (by omega), hI 1 (by omega), hI 2 (by omega)]

end Go.Proofs.Ytkdnijiipegabaa.B
