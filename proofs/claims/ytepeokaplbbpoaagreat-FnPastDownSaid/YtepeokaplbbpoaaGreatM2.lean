/- A part of the proof: Written by codes.py: the compact codes of functions; each is what compF makes of the program's own. Written by codes.py: the compact codes of functions; each is what compF makes of the program's own. Written by codes.py: the compact codes of functions; each is what compF makes of the program's own. Written by codes.py: the compact codes of functions; each is what compF makes of the program's own. Written by codes.py: the compact codes of functions; each is what compF makes of the program's own. All the codes. The program logic over the seat's program: functions by their codes, calls read off a table. The reference's small functions, and the table of calls that touch no memory. The reference's functions for keys, runs and texts. The reference's reader of codes, and what it draws. What the reference draws: keys and runs. The law FnBlockSum. Runs, sieves and stores, in plain Lean. Sorted runs, in plain Lean. The reference's functions for runs. The reference's functions for runs and times. The reference's functions for sieves. Forks of sorted keys: what shares a letter stands together. The reference's functions for sieves: they make what was said. The reference's SieveOf. There is no condition. -/
import Derived.Test.YtepeokaplbbpoaaGreatProg
import Derived.Test.YtepeokaplbbpoaaGreatM0
import Derived.Test.YtepeokaplbbpoaaGreatM1
namespace Go.Proofs.YtepeokaplbbpoaaGreat.B
open Go.Proofs
def c_impl_changed:CF:=⟨19,(.seq (.plan (Z1 2 (.box 28 6 (.t 0)) (Z1 4 (.alloc 28 [.nils,.nils,.nils,(.int .i64 0),(.int .i64 0),.nils]) (Z1 5 (.mv (.c (.bool false))) .fin)))) (.seq (.seq (.plan (Z1 7 (.lda 6 (.t 2)) (Z1 8 (.call 24 [(.t 7)]) (Z1 9 (.not (.t 8)) .fin)))) (.cond (.t 9) (.seq (.plan (Z1 10 (.build [.nils,.nils,.nils,(.int .i64 0),(.int .i64 0),.nils] []) (.st none (.st 6 (.t 4) (.t 10)) none [] (Z1 5 (.mv (.c (.bool false))) .fin)))) .ret) .skip)) (.seq (.plan (Z1 11 (.lda 6 (.t 2)) (Z1 12 (.call 102 [(.t 11)]) (Z1 6 (.alloc 28 [.nils,.nils,.nils,(.int .i64 0),(.int .i64 0),.nils]) (.st none (.st 6 (.t 6) (.t 12)) none [] .fin))))) (.seq (.seq (.plan (Z1 13 (.mv (.t 1)) (Z1 14 (.calv (.t 13) [(.t 6)]) (Z1 15 (.not (.t 14)) .fin)))) (.cond (.t 15) (.seq (.plan (Z1 16 (.build [.nils,.nils,.nils,(.int .i64 0),(.int .i64 0),.nils] []) (.st none (.st 6 (.t 4) (.t 16)) none [] (Z1 5 (.mv (.c (.bool false))) .fin)))) .ret) .skip)) (.seq (.plan (Z1 17 (.lda 6 (.t 6)) (Z1 18 (.call 102 [(.t 17)]) (.st none (.st 6 (.t 4) (.t 18)) none [] (Z1 5 (.mv (.c (.bool true))) .fin))))) .ret))))),[(.ca 4 6),(.t 5)]⟩
theorem h_impl_changed:compF Tryz.prog 49=some c_impl_changed:=by kernel_rfl
def c_slices_insertionSortCmpFunc_impl_Entry:CF:=⟨53,(.seq (.plan (Z1 10 (.mv (.t 1)) (Z1 11 (.bin .add (.t 10) (.c (.int .i64 1))) (Z1 8 (.mv (.t 11)) .fin)))) (.block 0 (.loop (.seq (.seq (.plan (Z1 12 (.mv (.t 8)) (Z1 13 (.mv (.t 2)) (Z1 14 (.bin .lss (.t 12) (.t 13)) .fin)))) (.cond (.t 14) .skip (.exit 0))) (.seq (.block 1 (.seq (.plan (Z1 17 (.mv (.t 8)) (Z1 9 (.mv (.t 17)) .fin))) (.block 2 (.loop (.seq (.seq (.plan (Z1 18 (.mv (.t 9)) (Z1 19 (.mv (.t 1)) (Z1 20 (.bin .gtr (.t 18) (.t 19)) (Z1 21 (.mv (.t 20)) (.st (some 22) (.mv (.t 3)) (some (21,true)) [] (.st (some 23) (.mv (.t 0)) (some (21,true)) [] (.st (some 24) (.mv (.t 9)) (some (21,true)) [] (.st (some 25) (.ia 4 (.t 23) (.t 24)) (some (21,true)) [] (.st (some 26) (.lda 4 (.t 25)) (some (21,true)) [] (.st (some 27) (.mv (.t 0)) (some (21,true)) [] (.st (some 28) (.mv (.t 9)) (some (21,true)) [] (.st (some 29) (.bin .sub (.t 28) (.c (.int .i64 1))) (some (21,true)) [] (.st (some 30) (.ia 4 (.t 27) (.t 29)) (some (21,true)) [] (.st (some 31) (.lda 4 (.t 30)) (some (21,true)) [] (.st (some 32) (.calv (.t 22) [(.t 26),(.t 31)]) (some (21,true)) [] (.st (some 33) (.bin .lss (.t 32) (.c (.int .i64 0))) (some (21,true)) [] (Z1 34 (.pick (.t 21) (.t 33) (.c (.bool false))) .fin)))))))))))))))))) (.cond (.t 34) .skip (.exit 2))) (.seq (.block 3 (.plan (Z1 37 (.mv (.t 0)) (Z1 38 (.mv (.t 9)) (Z1 39 (.mv (.t 0)) (Z1 40 (.mv (.t 9)) (Z1 41 (.bin .sub (.t 40) (.c (.int .i64 1))) (Z1 42 (.mv (.t 0)) (Z1 43 (.mv (.t 9)) (Z1 44 (.bin .sub (.t 43) (.c (.int .i64 1))) (Z1 45 (.ia 4 (.t 42) (.t 44)) (Z1 46 (.lda 4 (.t 45)) (Z1 47 (.mv (.t 0)) (Z1 48 (.mv (.t 9)) (Z1 49 (.ia 4 (.t 47) (.t 48)) (Z1 50 (.lda 4 (.t 49)) (Z1 51 (.ia 4 (.t 37) (.t 38)) (.st none (.st 4 (.t 51) (.t 46)) none [] (Z1 52 (.ia 4 (.t 39) (.t 41)) (.st none (.st 4 (.t 52) (.t 50)) none [] .fin)))))))))))))))))))) (.plan (Z1 35 (.mv (.t 9)) (Z1 36 (.bin .sub (.t 35) (.c (.int .i64 1))) (Z1 9 (.mv (.t 36)) .fin)))))))))) (.plan (Z1 15 (.mv (.t 8)) (Z1 16 (.bin .add (.t 15) (.c (.int .i64 1))) (Z1 8 (.mv (.t 16)) .fin))))))))),[]⟩
theorem h_slices_insertionSortCmpFunc_impl_Entry:compF Tryz.prog 206=some c_slices_insertionSortCmpFunc_impl_Entry:=by kernel_rfl
def c_slices_swapRangeCmpFunc_impl_Entry:CF:=⟨38,(.seq (.plan (Z1 10 (.mv (.c (.int .i64 0))) .fin)) (.block 0 (.loop (.seq (.seq (.plan (Z1 11 (.mv (.t 10)) (Z1 12 (.mv (.t 3)) (Z1 13 (.bin .lss (.t 11) (.t 12)) .fin)))) (.cond (.t 13) .skip (.exit 0))) (.seq (.block 1 (.plan (Z1 16 (.mv (.t 0)) (Z1 17 (.mv (.t 1)) (Z1 18 (.mv (.t 10)) (Z1 19 (.bin .add (.t 17) (.t 18)) (Z1 20 (.mv (.t 0)) (Z1 21 (.mv (.t 2)) (Z1 22 (.mv (.t 10)) (Z1 23 (.bin .add (.t 21) (.t 22)) (Z1 24 (.mv (.t 0)) (Z1 25 (.mv (.t 2)) (Z1 26 (.mv (.t 10)) (Z1 27 (.bin .add (.t 25) (.t 26)) (Z1 28 (.ia 4 (.t 24) (.t 27)) (Z1 29 (.lda 4 (.t 28)) (Z1 30 (.mv (.t 0)) (Z1 31 (.mv (.t 1)) (Z1 32 (.mv (.t 10)) (Z1 33 (.bin .add (.t 31) (.t 32)) (Z1 34 (.ia 4 (.t 30) (.t 33)) (Z1 35 (.lda 4 (.t 34)) (Z1 36 (.ia 4 (.t 16) (.t 19)) (.st none (.st 4 (.t 36) (.t 29)) none [] (Z1 37 (.ia 4 (.t 20) (.t 23)) (.st none (.st 4 (.t 37) (.t 35)) none [] .fin)))))))))))))))))))))))))) (.plan (Z1 14 (.mv (.t 10)) (Z1 15 (.bin .add (.t 14) (.c (.int .i64 1))) (Z1 10 (.mv (.t 15)) .fin))))))))),[]⟩
theorem h_slices_swapRangeCmpFunc_impl_Entry:compF Tryz.prog 216=some c_slices_swapRangeCmpFunc_impl_Entry:=by kernel_rfl
def c_slices_rotateCmpFunc_impl_Entry:CF:=⟨58,(.seq (.plan (Z1 12 (.mv (.t 2)) (Z1 13 (.mv (.t 1)) (Z1 14 (.bin .sub (.t 12) (.t 13)) (Z1 10 (.mv (.t 14)) .fin))))) (.seq (.plan (Z1 15 (.mv (.t 3)) (Z1 16 (.mv (.t 2)) (Z1 17 (.bin .sub (.t 15) (.t 16)) (Z1 11 (.mv (.t 17)) .fin))))) (.seq (.block 0 (.loop (.seq (.seq (.plan (Z1 18 (.mv (.t 10)) (Z1 19 (.mv (.t 11)) (Z1 20 (.bin .neq (.t 18) (.t 19)) .fin)))) (.cond (.t 20) .skip (.exit 0))) (.block 1 (.seq (.plan (Z1 21 (.mv (.t 10)) (Z1 22 (.mv (.t 11)) (Z1 23 (.bin .gtr (.t 21) (.t 22)) .fin)))) (.cond (.t 23) (.seq (.plan (Z1 24 (.mv (.t 0)) (Z1 25 (.mv (.t 2)) (Z1 26 (.mv (.t 10)) (Z1 27 (.bin .sub (.t 25) (.t 26)) (Z1 28 (.mv (.t 2)) (Z1 29 (.mv (.t 11)) (Z1 30 (.mv (.t 4)) (Z1 31 (.call 216 [(.t 24),(.t 27),(.t 28),(.t 29),(.t 30)]) .fin))))))))) (.plan (Z1 32 (.mv (.t 10)) (Z1 33 (.mv (.t 11)) (Z1 34 (.bin .sub (.t 32) (.t 33)) (Z1 10 (.mv (.t 34)) .fin)))))) (.seq (.plan (Z1 35 (.mv (.t 0)) (Z1 36 (.mv (.t 2)) (Z1 37 (.mv (.t 10)) (Z1 38 (.bin .sub (.t 36) (.t 37)) (Z1 39 (.mv (.t 2)) (Z1 40 (.mv (.t 11)) (Z1 41 (.bin .add (.t 39) (.t 40)) (Z1 42 (.mv (.t 10)) (Z1 43 (.bin .sub (.t 41) (.t 42)) (Z1 44 (.mv (.t 10)) (Z1 45 (.mv (.t 4)) (Z1 46 (.call 216 [(.t 35),(.t 38),(.t 43),(.t 44),(.t 45)]) .fin))))))))))))) (.plan (Z1 47 (.mv (.t 11)) (Z1 48 (.mv (.t 10)) (Z1 49 (.bin .sub (.t 47) (.t 48)) (Z1 11 (.mv (.t 49)) .fin)))))))))))) (.plan (Z1 50 (.mv (.t 0)) (Z1 51 (.mv (.t 2)) (Z1 52 (.mv (.t 10)) (Z1 53 (.bin .sub (.t 51) (.t 52)) (Z1 54 (.mv (.t 2)) (Z1 55 (.mv (.t 10)) (Z1 56 (.mv (.t 4)) (Z1 57 (.call 216 [(.t 50),(.t 53),(.t 54),(.t 55),(.t 56)]) .fin)))))))))))),[]⟩
theorem h_slices_rotateCmpFunc_impl_Entry:compF Tryz.prog 211=some c_slices_rotateCmpFunc_impl_Entry:=by kernel_rfl
def c_slices_symMergeCmpFunc_impl_Entry:CF:=⟨220,(.seq (.seq (.plan (Z1 25 (.mv (.t 2)) (Z1 26 (.mv (.t 1)) (Z1 27 (.bin .sub (.t 25) (.t 26)) (Z1 28 (.bin .eql (.t 27) (.c (.int .i64 1))) .fin))))) (.cond (.t 28) (.seq (.plan (Z1 29 (.mv (.t 2)) (Z1 10 (.mv (.t 29)) .fin))) (.seq (.plan (Z1 30 (.mv (.t 3)) (Z1 11 (.mv (.t 30)) .fin))) (.seq (.block 0 (.loop (.seq (.seq (.plan (Z1 31 (.mv (.t 10)) (Z1 32 (.mv (.t 11)) (Z1 33 (.bin .lss (.t 31) (.t 32)) .fin)))) (.cond (.t 33) .skip (.exit 0))) (.block 1 (.seq (.plan (Z1 34 (.mv (.t 10)) (Z1 35 (.mv (.t 11)) (Z1 36 (.bin .add (.t 34) (.t 35)) (Z1 37 (.cv .u64 (.t 36)) (Z1 38 (.bin .shr (.t 37) (.c (.int .u64 1))) (Z1 39 (.cv .i64 (.t 38)) (Z1 12 (.mv (.t 39)) .fin)))))))) (.seq (.plan (Z1 40 (.mv (.t 4)) (Z1 41 (.mv (.t 0)) (Z1 42 (.mv (.t 12)) (Z1 43 (.ia 4 (.t 41) (.t 42)) (Z1 44 (.lda 4 (.t 43)) (Z1 45 (.mv (.t 0)) (Z1 46 (.mv (.t 1)) (Z1 47 (.ia 4 (.t 45) (.t 46)) (Z1 48 (.lda 4 (.t 47)) (Z1 49 (.calv (.t 40) [(.t 44),(.t 48)]) (Z1 50 (.bin .lss (.t 49) (.c (.int .i64 0))) .fin)))))))))))) (.cond (.t 50) (.plan (Z1 51 (.mv (.t 12)) (Z1 52 (.bin .add (.t 51) (.c (.int .i64 1))) (Z1 10 (.mv (.t 52)) .fin)))) (.plan (Z1 53 (.mv (.t 12)) (Z1 11 (.mv (.t 53)) .fin)))))))))) (.seq (.seq (.plan (Z1 54 (.mv (.t 1)) (Z1 13 (.mv (.t 54)) .fin))) (.block 2 (.loop (.seq (.seq (.plan (Z1 55 (.mv (.t 13)) (Z1 56 (.mv (.t 10)) (Z1 57 (.bin .sub (.t 56) (.c (.int .i64 1))) (Z1 58 (.bin .lss (.t 55) (.t 57)) .fin))))) (.cond (.t 58) .skip (.exit 2))) (.seq (.block 3 (.plan (Z1 61 (.mv (.t 0)) (Z1 62 (.mv (.t 13)) (Z1 63 (.mv (.t 0)) (Z1 64 (.mv (.t 13)) (Z1 65 (.bin .add (.t 64) (.c (.int .i64 1))) (Z1 66 (.mv (.t 0)) (Z1 67 (.mv (.t 13)) (Z1 68 (.bin .add (.t 67) (.c (.int .i64 1))) (Z1 69 (.ia 4 (.t 66) (.t 68)) (Z1 70 (.lda 4 (.t 69)) (Z1 71 (.mv (.t 0)) (Z1 72 (.mv (.t 13)) (Z1 73 (.ia 4 (.t 71) (.t 72)) (Z1 74 (.lda 4 (.t 73)) (Z1 75 (.ia 4 (.t 61) (.t 62)) (.st none (.st 4 (.t 75) (.t 70)) none [] (Z1 76 (.ia 4 (.t 63) (.t 65)) (.st none (.st 4 (.t 76) (.t 74)) none [] .fin)))))))))))))))))))) (.plan (Z1 59 (.mv (.t 13)) (Z1 60 (.bin .add (.t 59) (.c (.int .i64 1))) (Z1 13 (.mv (.t 60)) .fin))))))))) .ret)))) .skip)) (.seq (.seq (.plan (Z1 77 (.mv (.t 3)) (Z1 78 (.mv (.t 2)) (Z1 79 (.bin .sub (.t 77) (.t 78)) (Z1 80 (.bin .eql (.t 79) (.c (.int .i64 1))) .fin))))) (.cond (.t 80) (.seq (.plan (Z1 81 (.mv (.t 1)) (Z1 14 (.mv (.t 81)) .fin))) (.seq (.plan (Z1 82 (.mv (.t 2)) (Z1 15 (.mv (.t 82)) .fin))) (.seq (.block 4 (.loop (.seq (.seq (.plan (Z1 83 (.mv (.t 14)) (Z1 84 (.mv (.t 15)) (Z1 85 (.bin .lss (.t 83) (.t 84)) .fin)))) (.cond (.t 85) .skip (.exit 4))) (.block 5 (.seq (.plan (Z1 86 (.mv (.t 14)) (Z1 87 (.mv (.t 15)) (Z1 88 (.bin .add (.t 86) (.t 87)) (Z1 89 (.cv .u64 (.t 88)) (Z1 90 (.bin .shr (.t 89) (.c (.int .u64 1))) (Z1 91 (.cv .i64 (.t 90)) (Z1 16 (.mv (.t 91)) .fin)))))))) (.seq (.plan (Z1 92 (.mv (.t 4)) (Z1 93 (.mv (.t 0)) (Z1 94 (.mv (.t 2)) (Z1 95 (.ia 4 (.t 93) (.t 94)) (Z1 96 (.lda 4 (.t 95)) (Z1 97 (.mv (.t 0)) (Z1 98 (.mv (.t 16)) (Z1 99 (.ia 4 (.t 97) (.t 98)) (Z1 100 (.lda 4 (.t 99)) (Z1 101 (.calv (.t 92) [(.t 96),(.t 100)]) (Z1 102 (.bin .lss (.t 101) (.c (.int .i64 0))) (Z1 103 (.not (.t 102)) .fin))))))))))))) (.cond (.t 103) (.plan (Z1 104 (.mv (.t 16)) (Z1 105 (.bin .add (.t 104) (.c (.int .i64 1))) (Z1 14 (.mv (.t 105)) .fin)))) (.plan (Z1 106 (.mv (.t 16)) (Z1 15 (.mv (.t 106)) .fin)))))))))) (.seq (.seq (.plan (Z1 107 (.mv (.t 2)) (Z1 17 (.mv (.t 107)) .fin))) (.block 6 (.loop (.seq (.seq (.plan (Z1 108 (.mv (.t 17)) (Z1 109 (.mv (.t 14)) (Z1 110 (.bin .gtr (.t 108) (.t 109)) .fin)))) (.cond (.t 110) .skip (.exit 6))) (.seq (.block 7 (.plan (Z1 113 (.mv (.t 0)) (Z1 114 (.mv (.t 17)) (Z1 115 (.mv (.t 0)) (Z1 116 (.mv (.t 17)) (Z1 117 (.bin .sub (.t 116) (.c (.int .i64 1))) (Z1 118 (.mv (.t 0)) (Z1 119 (.mv (.t 17)) (Z1 120 (.bin .sub (.t 119) (.c (.int .i64 1))) (Z1 121 (.ia 4 (.t 118) (.t 120)) (Z1 122 (.lda 4 (.t 121)) (Z1 123 (.mv (.t 0)) (Z1 124 (.mv (.t 17)) (Z1 125 (.ia 4 (.t 123) (.t 124)) (Z1 126 (.lda 4 (.t 125)) (Z1 127 (.ia 4 (.t 113) (.t 114)) (.st none (.st 4 (.t 127) (.t 122)) none [] (Z1 128 (.ia 4 (.t 115) (.t 117)) (.st none (.st 4 (.t 128) (.t 126)) none [] .fin)))))))))))))))))))) (.plan (Z1 111 (.mv (.t 17)) (Z1 112 (.bin .sub (.t 111) (.c (.int .i64 1))) (Z1 17 (.mv (.t 112)) .fin))))))))) .ret)))) .skip)) (.seq (.plan (Z1 129 (.mv (.t 1)) (Z1 130 (.mv (.t 3)) (Z1 131 (.bin .add (.t 129) (.t 130)) (Z1 132 (.cv .u64 (.t 131)) (Z1 133 (.bin .shr (.t 132) (.c (.int .u64 1))) (Z1 134 (.cv .i64 (.t 133)) (Z1 18 (.mv (.t 134)) .fin)))))))) (.seq (.plan (Z1 135 (.mv (.t 18)) (Z1 136 (.mv (.t 2)) (Z1 137 (.bin .add (.t 135) (.t 136)) (Z1 19 (.mv (.t 137)) .fin))))) (.seq (.plan (Z1 20 (.mv (.c (.int .i64 0))) (Z1 21 (.mv (.c (.int .i64 0))) .fin))) (.seq (.seq (.plan (Z1 138 (.mv (.t 2)) (Z1 139 (.mv (.t 18)) (Z1 140 (.bin .gtr (.t 138) (.t 139)) .fin)))) (.cond (.t 140) (.seq (.plan (Z1 141 (.mv (.t 19)) (Z1 142 (.mv (.t 3)) (Z1 143 (.bin .sub (.t 141) (.t 142)) (Z1 20 (.mv (.t 143)) .fin))))) (.plan (Z1 144 (.mv (.t 18)) (Z1 21 (.mv (.t 144)) .fin)))) (.seq (.plan (Z1 145 (.mv (.t 1)) (Z1 20 (.mv (.t 145)) .fin))) (.plan (Z1 146 (.mv (.t 2)) (Z1 21 (.mv (.t 146)) .fin)))))) (.seq (.plan (Z1 147 (.mv (.t 19)) (Z1 148 (.bin .sub (.t 147) (.c (.int .i64 1))) (Z1 22 (.mv (.t 148)) .fin)))) (.seq (.block 8 (.loop (.seq (.seq (.plan (Z1 149 (.mv (.t 20)) (Z1 150 (.mv (.t 21)) (Z1 151 (.bin .lss (.t 149) (.t 150)) .fin)))) (.cond (.t 151) .skip (.exit 8))) (.block 9 (.seq (.plan (Z1 152 (.mv (.t 20)) (Z1 153 (.mv (.t 21)) (Z1 154 (.bin .add (.t 152) (.t 153)) (Z1 155 (.cv .u64 (.t 154)) (Z1 156 (.bin .shr (.t 155) (.c (.int .u64 1))) (Z1 157 (.cv .i64 (.t 156)) (Z1 23 (.mv (.t 157)) .fin)))))))) (.seq (.plan (Z1 158 (.mv (.t 4)) (Z1 159 (.mv (.t 0)) (Z1 160 (.mv (.t 22)) (Z1 161 (.mv (.t 23)) (Z1 162 (.bin .sub (.t 160) (.t 161)) (Z1 163 (.ia 4 (.t 159) (.t 162)) (Z1 164 (.lda 4 (.t 163)) (Z1 165 (.mv (.t 0)) (Z1 166 (.mv (.t 23)) (Z1 167 (.ia 4 (.t 165) (.t 166)) (Z1 168 (.lda 4 (.t 167)) (Z1 169 (.calv (.t 158) [(.t 164),(.t 168)]) (Z1 170 (.bin .lss (.t 169) (.c (.int .i64 0))) (Z1 171 (.not (.t 170)) .fin))))))))))))))) (.cond (.t 171) (.plan (Z1 172 (.mv (.t 23)) (Z1 173 (.bin .add (.t 172) (.c (.int .i64 1))) (Z1 20 (.mv (.t 173)) .fin)))) (.plan (Z1 174 (.mv (.t 23)) (Z1 21 (.mv (.t 174)) .fin)))))))))) (.seq (.plan (Z1 175 (.mv (.t 19)) (Z1 176 (.mv (.t 20)) (Z1 177 (.bin .sub (.t 175) (.t 176)) (Z1 24 (.mv (.t 177)) .fin))))) (.seq (.seq (.plan (Z1 178 (.mv (.t 20)) (Z1 179 (.mv (.t 2)) (Z1 180 (.bin .lss (.t 178) (.t 179)) (Z1 181 (.mv (.t 180)) (.st (some 182) (.mv (.t 2)) (some (181,true)) [] (.st (some 183) (.mv (.t 24)) (some (181,true)) [] (.st (some 184) (.bin .lss (.t 182) (.t 183)) (some (181,true)) [] (Z1 185 (.pick (.t 181) (.t 184) (.c (.bool false))) .fin))))))))) (.cond (.t 185) (.plan (Z1 186 (.mv (.t 0)) (Z1 187 (.mv (.t 20)) (Z1 188 (.mv (.t 2)) (Z1 189 (.mv (.t 24)) (Z1 190 (.mv (.t 4)) (Z1 191 (.call 211 [(.t 186),(.t 187),(.t 188),(.t 189),(.t 190)]) .fin))))))) .skip)) (.seq (.seq (.plan (Z1 192 (.mv (.t 1)) (Z1 193 (.mv (.t 20)) (Z1 194 (.bin .lss (.t 192) (.t 193)) (Z1 195 (.mv (.t 194)) (.st (some 196) (.mv (.t 20)) (some (195,true)) [] (.st (some 197) (.mv (.t 18)) (some (195,true)) [] (.st (some 198) (.bin .lss (.t 196) (.t 197)) (some (195,true)) [] (Z1 199 (.pick (.t 195) (.t 198) (.c (.bool false))) .fin))))))))) (.cond (.t 199) (.plan (Z1 200 (.mv (.t 0)) (Z1 201 (.mv (.t 1)) (Z1 202 (.mv (.t 20)) (Z1 203 (.mv (.t 18)) (Z1 204 (.mv (.t 4)) (Z1 205 (.call 207 [(.t 200),(.t 201),(.t 202),(.t 203),(.t 204)]) .fin))))))) .skip)) (.seq (.plan (Z1 206 (.mv (.t 18)) (Z1 207 (.mv (.t 24)) (Z1 208 (.bin .lss (.t 206) (.t 207)) (Z1 209 (.mv (.t 208)) (.st (some 210) (.mv (.t 24)) (some (209,true)) [] (.st (some 211) (.mv (.t 3)) (some (209,true)) [] (.st (some 212) (.bin .lss (.t 210) (.t 211)) (some (209,true)) [] (Z1 213 (.pick (.t 209) (.t 212) (.c (.bool false))) .fin))))))))) (.cond (.t 213) (.plan (Z1 214 (.mv (.t 0)) (Z1 215 (.mv (.t 18)) (Z1 216 (.mv (.t 24)) (Z1 217 (.mv (.t 3)) (Z1 218 (.mv (.t 4)) (Z1 219 (.call 207 [(.t 214),(.t 215),(.t 216),(.t 217),(.t 218)]) .fin))))))) .skip))))))))))))),[]⟩
theorem h_slices_symMergeCmpFunc_impl_Entry:compF Tryz.prog 207=some c_slices_symMergeCmpFunc_impl_Entry:=by kernel_rfl
def c_slices_stableCmpFunc_impl_Entry:CF:=⟨63,(.seq (.plan (Z1 6 (.mv (.c (.int .i64 20))) .fin)) (.seq (.plan (Z1 10 (.mv (.t 6)) (Z1 7 (.mv (.c (.int .i64 0))) (Z1 8 (.mv (.t 10)) .fin)))) (.seq (.block 0 (.loop (.seq (.seq (.plan (Z1 11 (.mv (.t 8)) (Z1 12 (.mv (.t 1)) (Z1 13 (.bin .leq (.t 11) (.t 12)) .fin)))) (.cond (.t 13) .skip (.exit 0))) (.block 1 (.seq (.plan (Z1 14 (.mv (.t 0)) (Z1 15 (.mv (.t 7)) (Z1 16 (.mv (.t 8)) (Z1 17 (.mv (.t 2)) (Z1 18 (.call 206 [(.t 14),(.t 15),(.t 16),(.t 17)]) .fin)))))) (.seq (.plan (Z1 19 (.mv (.t 8)) (Z1 7 (.mv (.t 19)) .fin))) (.plan (Z1 20 (.mv (.t 8)) (Z1 21 (.mv (.t 6)) (Z1 22 (.bin .add (.t 20) (.t 21)) (Z1 8 (.mv (.t 22)) .fin))))))))))) (.seq (.plan (Z1 23 (.mv (.t 0)) (Z1 24 (.mv (.t 7)) (Z1 25 (.mv (.t 1)) (Z1 26 (.mv (.t 2)) (Z1 27 (.call 206 [(.t 23),(.t 24),(.t 25),(.t 26)]) .fin)))))) (.block 2 (.loop (.seq (.seq (.plan (Z1 28 (.mv (.t 6)) (Z1 29 (.mv (.t 1)) (Z1 30 (.bin .lss (.t 28) (.t 29)) .fin)))) (.cond (.t 30) .skip (.exit 2))) (.block 3 (.seq (.plan (Z1 31 (.mv (.t 6)) (Z1 32 (.bin .mul (.c (.int .i64 2)) (.t 31)) (Z1 7 (.mv (.c (.int .i64 0))) (Z1 8 (.mv (.t 32)) .fin))))) (.seq (.block 4 (.loop (.seq (.seq (.plan (Z1 33 (.mv (.t 8)) (Z1 34 (.mv (.t 1)) (Z1 35 (.bin .leq (.t 33) (.t 34)) .fin)))) (.cond (.t 35) .skip (.exit 4))) (.block 5 (.seq (.plan (Z1 36 (.mv (.t 0)) (Z1 37 (.mv (.t 7)) (Z1 38 (.mv (.t 7)) (Z1 39 (.mv (.t 6)) (Z1 40 (.bin .add (.t 38) (.t 39)) (Z1 41 (.mv (.t 8)) (Z1 42 (.mv (.t 2)) (Z1 43 (.call 207 [(.t 36),(.t 37),(.t 40),(.t 41),(.t 42)]) .fin))))))))) (.seq (.plan (Z1 44 (.mv (.t 8)) (Z1 7 (.mv (.t 44)) .fin))) (.plan (Z1 45 (.mv (.t 8)) (Z1 46 (.mv (.t 6)) (Z1 47 (.bin .mul (.c (.int .i64 2)) (.t 46)) (Z1 48 (.bin .add (.t 45) (.t 47)) (Z1 8 (.mv (.t 48)) .fin)))))))))))) (.seq (.seq (.plan (Z1 49 (.mv (.t 7)) (Z1 50 (.mv (.t 6)) (Z1 51 (.bin .add (.t 49) (.t 50)) (Z1 9 (.mv (.t 51)) .fin))))) (.seq (.plan (Z1 52 (.mv (.t 9)) (Z1 53 (.mv (.t 1)) (Z1 54 (.bin .lss (.t 52) (.t 53)) .fin)))) (.cond (.t 54) (.plan (Z1 55 (.mv (.t 0)) (Z1 56 (.mv (.t 7)) (Z1 57 (.mv (.t 9)) (Z1 58 (.mv (.t 1)) (Z1 59 (.mv (.t 2)) (Z1 60 (.call 207 [(.t 55),(.t 56),(.t 57),(.t 58),(.t 59)]) .fin))))))) .skip))) (.plan (Z1 61 (.mv (.t 6)) (Z1 62 (.bin .mul (.t 61) (.c (.int .i64 2))) (Z1 6 (.mv (.t 62)) .fin))))))))))))))),[]⟩
theorem h_slices_stableCmpFunc_impl_Entry:compF Tryz.prog 190=some c_slices_stableCmpFunc_impl_Entry:=by kernel_rfl
def c_slices_SortStableFunc_Simpl_Entry_impl_Entry:CF:=⟨9,(.plan (Z1 4 (.mv (.t 0)) (Z1 5 (.mv (.t 0)) (Z1 6 (.len (.t 5)) (Z1 7 (.mv (.t 1)) (Z1 8 (.call 190 [(.t 4),(.t 6),(.t 7)]) .fin)))))),[]⟩
theorem h_slices_SortStableFunc_Simpl_Entry_impl_Entry:compF Tryz.prog 157=some c_slices_SortStableFunc_Simpl_Entry_impl_Entry:=by kernel_rfl
def c_impl_RunJoin_1:CF:=⟨13,(.seq (.plan (Z1 2 (.box 45 4 (.t 0)) (Z1 3 (.box 45 4 (.t 1)) (Z1 4 (.mv (.c (.int .i64 0))) .fin)))) (.seq (.block 0 (.seq (.plan (Z1 6 (.lda 4 (.t 2)) (Z1 7 (.lda 4 (.t 3)) (Z1 8 (.call 117 [(.t 6),(.t 7)]) (Z1 5 (.mv (.t 8)) .fin))))) (.cond (.t 5) (.seq (.plan (Z1 4 (.mv (.c (.int .i64 (-1)))) .fin)) .ret) (.seq (.plan (Z1 10 (.lda 4 (.t 3)) (Z1 11 (.lda 4 (.t 2)) (Z1 12 (.call 117 [(.t 10),(.t 11)]) (Z1 9 (.mv (.t 12)) .fin))))) (.cond (.t 9) (.seq (.plan (Z1 4 (.mv (.c (.int .i64 1))) .fin)) .ret) .skip))))) (.seq (.plan (Z1 4 (.mv (.c (.int .i64 0))) .fin)) .ret))),[(.t 4)]⟩
theorem h_impl_RunJoin_1:compF Tryz.prog 158=some c_impl_RunJoin_1:=by kernel_rfl
def c_impl_RunJoin:CF:=⟨26,(.seq (.plan (Z1 4 (.mv (.c .nils)) (Z1 5 (.mv (.c (.bool false))) .fin))) (.seq (.seq (.plan (Z1 7 (.mv (.t 0)) (Z1 8 (.call 67 [(.t 7)]) (Z1 9 (.not (.t 8)) (Z1 10 (.mv (.t 9)) (.st (some 11) (.mv (.t 1)) (some (10,false)) [] (.st (some 12) (.call 67 [(.t 11)]) (some (10,false)) [] (.st (some 13) (.not (.t 12)) (some (10,false)) [] (Z1 14 (.pick (.t 10) (.c (.bool true)) (.t 13)) .fin))))))))) (.cond (.t 14) (.seq (.plan (Z1 4 (.mv (.c .nils)) (Z1 5 (.mv (.c (.bool false))) .fin))) .ret) .skip)) (.seq (.plan (Z1 15 (.mv (.t 0)) (Z1 16 (.mv (.t 1)) (Z1 17 (.lit 23 1 2 [.nils,.nils] [(0,(1,(.t 15))),(1,(1,(.t 16)))]) (Z1 18 (.call 76 [(.t 17)]) (Z1 6 (.mv (.t 18)) .fin)))))) (.seq (.plan (Z1 19 (.mv (.t 6)) (Z1 20 (.call 157 [(.t 19),(.c (.fn 158 []))]) .fin))) (.seq (.seq (.plan (Z1 21 (.mv (.t 6)) (Z1 22 (.call 67 [(.t 21)]) (Z1 23 (.not (.t 22)) .fin)))) (.cond (.t 23) (.seq (.plan (Z1 4 (.mv (.c .nils)) (Z1 5 (.mv (.c (.bool false))) .fin))) .ret) .skip)) (.seq (.plan (Z1 24 (.mv (.t 6)) (Z1 25 (.call 141 [(.t 24)]) (Z1 4 (.mv (.t 25)) (Z1 5 (.mv (.c (.bool true))) .fin))))) .ret)))))),[(.t 4),(.t 5)]⟩
theorem h_impl_RunJoin:compF Tryz.prog 114=some c_impl_RunJoin:=by kernel_rfl
def c_impl_seen_1:CF:=⟨15,(.seq (.plan (Z1 4 (.mv (.c (.bool false))) .fin)) (.seq (.plan (Z1 5 (.mv (.t 0)) (Z1 6 (.fa 3 (.t 1)) (Z1 7 (.ld (.t 6)) (Z1 8 (.bin .geq (.t 5) (.t 7)) (Z1 9 (.mv (.t 8)) (.st (some 10) (.mv (.t 0)) (some (9,true)) [] (.st (some 11) (.fa 3 (.t 2)) (some (9,true)) [] (.st (some 12) (.ld (.t 11)) (some (9,true)) [] (.st (some 13) (.bin .lss (.t 10) (.t 12)) (some (9,true)) [] (Z1 14 (.pick (.t 9) (.t 13) (.c (.bool false))) (Z1 4 (.mv (.t 14)) .fin)))))))))))) .ret)),[(.t 4)]⟩
theorem h_impl_seen_1:compF Tryz.prog 192=some c_impl_seen_1:=by kernel_rfl
def c_slices_IndexFunc_Sint_int:CF:=⟨19,(.seq (.plan (Z1 4 (.mv (.c (.int .i64 0))) .fin)) (.seq (.seq (.plan (Z1 6 (.mv (.t 0)) (Z1 7 (.len (.t 6)) (Z1 8 (.mv (.c (.int .i64 0))) .fin)))) (.block 0 (.loop (.seq (.plan (Z1 9 (.bin .lss (.t 8) (.t 7)) .fin)) (.seq (.cond (.t 9) .skip (.exit 0)) (.seq (.block 1 (.seq (.plan (Z1 10 (.mv (.t 8)) (Z1 5 (.mv (.t 10)) .fin))) (.seq (.plan (Z1 11 (.mv (.t 1)) (Z1 12 (.mv (.t 0)) (Z1 13 (.mv (.t 5)) (Z1 14 (.ia 1 (.t 12) (.t 13)) (Z1 15 (.ld (.t 14)) (Z1 16 (.calv (.t 11) [(.t 15)]) .fin))))))) (.cond (.t 16) (.seq (.plan (Z1 17 (.mv (.t 5)) (Z1 4 (.mv (.t 17)) .fin))) .ret) .skip)))) (.plan (Z1 18 (.bin .add (.t 8) (.c (.int .i64 1))) (Z1 8 (.mv (.t 18)) .fin))))))))) (.seq (.plan (Z1 4 (.mv (.c (.int .i64 (-1)))) .fin)) .ret))),[(.t 4)]⟩
theorem h_slices_IndexFunc_Sint_int:compF Tryz.prog 125=some c_slices_IndexFunc_Sint_int:=by kernel_rfl
def c_slices_ContainsFunc_Sint_int:CF:=⟨9,(.seq (.plan (Z1 4 (.mv (.c (.bool false))) .fin)) (.seq (.plan (Z1 5 (.mv (.t 0)) (Z1 6 (.mv (.t 1)) (Z1 7 (.call 125 [(.t 5),(.t 6)]) (Z1 8 (.bin .geq (.t 7) (.c (.int .i64 0))) (Z1 4 (.mv (.t 8)) .fin)))))) .ret)),[(.t 4)]⟩
theorem h_slices_ContainsFunc_Sint_int:compF Tryz.prog 191=some c_slices_ContainsFunc_Sint_int:=by kernel_rfl
def c_impl_seen:CF:=⟨10,(.seq (.plan (Z1 4 (.box 45 4 (.t 1)) (Z1 5 (.box 45 4 (.t 2)) (Z1 6 (.mv (.c (.bool false))) .fin)))) (.seq (.plan (Z1 7 (.mv (.t 0)) (Z1 8 (.fn 192 [(.t 4),(.t 5)]) (Z1 9 (.call 191 [(.t 7),(.t 8)]) (Z1 6 (.mv (.t 9)) .fin))))) .ret)),[(.t 6)]⟩
theorem h_impl_seen:compF Tryz.prog 159=some c_impl_seen:=by kernel_rfl
def c_impl_RunTrim:CF:=⟨92,(.seq (.plan (Z1 6 (.mv (.c .nils)) .fin)) (.seq (.seq (.plan (Z1 14 (.mv (.t 0)) (Z1 15 (.call 67 [(.t 14)]) (Z1 16 (.not (.t 15)) .fin)))) (.cond (.t 16) (.seq (.plan (Z1 6 (.mv (.c .nils)) .fin)) .ret) .skip)) (.seq (.plan (Z1 7 (.mv (.c .nils)) .fin)) (.seq (.seq (.plan (Z1 17 (.mv (.t 0)) (Z1 18 (.len (.t 17)) (Z1 19 (.mv (.c (.int .i64 0))) .fin)))) (.block 0 (.loop (.seq (.plan (Z1 20 (.bin .lss (.t 19) (.t 18)) .fin)) (.seq (.cond (.t 20) .skip (.exit 0)) (.seq (.block 1 (.seq (.plan (Z1 21 (.mv (.t 19)) (Z1 22 (.ia 4 (.t 17) (.t 19)) (Z1 23 (.lda 4 (.t 22)) (Z1 9 (.alloc 45 [(.str ⟨#[]⟩),(.int .i64 0),(.bool false),(.int .i64 0)]) (Z1 8 (.mv (.t 21)) (.st none (.st 4 (.t 9) (.t 23)) none [] .fin))))))) (.seq (.plan (Z1 24 (.mv (.t 8)) (Z1 25 (.bin .eql (.t 24) (.c (.int .i64 0))) (Z1 26 (.mv (.t 25)) (.st (some 27) (.mv (.t 0)) (some (26,false)) [] (.st (some 28) (.mv (.t 8)) (some (26,false)) [] (.st (some 29) (.bin .sub (.t 28) (.c (.int .i64 1))) (some (26,false)) [] (.st (some 30) (.ia 4 (.t 27) (.t 29)) (some (26,false)) [] (.st (some 31) (.fa 0 (.t 30)) (some (26,false)) [] (.st (some 32) (.ld (.t 31)) (some (26,false)) [] (.st (some 33) (.fa 0 (.t 9)) (some (26,false)) [] (.st (some 34) (.ld (.t 33)) (some (26,false)) [] (.st (some 35) (.bin .neq (.t 32) (.t 34)) (some (26,false)) [] (Z1 36 (.pick (.t 26) (.c (.bool true)) (.t 35)) (Z1 37 (.mv (.t 36)) (.st (some 38) (.mv (.t 1)) (some (37,false)) [] (.st (some 39) (.lda 4 (.t 9)) (some (37,false)) [] (.st (some 40) (.mv (.t 0)) (some (37,false)) [] (.st (some 41) (.mv (.t 8)) (some (37,false)) [] (.st (some 42) (.bin .sub (.t 41) (.c (.int .i64 1))) (some (37,false)) [] (.st (some 43) (.ia 4 (.t 40) (.t 42)) (some (37,false)) [] (.st (some 44) (.lda 4 (.t 43)) (some (37,false)) [] (.st (some 45) (.call 159 [(.t 38),(.t 39),(.t 44)]) (some (37,false)) [] (Z1 46 (.pick (.t 37) (.c (.bool true)) (.t 45)) .fin)))))))))))))))))))))))) (.cond (.t 46) (.plan (Z1 47 (.mv (.t 7)) (Z1 48 (.lda 4 (.t 9)) (Z1 49 (.lit 45 4 1 [(.str ⟨#[]⟩),(.int .i64 0),(.bool false),(.int .i64 0)] [(0,(4,(.t 48)))]) (Z1 50 (.app 45 4 40 (.t 47) (.t 49)) (Z1 7 (.mv (.t 50)) .fin)))))) .skip)))) (.plan (Z1 51 (.bin .add (.t 19) (.c (.int .i64 1))) (Z1 19 (.mv (.t 51)) .fin))))))))) (.seq (.plan (Z1 10 (.mv (.c .nils)) .fin)) (.seq (.seq (.plan (Z1 52 (.mv (.t 7)) (Z1 53 (.len (.t 52)) (Z1 54 (.mv (.c (.int .i64 0))) .fin)))) (.block 2 (.loop (.seq (.plan (Z1 55 (.bin .lss (.t 54) (.t 53)) .fin)) (.seq (.cond (.t 55) .skip (.exit 2)) (.seq (.block 3 (.seq (.plan (Z1 56 (.mv (.t 54)) (Z1 57 (.ia 4 (.t 52) (.t 54)) (Z1 58 (.lda 4 (.t 57)) (Z1 12 (.alloc 45 [(.str ⟨#[]⟩),(.int .i64 0),(.bool false),(.int .i64 0)]) (Z1 11 (.mv (.t 56)) (.st none (.st 4 (.t 12) (.t 58)) none [] .fin))))))) (.seq (.plan (Z1 59 (.mv (.t 11)) (Z1 60 (.bin .add (.t 59) (.c (.int .i64 1))) (Z1 61 (.mv (.t 7)) (Z1 62 (.len (.t 61)) (Z1 63 (.bin .eql (.t 60) (.t 62)) (Z1 64 (.mv (.t 63)) (.st (some 65) (.mv (.t 7)) (some (64,false)) [] (.st (some 66) (.mv (.t 11)) (some (64,false)) [] (.st (some 67) (.bin .add (.t 66) (.c (.int .i64 1))) (some (64,false)) [] (.st (some 68) (.ia 4 (.t 65) (.t 67)) (some (64,false)) [] (.st (some 69) (.fa 0 (.t 68)) (some (64,false)) [] (.st (some 70) (.ld (.t 69)) (some (64,false)) [] (.st (some 71) (.fa 0 (.t 12)) (some (64,false)) [] (.st (some 72) (.ld (.t 71)) (some (64,false)) [] (.st (some 73) (.bin .neq (.t 70) (.t 72)) (some (64,false)) [] (Z1 74 (.pick (.t 64) (.c (.bool true)) (.t 73)) (Z1 13 (.mv (.t 74)) .fin)))))))))))))))))) (.seq (.plan (Z1 75 (.mv (.t 2)) (Z1 76 (.not (.t 75)) (Z1 77 (.mv (.t 76)) (.st (some 78) (.mv (.t 13)) (some (77,false)) [] (.st (some 79) (.not (.t 78)) (some (77,false)) [] (Z1 80 (.pick (.t 77) (.c (.bool true)) (.t 79)) (Z1 81 (.mv (.t 80)) (.st (some 82) (.fa 2 (.t 12)) (some (81,false)) [] (.st (some 83) (.ld (.t 82)) (some (81,false)) [] (.st (some 84) (.not (.t 83)) (some (81,false)) [] (Z1 85 (.pick (.t 81) (.c (.bool true)) (.t 84)) .fin)))))))))))) (.cond (.t 85) (.plan (Z1 86 (.mv (.t 10)) (Z1 87 (.lda 4 (.t 12)) (Z1 88 (.lit 45 4 1 [(.str ⟨#[]⟩),(.int .i64 0),(.bool false),(.int .i64 0)] [(0,(4,(.t 87)))]) (Z1 89 (.app 45 4 40 (.t 86) (.t 88)) (Z1 10 (.mv (.t 89)) .fin)))))) .skip))))) (.plan (Z1 90 (.bin .add (.t 54) (.c (.int .i64 1))) (Z1 54 (.mv (.t 90)) .fin))))))))) (.seq (.plan (Z1 91 (.mv (.t 10)) (Z1 6 (.mv (.t 91)) .fin))) .ret))))))),[(.t 6)]⟩
theorem h_impl_RunTrim:compF Tryz.prog 115=some c_impl_RunTrim:=by kernel_rfl
def c_impl_Store_put:CF:=⟨42,(.seq (.plan (Z1 6 (.mv (.c (.bool false))) .fin)) (.seq (.plan (Z1 10 (.mv (.t 2)) (Z1 12 (.mv (.t 0)) (Z1 13 (.nck (.t 12)) (Z1 14 (.fa 3 (.t 13)) (Z1 15 (.ld (.t 14)) (.both (.st (some 11) (.call 55 [(.t 10)]) none [((some 15),((.ld (.t 14)),none))] (.both (Z1 16 (.call 69 [(.t 11),(.t 15)]) (Z1 9 (.mv (.t 16)) (Z1 17 (.ext 0 (.t 9)) (Z1 18 (.ext 1 (.t 9)) (.st (some 7) (.alloc 76 [(.str ⟨#[]⟩),(.str ⟨#[]⟩),(.str ⟨#[]⟩),.nils,(.int .i64 0)]) none [((some 15),((.ld (.t 14)),none))] (.st none (.st 5 (.t 7) (.t 17)) none [] (Z1 8 (.mv (.t 18)) .fin))))))) (.st (some 7) (.alloc 76 [(.str ⟨#[]⟩),(.str ⟨#[]⟩),(.str ⟨#[]⟩),.nils,(.int .i64 0)]) none [((some 15),((.ld (.t 14)),none))] (Z1 16 (.call 69 [(.t 11),(.t 15)]) (Z1 9 (.mv (.t 16)) (Z1 17 (.ext 0 (.t 9)) (Z1 18 (.ext 1 (.t 9)) (.st none (.st 5 (.t 7) (.t 17)) none [] (Z1 8 (.mv (.t 18)) .fin))))))))) (.st (some 7) (.alloc 76 [(.str ⟨#[]⟩),(.str ⟨#[]⟩),(.str ⟨#[]⟩),.nils,(.int .i64 0)]) none [((some 15),((.ld (.t 14)),none))] (.st (some 11) (.call 55 [(.t 10)]) none [((some 15),((.ld (.t 14)),none))] (Z1 16 (.call 69 [(.t 11),(.t 15)]) (Z1 9 (.mv (.t 16)) (Z1 17 (.ext 0 (.t 9)) (Z1 18 (.ext 1 (.t 9)) (.st none (.st 5 (.t 7) (.t 17)) none [] (Z1 8 (.mv (.t 18)) .fin))))))))))))))) (.seq (.seq (.plan (Z1 19 (.mv (.t 8)) (Z1 20 (.not (.t 19)) (Z1 21 (.mv (.t 20)) (.st (some 22) (.mv (.t 2)) (some (21,false)) [] (.st (some 23) (.len (.t 22)) (some (21,false)) [] (.st (some 24) (.mv (.t 1)) (some (21,false)) [] (.st (some 25) (.call 71 [(.t 24)]) (some (21,false)) [] (.st (some 26) (.bin .gtr (.t 23) (.t 25)) (some (21,false)) [] (Z1 27 (.pick (.t 21) (.c (.bool true)) (.t 26)) .fin)))))))))) (.cond (.t 27) (.seq (.plan (Z1 6 (.mv (.c (.bool false))) .fin)) .ret) .skip)) (.seq (.plan (Z1 28 (.mv (.t 0)) (Z1 29 (.nck (.t 28)) (Z1 30 (.fa 1 (.t 29)) (Z1 31 (.ld (.t 30)) (Z1 32 (.mv (.t 1)) (Z1 33 (.mv (.t 0)) (Z1 34 (.nck (.t 33)) (Z1 35 (.fa 2 (.t 34)) (Z1 36 (.ld (.t 35)) (Z1 37 (.mv (.t 1)) (Z1 38 (.mv (.t 2)) (Z1 39 (.lda 5 (.t 7)) (Z1 40 (.ia 1 (.t 31) (.t 32)) (.st none (.st 1 (.t 40) (.t 38)) none [((some 39),((.lda 5 (.t 7)),none))] (Z1 41 (.ia 5 (.t 36) (.t 37)) (.st none (.st 5 (.t 41) (.t 39)) none [] .fin))))))))))))))))) (.seq (.plan (Z1 6 (.mv (.c (.bool true))) .fin)) .ret))))),[(.t 6)]⟩
theorem h_impl_Store_put:compF Tryz.prog 66=some c_impl_Store_put:=by kernel_rfl
def c_impl_Store_push:CF:=⟨63,(.seq (.plan (Z1 6 (.mv (.c (.bool false))) .fin)) (.seq (.plan (Z1 10 (.mv (.t 1)) (Z1 11 (.bin .eql (.t 10) (.c (.int .i64 2))) (Z1 7 (.mv (.t 11)) .fin)))) (.seq (.plan (Z1 13 (.mv (.t 2)) (Z1 14 (.mv (.t 0)) (Z1 15 (.nck (.t 14)) (Z1 16 (.fa 1 (.t 15)) (Z1 17 (.ld (.t 16)) (Z1 18 (.mv (.t 1)) (Z1 19 (.ia 1 (.t 17) (.t 18)) (Z1 20 (.ld (.t 19)) (Z1 21 (.call 114 [(.t 13),(.t 20)]) (Z1 12 (.mv (.t 21)) (Z1 22 (.ext 0 (.t 12)) (Z1 23 (.ext 1 (.t 12)) (Z1 8 (.mv (.t 22)) (Z1 9 (.mv (.t 23)) .fin))))))))))))))) (.seq (.seq (.plan (Z1 24 (.mv (.t 9)) (Z1 25 (.mv (.t 24)) (.st (some 26) (.mv (.t 0)) (some (25,true)) [] (.st (some 27) (.mv (.t 1)) (some (25,true)) [] (.st (some 28) (.mv (.t 8)) (some (25,true)) [] (.st (some 29) (.mv (.t 0)) (some (25,true)) [] (.st (some 30) (.nck (.t 29)) (some (25,true)) [] (.st (some 31) (.fa 5 (.t 30)) (some (25,true)) [] (.st (some 32) (.ld (.t 31)) (some (25,true)) [] (.st (some 33) (.mv (.t 7)) (some (25,true)) [] (.st (some 34) (.call 115 [(.t 28),(.t 32),(.t 33)]) (some (25,true)) [] (.st (some 35) (.call 66 [(.t 26),(.t 27),(.t 34)]) (some (25,true)) [] (Z1 36 (.pick (.t 25) (.t 35) (.c (.bool false))) .fin)))))))))))))) (.cond (.t 36) (.seq (.plan (Z1 6 (.mv (.c (.bool true))) .fin)) .ret) .skip)) (.seq (.plan (Z1 37 (.mv (.t 7)) (Z1 38 (.not (.t 37)) (Z1 39 (.mv (.t 38)) (.st (some 40) (.mv (.t 0)) (some (39,true)) [] (.st (some 41) (.mv (.t 1)) (some (39,true)) [] (.st (some 42) (.bin .add (.t 41) (.c (.int .i64 1))) (some (39,true)) [] (.st (some 43) (.mv (.t 0)) (some (39,true)) [] (.st (some 44) (.nck (.t 43)) (some (39,true)) [] (.st (some 45) (.fa 1 (.t 44)) (some (39,true)) [] (.st (some 46) (.ld (.t 45)) (some (39,true)) [] (.st (some 47) (.mv (.t 1)) (some (39,true)) [] (.st (some 48) (.ia 1 (.t 46) (.t 47)) (some (39,true)) [] (.st (some 49) (.ld (.t 48)) (some (39,true)) [] (.st (some 50) (.call 65 [(.t 40),(.t 42),(.t 49)]) (some (39,true)) [] (Z1 51 (.pick (.t 39) (.t 50) (.c (.bool false))) (Z1 52 (.mv (.t 51)) (.st (some 53) (.mv (.t 0)) (some (52,true)) [] (.st (some 54) (.mv (.t 1)) (some (52,true)) [] (.st (some 55) (.mv (.t 2)) (some (52,true)) [] (.st (some 56) (.mv (.t 0)) (some (52,true)) [] (.st (some 57) (.nck (.t 56)) (some (52,true)) [] (.st (some 58) (.fa 5 (.t 57)) (some (52,true)) [] (.st (some 59) (.ld (.t 58)) (some (52,true)) [] (.st (some 60) (.call 115 [(.t 55),(.t 59),(.c (.bool false))]) (some (52,true)) [] (.st (some 61) (.call 66 [(.t 53),(.t 54),(.t 60)]) (some (52,true)) [] (Z1 62 (.pick (.t 52) (.t 61) (.c (.bool false))) (Z1 6 (.mv (.t 62)) .fin)))))))))))))))))))))))))))) .ret))))),[(.t 6)]⟩
theorem h_impl_Store_push:compF Tryz.prog 65=some c_impl_Store_push:=by kernel_rfl
def c_impl_Store_down:CF:=⟨13,(.seq (.plan (Z1 2 (.mv (.c (.bool false))) .fin)) (.seq (.seq (.plan (Z1 3 (.mv (.t 0)) (Z1 4 (.mv (.t 0)) (Z1 5 (.nck (.t 4)) (Z1 6 (.fa 0 (.t 5)) (Z1 7 (.ld (.t 6)) (Z1 8 (.call 65 [(.t 3),(.c (.int .i64 0)),(.t 7)]) (Z1 9 (.not (.t 8)) .fin)))))))) (.cond (.t 9) (.seq (.plan (Z1 2 (.mv (.c (.bool false))) .fin)) .ret) .skip)) (.seq (.plan (Z1 10 (.mv (.t 0)) (Z1 11 (.nck (.t 10)) (Z1 12 (.fa 0 (.t 11)) (.st none (.st 1 (.t 12) (.c .nils)) none [] .fin))))) (.seq (.plan (Z1 2 (.mv (.c (.bool true))) .fin)) .ret)))),[(.t 2)]⟩
theorem h_impl_Store_down:compF Tryz.prog 50=some c_impl_Store_down:=by kernel_rfl
def c_impl_StoreDown:CF:=⟨8,(.seq (.plan (Z1 1 (.box 28 6 (.t 0)) (Z1 2 (.alloc 28 [.nils,.nils,.nils,(.int .i64 0),(.int .i64 0),.nils]) (Z1 3 (.mv (.c (.bool false))) .fin)))) (.seq (.plan (Z1 4 (.lda 6 (.t 1)) (Z1 5 (.call 49 [(.t 4),(.c (.fn 50 []))]) (Z1 6 (.ext 0 (.t 5)) (Z1 7 (.ext 1 (.t 5)) (.st none (.st 6 (.t 2) (.t 6)) none [] (Z1 3 (.mv (.t 7)) .fin))))))) .ret)),[(.ca 2 6),(.t 3)]⟩
theorem h_impl_StoreDown:compF Tryz.prog 17=some c_impl_StoreDown:=by kernel_rfl
def c_laws_ltRuns:CF:=⟨26,(.seq (.plan (Z1 4 (.mv (.c (.bool false))) .fin)) (.seq (.seq (.plan (Z1 6 (.mv (.t 0)) (Z1 7 (.len (.t 6)) (Z1 8 (.mv (.t 1)) (Z1 9 (.len (.t 8)) (Z1 10 (.bin .neq (.t 7) (.t 9)) .fin)))))) (.cond (.t 10) (.seq (.plan (Z1 4 (.mv (.c (.bool false))) .fin)) .ret) .skip)) (.seq (.seq (.plan (Z1 5 (.mv (.c (.int .i64 0))) .fin)) (.block 0 (.loop (.seq (.seq (.plan (Z1 11 (.mv (.t 5)) (Z1 12 (.mv (.t 0)) (Z1 13 (.len (.t 12)) (Z1 14 (.bin .lss (.t 11) (.t 13)) .fin))))) (.cond (.t 14) .skip (.exit 0))) (.seq (.block 1 (.seq (.plan (Z1 17 (.mv (.t 0)) (Z1 18 (.mv (.t 5)) (Z1 19 (.ia 4 (.t 17) (.t 18)) (Z1 20 (.lda 4 (.t 19)) (Z1 21 (.mv (.t 1)) (Z1 22 (.mv (.t 5)) (Z1 23 (.ia 4 (.t 21) (.t 22)) (Z1 24 (.lda 4 (.t 23)) (Z1 25 (.eqs true [2,0,1,0] (.t 20) (.t 24)) .fin)))))))))) (.cond (.t 25) (.seq (.plan (Z1 4 (.mv (.c (.bool false))) .fin)) .ret) .skip))) (.plan (Z1 15 (.mv (.t 5)) (Z1 16 (.bin .add (.t 15) (.c (.int .i64 1))) (Z1 5 (.mv (.t 16)) .fin))))))))) (.seq (.plan (Z1 4 (.mv (.c (.bool true))) .fin)) .ret)))),[(.t 4)]⟩
theorem h_laws_ltRuns:compF Tryz.prog 19=some c_laws_ltRuns:=by kernel_rfl
def c_slices_Index_Sint_int:CF:=⟨19,(.seq (.plan (Z1 4 (.mv (.c (.int .i64 0))) .fin)) (.seq (.seq (.plan (Z1 6 (.mv (.t 0)) (Z1 7 (.len (.t 6)) (Z1 8 (.mv (.c (.int .i64 0))) .fin)))) (.block 0 (.loop (.seq (.plan (Z1 9 (.bin .lss (.t 8) (.t 7)) .fin)) (.seq (.cond (.t 9) .skip (.exit 0)) (.seq (.block 1 (.seq (.plan (Z1 10 (.mv (.t 8)) (Z1 5 (.mv (.t 10)) .fin))) (.seq (.plan (Z1 11 (.mv (.t 1)) (Z1 12 (.mv (.t 0)) (Z1 13 (.mv (.t 5)) (Z1 14 (.ia 1 (.t 12) (.t 13)) (Z1 15 (.ld (.t 14)) (Z1 16 (.bin .eql (.t 11) (.t 15)) .fin))))))) (.cond (.t 16) (.seq (.plan (Z1 17 (.mv (.t 5)) (Z1 4 (.mv (.t 17)) .fin))) .ret) .skip)))) (.plan (Z1 18 (.bin .add (.t 8) (.c (.int .i64 1))) (Z1 8 (.mv (.t 18)) .fin))))))))) (.seq (.plan (Z1 4 (.mv (.c (.int .i64 (-1)))) .fin)) .ret))),[(.t 4)]⟩
theorem h_slices_Index_Sint_int:compF Tryz.prog 144=some c_slices_Index_Sint_int:=by kernel_rfl
def c_slices_Contains_Sint_int:CF:=⟨9,(.seq (.plan (Z1 4 (.mv (.c (.bool false))) .fin)) (.seq (.plan (Z1 5 (.mv (.t 0)) (Z1 6 (.mv (.t 1)) (Z1 7 (.call 144 [(.t 5),(.t 6)]) (Z1 8 (.bin .geq (.t 7) (.c (.int .i64 0))) (Z1 4 (.mv (.t 8)) .fin)))))) .ret)),[(.t 4)]⟩
theorem h_slices_Contains_Sint_int:compF Tryz.prog 104=some c_slices_Contains_Sint_int:=by kernel_rfl
def c_impl_Store_known:CF:=⟨15,(.seq (.plan (Z1 2 (.box 28 6 (.t 0)) (Z1 4 (.mv (.c (.bool false))) .fin))) (.seq (.plan (Z1 5 (.mv (.t 1)) (Z1 6 (.fa 4 (.t 2)) (Z1 7 (.ld (.t 6)) (Z1 8 (.bin .eql (.t 5) (.t 7)) (Z1 9 (.mv (.t 8)) (.st (some 10) (.fa 5 (.t 2)) (some (9,false)) [] (.st (some 11) (.ld (.t 10)) (some (9,false)) [] (.st (some 12) (.mv (.t 1)) (some (9,false)) [] (.st (some 13) (.call 104 [(.t 11),(.t 12)]) (some (9,false)) [] (Z1 14 (.pick (.t 9) (.c (.bool true)) (.t 13)) (Z1 4 (.mv (.t 14)) .fin)))))))))))) .ret)),[(.t 4)]⟩
theorem h_impl_Store_known:compF Tryz.prog 54=some c_impl_Store_known:=by kernel_rfl
def c_impl_BitsOk:CF:=⟨23,(.seq (.plan (Z1 2 (.mv (.c (.bool false))) .fin)) (.seq (.seq (.plan (Z1 4 (.mv (.t 0)) (Z1 5 (.lns (.t 4)) (Z1 6 (.mv (.c (.int .i64 0))) .fin)))) (.block 0 (.loop (.seq (.plan (Z1 7 (.bin .lss (.t 6) (.t 5)) .fin)) (.seq (.cond (.t 7) .skip (.exit 0)) (.seq (.block 1 (.seq (.plan (Z1 8 (.mv (.t 6)) (Z1 3 (.mv (.t 8)) .fin))) (.seq (.plan (Z1 9 (.mv (.t 0)) (Z1 10 (.mv (.t 3)) (Z1 11 (.ix (.t 9) (.t 10)) (Z1 12 (.bin .neq (.t 11) (.c (.int .u8 48))) (Z1 13 (.mv (.t 12)) (.st (some 14) (.mv (.t 0)) (some (13,true)) [] (.st (some 15) (.mv (.t 3)) (some (13,true)) [] (.st (some 16) (.ix (.t 14) (.t 15)) (some (13,true)) [] (.st (some 17) (.bin .neq (.t 16) (.c (.int .u8 49))) (some (13,true)) [] (Z1 18 (.pick (.t 13) (.t 17) (.c (.bool false))) .fin))))))))))) (.cond (.t 18) (.seq (.plan (Z1 2 (.mv (.c (.bool false))) .fin)) .ret) .skip)))) (.plan (Z1 19 (.bin .add (.t 6) (.c (.int .i64 1))) (Z1 6 (.mv (.t 19)) .fin))))))))) (.seq (.plan (Z1 20 (.mv (.t 0)) (Z1 21 (.lns (.t 20)) (Z1 22 (.bin .leq (.t 21) (.c (.int .i64 400))) (Z1 2 (.mv (.t 22)) .fin))))) .ret))),[(.t 2)]⟩
theorem h_impl_BitsOk:compF Tryz.prog 170=some c_impl_BitsOk:=by kernel_rfl
def c_impl_one:CF:=⟨21,(.seq (.plan (Z1 4 (.mv (.c (.int .i64 0))) .fin)) (.seq (.seq (.plan (Z1 6 (.mv (.t 0)) (Z1 7 (.lns (.t 6)) (Z1 8 (.mv (.c (.int .i64 0))) .fin)))) (.block 0 (.loop (.seq (.plan (Z1 9 (.bin .lss (.t 8) (.t 7)) .fin)) (.seq (.cond (.t 9) .skip (.exit 0)) (.seq (.block 1 (.seq (.plan (Z1 10 (.mv (.t 8)) (Z1 5 (.mv (.t 10)) .fin))) (.seq (.seq (.plan (Z1 11 (.mv (.t 0)) (Z1 12 (.mv (.t 5)) (Z1 13 (.ix (.t 11) (.t 12)) (Z1 14 (.bin .neq (.t 13) (.c (.int .u8 49))) .fin))))) (.cond (.t 14) (.exit 1) .skip)) (.seq (.seq (.plan (Z1 15 (.mv (.t 1)) (Z1 16 (.bin .eql (.t 15) (.c (.int .i64 0))) .fin))) (.cond (.t 16) (.seq (.plan (Z1 17 (.mv (.t 5)) (Z1 4 (.mv (.t 17)) .fin))) .ret) .skip)) (.plan (Z1 18 (.mv (.t 1)) (Z1 19 (.bin .sub (.t 18) (.c (.int .i64 1))) (Z1 1 (.mv (.t 19)) .fin)))))))) (.plan (Z1 20 (.bin .add (.t 8) (.c (.int .i64 1))) (Z1 8 (.mv (.t 20)) .fin))))))))) (.seq (.plan (Z1 4 (.mv (.c (.int .i64 (-1)))) .fin)) .ret))),[(.t 4)]⟩
theorem h_impl_one:compF Tryz.prog 186=some c_impl_one:=by kernel_rfl
end Go.Proofs.YtepeokaplbbpoaaGreat.B

namespace Go.Proofs.YtepeokaplbbpoaaGreat.B
open Go.Proofs
def c_impl_Sieve_branches:CF:=⟨32,(.seq (.plan (Z1 2 (.box 76 5 (.t 0)) (Z1 4 (.mv (.c (.int .i64 0))) (Z1 5 (.mv (.c (.int .i64 0))) .fin)))) (.seq (.plan (Z1 8 (.fa 2 (.t 2)) (Z1 9 (.ld (.t 8)) (Z1 10 (.mv (.t 1)) (Z1 11 (.call 186 [(.t 9),(.t 10)]) (Z1 6 (.mv (.t 11)) .fin)))))) (.seq (.seq (.plan (Z1 12 (.mv (.t 6)) (Z1 13 (.bin .lss (.t 12) (.c (.int .i64 0))) .fin))) (.cond (.t 13) (.seq (.plan (Z1 4 (.mv (.c (.int .i64 0))) (Z1 5 (.mv (.c (.int .i64 0))) .fin))) .ret) .skip)) (.seq (.plan (Z1 14 (.mv (.t 6)) (Z1 15 (.bin .add (.t 14) (.c (.int .i64 1))) (Z1 7 (.mv (.t 15)) .fin)))) (.seq (.block 0 (.loop (.seq (.seq (.plan (Z1 16 (.mv (.t 7)) (Z1 17 (.fa 2 (.t 2)) (Z1 18 (.ld (.t 17)) (Z1 19 (.lns (.t 18)) (Z1 20 (.bin .lss (.t 16) (.t 19)) (Z1 21 (.mv (.t 20)) (.st (some 22) (.fa 2 (.t 2)) (some (21,true)) [] (.st (some 23) (.ld (.t 22)) (some (21,true)) [] (.st (some 24) (.mv (.t 7)) (some (21,true)) [] (.st (some 25) (.ix (.t 23) (.t 24)) (some (21,true)) [] (.st (some 26) (.bin .eql (.t 25) (.c (.int .u8 48))) (some (21,true)) [] (Z1 27 (.pick (.t 21) (.t 26) (.c (.bool false))) .fin))))))))))))) (.cond (.t 27) .skip (.exit 0))) (.block 1 (.plan (Z1 28 (.mv (.t 7)) (Z1 29 (.bin .add (.t 28) (.c (.int .i64 1))) (Z1 7 (.mv (.t 29)) .fin)))))))) (.seq (.plan (Z1 30 (.mv (.t 6)) (Z1 31 (.mv (.t 7)) (Z1 4 (.mv (.t 30)) (Z1 5 (.mv (.t 31)) .fin))))) .ret)))))),[(.t 4),(.t 5)]⟩
theorem h_impl_Sieve_branches:compF Tryz.prog 149=some c_impl_Sieve_branches:=by kernel_rfl
def c_impl_Sieve_rest:CF:=⟨14,(.seq (.plan (Z1 2 (.box 76 5 (.t 0)) (Z1 4 (.mv (.c (.str ⟨#[]⟩))) .fin))) (.seq (.plan (Z1 5 (.fa 3 (.t 2)) (Z1 6 (.ld (.t 5)) (Z1 7 (.fa 1 (.t 2)) (Z1 8 (.ld (.t 7)) (Z1 9 (.mv (.t 1)) (Z1 10 (.cuts (.t 8) none (some (.t 9))) (.st (some 11) (.call 171 [(.t 10),(.c (.str ⟨#[48]⟩))]) none [((some 6),((.ld (.t 5)),none))] (Z1 12 (.ia 1 (.t 6) (.t 11)) (Z1 13 (.ld (.t 12)) (Z1 4 (.mv (.t 13)) .fin))))))))))) .ret)),[(.t 4)]⟩
theorem h_impl_Sieve_rest:compF Tryz.prog 153=some c_impl_Sieve_rest:=by kernel_rfl
def c_impl_Sieve_complete:CF:=⟨19,(.seq (.plan (Z1 2 (.box 76 5 (.t 0)) (Z1 4 (.mv (.c (.bool false))) .fin))) (.seq (.plan (Z1 5 (.fa 0 (.t 2)) (Z1 6 (.ld (.t 5)) (Z1 7 (.mv (.t 1)) (Z1 8 (.ix (.t 6) (.t 7)) (Z1 9 (.bin .eql (.t 8) (.c (.int .u8 45))) (Z1 10 (.mv (.t 9)) (.st (some 11) (.lda 5 (.t 2)) (some (10,false)) [] (.st (some 12) (.mv (.t 1)) (some (10,false)) [] (.st (some 15) (.fa 4 (.t 2)) (some (10,false)) [] (.st (some 16) (.ld (.t 15)) (some (10,false)) [] (.st (some 13) (.call 153 [(.t 11),(.t 12)]) (some (10,false)) [((some 16),((.ld (.t 15)),(some (10,false))))] (.st (some 14) (.lns (.t 13)) (some (10,false)) [] (.st (some 17) (.bin .lss (.t 14) (.t 16)) (some (10,false)) [] (Z1 18 (.pick (.t 10) (.c (.bool true)) (.t 17)) (Z1 4 (.mv (.t 18)) .fin)))))))))))))))) .ret)),[(.t 4)]⟩
theorem h_impl_Sieve_complete:compF Tryz.prog 152=some c_impl_Sieve_complete:=by kernel_rfl
def c_impl_Sieve_node:CF:=⟨11,(.seq (.plan (Z1 2 (.box 76 5 (.t 0)) (Z1 4 (.mv (.c (.int .i64 0))) .fin))) (.seq (.plan (Z1 5 (.fa 1 (.t 2)) (Z1 6 (.ld (.t 5)) (Z1 7 (.mv (.t 1)) (Z1 8 (.bin .add (.t 7) (.c (.int .i64 1))) (Z1 9 (.cuts (.t 6) none (some (.t 8))) (Z1 10 (.call 171 [(.t 9),(.c (.str ⟨#[49]⟩))]) (Z1 4 (.mv (.t 10)) .fin)))))))) .ret)),[(.t 4)]⟩
theorem h_impl_Sieve_node:compF Tryz.prog 151=some c_impl_Sieve_node:=by kernel_rfl
def c_impl_Sieve_parts:CF:=⟨96,(.seq (.plan (Z1 4 (.box 76 5 (.t 0)) (Z1 8 (.mv (.c .nils)) (Z1 9 (.mv (.c (.bool false))) .fin)))) (.seq (.seq (.plan (Z1 18 (.mv (.t 2)) (Z1 19 (.lns (.t 18)) (Z1 20 (.bin .gtr (.t 19) (.c (.int .i64 5))) .fin)))) (.cond (.t 20) (.seq (.plan (Z1 8 (.mv (.c .nils)) (Z1 9 (.mv (.c (.bool false))) .fin))) .ret) .skip)) (.seq (.plan (Z1 22 (.lda 5 (.t 4)) (Z1 23 (.mv (.t 1)) (Z1 24 (.call 149 [(.t 22),(.t 23)]) (Z1 21 (.mv (.t 24)) (Z1 25 (.ext 0 (.t 21)) (Z1 26 (.ext 1 (.t 21)) (Z1 10 (.mv (.t 25)) (Z1 11 (.mv (.t 26)) .fin))))))))) (.seq (.seq (.plan (Z1 27 (.mv (.t 10)) (Z1 12 (.mv (.t 27)) .fin))) (.block 0 (.loop (.seq (.seq (.plan (Z1 28 (.mv (.t 12)) (Z1 29 (.mv (.t 11)) (Z1 30 (.bin .lss (.t 28) (.t 29)) .fin)))) (.cond (.t 30) .skip (.exit 0))) (.seq (.block 1 (.seq (.plan (Z1 33 (.mv (.t 2)) (Z1 13 (.mv (.t 33)) .fin))) (.seq (.seq (.plan (Z1 34 (.fa 0 (.t 4)) (Z1 35 (.ld (.t 34)) (Z1 36 (.mv (.t 12)) (Z1 37 (.ix (.t 35) (.t 36)) (Z1 38 (.bin .neq (.t 37) (.c (.int .u8 45))) .fin)))))) (.cond (.t 38) (.plan (Z1 39 (.mv (.t 13)) (Z1 40 (.fa 0 (.t 4)) (Z1 41 (.ld (.t 40)) (Z1 42 (.mv (.t 12)) (Z1 43 (.mv (.t 12)) (Z1 44 (.bin .add (.t 43) (.c (.int .i64 1))) (Z1 45 (.cuts (.t 41) (some (.t 42)) (some (.t 44))) (Z1 46 (.bin .add (.t 39) (.t 45)) (Z1 13 (.mv (.t 46)) .fin)))))))))) .skip)) (.seq (.seq (.plan (Z1 47 (.fa 1 (.t 4)) (Z1 48 (.ld (.t 47)) (Z1 49 (.mv (.t 12)) (Z1 50 (.ix (.t 48) (.t 49)) (Z1 51 (.bin .eql (.t 50) (.c (.int .u8 48))) .fin)))))) (.cond (.t 51) (.seq (.plan (Z1 52 (.mv (.t 3)) (Z1 53 (.mv (.t 13)) (Z1 54 (.lda 5 (.t 4)) (Z1 55 (.mv (.t 12)) (Z1 58 (.lda 5 (.t 4)) (Z1 59 (.mv (.t 12)) (.st (some 56) (.call 153 [(.t 54),(.t 55)]) none [((some 58),((.lda 5 (.t 4)),none))] (Z1 57 (.bin .add (.t 53) (.t 56)) (Z1 60 (.call 152 [(.t 58),(.t 59)]) (Z1 61 (.build [(.str ⟨#[]⟩),(.bool false)] [(0,(1,(.t 57))),(1,(1,(.t 60)))]) (Z1 62 (.lit 147 2 1 [(.str ⟨#[]⟩),(.bool false)] [(0,(2,(.t 61)))]) (Z1 63 (.app 147 2 24 (.t 52) (.t 62)) (Z1 3 (.mv (.t 63)) .fin)))))))))))))) (.exit 1)) .skip)) (.seq (.seq (.plan (Z1 65 (.lda 5 (.t 4)) (Z1 66 (.lda 5 (.t 4)) (Z1 67 (.mv (.t 12)) (.st (some 68) (.call 151 [(.t 66),(.t 67)]) none [((some 65),((.lda 5 (.t 4)),none))] (Z1 69 (.call 149 [(.t 65),(.t 68)]) (Z1 64 (.mv (.t 69)) (Z1 70 (.ext 0 (.t 64)) (Z1 71 (.ext 1 (.t 64)) (Z1 14 (.mv (.t 70)) (Z1 15 (.mv (.t 71)) .fin))))))))))) (.seq (.plan (Z1 72 (.mv (.t 14)) (Z1 73 (.mv (.t 12)) (Z1 74 (.bin .leq (.t 72) (.t 73)) (Z1 75 (.mv (.t 74)) (.st (some 76) (.fa 0 (.t 4)) (some (75,false)) [] (.st (some 77) (.ld (.t 76)) (some (75,false)) [] (.st (some 78) (.mv (.t 12)) (some (75,false)) [] (.st (some 79) (.ix (.t 77) (.t 78)) (some (75,false)) [] (.st (some 80) (.bin .eql (.t 79) (.c (.int .u8 45))) (some (75,false)) [] (Z1 81 (.pick (.t 75) (.c (.bool true)) (.t 80)) .fin))))))))))) (.cond (.t 81) (.seq (.plan (Z1 8 (.mv (.c .nils)) (Z1 9 (.mv (.c (.bool false))) .fin))) .ret) .skip))) (.seq (.plan (Z1 83 (.lda 5 (.t 4)) (Z1 84 (.lda 5 (.t 4)) (Z1 85 (.mv (.t 12)) (Z1 87 (.mv (.t 13)) (Z1 88 (.mv (.t 3)) (.st (some 86) (.call 151 [(.t 84),(.t 85)]) none [((some 83),((.lda 5 (.t 4)),none))] (Z1 89 (.call 172 [(.t 83),(.t 86),(.t 87),(.t 88)]) (Z1 82 (.mv (.t 89)) (Z1 90 (.ext 0 (.t 82)) (Z1 91 (.ext 1 (.t 82)) (Z1 16 (.mv (.t 90)) (Z1 17 (.mv (.t 91)) .fin))))))))))))) (.seq (.seq (.plan (Z1 92 (.mv (.t 17)) (Z1 93 (.not (.t 92)) .fin))) (.cond (.t 93) (.seq (.plan (Z1 8 (.mv (.c .nils)) (Z1 9 (.mv (.c (.bool false))) .fin))) .ret) .skip)) (.plan (Z1 94 (.mv (.t 16)) (Z1 3 (.mv (.t 94)) .fin)))))))))) (.plan (Z1 31 (.mv (.t 12)) (Z1 32 (.bin .add (.t 31) (.c (.int .i64 1))) (Z1 12 (.mv (.t 32)) .fin))))))))) (.seq (.plan (Z1 95 (.mv (.t 3)) (Z1 8 (.mv (.t 95)) (Z1 9 (.mv (.c (.bool true))) .fin)))) .ret))))),[(.t 8),(.t 9)]⟩
theorem h_impl_Sieve_parts:compF Tryz.prog 172=some c_impl_Sieve_parts:=by kernel_rfl
def c_impl_texts:CF:=⟨19,(.seq (.plan (Z1 2 (.mv (.c .nils)) .fin)) (.seq (.plan (Z1 3 (.mv (.c .nils)) .fin)) (.seq (.seq (.plan (Z1 6 (.mv (.t 0)) (Z1 7 (.len (.t 6)) (Z1 8 (.mv (.c (.int .i64 0))) .fin)))) (.block 0 (.loop (.seq (.plan (Z1 9 (.bin .lss (.t 8) (.t 7)) .fin)) (.seq (.cond (.t 9) .skip (.exit 0)) (.seq (.block 1 (.seq (.plan (Z1 10 (.ia 2 (.t 6) (.t 8)) (Z1 11 (.lda 2 (.t 10)) (Z1 5 (.alloc 147 [(.str ⟨#[]⟩),(.bool false)]) (.st none (.st 2 (.t 5) (.t 11)) none [] .fin))))) (.plan (Z1 12 (.mv (.t 3)) (Z1 13 (.fa 0 (.t 5)) (Z1 14 (.ld (.t 13)) (Z1 15 (.lit 9 1 1 [(.str ⟨#[]⟩)] [(0,(1,(.t 14)))]) (Z1 16 (.app 9 1 16 (.t 12) (.t 15)) (Z1 3 (.mv (.t 16)) .fin))))))))) (.plan (Z1 17 (.bin .add (.t 8) (.c (.int .i64 1))) (Z1 8 (.mv (.t 17)) .fin))))))))) (.seq (.plan (Z1 18 (.mv (.t 3)) (Z1 2 (.mv (.t 18)) .fin))) .ret)))),[(.t 2)]⟩
theorem h_impl_texts:compF Tryz.prog 173=some c_impl_texts:=by kernel_rfl
def c_impl_Sieve_heads:CF:=⟨74,(.seq (.plan (Z1 1 (.box 76 5 (.t 0)) (Z1 2 (.mv (.c .nils)) (Z1 3 (.mv (.c (.bool false))) .fin)))) (.seq (.plan (Z1 8 (.fa 0 (.t 1)) (Z1 9 (.ld (.t 8)) (Z1 10 (.lns (.t 9)) (Z1 4 (.mv (.t 10)) .fin))))) (.seq (.seq (.plan (Z1 11 (.fa 1 (.t 1)) (Z1 12 (.ld (.t 11)) (Z1 13 (.call 170 [(.t 12)]) (Z1 14 (.not (.t 13)) (Z1 15 (.mv (.t 14)) (.st (some 16) (.fa 2 (.t 1)) (some (15,false)) [] (.st (some 17) (.ld (.t 16)) (some (15,false)) [] (.st (some 18) (.call 170 [(.t 17)]) (some (15,false)) [] (.st (some 19) (.not (.t 18)) (some (15,false)) [] (Z1 20 (.pick (.t 15) (.c (.bool true)) (.t 19)) (Z1 21 (.mv (.t 20)) (.st (some 22) (.fa 1 (.t 1)) (some (21,false)) [] (.st (some 23) (.ld (.t 22)) (some (21,false)) [] (.st (some 24) (.lns (.t 23)) (some (21,false)) [] (.st (some 25) (.mv (.t 4)) (some (21,false)) [] (.st (some 26) (.bin .neq (.t 24) (.t 25)) (some (21,false)) [] (Z1 27 (.pick (.t 21) (.c (.bool true)) (.t 26)) (Z1 28 (.mv (.t 27)) (.st (some 29) (.fa 2 (.t 1)) (some (28,false)) [] (.st (some 30) (.ld (.t 29)) (some (28,false)) [] (.st (some 31) (.lns (.t 30)) (some (28,false)) [] (.st (some 32) (.mv (.t 4)) (some (28,false)) [] (.st (some 33) (.bin .neq (.t 31) (.t 32)) (some (28,false)) [] (Z1 34 (.pick (.t 28) (.c (.bool true)) (.t 33)) (Z1 35 (.mv (.t 34)) (.st (some 36) (.fa 4 (.t 1)) (some (35,false)) [] (.st (some 37) (.ld (.t 36)) (some (35,false)) [] (.st (some 38) (.call 119 [(.t 37)]) (some (35,false)) [] (.st (some 39) (.not (.t 38)) (some (35,false)) [] (Z1 40 (.pick (.t 35) (.c (.bool true)) (.t 39)) (Z1 41 (.mv (.t 40)) (.st (some 42) (.fa 3 (.t 1)) (some (41,false)) [] (.st (some 43) (.ld (.t 42)) (some (41,false)) [] (.st (some 44) (.len (.t 43)) (some (41,false)) [] (.st (some 45) (.fa 1 (.t 1)) (some (41,false)) [] (.st (some 46) (.ld (.t 45)) (some (41,false)) [] (.st (some 47) (.call 171 [(.t 46),(.c (.str ⟨#[48]⟩))]) (some (41,false)) [((some 43),((.ld (.t 42)),(some (41,false))))] (.st (some 48) (.bin .neq (.t 44) (.t 47)) (some (41,false)) [] (Z1 49 (.pick (.t 41) (.c (.bool true)) (.t 48)) .fin)))))))))))))))))))))))))))))))))))))))) (.cond (.t 49) (.seq (.plan (Z1 2 (.mv (.c .nils)) (Z1 3 (.mv (.c (.bool false))) .fin))) .ret) .skip)) (.seq (.plan (Z1 51 (.lda 5 (.t 1)) (Z1 52 (.call 172 [(.t 51),(.c (.int .i64 0)),(.c (.str ⟨#[]⟩)),(.c .nils)]) (Z1 50 (.mv (.t 52)) (Z1 53 (.ext 0 (.t 50)) (Z1 54 (.ext 1 (.t 50)) (Z1 5 (.mv (.t 53)) (Z1 6 (.mv (.t 54)) .fin)))))))) (.seq (.seq (.plan (Z1 55 (.mv (.t 6)) (Z1 56 (.not (.t 55)) .fin))) (.cond (.t 56) (.seq (.plan (Z1 2 (.mv (.c .nils)) (Z1 3 (.mv (.c (.bool false))) .fin))) .ret) .skip)) (.seq (.plan (Z1 58 (.mv (.t 5)) (Z1 60 (.fa 4 (.t 1)) (Z1 61 (.ld (.t 60)) (.both (.st (some 59) (.call 173 [(.t 58)]) none [((some 61),((.ld (.t 60)),none))] (.both (Z1 62 (.call 69 [(.t 59),(.t 61)]) (Z1 57 (.mv (.t 62)) (Z1 63 (.ext 0 (.t 57)) (Z1 64 (.ext 1 (.t 57)) (.st (some 7) (.alloc 76 [(.str ⟨#[]⟩),(.str ⟨#[]⟩),(.str ⟨#[]⟩),.nils,(.int .i64 0)]) none [((some 61),((.ld (.t 60)),none))] (.st none (.st 5 (.t 7) (.t 63)) none [] (Z1 6 (.mv (.t 64)) .fin))))))) (.st (some 7) (.alloc 76 [(.str ⟨#[]⟩),(.str ⟨#[]⟩),(.str ⟨#[]⟩),.nils,(.int .i64 0)]) none [((some 61),((.ld (.t 60)),none))] (Z1 62 (.call 69 [(.t 59),(.t 61)]) (Z1 57 (.mv (.t 62)) (Z1 63 (.ext 0 (.t 57)) (Z1 64 (.ext 1 (.t 57)) (.st none (.st 5 (.t 7) (.t 63)) none [] (Z1 6 (.mv (.t 64)) .fin))))))))) (.st (some 7) (.alloc 76 [(.str ⟨#[]⟩),(.str ⟨#[]⟩),(.str ⟨#[]⟩),.nils,(.int .i64 0)]) none [((some 61),((.ld (.t 60)),none))] (.st (some 59) (.call 173 [(.t 58)]) none [((some 61),((.ld (.t 60)),none))] (Z1 62 (.call 69 [(.t 59),(.t 61)]) (Z1 57 (.mv (.t 62)) (Z1 63 (.ext 0 (.t 57)) (Z1 64 (.ext 1 (.t 57)) (.st none (.st 5 (.t 7) (.t 63)) none [] (Z1 6 (.mv (.t 64)) .fin))))))))))))) (.seq (.seq (.plan (Z1 65 (.mv (.t 6)) (Z1 66 (.not (.t 65)) (Z1 67 (.mv (.t 66)) (.st (some 68) (.lda 5 (.t 7)) (some (67,false)) [] (.st (some 69) (.lda 5 (.t 1)) (some (67,false)) [] (.st (some 70) (.call 72 [(.t 68),(.t 69)]) (some (67,false)) [] (.st (some 71) (.not (.t 70)) (some (67,false)) [] (Z1 72 (.pick (.t 67) (.c (.bool true)) (.t 71)) .fin))))))))) (.cond (.t 72) (.seq (.plan (Z1 2 (.mv (.c .nils)) (Z1 3 (.mv (.c (.bool false))) .fin))) .ret) .skip)) (.seq (.plan (Z1 73 (.mv (.t 5)) (Z1 2 (.mv (.t 73)) (Z1 3 (.mv (.c (.bool true))) .fin)))) .ret)))))))),[(.t 2),(.t 3)]⟩
theorem h_impl_Sieve_heads:compF Tryz.prog 145=some c_impl_Sieve_heads:=by kernel_rfl
def c_internal_stringslite_HasPrefix:CF:=⟨18,(.seq (.plan (Z1 4 (.mv (.c (.bool false))) .fin)) (.seq (.plan (Z1 5 (.mv (.t 0)) (Z1 6 (.lns (.t 5)) (Z1 7 (.mv (.t 1)) (Z1 8 (.lns (.t 7)) (Z1 9 (.bin .geq (.t 6) (.t 8)) (Z1 10 (.mv (.t 9)) (.st (some 11) (.mv (.t 0)) (some (10,true)) [] (.st (some 12) (.mv (.t 1)) (some (10,true)) [] (.st (some 13) (.lns (.t 12)) (some (10,true)) [] (.st (some 14) (.cuts (.t 11) none (some (.t 13))) (some (10,true)) [] (.st (some 15) (.mv (.t 1)) (some (10,true)) [] (.st (some 16) (.bin .eql (.t 14) (.t 15)) (some (10,true)) [] (Z1 17 (.pick (.t 10) (.t 16) (.c (.bool false))) (Z1 4 (.mv (.t 17)) .fin))))))))))))))) .ret)),[(.t 4)]⟩
theorem h_internal_stringslite_HasPrefix:compF Tryz.prog 199=some c_internal_stringslite_HasPrefix:=by kernel_rfl
def c_strings_HasPrefix:CF:=⟨8,(.seq (.plan (Z1 4 (.mv (.c (.bool false))) .fin)) (.seq (.plan (Z1 5 (.mv (.t 0)) (Z1 6 (.mv (.t 1)) (Z1 7 (.call 199 [(.t 5),(.t 6)]) (Z1 4 (.mv (.t 7)) .fin))))) .ret)),[(.t 4)]⟩
theorem h_strings_HasPrefix:compF Tryz.prog 174=some c_strings_HasPrefix:=by kernel_rfl
def c_impl_KeyBegins:CF:=⟨8,(.seq (.plan (Z1 4 (.mv (.c (.bool false))) .fin)) (.seq (.plan (Z1 5 (.mv (.t 0)) (Z1 6 (.mv (.t 1)) (Z1 7 (.call 174 [(.t 5),(.t 6)]) (Z1 4 (.mv (.t 7)) .fin))))) .ret)),[(.t 4)]⟩
theorem h_impl_KeyBegins:compF Tryz.prog 146=some c_impl_KeyBegins:=by kernel_rfl
def c_impl_SieveSeek:CF:=⟨46,(.seq (.plan (Z1 2 (.box 76 5 (.t 0)) (Z1 4 (.mv (.c (.str ⟨#[]⟩))) (Z1 5 (.mv (.c (.bool false))) .fin)))) (.seq (.plan (Z1 11 (.lda 5 (.t 2)) (Z1 12 (.call 145 [(.t 11)]) (Z1 10 (.mv (.t 12)) (Z1 13 (.ext 0 (.t 10)) (Z1 14 (.ext 1 (.t 10)) (Z1 6 (.mv (.t 13)) (Z1 7 (.mv (.t 14)) .fin)))))))) (.seq (.seq (.plan (Z1 15 (.mv (.t 7)) (Z1 16 (.not (.t 15)) (Z1 17 (.mv (.t 16)) (.st (some 18) (.mv (.t 1)) (some (17,false)) [] (.st (some 19) (.call 53 [(.t 18)]) (some (17,false)) [] (.st (some 20) (.not (.t 19)) (some (17,false)) [] (Z1 21 (.pick (.t 17) (.c (.bool true)) (.t 20)) .fin)))))))) (.cond (.t 21) (.seq (.plan (Z1 4 (.mv (.c (.str ⟨#[]⟩))) (Z1 5 (.mv (.c (.bool false))) .fin))) .ret) .skip)) (.seq (.seq (.plan (Z1 22 (.mv (.t 6)) (Z1 23 (.len (.t 22)) (Z1 24 (.mv (.c (.int .i64 0))) .fin)))) (.block 0 (.loop (.seq (.plan (Z1 25 (.bin .lss (.t 24) (.t 23)) .fin)) (.seq (.cond (.t 25) .skip (.exit 0)) (.seq (.block 1 (.seq (.plan (Z1 26 (.ia 2 (.t 22) (.t 24)) (Z1 27 (.lda 2 (.t 26)) (Z1 9 (.alloc 147 [(.str ⟨#[]⟩),(.bool false)]) (.st none (.st 2 (.t 9) (.t 27)) none [] .fin))))) (.seq (.plan (Z1 28 (.fa 0 (.t 9)) (Z1 29 (.ld (.t 28)) (Z1 30 (.mv (.t 1)) (Z1 31 (.bin .geq (.t 29) (.t 30)) (Z1 32 (.mv (.t 31)) (.st (some 33) (.fa 1 (.t 9)) (some (32,false)) [] (.st (some 34) (.ld (.t 33)) (some (32,false)) [] (.st (some 35) (.not (.t 34)) (some (32,false)) [] (.st (some 36) (.mv (.t 35)) (some (32,false)) [] (.st (some 37) (.mv (.t 1)) (some (36,true)) [] (.st (some 38) (.fa 0 (.t 9)) (some (36,true)) [] (.st (some 39) (.ld (.t 38)) (some (36,true)) [] (.st (some 40) (.call 146 [(.t 37),(.t 39)]) (some (36,true)) [] (.st (some 41) (.pick (.t 36) (.t 40) (.c (.bool false))) (some (32,false)) [] (Z1 42 (.pick (.t 32) (.c (.bool true)) (.t 41)) .fin)))))))))))))))) (.cond (.t 42) (.seq (.plan (Z1 43 (.fa 0 (.t 9)) (Z1 44 (.ld (.t 43)) (Z1 4 (.mv (.t 44)) (Z1 5 (.mv (.c (.bool true))) .fin))))) .ret) .skip)))) (.plan (Z1 45 (.bin .add (.t 24) (.c (.int .i64 1))) (Z1 24 (.mv (.t 45)) .fin))))))))) (.seq (.plan (Z1 4 (.mv (.c (.str ⟨#[]⟩))) (Z1 5 (.mv (.c (.bool false))) .fin))) .ret))))),[(.t 4),(.t 5)]⟩
theorem h_impl_SieveSeek:compF Tryz.prog 105=some c_impl_SieveSeek:=by kernel_rfl
def c_impl_SieveMeets:CF:=⟨34,(.seq (.plan (Z1 3 (.box 76 5 (.t 0)) (Z1 6 (.mv (.c (.bool false))) .fin))) (.seq (.seq (.plan (Z1 9 (.mv (.t 1)) (Z1 10 (.call 53 [(.t 9)]) (Z1 11 (.not (.t 10)) (Z1 12 (.mv (.t 11)) (.st (some 13) (.mv (.t 2)) (some (12,false)) [] (.st (some 14) (.call 53 [(.t 13)]) (some (12,false)) [] (.st (some 15) (.not (.t 14)) (some (12,false)) [] (Z1 16 (.pick (.t 12) (.c (.bool true)) (.t 15)) (Z1 17 (.mv (.t 16)) (.st (some 18) (.mv (.t 1)) (some (17,false)) [] (.st (some 19) (.mv (.t 2)) (some (17,false)) [] (.st (some 20) (.bin .gtr (.t 18) (.t 19)) (some (17,false)) [] (Z1 21 (.pick (.t 17) (.c (.bool true)) (.t 20)) .fin)))))))))))))) (.cond (.t 21) (.seq (.plan (Z1 6 (.mv (.c (.bool false))) .fin)) .ret) .skip)) (.seq (.plan (Z1 23 (.lda 5 (.t 3)) (Z1 24 (.mv (.t 1)) (Z1 25 (.call 105 [(.t 23),(.t 24)]) (Z1 22 (.mv (.t 25)) (Z1 26 (.ext 0 (.t 22)) (Z1 27 (.ext 1 (.t 22)) (Z1 7 (.mv (.t 26)) (Z1 8 (.mv (.t 27)) .fin))))))))) (.seq (.plan (Z1 28 (.mv (.t 8)) (Z1 29 (.mv (.t 28)) (.st (some 30) (.mv (.t 7)) (some (29,true)) [] (.st (some 31) (.mv (.t 2)) (some (29,true)) [] (.st (some 32) (.bin .leq (.t 30) (.t 31)) (some (29,true)) [] (Z1 33 (.pick (.t 29) (.t 32) (.c (.bool false))) (Z1 6 (.mv (.t 33)) .fin)))))))) .ret)))),[(.t 6)]⟩
theorem h_impl_SieveMeets:compF Tryz.prog 56=some c_impl_SieveMeets:=by kernel_rfl
end Go.Proofs.YtepeokaplbbpoaaGreat.B

namespace Go.Proofs.YtepeokaplbbpoaaGreat.B
open Go.Proofs
def c_slices_Compact_Sstring_string:CF:=⟨61,(.seq (.plan (Z1 2 (.mv (.c .nils)) .fin)) (.seq (.seq (.plan (Z1 6 (.mv (.t 0)) (Z1 7 (.len (.t 6)) (Z1 8 (.bin .lss (.t 7) (.c (.int .i64 2))) .fin)))) (.cond (.t 8) (.seq (.plan (Z1 9 (.mv (.t 0)) (Z1 2 (.mv (.t 9)) .fin))) .ret) .skip)) (.seq (.seq (.plan (Z1 3 (.mv (.c (.int .i64 1))) .fin)) (.block 0 (.loop (.seq (.seq (.plan (Z1 10 (.mv (.t 3)) (Z1 11 (.mv (.t 0)) (Z1 12 (.len (.t 11)) (Z1 13 (.bin .lss (.t 10) (.t 12)) .fin))))) (.cond (.t 13) .skip (.exit 0))) (.seq (.block 1 (.seq (.plan (Z1 16 (.mv (.t 0)) (Z1 17 (.mv (.t 3)) (Z1 18 (.ia 1 (.t 16) (.t 17)) (Z1 19 (.ld (.t 18)) (Z1 20 (.mv (.t 0)) (Z1 21 (.mv (.t 3)) (Z1 22 (.bin .sub (.t 21) (.c (.int .i64 1))) (Z1 23 (.ia 1 (.t 20) (.t 22)) (Z1 24 (.ld (.t 23)) (Z1 25 (.bin .eql (.t 19) (.t 24)) .fin))))))))))) (.cond (.t 25) (.seq (.plan (Z1 26 (.mv (.t 0)) (Z1 27 (.mv (.t 3)) (Z1 28 (.cut 1 (.t 26) (some (.t 27)) none) (Z1 4 (.mv (.t 28)) .fin))))) (.seq (.seq (.plan (Z1 5 (.mv (.c (.int .i64 1))) .fin)) (.block 2 (.loop (.seq (.seq (.plan (Z1 29 (.mv (.t 5)) (Z1 30 (.mv (.t 4)) (Z1 31 (.len (.t 30)) (Z1 32 (.bin .lss (.t 29) (.t 31)) .fin))))) (.cond (.t 32) .skip (.exit 2))) (.seq (.block 3 (.seq (.plan (Z1 35 (.mv (.t 4)) (Z1 36 (.mv (.t 5)) (Z1 37 (.ia 1 (.t 35) (.t 36)) (Z1 38 (.ld (.t 37)) (Z1 39 (.mv (.t 4)) (Z1 40 (.mv (.t 5)) (Z1 41 (.bin .sub (.t 40) (.c (.int .i64 1))) (Z1 42 (.ia 1 (.t 39) (.t 41)) (Z1 43 (.ld (.t 42)) (Z1 44 (.bin .neq (.t 38) (.t 43)) .fin))))))))))) (.cond (.t 44) (.seq (.plan (Z1 45 (.mv (.t 0)) (Z1 46 (.mv (.t 3)) (Z1 47 (.mv (.t 4)) (Z1 48 (.mv (.t 5)) (Z1 49 (.ia 1 (.t 47) (.t 48)) (Z1 50 (.ld (.t 49)) (Z1 51 (.ia 1 (.t 45) (.t 46)) (.st none (.st 1 (.t 51) (.t 50)) none [] .fin))))))))) (.plan (Z1 52 (.mv (.t 3)) (Z1 53 (.bin .add (.t 52) (.c (.int .i64 1))) (Z1 3 (.mv (.t 53)) .fin))))) .skip))) (.plan (Z1 33 (.mv (.t 5)) (Z1 34 (.bin .add (.t 33) (.c (.int .i64 1))) (Z1 5 (.mv (.t 34)) .fin))))))))) (.seq (.plan (Z1 54 (.mv (.t 0)) (Z1 55 (.mv (.t 3)) (Z1 56 (.cut 1 (.t 54) (some (.t 55)) none) (.st none (.clr (.str ⟨#[]⟩) (.t 56)) none [] .fin))))) (.seq (.plan (Z1 57 (.mv (.t 0)) (Z1 58 (.mv (.t 3)) (Z1 59 (.cut 1 (.t 57) none (some (.t 58))) (Z1 2 (.mv (.t 59)) .fin))))) .ret)))) .skip))) (.plan (Z1 14 (.mv (.t 3)) (Z1 15 (.bin .add (.t 14) (.c (.int .i64 1))) (Z1 3 (.mv (.t 15)) .fin))))))))) (.seq (.plan (Z1 60 (.mv (.t 0)) (Z1 2 (.mv (.t 60)) .fin))) .ret)))),[(.t 2)]⟩
theorem h_slices_Compact_Sstring_string:compF Tryz.prog 107=some c_slices_Compact_Sstring_string:=by kernel_rfl
def c_impl_KeysSort:CF:=⟨24,(.seq (.plan (Z1 2 (.mv (.c .nils)) .fin)) (.seq (.plan (Z1 3 (.mv (.c .nils)) .fin)) (.seq (.seq (.plan (Z1 6 (.mv (.t 0)) (Z1 7 (.len (.t 6)) (Z1 8 (.mv (.c (.int .i64 0))) .fin)))) (.block 0 (.loop (.seq (.plan (Z1 9 (.bin .lss (.t 8) (.t 7)) .fin)) (.seq (.cond (.t 9) .skip (.exit 0)) (.seq (.block 1 (.seq (.plan (Z1 10 (.ia 1 (.t 6) (.t 8)) (Z1 11 (.ld (.t 10)) (Z1 5 (.mv (.t 11)) .fin)))) (.seq (.plan (Z1 12 (.mv (.t 5)) (Z1 13 (.call 53 [(.t 12)]) .fin))) (.cond (.t 13) (.plan (Z1 14 (.mv (.t 3)) (Z1 15 (.mv (.t 5)) (Z1 16 (.lit 9 1 1 [(.str ⟨#[]⟩)] [(0,(1,(.t 15)))]) (Z1 17 (.app 9 1 16 (.t 14) (.t 16)) (Z1 3 (.mv (.t 17)) .fin)))))) .skip)))) (.plan (Z1 18 (.bin .add (.t 8) (.c (.int .i64 1))) (Z1 8 (.mv (.t 18)) .fin))))))))) (.seq (.plan (Z1 19 (.mv (.t 3)) (Z1 20 (.call 106 [(.t 19)]) .fin))) (.seq (.plan (Z1 21 (.mv (.t 3)) (Z1 22 (.call 107 [(.t 21)]) (Z1 23 (.app 9 1 16 (.c .nils) (.t 22)) (Z1 2 (.mv (.t 23)) .fin))))) .ret))))),[(.t 2)]⟩
theorem h_impl_KeysSort:compF Tryz.prog 57=some c_impl_KeysSort:=by kernel_rfl
def c_impl_at:CF:=⟨29,(.seq (.plan (Z1 6 (.alloc 45 [(.str ⟨#[]⟩),(.int .i64 0),(.bool false),(.int .i64 0)]) (Z1 7 (.mv (.c (.bool false))) .fin))) (.seq (.seq (.plan (Z1 10 (.mv (.t 0)) (Z1 11 (.len (.t 10)) (Z1 12 (.mv (.c (.int .i64 0))) .fin)))) (.block 0 (.loop (.seq (.plan (Z1 13 (.bin .lss (.t 12) (.t 11)) .fin)) (.seq (.cond (.t 13) .skip (.exit 0)) (.seq (.block 1 (.seq (.plan (Z1 14 (.ia 4 (.t 10) (.t 12)) (Z1 15 (.lda 4 (.t 14)) (Z1 9 (.alloc 45 [(.str ⟨#[]⟩),(.int .i64 0),(.bool false),(.int .i64 0)]) (.st none (.st 4 (.t 9) (.t 15)) none [] .fin))))) (.seq (.plan (Z1 16 (.fa 0 (.t 9)) (Z1 17 (.ld (.t 16)) (Z1 18 (.mv (.t 1)) (Z1 19 (.bin .eql (.t 17) (.t 18)) (Z1 20 (.mv (.t 19)) (.st (some 21) (.fa 3 (.t 9)) (some (20,true)) [] (.st (some 22) (.ld (.t 21)) (some (20,true)) [] (.st (some 23) (.mv (.t 2)) (some (20,true)) [] (.st (some 24) (.bin .leq (.t 22) (.t 23)) (some (20,true)) [] (Z1 25 (.pick (.t 20) (.t 24) (.c (.bool false))) .fin))))))))))) (.cond (.t 25) (.seq (.plan (Z1 26 (.lda 4 (.t 9)) (.st none (.st 4 (.t 6) (.t 26)) none [] (Z1 7 (.mv (.c (.bool true))) .fin)))) .ret) .skip)))) (.plan (Z1 27 (.bin .add (.t 12) (.c (.int .i64 1))) (Z1 12 (.mv (.t 27)) .fin))))))))) (.seq (.plan (Z1 28 (.build [(.str ⟨#[]⟩),(.int .i64 0),(.bool false),(.int .i64 0)] []) (.st none (.st 4 (.t 6) (.t 28)) none [] (Z1 7 (.mv (.c (.bool false))) .fin)))) .ret))),[(.ca 6 4),(.t 7)]⟩
theorem h_impl_at:compF Tryz.prog 108=some c_impl_at:=by kernel_rfl
def c_impl_Sieve_has:CF:=⟨66,(.seq (.plan (Z1 2 (.box 76 5 (.t 0)) (Z1 4 (.mv (.c (.bool false))) .fin))) (.seq (.plan (Z1 5 (.mv (.c (.int .i64 0))) .fin)) (.seq (.plan (Z1 6 (.mv (.c (.int .i64 0))) .fin)) (.block 0 (.loop (.seq (.block 1 (.seq (.plan (Z1 14 (.lda 5 (.t 2)) (Z1 15 (.mv (.t 5)) (Z1 16 (.call 149 [(.t 14),(.t 15)]) (Z1 13 (.mv (.t 16)) (Z1 17 (.ext 0 (.t 13)) (Z1 18 (.ext 1 (.t 13)) (Z1 7 (.mv (.t 17)) (Z1 8 (.mv (.t 18)) .fin))))))))) (.seq (.plan (Z1 19 (.mv (.t 7)) (Z1 9 (.mv (.t 19)) .fin))) (.seq (.block 2 (.loop (.seq (.seq (.plan (Z1 20 (.mv (.t 9)) (Z1 21 (.mv (.t 8)) (Z1 22 (.bin .lss (.t 20) (.t 21)) (Z1 23 (.mv (.t 22)) (.st (some 24) (.fa 0 (.t 2)) (some (23,true)) [] (.st (some 25) (.ld (.t 24)) (some (23,true)) [] (.st (some 26) (.mv (.t 9)) (some (23,true)) [] (.st (some 27) (.ix (.t 25) (.t 26)) (some (23,true)) [] (.st (some 28) (.mv (.t 1)) (some (23,true)) [] (.st (some 29) (.mv (.t 6)) (some (23,true)) [] (.st (some 30) (.call 150 [(.t 28),(.t 29)]) (some (23,true)) [((some 25),((.ld (.t 24)),(some (23,true))))] (.st (some 31) (.bin .neq (.t 27) (.t 30)) (some (23,true)) [] (Z1 32 (.pick (.t 23) (.t 31) (.c (.bool false))) .fin)))))))))))))) (.cond (.t 32) .skip (.exit 2))) (.block 3 (.plan (Z1 33 (.mv (.t 9)) (Z1 34 (.bin .add (.t 33) (.c (.int .i64 1))) (Z1 9 (.mv (.t 34)) .fin)))))))) (.seq (.seq (.plan (Z1 35 (.mv (.t 9)) (Z1 36 (.mv (.t 8)) (Z1 37 (.bin .eql (.t 35) (.t 36)) .fin)))) (.cond (.t 37) (.seq (.plan (Z1 4 (.mv (.c (.bool false))) .fin)) .ret) .skip)) (.seq (.seq (.plan (Z1 38 (.fa 1 (.t 2)) (Z1 39 (.ld (.t 38)) (Z1 40 (.mv (.t 9)) (Z1 41 (.ix (.t 39) (.t 40)) (Z1 42 (.bin .eql (.t 41) (.c (.int .u8 49))) .fin)))))) (.cond (.t 42) (.seq (.plan (Z1 43 (.lda 5 (.t 2)) (Z1 44 (.mv (.t 9)) (Z1 45 (.call 151 [(.t 43),(.t 44)]) (Z1 5 (.mv (.t 45)) .fin))))) (.exit 1)) .skip)) (.seq (.plan (Z1 46 (.mv (.t 1)) (Z1 47 (.mv (.t 6)) (Z1 48 (.bin .add (.t 47) (.c (.int .i64 1))) (Z1 49 (.mv (.t 1)) (Z1 50 (.lns (.t 49)) (Z1 51 (.mn (.t 48) (.t 50)) (Z1 52 (.cuts (.t 46) (some (.t 51)) none) (Z1 10 (.mv (.t 52)) .fin))))))))) (.seq (.seq (.plan (Z1 53 (.lda 5 (.t 2)) (Z1 54 (.mv (.t 9)) (Z1 55 (.call 152 [(.t 53),(.t 54)]) .fin)))) (.cond (.t 55) (.seq (.plan (Z1 56 (.mv (.t 10)) (Z1 57 (.lda 5 (.t 2)) (Z1 58 (.mv (.t 9)) (Z1 59 (.call 153 [(.t 57),(.t 58)]) (Z1 60 (.bin .eql (.t 56) (.t 59)) (Z1 4 (.mv (.t 60)) .fin))))))) .ret) .skip)) (.seq (.plan (Z1 61 (.mv (.t 10)) (Z1 62 (.lda 5 (.t 2)) (Z1 63 (.mv (.t 9)) (Z1 64 (.call 153 [(.t 62),(.t 63)]) (Z1 65 (.call 146 [(.t 61),(.t 64)]) (Z1 4 (.mv (.t 65)) .fin))))))) .ret))))))))) (.plan (Z1 11 (.mv (.t 6)) (Z1 12 (.bin .add (.t 11) (.c (.int .i64 1))) (Z1 6 (.mv (.t 12)) .fin)))))))))),[(.t 4)]⟩
theorem h_impl_Sieve_has:compF Tryz.prog 109=some c_impl_Sieve_has:=by kernel_rfl
def c_impl_Store_find:CF:=⟨51,(.seq (.plan (Z1 3 (.box 28 6 (.t 0)) (Z1 6 (.alloc 45 [(.str ⟨#[]⟩),(.int .i64 0),(.bool false),(.int .i64 0)]) (Z1 7 (.mv (.c (.bool false))) .fin)))) (.seq (.seq (.plan (Z1 15 (.fa 0 (.t 3)) (Z1 16 (.ld (.t 15)) (Z1 17 (.mv (.t 1)) (Z1 18 (.mv (.t 2)) (Z1 19 (.call 108 [(.t 16),(.t 17),(.t 18)]) (Z1 14 (.mv (.t 19)) (Z1 20 (.ext 0 (.t 14)) (Z1 21 (.ext 1 (.t 14)) (Z1 8 (.alloc 45 [(.str ⟨#[]⟩),(.int .i64 0),(.bool false),(.int .i64 0)]) (.st none (.st 4 (.t 8) (.t 20)) none [] (Z1 9 (.mv (.t 21)) .fin)))))))))))) (.seq (.plan (Z1 22 (.mv (.t 9)) .fin)) (.cond (.t 22) (.seq (.plan (Z1 23 (.lda 4 (.t 8)) (.st none (.st 4 (.t 6) (.t 23)) none [] (Z1 7 (.mv (.c (.bool true))) .fin)))) .ret) .skip))) (.seq (.seq (.plan (Z1 24 (.fa 1 (.t 3)) (Z1 25 (.ld (.t 24)) (Z1 26 (.len (.t 25)) (Z1 27 (.mv (.c (.int .i64 0))) .fin))))) (.block 0 (.loop (.seq (.plan (Z1 28 (.bin .lss (.t 27) (.t 26)) .fin)) (.seq (.cond (.t 28) .skip (.exit 0)) (.seq (.block 1 (.seq (.plan (Z1 29 (.mv (.t 27)) (Z1 30 (.ia 1 (.t 25) (.t 27)) (Z1 31 (.ld (.t 30)) (Z1 10 (.mv (.t 29)) (Z1 11 (.mv (.t 31)) .fin)))))) (.seq (.seq (.plan (Z1 32 (.fa 2 (.t 3)) (Z1 33 (.ld (.t 32)) (Z1 34 (.mv (.t 10)) (Z1 35 (.ia 5 (.t 33) (.t 34)) (Z1 36 (.lda 5 (.t 35)) (Z1 37 (.mv (.t 1)) (Z1 38 (.call 109 [(.t 36),(.t 37)]) (Z1 39 (.not (.t 38)) .fin))))))))) (.cond (.t 39) (.exit 1) .skip)) (.seq (.plan (Z1 41 (.mv (.t 11)) (Z1 42 (.mv (.t 1)) (Z1 43 (.mv (.t 2)) (Z1 44 (.call 108 [(.t 41),(.t 42),(.t 43)]) (Z1 40 (.mv (.t 44)) (Z1 45 (.ext 0 (.t 40)) (Z1 46 (.ext 1 (.t 40)) (Z1 12 (.alloc 45 [(.str ⟨#[]⟩),(.int .i64 0),(.bool false),(.int .i64 0)]) (.st none (.st 4 (.t 12) (.t 45)) none [] (Z1 13 (.mv (.t 46)) .fin))))))))))) (.seq (.plan (Z1 47 (.mv (.t 13)) .fin)) (.cond (.t 47) (.seq (.plan (Z1 48 (.lda 4 (.t 12)) (.st none (.st 4 (.t 6) (.t 48)) none [] (Z1 7 (.mv (.c (.bool true))) .fin)))) .ret) .skip)))))) (.plan (Z1 49 (.bin .add (.t 27) (.c (.int .i64 1))) (Z1 27 (.mv (.t 49)) .fin))))))))) (.seq (.plan (Z1 50 (.build [(.str ⟨#[]⟩),(.int .i64 0),(.bool false),(.int .i64 0)] []) (.st none (.st 4 (.t 6) (.t 50)) none [] (Z1 7 (.mv (.c (.bool false))) .fin)))) .ret)))),[(.ca 6 4),(.t 7)]⟩
theorem h_impl_Store_find:compF Tryz.prog 58=some c_impl_Store_find:=by kernel_rfl
def c_impl_StoreList:CF:=⟨96,(.seq (.plan (Z1 4 (.box 28 6 (.t 0)) (Z1 8 (.mv (.c .nils)) .fin))) (.seq (.seq (.plan (Z1 17 (.lda 6 (.t 4)) (Z1 18 (.call 24 [(.t 17)]) (Z1 19 (.not (.t 18)) (Z1 20 (.mv (.t 19)) (.st (some 21) (.mv (.t 1)) (some (20,false)) [] (.st (some 22) (.call 53 [(.t 21)]) (some (20,false)) [] (.st (some 23) (.not (.t 22)) (some (20,false)) [] (Z1 24 (.pick (.t 20) (.c (.bool true)) (.t 23)) (Z1 25 (.mv (.t 24)) (.st (some 26) (.mv (.t 2)) (some (25,false)) [] (.st (some 27) (.call 53 [(.t 26)]) (some (25,false)) [] (.st (some 28) (.not (.t 27)) (some (25,false)) [] (Z1 29 (.pick (.t 25) (.c (.bool true)) (.t 28)) (Z1 30 (.mv (.t 29)) (.st (some 31) (.lda 6 (.t 4)) (some (30,false)) [] (.st (some 32) (.mv (.t 3)) (some (30,false)) [] (.st (some 33) (.call 54 [(.t 31),(.t 32)]) (some (30,false)) [] (.st (some 34) (.not (.t 33)) (some (30,false)) [] (Z1 35 (.pick (.t 30) (.c (.bool true)) (.t 34)) .fin)))))))))))))))))))) (.cond (.t 35) (.seq (.plan (Z1 8 (.mv (.c .nils)) .fin)) .ret) .skip)) (.seq (.plan (Z1 36 (.fa 0 (.t 4)) (Z1 37 (.ld (.t 36)) (Z1 38 (.call 55 [(.t 37)]) (Z1 9 (.mv (.t 38)) .fin))))) (.seq (.seq (.plan (Z1 39 (.fa 1 (.t 4)) (Z1 40 (.ld (.t 39)) (Z1 41 (.len (.t 40)) (Z1 42 (.mv (.c (.int .i64 0))) .fin))))) (.block 0 (.loop (.seq (.plan (Z1 43 (.bin .lss (.t 42) (.t 41)) .fin)) (.seq (.cond (.t 43) .skip (.exit 0)) (.seq (.block 1 (.seq (.plan (Z1 44 (.mv (.t 42)) (Z1 45 (.ia 1 (.t 40) (.t 42)) (Z1 46 (.ld (.t 45)) (Z1 10 (.mv (.t 44)) (Z1 11 (.mv (.t 46)) .fin)))))) (.seq (.plan (Z1 47 (.fa 2 (.t 4)) (Z1 48 (.ld (.t 47)) (Z1 49 (.mv (.t 10)) (Z1 50 (.ia 5 (.t 48) (.t 49)) (Z1 51 (.lda 5 (.t 50)) (Z1 52 (.mv (.t 1)) (Z1 53 (.mv (.t 2)) (Z1 54 (.call 56 [(.t 51),(.t 52),(.t 53)]) .fin))))))))) (.cond (.t 54) (.plan (Z1 55 (.mv (.t 9)) (Z1 56 (.mv (.t 11)) (Z1 57 (.call 55 [(.t 56)]) (Z1 58 (.app 9 1 16 (.t 55) (.t 57)) (Z1 9 (.mv (.t 58)) .fin)))))) .skip)))) (.plan (Z1 59 (.bin .add (.t 42) (.c (.int .i64 1))) (Z1 42 (.mv (.t 59)) .fin))))))))) (.seq (.plan (Z1 12 (.mv (.c .nils)) .fin)) (.seq (.seq (.plan (Z1 60 (.mv (.t 9)) (Z1 61 (.call 57 [(.t 60)]) (Z1 62 (.len (.t 61)) (Z1 63 (.mv (.c (.int .i64 0))) .fin))))) (.block 2 (.loop (.seq (.plan (Z1 64 (.bin .lss (.t 63) (.t 62)) .fin)) (.seq (.cond (.t 64) .skip (.exit 2)) (.seq (.block 3 (.seq (.plan (Z1 65 (.ia 1 (.t 61) (.t 63)) (Z1 66 (.ld (.t 65)) (Z1 14 (.mv (.t 66)) .fin)))) (.seq (.plan (Z1 68 (.lda 6 (.t 4)) (Z1 69 (.mv (.t 14)) (Z1 70 (.mv (.t 3)) (Z1 71 (.call 58 [(.t 68),(.t 69),(.t 70)]) (Z1 67 (.mv (.t 71)) (Z1 72 (.ext 0 (.t 67)) (Z1 73 (.ext 1 (.t 67)) (Z1 15 (.alloc 45 [(.str ⟨#[]⟩),(.int .i64 0),(.bool false),(.int .i64 0)]) (.st none (.st 4 (.t 15) (.t 72)) none [] (Z1 16 (.mv (.t 73)) .fin))))))))))) (.seq (.plan (Z1 74 (.mv (.t 16)) (Z1 75 (.mv (.t 74)) (.st (some 76) (.fa 2 (.t 15)) (some (75,true)) [] (.st (some 77) (.ld (.t 76)) (some (75,true)) [] (.st (some 78) (.not (.t 77)) (some (75,true)) [] (Z1 79 (.pick (.t 75) (.t 78) (.c (.bool false))) (Z1 80 (.mv (.t 79)) (.st (some 81) (.mv (.t 1)) (some (80,true)) [] (.st (some 82) (.mv (.t 14)) (some (80,true)) [] (.st (some 83) (.bin .leq (.t 81) (.t 82)) (some (80,true)) [] (Z1 84 (.pick (.t 80) (.t 83) (.c (.bool false))) (Z1 85 (.mv (.t 84)) (.st (some 86) (.mv (.t 14)) (some (85,true)) [] (.st (some 87) (.mv (.t 2)) (some (85,true)) [] (.st (some 88) (.bin .leq (.t 86) (.t 87)) (some (85,true)) [] (Z1 89 (.pick (.t 85) (.t 88) (.c (.bool false))) .fin))))))))))))))))) (.cond (.t 89) (.plan (Z1 90 (.mv (.t 12)) (Z1 91 (.lda 4 (.t 15)) (Z1 92 (.lit 45 4 1 [(.str ⟨#[]⟩),(.int .i64 0),(.bool false),(.int .i64 0)] [(0,(4,(.t 91)))]) (Z1 93 (.app 45 4 40 (.t 90) (.t 92)) (Z1 12 (.mv (.t 93)) .fin)))))) .skip))))) (.plan (Z1 94 (.bin .add (.t 63) (.c (.int .i64 1))) (Z1 63 (.mv (.t 94)) .fin))))))))) (.seq (.plan (Z1 95 (.mv (.t 12)) (Z1 8 (.mv (.t 95)) .fin))) .ret))))))),[(.t 8)]⟩
theorem h_impl_StoreList:compF Tryz.prog 20=some c_impl_StoreList:=by kernel_rfl
def c_impl_StoreJoin_1:CF:=⟨24,(.seq (.plan (Z1 3 (.mv (.c (.bool false))) .fin)) (.seq (.plan (Z1 4 (.ld (.t 1)) (Z1 5 (.call 64 [(.t 4),(.c (.int .i64 0)),(.c (.int .i64 1))]) (Z1 6 (.mv (.t 5)) (.st (some 7) (.mv (.t 0)) (some (6,true)) [] (.st (some 8) (.ld (.t 1)) (some (6,true)) [] (.st (some 9) (.bin .add (.t 8) (.c (.int .i64 1))) (some (6,true)) [] (.st (some 10) (.mv (.t 0)) (some (6,true)) [] (.st (some 11) (.nck (.t 10)) (some (6,true)) [] (.st (some 12) (.fa 1 (.t 11)) (some (6,true)) [] (.st (some 13) (.ld (.t 12)) (some (6,true)) [] (.st (some 14) (.ld (.t 1)) (some (6,true)) [] (.st (some 15) (.ia 1 (.t 13) (.t 14)) (some (6,true)) [] (.st (some 16) (.ld (.t 15)) (some (6,true)) [] (.st (some 17) (.call 65 [(.t 7),(.t 9),(.t 16)]) (some (6,true)) [] (Z1 18 (.pick (.t 6) (.t 17) (.c (.bool false))) (Z1 19 (.mv (.t 18)) (.st (some 20) (.mv (.t 0)) (some (19,true)) [] (.st (some 21) (.ld (.t 1)) (some (19,true)) [] (.st (some 22) (.call 66 [(.t 20),(.t 21),(.c .nils)]) (some (19,true)) [] (Z1 23 (.pick (.t 19) (.t 22) (.c (.bool false))) (Z1 3 (.mv (.t 23)) .fin)))))))))))))))))))))) .ret)),[(.t 3)]⟩
theorem h_impl_StoreJoin_1:compF Tryz.prog 63=some c_impl_StoreJoin_1:=by kernel_rfl
def c_impl_StoreJoin:CF:=⟨11,(.seq (.plan (Z1 2 (.box 28 6 (.t 0)) (Z1 3 (.box 3 1 (.t 1)) (Z1 4 (.alloc 28 [.nils,.nils,.nils,(.int .i64 0),(.int .i64 0),.nils]) (Z1 5 (.mv (.c (.bool false))) .fin))))) (.seq (.plan (Z1 6 (.lda 6 (.t 2)) (Z1 7 (.fn 63 [(.t 3)]) (Z1 8 (.call 49 [(.t 6),(.t 7)]) (Z1 9 (.ext 0 (.t 8)) (Z1 10 (.ext 1 (.t 8)) (.st none (.st 6 (.t 4) (.t 9)) none [] (Z1 5 (.mv (.t 10)) .fin)))))))) .ret)),[(.ca 4 6),(.t 5)]⟩
theorem h_impl_StoreJoin:compF Tryz.prog 23=some c_impl_StoreJoin:=by kernel_rfl
def c_impl_Store_write:CF:=⟨49,(.seq (.plan (Z1 3 (.box 45 4 (.t 1)) (Z1 4 (.mv (.c (.bool false))) .fin))) (.seq (.plan (Z1 7 (.mv (.t 0)) (Z1 8 (.nck (.t 7)) (Z1 9 (.fa 4 (.t 8)) (Z1 10 (.ld (.t 9)) (Z1 11 (.bin .add (.t 10) (.c (.int .i64 1))) (Z1 12 (.fa 3 (.t 3)) (.st none (.st 1 (.t 12) (.t 11)) none [] .fin)))))))) (.seq (.seq (.plan (Z1 13 (.lda 4 (.t 3)) (Z1 14 (.call 116 [(.t 13)]) (Z1 15 (.not (.t 14)) (Z1 16 (.mv (.t 15)) (.st (some 17) (.mv (.t 0)) (some (16,false)) [] (.st (some 18) (.nck (.t 17)) (some (16,false)) [] (.st (some 19) (.fa 0 (.t 18)) (some (16,false)) [] (.st (some 20) (.ld (.t 19)) (some (16,false)) [] (.st (some 21) (.len (.t 20)) (some (16,false)) [] (.st (some 22) (.bin .eql (.t 21) (.c (.int .i64 4))) (some (16,false)) [] (.st (some 23) (.mv (.t 22)) (some (16,false)) [] (.st (some 24) (.mv (.t 0)) (some (23,true)) [] (.st (some 25) (.call 50 [(.t 24)]) (some (23,true)) [] (.st (some 26) (.not (.t 25)) (some (23,true)) [] (.st (some 27) (.pick (.t 23) (.t 26) (.c (.bool false))) (some (16,false)) [] (Z1 28 (.pick (.t 16) (.c (.bool true)) (.t 27)) .fin))))))))))))))))) (.cond (.t 28) (.seq (.plan (Z1 4 (.mv (.c (.bool false))) .fin)) .ret) .skip)) (.seq (.plan (Z1 30 (.mv (.t 0)) (Z1 31 (.nck (.t 30)) (Z1 32 (.fa 0 (.t 31)) (Z1 33 (.ld (.t 32)) (Z1 34 (.lda 4 (.t 3)) (.st (some 35) (.lit 45 4 1 [(.str ⟨#[]⟩),(.int .i64 0),(.bool false),(.int .i64 0)] [(0,(4,(.t 34)))]) none [((some 33),((.ld (.t 32)),none))] (Z1 36 (.call 114 [(.t 33),(.t 35)]) (Z1 29 (.mv (.t 36)) (Z1 37 (.ext 0 (.t 29)) (Z1 38 (.ext 1 (.t 29)) (Z1 5 (.mv (.t 37)) (Z1 6 (.mv (.t 38)) .fin))))))))))))) (.seq (.plan (Z1 39 (.mv (.t 0)) (Z1 40 (.mv (.t 0)) (Z1 41 (.mv (.t 5)) (Z1 42 (.fa 3 (.t 3)) (Z1 43 (.ld (.t 42)) (Z1 44 (.nck (.t 39)) (Z1 45 (.fa 0 (.t 44)) (.st none (.st 1 (.t 45) (.t 41)) none [((some 43),((.ld (.t 42)),none))] (Z1 46 (.nck (.t 40)) (Z1 47 (.fa 4 (.t 46)) (.st none (.st 1 (.t 47) (.t 43)) none [] .fin)))))))))))) (.seq (.plan (Z1 48 (.mv (.t 6)) (Z1 4 (.mv (.t 48)) .fin))) .ret)))))),[(.t 4)]⟩
theorem h_impl_Store_write:compF Tryz.prog 80=some c_impl_Store_write:=by kernel_rfl
def c_impl_StoreTake_1:CF:=⟨8,(.seq (.plan (Z1 3 (.mv (.c (.bool false))) .fin)) (.seq (.plan (Z1 4 (.mv (.t 0)) (Z1 5 (.ld (.t 1)) (Z1 6 (.build [(.str ⟨#[]⟩),(.int .i64 0),(.bool false),(.int .i64 0)] [(0,(1,(.t 5))),(2,(1,(.c (.bool true))))]) (Z1 7 (.call 80 [(.t 4),(.t 6)]) (Z1 3 (.mv (.t 7)) .fin)))))) .ret)),[(.t 3)]⟩
theorem h_impl_StoreTake_1:compF Tryz.prog 79=some c_impl_StoreTake_1:=by kernel_rfl
def c_impl_StoreTake:CF:=⟨11,(.seq (.plan (Z1 2 (.box 28 6 (.t 0)) (Z1 3 (.box 9 1 (.t 1)) (Z1 4 (.alloc 28 [.nils,.nils,.nils,(.int .i64 0),(.int .i64 0),.nils]) (Z1 5 (.mv (.c (.bool false))) .fin))))) (.seq (.plan (Z1 6 (.lda 6 (.t 2)) (Z1 7 (.fn 79 [(.t 3)]) (Z1 8 (.call 49 [(.t 6),(.t 7)]) (Z1 9 (.ext 0 (.t 8)) (Z1 10 (.ext 1 (.t 8)) (.st none (.st 6 (.t 4) (.t 9)) none [] (Z1 5 (.mv (.t 10)) .fin)))))))) .ret)),[(.ca 4 6),(.t 5)]⟩
theorem h_impl_StoreTake:compF Tryz.prog 28=some c_impl_StoreTake:=by kernel_rfl
def c_impl_StorePut_1:CF:=⟨10,(.seq (.plan (Z1 4 (.mv (.c (.bool false))) .fin)) (.seq (.plan (Z1 5 (.mv (.t 0)) (Z1 6 (.ld (.t 1)) (Z1 7 (.ld (.t 2)) (Z1 8 (.build [(.str ⟨#[]⟩),(.int .i64 0),(.bool false),(.int .i64 0)] [(0,(1,(.t 6))),(1,(1,(.t 7)))]) (Z1 9 (.call 80 [(.t 5),(.t 8)]) (Z1 4 (.mv (.t 9)) .fin))))))) .ret)),[(.t 4)]⟩
theorem h_impl_StorePut_1:compF Tryz.prog 81=some c_impl_StorePut_1:=by kernel_rfl
def c_impl_StorePut:CF:=⟨13,(.seq (.plan (Z1 3 (.box 28 6 (.t 0)) (Z1 4 (.box 9 1 (.t 1)) (Z1 5 (.box 3 1 (.t 2)) (Z1 6 (.alloc 28 [.nils,.nils,.nils,(.int .i64 0),(.int .i64 0),.nils]) (Z1 7 (.mv (.c (.bool false))) .fin)))))) (.seq (.plan (Z1 8 (.lda 6 (.t 3)) (Z1 9 (.fn 81 [(.t 4),(.t 5)]) (Z1 10 (.call 49 [(.t 8),(.t 9)]) (Z1 11 (.ext 0 (.t 10)) (Z1 12 (.ext 1 (.t 10)) (.st none (.st 6 (.t 6) (.t 11)) none [] (Z1 7 (.mv (.t 12)) .fin)))))))) .ret)),[(.ca 6 6),(.t 7)]⟩
theorem h_impl_StorePut:compF Tryz.prog 31=some c_impl_StorePut:=by kernel_rfl
def c_impl_StoreFree_1_1:CF:=⟨7,(.seq (.plan (Z1 3 (.mv (.c (.bool false))) .fin)) (.seq (.plan (Z1 4 (.mv (.t 0)) (Z1 5 (.ld (.t 1)) (Z1 6 (.bin .eql (.t 4) (.t 5)) (Z1 3 (.mv (.t 6)) .fin))))) .ret)),[(.t 3)]⟩
theorem h_impl_StoreFree_1_1:compF Tryz.prog 84=some c_impl_StoreFree_1_1:=by kernel_rfl
def c_slices_DeleteFunc_Sint_int:CF:=⟨42,(.seq (.plan (Z1 4 (.mv (.c .nils)) .fin)) (.seq (.plan (Z1 8 (.mv (.t 0)) (Z1 9 (.mv (.t 1)) (Z1 10 (.call 125 [(.t 8),(.t 9)]) (Z1 5 (.mv (.t 10)) .fin))))) (.seq (.seq (.plan (Z1 11 (.mv (.t 5)) (Z1 12 (.bin .eql (.t 11) (.c (.int .i64 (-1)))) .fin))) (.cond (.t 12) (.seq (.plan (Z1 13 (.mv (.t 0)) (Z1 4 (.mv (.t 13)) .fin))) .ret) .skip)) (.seq (.seq (.plan (Z1 14 (.mv (.t 5)) (Z1 15 (.bin .add (.t 14) (.c (.int .i64 1))) (Z1 6 (.mv (.t 15)) .fin)))) (.block 0 (.loop (.seq (.seq (.plan (Z1 16 (.mv (.t 6)) (Z1 17 (.mv (.t 0)) (Z1 18 (.len (.t 17)) (Z1 19 (.bin .lss (.t 16) (.t 18)) .fin))))) (.cond (.t 19) .skip (.exit 0))) (.seq (.block 1 (.seq (.plan (Z1 22 (.mv (.t 0)) (Z1 23 (.mv (.t 6)) (Z1 24 (.ia 1 (.t 22) (.t 23)) (Z1 25 (.ld (.t 24)) (Z1 7 (.mv (.t 25)) .fin)))))) (.seq (.plan (Z1 26 (.mv (.t 1)) (Z1 27 (.mv (.t 7)) (Z1 28 (.calv (.t 26) [(.t 27)]) (Z1 29 (.not (.t 28)) .fin))))) (.cond (.t 29) (.seq (.plan (Z1 30 (.mv (.t 0)) (Z1 31 (.mv (.t 5)) (Z1 32 (.mv (.t 7)) (Z1 33 (.ia 1 (.t 30) (.t 31)) (.st none (.st 1 (.t 33) (.t 32)) none [] .fin)))))) (.plan (Z1 34 (.mv (.t 5)) (Z1 35 (.bin .add (.t 34) (.c (.int .i64 1))) (Z1 5 (.mv (.t 35)) .fin))))) .skip)))) (.plan (Z1 20 (.mv (.t 6)) (Z1 21 (.bin .add (.t 20) (.c (.int .i64 1))) (Z1 6 (.mv (.t 21)) .fin))))))))) (.seq (.plan (Z1 36 (.mv (.t 0)) (Z1 37 (.mv (.t 5)) (Z1 38 (.cut 1 (.t 36) (some (.t 37)) none) (.st none (.clr (.int .i64 0) (.t 38)) none [] .fin))))) (.seq (.plan (Z1 39 (.mv (.t 0)) (Z1 40 (.mv (.t 5)) (Z1 41 (.cut 1 (.t 39) none (some (.t 40))) (Z1 4 (.mv (.t 41)) .fin))))) .ret)))))),[(.t 4)]⟩
theorem h_slices_DeleteFunc_Sint_int:compF Tryz.prog 83=some c_slices_DeleteFunc_Sint_int:=by kernel_rfl
def c_impl_StoreFree_1:CF:=⟨26,(.seq (.plan (Z1 3 (.mv (.c (.bool false))) .fin)) (.seq (.plan (Z1 5 (.mv (.t 0)) (Z1 6 (.nck (.t 5)) (Z1 7 (.fa 5 (.t 6)) (Z1 8 (.ld (.t 7)) (Z1 9 (.len (.t 8)) (Z1 4 (.mv (.t 9)) .fin))))))) (.seq (.plan (Z1 10 (.mv (.t 0)) (Z1 11 (.mv (.t 0)) (Z1 12 (.nck (.t 11)) (Z1 13 (.fa 5 (.t 12)) (Z1 14 (.ld (.t 13)) (Z1 15 (.fn 84 [(.t 1)]) (Z1 16 (.call 83 [(.t 14),(.t 15)]) (Z1 17 (.nck (.t 10)) (Z1 18 (.fa 5 (.t 17)) (.st none (.st 1 (.t 18) (.t 16)) none [] .fin))))))))))) (.seq (.plan (Z1 19 (.mv (.t 0)) (Z1 20 (.nck (.t 19)) (Z1 21 (.fa 5 (.t 20)) (Z1 22 (.ld (.t 21)) (Z1 23 (.len (.t 22)) (Z1 24 (.mv (.t 4)) (Z1 25 (.bin .lss (.t 23) (.t 24)) (Z1 3 (.mv (.t 25)) .fin))))))))) .ret)))),[(.t 3)]⟩
theorem h_impl_StoreFree_1:compF Tryz.prog 82=some c_impl_StoreFree_1:=by kernel_rfl
def c_impl_StoreFree:CF:=⟨11,(.seq (.plan (Z1 2 (.box 28 6 (.t 0)) (Z1 3 (.box 3 1 (.t 1)) (Z1 4 (.alloc 28 [.nils,.nils,.nils,(.int .i64 0),(.int .i64 0),.nils]) (Z1 5 (.mv (.c (.bool false))) .fin))))) (.seq (.plan (Z1 6 (.lda 6 (.t 2)) (Z1 7 (.fn 82 [(.t 3)]) (Z1 8 (.call 49 [(.t 6),(.t 7)]) (Z1 9 (.ext 0 (.t 8)) (Z1 10 (.ext 1 (.t 8)) (.st none (.st 6 (.t 4) (.t 9)) none [] (Z1 5 (.mv (.t 10)) .fin)))))))) .ret)),[(.ca 4 6),(.t 5)]⟩
theorem h_impl_StoreFree:compF Tryz.prog 34=some c_impl_StoreFree:=by kernel_rfl
end Go.Proofs.YtepeokaplbbpoaaGreat.B

namespace Go.Proofs.YtepeokaplbbpoaaGreat.B
open Go.Proofs
def c_spec_DrawPastAll:CF:=⟨26,(.seq (.plan (Z1 2 (.alloc 28 [.nils,.nils,.nils,(.int .i64 0),(.int .i64 0),.nils]) (Z1 3 (.mv (.c .nils)) .fin))) (.seq (.plan (Z1 7 (.mv (.t 0)) (Z1 8 (.call 46 [(.t 7)]) (Z1 4 (.mv (.t 8)) .fin)))) (.seq (.plan (Z1 10 (.lit 3 1 3 [(.int .i64 0),(.int .i64 0),(.int .i64 0)] [(0,(1,(.c (.int .i64 0)))),(1,(1,(.c (.int .i64 1)))),(2,(1,(.c (.int .i64 2))))]) (Z1 11 (.mv (.t 4)) (Z1 12 (.call 59 [(.t 11),(.c (.int .i64 3))]) (Z1 13 (.ia 1 (.t 10) (.t 12)) (Z1 14 (.ld (.t 13)) (Z1 15 (.call 85 [(.t 14)]) (Z1 9 (.mv (.t 15)) (Z1 16 (.ext 0 (.t 9)) (Z1 17 (.ext 1 (.t 9)) (Z1 5 (.alloc 28 [.nils,.nils,.nils,(.int .i64 0),(.int .i64 0),.nils]) (.st none (.st 6 (.t 5) (.t 16)) none [] (Z1 6 (.mv (.t 17)) .fin))))))))))))) (.seq (.seq (.plan (Z1 18 (.mv (.t 4)) (Z1 19 (.call 59 [(.t 18),(.c (.int .i64 8))]) (Z1 20 (.bin .eql (.t 19) (.c (.int .i64 0))) .fin)))) (.cond (.t 20) (.plan (Z1 21 (.mv (.t 4)) (Z1 22 (.call 45 [(.t 21)]) (.st none (.st 6 (.t 5) (.t 22)) none [] .fin)))) .skip)) (.seq (.plan (Z1 23 (.lda 6 (.t 5)) (Z1 24 (.mv (.t 4)) (.st (some 25) (.call 86 [(.t 24),(.c (.int .i64 36))]) none [((some 23),((.lda 6 (.t 5)),none))] (.st none (.st 6 (.t 2) (.t 23)) none [] (Z1 3 (.mv (.t 25)) .fin)))))) .ret))))),[(.ca 2 6),(.t 3)]⟩
theorem h_spec_DrawPastAll:compF Tryz.prog 36=some c_spec_DrawPastAll:=by kernel_rfl
def c_impl_Store_hold:CF:=⟨31,(.seq (.plan (Z1 2 (.mv (.c (.bool false))) .fin)) (.seq (.seq (.plan (Z1 3 (.mv (.t 0)) (Z1 4 (.nck (.t 3)) (Z1 5 (.fa 5 (.t 4)) (Z1 6 (.ld (.t 5)) (Z1 7 (.mv (.t 0)) (Z1 8 (.nck (.t 7)) (Z1 9 (.fa 4 (.t 8)) (Z1 10 (.ld (.t 9)) (Z1 11 (.call 104 [(.t 6),(.t 10)]) .fin)))))))))) (.cond (.t 11) (.seq (.plan (Z1 2 (.mv (.c (.bool true))) .fin)) .ret) .skip)) (.seq (.plan (Z1 12 (.mv (.t 0)) (Z1 13 (.mv (.t 0)) (Z1 14 (.nck (.t 13)) (Z1 15 (.fa 5 (.t 14)) (Z1 16 (.ld (.t 15)) (Z1 17 (.mv (.t 0)) (Z1 18 (.nck (.t 17)) (Z1 19 (.fa 4 (.t 18)) (Z1 20 (.ld (.t 19)) (.st (some 21) (.lit 3 1 1 [(.int .i64 0)] [(0,(1,(.t 20)))]) none [((some 16),((.ld (.t 15)),none))] (Z1 22 (.app 3 1 8 (.t 16) (.t 21)) (Z1 23 (.nck (.t 12)) (Z1 24 (.fa 5 (.t 23)) (.st none (.st 1 (.t 24) (.t 22)) none [] .fin))))))))))))))) (.seq (.plan (Z1 25 (.mv (.t 0)) (Z1 26 (.nck (.t 25)) (Z1 27 (.fa 5 (.t 26)) (Z1 28 (.ld (.t 27)) (Z1 29 (.len (.t 28)) (Z1 30 (.bin .leq (.t 29) (.c (.int .i64 3))) (Z1 2 (.mv (.t 30)) .fin)))))))) .ret)))),[(.t 2)]⟩
theorem h_impl_Store_hold:compF Tryz.prog 194=some c_impl_Store_hold:=by kernel_rfl
def c_impl_StoreHold:CF:=⟨16,(.seq (.plan (Z1 1 (.box 28 6 (.t 0)) (Z1 2 (.alloc 28 [.nils,.nils,.nils,(.int .i64 0),(.int .i64 0),.nils]) (Z1 3 (.mv (.c (.int .i64 0))) (Z1 4 (.mv (.c (.bool false))) .fin))))) (.seq (.plan (Z1 8 (.lda 6 (.t 1)) (Z1 9 (.call 49 [(.t 8),(.c (.fn 194 []))]) (Z1 7 (.mv (.t 9)) (Z1 10 (.ext 0 (.t 7)) (Z1 11 (.ext 1 (.t 7)) (Z1 5 (.alloc 28 [.nils,.nils,.nils,(.int .i64 0),(.int .i64 0),.nils]) (.st none (.st 6 (.t 5) (.t 10)) none [] (Z1 6 (.mv (.t 11)) .fin))))))))) (.seq (.plan (Z1 12 (.lda 6 (.t 5)) (Z1 13 (.fa 4 (.t 5)) (Z1 14 (.ld (.t 13)) (Z1 15 (.mv (.t 6)) (.st none (.st 6 (.t 2) (.t 12)) none [((some 14),((.ld (.t 13)),none))] (Z1 3 (.mv (.t 14)) (Z1 4 (.mv (.t 15)) .fin)))))))) .ret))),[(.ca 2 6),(.t 3),(.t 4)]⟩
theorem h_impl_StoreHold:compF Tryz.prog 162=some c_impl_StoreHold:=by kernel_rfl
def c_impl_Deed_do:CF:=⟨62,(.seq (.plan (Z1 2 (.box 56 3 (.t 0)) (Z1 3 (.box 28 6 (.t 1)) (Z1 4 (.alloc 28 [.nils,.nils,.nils,(.int .i64 0),(.int .i64 0),.nils]) (Z1 5 (.mv (.c (.bool false))) .fin))))) (.seq (.seq (.plan (Z1 9 (.fa 0 (.t 2)) (Z1 10 (.ld (.t 9)) .fin))) (.block 0 (.seq (.plan (Z1 12 (.bin .eql (.t 10) (.c (.int .i64 1))) (Z1 11 (.mv (.t 12)) .fin))) (.cond (.t 11) (.seq (.plan (Z1 13 (.lda 6 (.t 3)) (Z1 14 (.fa 1 (.t 2)) (Z1 15 (.ld (.t 14)) (Z1 16 (.fa 2 (.t 2)) (Z1 17 (.ld (.t 16)) (Z1 18 (.call 31 [(.t 13),(.t 15),(.t 17)]) (Z1 19 (.ext 0 (.t 18)) (Z1 20 (.ext 1 (.t 18)) (.st none (.st 6 (.t 4) (.t 19)) none [] (Z1 5 (.mv (.t 20)) .fin))))))))))) .ret) (.seq (.plan (Z1 22 (.bin .eql (.t 10) (.c (.int .i64 2))) (Z1 21 (.mv (.t 22)) .fin))) (.cond (.t 21) (.seq (.plan (Z1 23 (.lda 6 (.t 3)) (Z1 24 (.fa 1 (.t 2)) (Z1 25 (.ld (.t 24)) (Z1 26 (.call 28 [(.t 23),(.t 25)]) (Z1 27 (.ext 0 (.t 26)) (Z1 28 (.ext 1 (.t 26)) (.st none (.st 6 (.t 4) (.t 27)) none [] (Z1 5 (.mv (.t 28)) .fin))))))))) .ret) (.seq (.plan (Z1 30 (.bin .eql (.t 10) (.c (.int .i64 3))) (Z1 29 (.mv (.t 30)) .fin))) (.cond (.t 29) (.seq (.plan (Z1 32 (.lda 6 (.t 3)) (Z1 33 (.call 162 [(.t 32)]) (Z1 31 (.mv (.t 33)) (Z1 34 (.ext 0 (.t 31)) (Z1 35 (.ext 1 (.t 31)) (Z1 36 (.ext 2 (.t 31)) (Z1 6 (.alloc 28 [.nils,.nils,.nils,(.int .i64 0),(.int .i64 0),.nils]) (.st none (.st 6 (.t 6) (.t 34)) none [] (Z1 7 (.mv (.t 35)) (Z1 8 (.mv (.t 36)) .fin))))))))))) (.seq (.plan (Z1 37 (.lda 6 (.t 6)) (Z1 38 (.mv (.t 8)) (.st none (.st 6 (.t 4) (.t 37)) none [] (Z1 5 (.mv (.t 38)) .fin))))) .ret)) (.seq (.plan (Z1 40 (.bin .eql (.t 10) (.c (.int .i64 4))) (Z1 39 (.mv (.t 40)) .fin))) (.cond (.t 39) (.seq (.plan (Z1 41 (.lda 6 (.t 3)) (Z1 42 (.fa 2 (.t 2)) (Z1 43 (.ld (.t 42)) (Z1 44 (.call 34 [(.t 41),(.t 43)]) (Z1 45 (.ext 0 (.t 44)) (Z1 46 (.ext 1 (.t 44)) (.st none (.st 6 (.t 4) (.t 45)) none [] (Z1 5 (.mv (.t 46)) .fin))))))))) .ret) (.seq (.plan (Z1 48 (.bin .eql (.t 10) (.c (.int .i64 5))) (Z1 47 (.mv (.t 48)) .fin))) (.cond (.t 47) (.seq (.plan (Z1 49 (.lda 6 (.t 3)) (Z1 50 (.call 17 [(.t 49)]) (Z1 51 (.ext 0 (.t 50)) (Z1 52 (.ext 1 (.t 50)) (.st none (.st 6 (.t 4) (.t 51)) none [] (Z1 5 (.mv (.t 52)) .fin))))))) .ret) (.seq (.plan (Z1 54 (.bin .eql (.t 10) (.c (.int .i64 6))) (Z1 53 (.mv (.t 54)) .fin))) (.cond (.t 53) (.seq (.plan (Z1 55 (.lda 6 (.t 3)) (Z1 56 (.fa 2 (.t 2)) (Z1 57 (.ld (.t 56)) (Z1 58 (.call 23 [(.t 55),(.t 57)]) (Z1 59 (.ext 0 (.t 58)) (Z1 60 (.ext 1 (.t 58)) (.st none (.st 6 (.t 4) (.t 59)) none [] (Z1 5 (.mv (.t 60)) .fin))))))))) .ret) .skip)))))))))))))) (.seq (.plan (Z1 61 (.build [.nils,.nils,.nils,(.int .i64 0),(.int .i64 0),.nils] []) (.st none (.st 6 (.t 4) (.t 61)) none [] (Z1 5 (.mv (.c (.bool false))) .fin)))) .ret))),[(.ca 4 6),(.t 5)]⟩
theorem h_impl_Deed_do:compF Tryz.prog 128=some c_impl_Deed_do:=by kernel_rfl
def c_impl_past:CF:=⟨66,(.seq (.plan (Z1 2 (.box 28 6 (.t 0)) (Z1 4 (.alloc 28 [.nils,.nils,.nils,(.int .i64 0),(.int .i64 0),.nils]) (Z1 5 (.mv (.c .nils)) (Z1 6 (.mv (.c (.bool false))) .fin))))) (.seq (.seq (.plan (Z1 13 (.lda 6 (.t 2)) (Z1 14 (.call 24 [(.t 13)]) (Z1 15 (.not (.t 14)) (Z1 16 (.mv (.t 15)) (.st (some 17) (.mv (.t 1)) (some (16,false)) [] (.st (some 18) (.len (.t 17)) (some (16,false)) [] (.st (some 19) (.bin .gtr (.t 18) (.c (.int .i64 40))) (some (16,false)) [] (Z1 20 (.pick (.t 16) (.c (.bool true)) (.t 19)) .fin))))))))) (.cond (.t 20) (.seq (.plan (Z1 21 (.build [.nils,.nils,.nils,(.int .i64 0),(.int .i64 0),.nils] []) (.st none (.st 6 (.t 4) (.t 21)) none [] (Z1 5 (.mv (.c .nils)) (Z1 6 (.mv (.c (.bool false))) .fin))))) .ret) .skip)) (.seq (.plan (Z1 22 (.lda 6 (.t 2)) (Z1 23 (.call 102 [(.t 22)]) (Z1 7 (.alloc 28 [.nils,.nils,.nils,(.int .i64 0),(.int .i64 0),.nils]) (.st none (.st 6 (.t 7) (.t 23)) none [] .fin))))) (.seq (.plan (Z1 8 (.mv (.c .nils)) .fin)) (.seq (.seq (.plan (Z1 24 (.mv (.t 1)) (Z1 25 (.len (.t 24)) (Z1 26 (.mv (.c (.int .i64 0))) .fin)))) (.block 0 (.loop (.seq (.plan (Z1 27 (.bin .lss (.t 26) (.t 25)) .fin)) (.seq (.cond (.t 27) .skip (.exit 0)) (.seq (.block 1 (.seq (.plan (Z1 28 (.ia 3 (.t 24) (.t 26)) (Z1 29 (.lda 3 (.t 28)) (Z1 10 (.alloc 56 [(.int .i64 0),(.str ⟨#[]⟩),(.int .i64 0)]) (.st none (.st 3 (.t 10) (.t 29)) none [] .fin))))) (.seq (.plan (Z1 31 (.lda 3 (.t 10)) (Z1 32 (.lda 6 (.t 7)) (Z1 33 (.call 128 [(.t 31),(.t 32)]) (Z1 30 (.mv (.t 33)) (Z1 34 (.ext 0 (.t 30)) (Z1 35 (.ext 1 (.t 30)) (Z1 11 (.alloc 28 [.nils,.nils,.nils,(.int .i64 0),(.int .i64 0),.nils]) (.st none (.st 6 (.t 11) (.t 34)) none [] (Z1 12 (.mv (.t 35)) .fin)))))))))) (.seq (.seq (.plan (Z1 36 (.mv (.t 12)) (Z1 37 (.not (.t 36)) .fin))) (.cond (.t 37) (.exit 1) .skip)) (.seq (.plan (Z1 38 (.lda 6 (.t 11)) (.st none (.st 6 (.t 7) (.t 38)) none [] .fin))) (.seq (.plan (Z1 39 (.fa 0 (.t 10)) (Z1 40 (.ld (.t 39)) .fin))) (.block 2 (.seq (.plan (Z1 42 (.bin .eql (.t 40) (.c (.int .i64 1))) (Z1 41 (.mv (.t 42)) .fin))) (.cond (.t 41) (.plan (Z1 43 (.mv (.t 8)) (Z1 44 (.fa 1 (.t 10)) (Z1 45 (.ld (.t 44)) (Z1 46 (.fa 2 (.t 10)) (Z1 47 (.ld (.t 46)) (Z1 48 (.fa 4 (.t 7)) (Z1 49 (.ld (.t 48)) (Z1 50 (.build [(.str ⟨#[]⟩),(.int .i64 0),(.bool false),(.int .i64 0)] [(0,(1,(.t 45))),(1,(1,(.t 47))),(3,(1,(.t 49)))]) (Z1 51 (.lit 45 4 1 [(.str ⟨#[]⟩),(.int .i64 0),(.bool false),(.int .i64 0)] [(0,(4,(.t 50)))]) (Z1 52 (.app 45 4 40 (.t 43) (.t 51)) (Z1 8 (.mv (.t 52)) .fin)))))))))))) (.seq (.plan (Z1 54 (.bin .eql (.t 40) (.c (.int .i64 2))) (Z1 53 (.mv (.t 54)) .fin))) (.cond (.t 53) (.plan (Z1 55 (.mv (.t 8)) (Z1 56 (.fa 1 (.t 10)) (Z1 57 (.ld (.t 56)) (Z1 58 (.fa 4 (.t 7)) (Z1 59 (.ld (.t 58)) (Z1 60 (.build [(.str ⟨#[]⟩),(.int .i64 0),(.bool false),(.int .i64 0)] [(0,(1,(.t 57))),(2,(1,(.c (.bool true)))),(3,(1,(.t 59)))]) (Z1 61 (.lit 45 4 1 [(.str ⟨#[]⟩),(.int .i64 0),(.bool false),(.int .i64 0)] [(0,(4,(.t 60)))]) (Z1 62 (.app 45 4 40 (.t 55) (.t 61)) (Z1 8 (.mv (.t 62)) .fin)))))))))) .skip))))))))))) (.plan (Z1 63 (.bin .add (.t 26) (.c (.int .i64 1))) (Z1 26 (.mv (.t 63)) .fin))))))))) (.seq (.plan (Z1 64 (.lda 6 (.t 7)) (Z1 65 (.mv (.t 8)) (.st none (.st 6 (.t 4) (.t 64)) none [] (Z1 5 (.mv (.t 65)) (Z1 6 (.mv (.c (.bool true))) .fin)))))) .ret)))))),[(.ca 4 6),(.t 5),(.t 6)]⟩
theorem h_impl_past:compF Tryz.prog 87=some c_impl_past:=by kernel_rfl
def c_impl_PastAll:CF:=⟨16,(.seq (.plan (Z1 2 (.box 28 6 (.t 0)) (Z1 4 (.mv (.c .nils)) .fin))) (.seq (.plan (Z1 9 (.lda 6 (.t 2)) (Z1 10 (.mv (.t 1)) (Z1 11 (.call 87 [(.t 9),(.t 10)]) (Z1 8 (.mv (.t 11)) (Z1 12 (.ext 0 (.t 8)) (Z1 13 (.ext 1 (.t 8)) (Z1 14 (.ext 2 (.t 8)) (Z1 5 (.alloc 28 [.nils,.nils,.nils,(.int .i64 0),(.int .i64 0),.nils]) (.st none (.st 6 (.t 5) (.t 12)) none [] (Z1 6 (.mv (.t 13)) (Z1 7 (.mv (.t 14)) .fin)))))))))))) (.seq (.plan (Z1 15 (.mv (.t 6)) (Z1 4 (.mv (.t 15)) .fin))) .ret))),[(.t 4)]⟩
theorem h_impl_PastAll:compF Tryz.prog 37=some c_impl_PastAll:=by kernel_rfl
def c_spec_PastAll:CF:=⟨75,(.seq (.plan (Z1 2 (.box 28 6 (.t 0)) (Z1 4 (.mv (.c .nils)) .fin))) (.seq (.plan (Z1 10 (.lit 45 4 0 [] []) (Z1 5 (.mv (.t 10)) .fin))) (.seq (.seq (.plan (Z1 11 (.lda 6 (.t 2)) (Z1 12 (.call 39 [(.t 11)]) (Z1 13 (.not (.t 12)) (Z1 14 (.mv (.t 13)) (.st (some 15) (.mv (.t 1)) (some (14,false)) [] (.st (some 16) (.len (.t 15)) (some (14,false)) [] (.st (some 17) (.bin .gtr (.t 16) (.c (.int .i64 40))) (some (14,false)) [] (Z1 18 (.pick (.t 14) (.c (.bool true)) (.t 17)) .fin))))))))) (.cond (.t 18) (.seq (.plan (Z1 19 (.mv (.t 5)) (Z1 4 (.mv (.t 19)) .fin))) .ret) .skip)) (.seq (.seq (.plan (Z1 6 (.mv (.c (.int .i64 0))) .fin)) (.block 0 (.loop (.seq (.seq (.plan (Z1 20 (.mv (.t 6)) (Z1 21 (.mv (.t 1)) (Z1 22 (.len (.t 21)) (Z1 23 (.bin .lss (.t 20) (.t 22)) .fin))))) (.cond (.t 23) .skip (.exit 0))) (.seq (.block 1 (.seq (.plan (Z1 27 (.lda 6 (.t 2)) (Z1 28 (.mv (.t 1)) (Z1 29 (.mv (.t 6)) (Z1 30 (.ia 3 (.t 28) (.t 29)) (Z1 31 (.lda 3 (.t 30)) (.both (Z1 32 (.call 88 [(.t 27),(.t 31)]) (Z1 26 (.mv (.t 32)) (Z1 33 (.ext 0 (.t 26)) (Z1 34 (.ext 1 (.t 26)) (.st (some 7) (.alloc 28 [.nils,.nils,.nils,(.int .i64 0),(.int .i64 0),.nils]) none [((some 31),((.lda 3 (.t 30)),none)),((some 30),((.ia 3 (.t 28) (.t 29)),none)),((some 27),((.lda 6 (.t 2)),none))] (.st none (.st 6 (.t 7) (.t 33)) none [] (Z1 8 (.mv (.t 34)) .fin))))))) (.st (some 7) (.alloc 28 [.nils,.nils,.nils,(.int .i64 0),(.int .i64 0),.nils]) none [((some 31),((.lda 3 (.t 30)),none)),((some 30),((.ia 3 (.t 28) (.t 29)),none)),((some 27),((.lda 6 (.t 2)),none))] (Z1 32 (.call 88 [(.t 27),(.t 31)]) (Z1 26 (.mv (.t 32)) (Z1 33 (.ext 0 (.t 26)) (Z1 34 (.ext 1 (.t 26)) (.st none (.st 6 (.t 7) (.t 33)) none [] (Z1 8 (.mv (.t 34)) .fin)))))))))))))) (.seq (.seq (.plan (Z1 35 (.mv (.t 8)) (Z1 36 (.not (.t 35)) .fin))) (.cond (.t 36) (.exit 1) .skip)) (.seq (.seq (.plan (Z1 37 (.fa 4 (.t 7)) (Z1 38 (.ld (.t 37)) (Z1 39 (.fa 4 (.t 2)) (Z1 40 (.ld (.t 39)) (Z1 41 (.bin .gtr (.t 38) (.t 40)) .fin)))))) (.cond (.t 41) (.seq (.plan (Z1 42 (.mv (.t 1)) (Z1 43 (.mv (.t 6)) (Z1 44 (.ia 3 (.t 42) (.t 43)) (Z1 45 (.fa 1 (.t 44)) (Z1 46 (.ld (.t 45)) (Z1 47 (.mv (.t 1)) (Z1 48 (.mv (.t 6)) (Z1 49 (.ia 3 (.t 47) (.t 48)) (Z1 50 (.fa 2 (.t 49)) (Z1 51 (.ld (.t 50)) (Z1 52 (.fa 4 (.t 7)) (Z1 53 (.ld (.t 52)) (Z1 54 (.build [(.str ⟨#[]⟩),(.int .i64 0),(.bool false),(.int .i64 0)] [(0,(1,(.t 46))),(1,(1,(.t 51))),(3,(1,(.t 53)))]) (.st (some 9) (.alloc 45 [(.str ⟨#[]⟩),(.int .i64 0),(.bool false),(.int .i64 0)]) none [((some 53),((.ld (.t 52)),none)),((some 51),((.ld (.t 50)),none)),((some 49),((.ia 3 (.t 47) (.t 48)),none)),((some 46),((.ld (.t 45)),none)),((some 44),((.ia 3 (.t 42) (.t 43)),none))] (.st none (.st 4 (.t 9) (.t 54)) none [] .fin)))))))))))))))) (.seq (.seq (.plan (Z1 55 (.mv (.t 1)) (Z1 56 (.mv (.t 6)) (Z1 57 (.ia 3 (.t 55) (.t 56)) (Z1 58 (.fa 0 (.t 57)) (Z1 59 (.ld (.t 58)) (Z1 60 (.bin .eql (.t 59) (.c (.int .i64 2))) .fin))))))) (.cond (.t 60) (.plan (Z1 61 (.mv (.t 1)) (Z1 62 (.mv (.t 6)) (Z1 63 (.ia 3 (.t 61) (.t 62)) (Z1 64 (.fa 1 (.t 63)) (Z1 65 (.ld (.t 64)) (Z1 66 (.fa 4 (.t 7)) (Z1 67 (.ld (.t 66)) (Z1 68 (.build [(.str ⟨#[]⟩),(.int .i64 0),(.bool false),(.int .i64 0)] [(0,(1,(.t 65))),(2,(1,(.c (.bool true)))),(3,(1,(.t 67)))]) (.st none (.st 4 (.t 9) (.t 68)) none [] .fin)))))))))) .skip)) (.plan (Z1 69 (.mv (.t 5)) (Z1 70 (.lda 4 (.t 9)) (Z1 71 (.lit 45 4 1 [(.str ⟨#[]⟩),(.int .i64 0),(.bool false),(.int .i64 0)] [(0,(4,(.t 70)))]) (Z1 72 (.app 45 4 40 (.t 69) (.t 71)) (Z1 5 (.mv (.t 72)) .fin)))))))) .skip)) (.plan (Z1 73 (.lda 6 (.t 7)) (.st none (.st 6 (.t 2) (.t 73)) none [] .fin))))))) (.plan (Z1 24 (.mv (.t 6)) (Z1 25 (.bin .add (.t 24) (.c (.int .i64 1))) (Z1 6 (.mv (.t 25)) .fin))))))))) (.seq (.plan (Z1 74 (.mv (.t 5)) (Z1 4 (.mv (.t 74)) .fin))) .ret))))),[(.t 4)]⟩
theorem h_spec_PastAll:compF Tryz.prog 38=some c_spec_PastAll:=by kernel_rfl
def c_impl_PastDo:CF:=⟨18,(.seq (.plan (Z1 2 (.box 28 6 (.t 0)) (Z1 4 (.alloc 28 [.nils,.nils,.nils,(.int .i64 0),(.int .i64 0),.nils]) (Z1 5 (.mv (.c (.bool false))) .fin)))) (.seq (.plan (Z1 10 (.lda 6 (.t 2)) (Z1 11 (.mv (.t 1)) (Z1 12 (.call 87 [(.t 10),(.t 11)]) (Z1 9 (.mv (.t 12)) (Z1 13 (.ext 0 (.t 9)) (Z1 14 (.ext 1 (.t 9)) (Z1 15 (.ext 2 (.t 9)) (Z1 6 (.alloc 28 [.nils,.nils,.nils,(.int .i64 0),(.int .i64 0),.nils]) (.st none (.st 6 (.t 6) (.t 13)) none [] (Z1 7 (.mv (.t 14)) (Z1 8 (.mv (.t 15)) .fin)))))))))))) (.seq (.plan (Z1 16 (.lda 6 (.t 6)) (Z1 17 (.mv (.t 8)) (.st none (.st 6 (.t 4) (.t 16)) none [] (Z1 5 (.mv (.t 17)) .fin))))) .ret))),[(.ca 4 6),(.t 5)]⟩
theorem h_impl_PastDo:compF Tryz.prog 40=some c_impl_PastDo:=by kernel_rfl
def c_laws_FnPastDown:CF:=⟨132,(.seq (.plan (Z1 2 (.mv (.c (.bool false))) .fin)) (.seq (.seq (.plan (Z1 14 (.mv (.t 0)) (Z1 15 (.len (.t 14)) (Z1 16 (.bin .gtr (.t 15) (.c (.int .i64 1048576))) .fin)))) (.cond (.t 16) (.seq (.plan (Z1 2 (.mv (.c (.bool true))) .fin)) .ret) .skip)) (.seq (.plan (Z1 18 (.mv (.t 0)) (Z1 19 (.call 36 [(.t 18)]) (Z1 17 (.mv (.t 19)) (Z1 20 (.ext 0 (.t 17)) (Z1 21 (.ext 1 (.t 17)) (Z1 3 (.alloc 28 [.nils,.nils,.nils,(.int .i64 0),(.int .i64 0),.nils]) (.st none (.st 6 (.t 3) (.t 20)) none [] (Z1 4 (.mv (.t 21)) .fin))))))))) (.seq (.plan (Z1 22 (.lda 6 (.t 3)) (Z1 23 (.mv (.t 4)) (Z1 24 (.call 37 [(.t 22),(.t 23)]) (Z1 5 (.mv (.t 24)) .fin))))) (.seq (.seq (.plan (Z1 25 (.mv (.t 5)) (Z1 26 (.lda 6 (.t 3)) (Z1 27 (.mv (.t 4)) (Z1 28 (.call 38 [(.t 26),(.t 27)]) (Z1 29 (.call 19 [(.t 25),(.t 28)]) (Z1 30 (.not (.t 29)) (Z1 31 (.mv (.t 30)) (.st (some 32) (.lda 6 (.t 3)) (some (31,false)) [] (.st (some 33) (.call 39 [(.t 32)]) (some (31,false)) [] (.st (some 34) (.not (.t 33)) (some (31,false)) [] (Z1 35 (.pick (.t 31) (.c (.bool true)) (.t 34)) (Z1 36 (.mv (.t 35)) (.st (some 37) (.fa 4 (.t 3)) (some (36,false)) [] (.st (some 38) (.ld (.t 37)) (some (36,false)) [] (.st (some 39) (.bin .gtr (.t 38) (.c (.int .i64 0))) (some (36,false)) [] (Z1 40 (.pick (.t 36) (.c (.bool true)) (.t 39)) .fin))))))))))))))))) (.cond (.t 40) (.seq (.plan (Z1 41 (.mv (.t 5)) (Z1 42 (.lda 6 (.t 3)) (Z1 43 (.mv (.t 4)) (Z1 44 (.call 38 [(.t 42),(.t 43)]) (Z1 45 (.call 19 [(.t 41),(.t 44)]) (Z1 2 (.mv (.t 45)) .fin))))))) .ret) .skip)) (.seq (.plan (Z1 46 (.lit 56 3 0 [] []) (Z1 6 (.mv (.t 46)) .fin))) (.seq (.seq (.plan (Z1 7 (.mv (.c (.int .i64 0))) .fin)) (.block 0 (.loop (.seq (.seq (.plan (Z1 47 (.mv (.t 7)) (Z1 48 (.mv (.t 4)) (Z1 49 (.len (.t 48)) (Z1 50 (.bin .lss (.t 47) (.t 49)) (Z1 51 (.mv (.t 50)) (.st (some 52) (.mv (.t 7)) (some (51,true)) [] (.st (some 53) (.bin .lss (.t 52) (.c (.int .i64 12))) (some (51,true)) [] (Z1 54 (.pick (.t 51) (.t 53) (.c (.bool false))) .fin))))))))) (.cond (.t 54) .skip (.exit 0))) (.seq (.block 1 (.seq (.plan (Z1 57 (.mv (.t 4)) (Z1 58 (.mv (.t 7)) (Z1 59 (.ia 3 (.t 57) (.t 58)) (Z1 60 (.fa 0 (.t 59)) (Z1 61 (.ld (.t 60)) (Z1 62 (.bin .eql (.t 61) (.c (.int .i64 1))) (Z1 63 (.mv (.t 62)) (.st (some 64) (.mv (.t 4)) (some (63,false)) [] (.st (some 65) (.mv (.t 7)) (some (63,false)) [] (.st (some 66) (.ia 3 (.t 64) (.t 65)) (some (63,false)) [] (.st (some 67) (.fa 0 (.t 66)) (some (63,false)) [] (.st (some 68) (.ld (.t 67)) (some (63,false)) [] (.st (some 69) (.bin .eql (.t 68) (.c (.int .i64 2))) (some (63,false)) [] (Z1 70 (.pick (.t 63) (.c (.bool true)) (.t 69)) .fin))))))))))))))) (.cond (.t 70) (.plan (Z1 71 (.mv (.t 6)) (Z1 72 (.mv (.t 4)) (Z1 73 (.mv (.t 7)) (Z1 74 (.ia 3 (.t 72) (.t 73)) (Z1 75 (.lda 3 (.t 74)) (Z1 76 (.lit 56 3 1 [(.int .i64 0),(.str ⟨#[]⟩),(.int .i64 0)] [(0,(3,(.t 75)))]) (Z1 77 (.app 56 3 32 (.t 71) (.t 76)) (Z1 6 (.mv (.t 77)) .fin))))))))) .skip))) (.plan (Z1 55 (.mv (.t 7)) (Z1 56 (.bin .add (.t 55) (.c (.int .i64 1))) (Z1 7 (.mv (.t 56)) .fin))))))))) (.seq (.plan (Z1 78 (.lit 56 3 0 [] []) (Z1 8 (.mv (.t 78)) .fin))) (.seq (.seq (.plan (Z1 9 (.mv (.c (.int .i64 0))) .fin)) (.block 2 (.loop (.seq (.seq (.plan (Z1 79 (.mv (.t 9)) (Z1 80 (.mv (.t 6)) (Z1 81 (.len (.t 80)) (Z1 82 (.bin .lss (.t 79) (.t 81)) .fin))))) (.cond (.t 82) .skip (.exit 2))) (.seq (.block 3 (.plan (Z1 85 (.mv (.t 8)) (Z1 86 (.mv (.t 6)) (Z1 87 (.mv (.t 9)) (Z1 88 (.ia 3 (.t 86) (.t 87)) (Z1 89 (.lda 3 (.t 88)) (Z1 90 (.lit 56 3 1 [(.int .i64 0),(.str ⟨#[]⟩),(.int .i64 0)] [(0,(3,(.t 89)))]) (Z1 91 (.app 56 3 32 (.t 85) (.t 90)) (Z1 92 (.build [(.int .i64 0),(.str ⟨#[]⟩),(.int .i64 0)] [(0,(1,(.c (.int .i64 5))))]) (Z1 93 (.mv (.t 9)) (Z1 94 (.bin .rem (.t 93) (.c (.int .i64 2))) (Z1 95 (.build [(.int .i64 0),(.str ⟨#[]⟩),(.int .i64 0)] [(0,(1,(.c (.int .i64 6)))),(2,(1,(.t 94)))]) (Z1 96 (.lit 56 3 2 [(.int .i64 0),(.str ⟨#[]⟩),(.int .i64 0),(.int .i64 0),(.str ⟨#[]⟩),(.int .i64 0)] [(0,(3,(.t 92))),(3,(3,(.t 95)))]) (Z1 97 (.app 56 3 32 (.t 91) (.t 96)) (Z1 8 (.mv (.t 97)) .fin)))))))))))))))) (.plan (Z1 83 (.mv (.t 9)) (Z1 84 (.bin .add (.t 83) (.c (.int .i64 1))) (Z1 9 (.mv (.t 84)) .fin))))))))) (.seq (.plan (Z1 99 (.lda 6 (.t 3)) (Z1 100 (.mv (.t 6)) (Z1 101 (.call 40 [(.t 99),(.t 100)]) (Z1 98 (.mv (.t 101)) (Z1 102 (.ext 0 (.t 98)) (Z1 103 (.ext 1 (.t 98)) (Z1 10 (.alloc 28 [.nils,.nils,.nils,(.int .i64 0),(.int .i64 0),.nils]) (.st none (.st 6 (.t 10) (.t 102)) none [] (Z1 11 (.mv (.t 103)) .fin)))))))))) (.seq (.plan (Z1 105 (.lda 6 (.t 3)) (Z1 106 (.mv (.t 8)) (Z1 107 (.call 40 [(.t 105),(.t 106)]) (Z1 104 (.mv (.t 107)) (Z1 108 (.ext 0 (.t 104)) (Z1 109 (.ext 1 (.t 104)) (Z1 12 (.alloc 28 [.nils,.nils,.nils,(.int .i64 0),(.int .i64 0),.nils]) (.st none (.st 6 (.t 12) (.t 108)) none [] (Z1 13 (.mv (.t 109)) .fin)))))))))) (.seq (.plan (Z1 110 (.mv (.t 11)) (Z1 111 (.mv (.t 110)) (.st (some 112) (.mv (.t 13)) (some (111,true)) [] (Z1 113 (.pick (.t 111) (.t 112) (.c (.bool false))) (Z1 114 (.mv (.t 113)) (.st (some 115) (.fa 4 (.t 10)) (some (114,true)) [] (.st (some 116) (.ld (.t 115)) (some (114,true)) [] (.st (some 117) (.fa 4 (.t 12)) (some (114,true)) [] (.st (some 118) (.ld (.t 117)) (some (114,true)) [] (.st (some 119) (.bin .eql (.t 116) (.t 118)) (some (114,true)) [] (Z1 120 (.pick (.t 114) (.t 119) (.c (.bool false))) (Z1 121 (.mv (.t 120)) (.st (some 122) (.lda 6 (.t 10)) (some (121,true)) [] (.st (some 123) (.fa 4 (.t 10)) (some (121,true)) [] (.st (some 124) (.ld (.t 123)) (some (121,true)) [] (.st (some 126) (.lda 6 (.t 12)) (some (121,true)) [] (.st (some 127) (.fa 4 (.t 12)) (some (121,true)) [] (.st (some 128) (.ld (.t 127)) (some (121,true)) [] (.st (some 125) (.call 20 [(.t 122),(.c (.str ⟨#[]⟩)),(.c (.str ⟨#[100,100,100,100,100]⟩)),(.t 124)]) (some (121,true)) [((some 128),((.ld (.t 127)),(some (121,true)))),((some 126),((.lda 6 (.t 12)),(some (121,true))))] (.st (some 129) (.call 20 [(.t 126),(.c (.str ⟨#[]⟩)),(.c (.str ⟨#[100,100,100,100,100]⟩)),(.t 128)]) (some (121,true)) [] (.st (some 130) (.call 19 [(.t 125),(.t 129)]) (some (121,true)) [] (Z1 131 (.pick (.t 121) (.t 130) (.c (.bool false))) (Z1 2 (.mv (.t 131)) .fin)))))))))))))))))))))))) .ret)))))))))))),[(.t 2)]⟩
theorem h_laws_FnPastDown:compF Tryz.prog 11=some c_laws_FnPastDown:=by kernel_rfl
end Go.Proofs.YtepeokaplbbpoaaGreat.B

namespace Go.Proofs.YtepeokaplbbpoaaGreat.B
open Go.Proofs
end Go.Proofs.YtepeokaplbbpoaaGreat.B



namespace Go.Proofs.YtepeokaplbbpoaaGreat.B
open Go.RowKit Go.Proofs
set_option linter.unusedVariables false
set_option linter.unusedSimpArgs false
variable {E:Env}
theorem AC_byp {C:CallP} (hC:CLe C (AC Tryz.prog E)) {f:Nat} {cf:CF} (hc:compF Tryz.prog f=some cf) {args:List AV} {H:Hp} {r:AV} (hp:r.plain=true) (h:W C cf.body (endX cf.res (fun v H'=>v=r/\HLe H H')) (initT args) H) :
  AC Tryz.prog E f args H (fun v H'=>v=r/\H'=H):=by
 refine AC.gc ((AC_by fol hC hc h).mono (fun v H' e=>⟨e.2,by rw [e.1]; exact hp,e.1,rfl⟩))
theorem CLe.refl (C:CallP):CLe C C:=fun _ _ _ _ h=>h
theorem wrapN {i:Nat} (h:i<9223372036854775807):IntKind.i64.wrap ((i:Int)+1)=((i+1:Nat):Int):=wrap64 (by omega) (by omega)
def tC (T:Nat->List AV->Option AV) (C:CallP):CallP:=fun f args H K=>match T f args with | some r=>K r H | none=>C f args H K
def TabOK (T:Nat->List AV->Option AV) (P:Program) (E:Env):Prop:=∀ f args r H,T f args=some r->AC P E f args H (fun v H'=>v=r/\H'=H)
theorem tC_le {T:Nat->List AV->Option AV} {P:Program} (h:TabOK T P E):CLe (tC T (AC P E)) (AC P E):=fun f args H K hk=>by
 unfold tC at hk
 split at hk
 ·rename_i r e
  exact (h f args r H e).mono (fun v H' hh=>by rw [hh.1,hh.2]; exact hk)
 ·exact hk
theorem tC_mono {T:Nat->List AV->Option AV} {C:CallP} (h:CMono C):CMono (tC T C):=fun f args H K K' hk hh=>by
 unfold tC at hh ⊢
 split at hh
 ·exact hk _ _ hh
 ·exact h f args H K K' hk hh
theorem cg_use {T:Nat->List AV->Option AV} {P:Program} {f:Nat} {args:List AV} {H H2:Hp} {r:AV} {d:Option Nat} {ag} {p:Plan} {t:Tm} {K:Tm->Hp->Prop} (h:AC P E f args H (fun v H'=>v=r/\H'=H2))
  (hk:againG ag (updO t d r) H2/\RgP (tC T (AC P E)) p (updO t d r) H2 K) (hT:T f args=none:=by rfl):callG (tC T (AC P E)) f args d ag p t H K:=by
 unfold callG tC
 rw [hT]
 exact h.mono (fun v H' e=>by rw [e.1,e.2]; exact hk)
theorem cg_ex {T:Nat->List AV->Option AV} {P:Program} {f:Nat} {args:List AV} {H:Hp} {R:AV->Hp->Prop} {d:Option Nat} {ag} {p:Plan} {t:Tm} {K:Tm->Hp->Prop} (h:AC P E f args H R)
  (hk:∀ v H',R v H'->againG ag (updO t d v) H'/\RgP (tC T (AC P E)) p (updO t d v) H' K) (hT:T f args=none:=by rfl):callG (tC T (AC P E)) f args d ag p t H K:=by
 unfold callG tC
 rw [hT]
 exact h.mono hk
theorem callG_tab {T:Nat->List AV->Option AV} {C:CallP} {f:Nat} {args:List AV} {r:AV} (h:T f args=some r) {d:Option Nat} {ag} {p:Plan} {t:Tm} {H:Hp} {K:Tm->Hp->Prop} :
  callG (tC T C) f args d ag p t H K=(againG ag (updO t d r) H/\RgP (tC T C) p (updO t d r) H K):=by
 show (match T f args with | some r=>againG ag (updO t d r) H/\RgP (tC T C) p (updO t d r) H K | none=>_)=_
 rw [h]
theorem callG_use {P:Program} {f:Nat} {args:List AV} {H H2:Hp} {r:AV} {d:Option Nat} {ag} {p:Plan} {t:Tm} {K:Tm->Hp->Prop} (h:AC P E f args H (fun v H'=>v=r/\H'=H2))
  (hk:againG ag (updO t d r) H2/\RgP (AC P E) p (updO t d r) H2 K):callG (AC P E) f args d ag p t H K:=h.mono (fun v H' e=>by rw [e.1,e.2]; exact hk)
end Go.Proofs.YtepeokaplbbpoaaGreat.B

namespace Go.Proofs.YtepeokaplbbpoaaGreat.B
open Go.RowKit Go.Proofs
set_option linter.unusedVariables false
set_option linter.unusedSimpArgs false
variable {E:Env}
def tab0 (f:Nat) (args:List AV):Option AV :=
 match f,args with
 | 60,[.int .i64 n,.int .i64 l,.int .i64 h]=>some (.bool (decide (l<=n/\n<=h)))
 | _,_=>none
theorem l6In_ok (n l h:Int) (H:Hp):AC Tryz.prog E 60 [.int .i64 n,.int .i64 l,.int .i64 h] H (fun v H'=>v=.bool (decide (l<=n/\n<=h))/\H'=H):=by
 refine AC_by fol (CLe.refl (AC Tryz.prog E)) h_spec_l6In ?_
 simp [c_spec_l6In]
 refine g_split (fun hq=>?_) (fun hq=>?_) (by simp)<;>simp at hq<;>simp [hq]
 omega
theorem tab0_ok:TabOK tab0 Tryz.prog E:=by
 intro f args r H h
 unfold tab0 at h
 split at h
 ·cases h
  exact l6In_ok _ _ _ _
 ·cases h
@[simp] theorem tab0_in (C:CallP) (n l h:Int) (d:Option Nat) (ag) (p:Plan) (t:Tm) (H:Hp) (K:Tm->Hp->Prop):callG (tC tab0 C) 60 [.int .i64 n,.int .i64 l,.int .i64 h] d ag p t H K =
 (againG ag (updO t d (.bool (decide (l<=n/\n<=h)))) H/\RgP (tC tab0 C) p (updO t d (.bool (decide (l<=n/\n<=h)))) H K):=rfl
theorem u8_le (s:ByteArray) (i:Int):0<=bt s i/\bt s i<256:=by
 unfold bt
 cases h:s[i.toNat]? with
 | none=>simp
 | some b =>
  have:=b.toNat_lt
  simp only [Option.map_some,Option.getD_some]
  omega
theorem wrap_bt (s:ByteArray) (i:Int):IntKind.i64.wrap (bt s i)=bt s i:=by
 have:=u8_le s i
 exact wrap64 (by omega) (by omega)
theorem KeyOk_ok (k:ByteArray) (H:Hp) (hk:k.size<4611686018427387904):AC Tryz.prog E 43 [.str k] H (fun v H'=>v=.bool (keyOk k)/\H'=H):=by
 refine AC_byp (tC_le tab0_ok) h_spec_KeyOk (by simp) ?_
 simp [c_spec_KeyOk]
 refine W_for (fun m t H'=>∃ i:Nat,i+m=k.size/\t 0=.str k/\t 3=.int .i64 i/\(∀ j:Nat,j<i->97<=bt k j/\bt k j<=100)/\H'=H) k.size ?_ (tC_mono AC_mono) ?_
 ·exact⟨0,by simp⟩
 rintro m t H' ⟨i,him,h0,h3,hI,rfl⟩
 simp [h0,h3]
 refine c_split (fun hq=>?_) (fun hq=>?_)<;>simp at hq
 ·simp [h0,h3,hq,wrap_bt]
  refine c_split (fun hq2=>?_) (fun hq2=>?_)<;>simp at hq2
  ·simp [h0,h3]
   simp only [keyOk,decide_eq_false_iff_not]
   intro hh
   have:=hh.1 i hq
   omega
  ·have hw:=wrapN (i:=i) (by omega)
   simp [h0,h3,hw]
   refine⟨m-1,by omega,i+1,by omega,rfl,fun j hj=>?_⟩
   rcases Nat.lt_or_ge j i with h | h
   ·exact hI j h
   ·have:j=i:=by omega
    subst this
    exact hq2
 ·have:i=k.size:=by omega
  subst this
  simp [h0]
  simp only [keyOk,decide_eq_decide]
  exact⟨fun h=>⟨hI,by omega⟩,fun h=>by omega⟩
theorem l11Ahead_ok (a b:Ent) (H:Hp):AC Tryz.prog E 130 [.ag (entRow a),.ag (entRow b)] H (fun v H'=>v=.bool (ahead a b)/\H'=H):=by
 refine AC_byp (tC_le tab0_ok) h_spec_l11Ahead (by simp) ?_
 simp [c_spec_l11Ahead,entRow]
 refine g_split (fun hq=>?_) (fun hq=>?_) (by simp)<;>simp [hq,ahead]
 refine g_split (fun hq2=>?_) (fun hq2=>?_) (by simp)<;>simp at hq2<;>simp [hq,hq2]
def tab1 (f:Nat) (args:List AV):Option AV :=
 match f,args with
 | 60,[.int .i64 n,.int .i64 l,.int .i64 h]=>some (.bool (decide (l<=n/\n<=h)))
 | 43,[.str k]=>if k.size<4611686018427387904 then some (.bool (keyOk k)) else none
 | _,_=>none
theorem tab1_ok:TabOK tab1 Tryz.prog E:=by
 intro f args r H h
 unfold tab1 at h
 split at h
 ·cases h
  exact l6In_ok _ _ _ _
 ·split at h
  ·cases h
   exact KeyOk_ok _ _ (by assumption)
  ·cases h
 ·cases h
@[simp] theorem tab1_in (C:CallP) (n l h:Int) (d:Option Nat) (ag) (p:Plan) (t:Tm) (H:Hp) (K:Tm->Hp->Prop):callG (tC tab1 C) 60 [.int .i64 n,.int .i64 l,.int .i64 h] d ag p t H K =
 (againG ag (updO t d (.bool (decide (l<=n/\n<=h)))) H/\RgP (tC tab1 C) p (updO t d (.bool (decide (l<=n/\n<=h)))) H K):=rfl
theorem tab1_key (C:CallP) (k:ByteArray) (hk:k.size<4611686018427387904) (d:Option Nat) (ag) (p:Plan) (t:Tm) (H:Hp) (K:Tm->Hp->Prop):callG (tC tab1 C) 43 [.str k] d ag p t H K =
 (againG ag (updO t d (.bool (keyOk k))) H/\RgP (tC tab1 C) p (updO t d (.bool (keyOk k))) H K):=callG_tab (if_pos hk)
theorem l11Ok_ok (e:Ent) (H:Hp) (hk:e.key.size<4611686018427387904):AC Tryz.prog E 124 [.ag (entRow e)] H (fun v H'=>v=.bool (entOk e)/\H'=H):=by
 refine AC_byp (tC_le tab1_ok) h_spec_l11Ok (by simp) ?_
 simp [c_spec_l11Ok,entRow,tab1_key _ _ hk]
 refine g_split (fun h1=>?_) (fun h1=>?_) (by simp)<;>simp [h1,entOk]
 refine g_split (fun h2=>?_) (fun h2=>?_) (by simp)<;>simp at h2<;>simp [h2]
 ·refine g_split (fun h3=>?_) (fun h3=>?_) (by simp)<;>simp at h3<;>simp [h3]
  refine g_split (fun h4=>?_) (fun h4=>?_) (by simp)<;>simp at h4<;>simp [h4]
 ·intro a b
  have:=h2 a
  omega
def tab2 (f:Nat) (args:List AV):Option AV :=
 match f,args with
 | 60,[.int .i64 n,.int .i64 l,.int .i64 h]=>some (.bool (decide (l<=n/\n<=h)))
 | 43,[.str k]=>if k.size<4611686018427387904 then some (.bool (keyOk k)) else none
 | 130,[.ag [.str a1,.int .i64 a2,.bool a3,.int .i64 a4],.ag [.str b1,.int .i64 b2,.bool b3,.int .i64 b4]]=>some (.bool (ahead ⟨a1,a2,a3,a4⟩ ⟨b1,b2,b3,b4⟩))
 | 124,[.ag [.str a1,.int .i64 a2,.bool a3,.int .i64 a4]]=>if a1.size<4611686018427387904 then some (.bool (entOk ⟨a1,a2,a3,a4⟩)) else none
 | _,_=>none
theorem tab2_ok:TabOK tab2 Tryz.prog E:=by
 intro f args r H h
 unfold tab2 at h
 split at h
 ·cases h
  exact l6In_ok _ _ _ _
 ·split at h
  ·cases h
   exact KeyOk_ok _ _ (by assumption)
  ·cases h
 ·cases h
  exact l11Ahead_ok ⟨_,_,_,_⟩ ⟨_,_,_,_⟩ H
 ·split at h
  ·cases h
   exact l11Ok_ok ⟨_,_,_,_⟩ H (by assumption)
  ·cases h
 ·cases h
section
variable (C:CallP) (d:Option Nat) (ag:List (Option Nat × AOp × Option (Nat × Bool))) (p:Plan) (t:Tm) (H:Hp) (K:Tm->Hp->Prop)
@[simp] theorem tab2_in (n l h:Int):callG (tC tab2 C) 60 [.int .i64 n,.int .i64 l,.int .i64 h] d ag p t H K =
 (againG ag (updO t d (.bool (decide (l<=n/\n<=h)))) H/\RgP (tC tab2 C) p (updO t d (.bool (decide (l<=n/\n<=h)))) H K):=rfl
theorem tab2_key (k:ByteArray) (hk:k.size<4611686018427387904):callG (tC tab2 C) 43 [.str k] d ag p t H K =
 (againG ag (updO t d (.bool (keyOk k))) H/\RgP (tC tab2 C) p (updO t d (.bool (keyOk k))) H K):=callG_tab (if_pos hk)
@[simp] theorem tab2_ahead (a1 b1:ByteArray) (a2 b2 a4 b4:Int) (a3 b3:Bool):callG (tC tab2 C) 130 [.ag [.str a1,.int .i64 a2,.bool a3,.int .i64 a4],.ag [.str b1,.int .i64 b2,.bool b3,.int .i64 b4]] d ag p t H K =
 (againG ag (updO t d (.bool (ahead ⟨a1,a2,a3,a4⟩ ⟨b1,b2,b3,b4⟩))) H/\RgP (tC tab2 C) p (updO t d (.bool (ahead ⟨a1,a2,a3,a4⟩ ⟨b1,b2,b3,b4⟩))) H K):=rfl
theorem tab2_ok1 (a1:ByteArray) (a2 a4:Int) (a3:Bool) (hk:a1.size<4611686018427387904):callG (tC tab2 C) 124 [.ag [.str a1,.int .i64 a2,.bool a3,.int .i64 a4]] d ag p t H K =
 (againG ag (updO t d (.bool (entOk ⟨a1,a2,a3,a4⟩))) H/\RgP (tC tab2 C) p (updO t d (.bool (entOk ⟨a1,a2,a3,a4⟩))) H K):=callG_tab (if_pos hk)
end
theorem ent_eta (e:Ent):(⟨e.key,e.val,e.gone,e.time⟩:Ent)=e:=rfl
theorem RunOk_ok (a:AV) (r:List Ent) (H:Hp) (ha:Ents H a r) (hs:Short r) (hn:r.length<4611686018427387904):AC Tryz.prog E 90 [a] H (fun v H'=>v=.bool (runOk r)/\H'=H):=by
 refine AC_byp (tC_le tab2_ok) h_spec_RunOk (by simp) ?_
 have l1:=ha.len
 simp [c_spec_RunOk]
 refine W_for (fun m t H'=>∃ i:Nat,i+m=r.length/\t 0=a/\t 3=.int .i64 i/\(∀ j:Nat,∀ h:j<r.length,j<i->entOk r[j]=true/\∀ h0:0<j,ahead r[j-1] r[j]=true)/\H'=H) r.length ?_ (tC_mono AC_mono) ?_
 ·exact⟨0,by simp⟩
 rintro m t H' ⟨i,him,h0,h3,hI,rfl⟩
 simp [h0,h3,l1,ha.slc]
 refine c_split (fun hq=>?_) (fun hq=>?_)<;>simp at hq
 ·have hw:=wrapN (i:=i) (by omega)
  obtain⟨o1,i1,ob1,rfl,a1,a2,a3⟩:=ha.get hq
  have no:(entOk r[i]=true/\∀ h0:0<i,ahead r[i-1] r[i]=true)\/runOk r=false:=by
   rcases Classical.em (entOk r[i]=true/\∀ h0:0<i,ahead r[i-1] r[i]=true) with h | h
   ·exact .inl h
   ·refine .inr ?_
    simp only [runOk,decide_eq_false_iff_not]
    exact fun hh=>h (hh.1 i hq)
  have yes:(entOk r[i]=true/\∀ h0:0<i,ahead r[i-1] r[i]=true)->∀ j:Nat,∀ h:j<r.length,j<i+1->entOk r[j]=true/\∀ h0:0<j,ahead r[j-1] r[j]=true:=by
   intro hi j hj hji
   rcases Nat.lt_or_ge j i with h | h
   ·exact hI j hj h
   ·have:j=i:=by omega
    subst this
    exact hi
  cases he:entOk r[i] with
  | false =>
   simp [h0,h3,hq,a1,a2,a3,tab2_ok1 _ _ _ _ _ _ _ _ _ _ _ (hs.get hq),ent_eta,he]
   exact no.resolve_left (fun h=>by rw [he] at h; cases h.1)
  | true =>
   rcases Nat.eq_zero_or_pos i with rfl | hp
   ·rw [Nat.add_zero] at a3
    simp [h0,h3,hq,a1,a2,a3,tab2_ok1 _ _ _ _ _ _ _ _ _ _ _ (hs.get hq),ent_eta,he]
    exact⟨m-1,by omega,1,by omega,rfl,fun j hj hj1=>yes ⟨he,fun h=>by omega⟩ j hj (by omega)⟩
   ·have hw2:IntKind.i64.wrap ((i:Int)-1)=((i-1:Nat):Int):=by rw [wrap64 (by omega) (by omega)]; omega
    have hlt:i-1<r.length:=by omega
    obtain⟨o2,i2,ob2,e2,b1,b2,b3⟩:=ha.get hlt
    cases e2
    rw [a1] at b1
    cases b1
    cases hb:ahead r[i-1] r[i] with
    | false =>
     simp [h0,h3,hq,hp,hlt,hw2,a1,a2,a3,b3,tab2_ok1 _ _ _ _ _ _ _ _ _ _ _ (hs.get hq),ent_eta,he,hb]
     exact no.resolve_left (fun h=>by rw [h.2 hp] at hb; cases hb)
    | true =>
     simp [h0,h3,hq,hp,hlt,hw,hw2,a1,a2,a3,b3,tab2_ok1 _ _ _ _ _ _ _ _ _ _ _ (hs.get hq),ent_eta,he,hb]
     exact⟨m-1,by omega,i+1,by omega,rfl,yes ⟨he,fun _=>hb⟩⟩
 ·have:i=r.length:=by omega
  subst this
  simp [h0,l1,ha.slc]
  simp only [runOk,decide_eq_decide]
  exact⟨fun h=>⟨fun j hj=>hI j hj hj,by omega⟩,fun h=>by omega⟩
end Go.Proofs.YtepeokaplbbpoaaGreat.B

namespace Go.Proofs.YtepeokaplbbpoaaGreat.B
open Go.RowKit Go.Proofs
set_option linter.unusedVariables false
set_option linter.unusedSimpArgs false
variable {E:Env}
abbrev OwnS:=OwnM (α:=ByteArray) 1 9 strRow
theorem OwnS.strs {H0 H:Hp} {v:AV} {xs:List ByteArray} (h:OwnS H0 H v xs):Strs H v xs:=h.1.rows
theorem OwnM.strs {ety:Nat} {H0 H:Hp} {v:AV} {xs:List ByteArray} (h:OwnM 1 ety strRow H0 H v xs):Strs H v xs:=h.1.rows
theorem OwnM.ents {ety:Nat} {H0 H:Hp} {v:AV} {xs:List Ent} (h:OwnM 4 ety entRow H0 H v xs):Ents H v xs:=h.1.rows
theorem Strs.at {H:Hp} {o n e:Nat} {ro:Bool} {xs:List ByteArray} (h:H.at o=some ⟨xs.map strRow,1,e,ro⟩) (hn:n=xs.length):Strs H (.sl o 0 n) xs:=by
 subst hn
 have:=Rows.whole h
 simp only [List.length_map] at this
 exact this
theorem l2Put_ok (a:AV) (k:ByteArray) (ks:List ByteArray) (H:Hp) (ha:Strs H a ks) (hn:ks.length<1099511627776) :
  AC Tryz.prog E 97 [a,.str k] H (fun v H'=>HLe H H'/\((v=a/\putK k ks=ks)\/OwnS H H' v (putK k ks))):=by
 refine AC_by fol (tC_le tab2_ok) h_spec_l2Put ?_
 have l1:=ha.len
 simp [c_spec_l2Put]
 refine W_for (fun m t H'=>∃ i v,i+m=ks.length/\t 0=a/\t 1=.str k/\t 5=v/\t 6=.bool (putD k (ks.take i))/\t 7=.int .i64 (i:Nat)/\k ∉ ks.take i/\HLe H H'/\OwnS H H' v (putP k (ks.take i))) ks.length ?_ (tC_mono AC_mono) ?_
 ·refine⟨0,_,by simp,by simp,by simp,rfl,by simp [putD],by simp,by simp,HLe.self _ _,Own.obj (by simp [putP,putD]) (by simp [putP,putD]),by simp⟩
 rintro m t H' ⟨i,v,him,h0,h1,h5,h6,h7,hI,hle,how,hab⟩
 simp [h0,h1,h5,h6,h7,l1,ha.slc]
 refine c_split (fun hq=>?_) (fun hq=>?_)<;>simp at hq
 ·have hw:=wrapN (i:=i) (by omega)
  obtain⟨o1,i1,ob1,rfl,aH,a2,a3⟩:=ha.get hq
  have a1:=hle.2 _ _ aH
  simp [h0,h1,h5,h6,h7,hq,a1,a2,a3]
  refine c_split (fun hq2=>?_) (fun hq2=>?_)<;>simp at hq2
  ·simp [hle,h0]
   exact .inl (putK_in (hq2 ▸ List.getElem_mem hq))
  ·have htk:ks.take (i+1)=ks.take i++[ks[i]]:=List.take_succ_eq_append_getElem hq
   have hI2:k ∉ ks.take (i+1):=by
    rw [htk,List.mem_append,List.mem_singleton]
    exact fun h=>h.elim hI (fun e=>hq2 e.symm)
   have hlen:=putP_len k (ks.take i)
   rw [List.length_take] at hlen
   have hpa:=putP_app k ks[i] (ks.take i)
   have hda:=putD_app k ks[i] (ks.take i)
   rw [<- htk] at hpa hda
   have add:∀ {y:ByteArray} {v2 v3:AV} {H2 H3:Hp} {xs:List ByteArray},OwnS H H2 v2 xs->HLe H H2->Own 1 9 H3 v3 (xs.map strRow++[[.str y]])->Fr v2.of H2 H3->(∀ o,v3.of o->v2.of o\/H2.length<=o)->HLe H H3/\OwnS H H3 v3 (xs++[y]):=by
    intro y v2 v3 H2 H3 xs g1 g2 g3 g4 g5
    exact⟨g2.fr_le g4 g1.2,by simpa [strRow] using g3,fun o ho=>(g5 o ho).elim (g1.2 o) (fun h=>Nat.le_trans g2.1 h)⟩
   have put:putD k (ks.take i)=true\/sless k ks[i]=false->putP k (ks.take (i+1))=putP k (ks.take i)++[ks[i]]:=by
    intro h
    rw [hpa]
    rcases h with h | h<;>simp [h]
   have fin:∀ (v2:AV) (H2:Hp),HLe H H2->OwnS H H2 v2 (putP k (ks.take (i+1)))->∃ k',k'<m/\∃ i_1:Nat,i_1+k'=ks.length/\putD k (ks.take (i+1))=putD k (ks.take i_1)/\((i+1:Nat):Int)=i_1/\k ∉ ks.take i_1/\HLe H H2/\OwnS H H2 v2 (putP k (ks.take i_1)) :=
    fun v2 H2 g1 g2=>⟨m-1,by omega,i+1,by omega,rfl,rfl,hI2,g1,g2⟩
   by_cases hc:putD k (ks.take i)=true\/sless k ks[i]=false
   ·have hp:=put hc
    have hd2:putD k (ks.take i)=putD k (ks.take (i+1)):=by
     rw [hda]
     rcases hc with h | h<;>simp [h]
    have app:∀ (H2:Hp),H2=H'->True:=fun _ _=>trivial
    rcases hd:putD k (ks.take i) with _ | _
    ·have hx:sless k ks[i]=false:=hc.resolve_left (by simp [hd])
     simp [h0,h1,h5,h6,h7,hq,hq2,a1,a2,a3,hd,hx]
     refine appG_one (R:=(putP k (ks.take i)).map strRow) how (by simp; have:=hlen; omega) (fun v2 H2 g1 g2 g3=>?_)
     obtain⟨e1,e2⟩:=add ⟨how,hab⟩ hle g1 g2 g3
     rw [<- hp] at e2
     simp [h0,h1,h5,h6,h7,hw,hd]
     exact⟨m-1,by omega,i+1,by omega,by rw [<- hd2,hd],by omega,hI2,e1,e2⟩
    ·simp [h0,h1,h5,h6,h7,hq,hq2,a1,a2,a3,hd]
     refine appG_one (R:=(putP k (ks.take i)).map strRow) how (by simp; have:=hlen; omega) (fun v2 H2 g1 g2 g3=>?_)
     obtain⟨e1,e2⟩:=add ⟨how,hab⟩ hle g1 g2 g3
     rw [<- hp] at e2
     simp [h0,h1,h5,h6,h7,hw,hd]
     exact⟨m-1,by omega,i+1,by omega,by rw [<- hd2,hd],by omega,hI2,e1,e2⟩
   ·have hd:putD k (ks.take i)=false:=by
     cases h:putD k (ks.take i) with
     | false=>rfl
     | true=>exact (hc (.inl h)).elim
    have hx:sless k ks[i]=true:=by
     cases h:sless k ks[i] with
     | false=>exact (hc (.inr h)).elim
     | true=>rfl
    simp [hd,hx] at hpa hda
    simp [h0,h1,h5,h6,h7,hq,hq2,a1,a2,a3,hd,hx]
    refine appG_one (R:=(putP k (ks.take i)).map strRow) how (by simp; have:=hlen; omega) (fun v2 H2 g1 g2 g3=>?_)
    obtain⟨e1,e2⟩:=add ⟨how,hab⟩ hle g1 g2 g3
    have a1':=e1.2 _ _ aH
    simp [h0,h1,h5,h6,h7,hw,hd,hq,a1',a2,a3]
    refine appG_one (R:=(putP k (ks.take i)++[k]).map strRow) e2.1 (by simp; have:=hlen; omega) (fun v3 H3 g1 g2 g3=>?_)
    obtain⟨f1,f2⟩:=add e2 e1 g1 g2 g3
    rw [List.append_assoc] at f2
    simp only [List.singleton_append] at f2
    rw [<- hpa] at f2
    simp [h0,h1,h5,h6,h7,hw,hd]
    exact⟨m-1,by omega,i+1,by omega,by rw [hda],by omega,hI2,f1,f2⟩
 ·have:i=ks.length:=by omega
  subst this
  rw [List.take_length] at h6 how hI
  have hlen:=putP_len k ks
  cases hd:putD k ks with
  | true =>
   simp [h0,h1,h5,h6,h7,hd]
   refine⟨hle,.inr ?_⟩
   rw [putK_out hI,hd]
   simp
   exact⟨how,hab⟩
  | false =>
   simp [h0,h1,h5,h6,h7,hd]
   refine appG_one (R:=(putP k ks).map strRow) how (by simp; omega) (fun v2 H2 g1 g2 g3=>?_)
   simp
   refine⟨hle.fr_le g2 hab,.inr ?_⟩
   rw [putK_out hI,hd]
   exact⟨by simpa [strRow] using g1,fun o ho=>(g3 o ho).elim (hab o) (fun h=>Nat.le_trans hle.1 h)⟩
def joinS (xs ys:List Ent):Nat->Nat × List Ent
 | 0=>(0,[])
 | k+1 =>
  let s:=joinS xs ys k
  match ys[k]? with
  | some b=>(s.1+((xs.drop s.1).takeWhile (fun a=>ahead a b)).length,s.2++(xs.drop s.1).takeWhile (fun a=>ahead a b)++[b])
  | none=>s
theorem joinS_le (xs ys:List Ent):∀ k,(joinS xs ys k).1<=xs.length/\(joinS xs ys k).2.length=(joinS xs ys k).1+min k ys.length
 | 0=>by simp [joinS]
 | k+1=>by
  obtain⟨h1,h2⟩:=joinS_le xs ys k
  simp only [joinS]
  split
  ·rename_i b hb
   have hk:k<ys.length:=(List.getElem?_eq_some_iff.1 hb).1
   have h3:((xs.drop (joinS xs ys k).1).takeWhile (fun a=>ahead a b)).length<=(xs.drop (joinS xs ys k).1).length:=(List.takeWhile_sublist _).length_le
   simp only [List.length_drop] at h3
   simp only [List.length_append,List.length_singleton,h2]
   omega
  ·rename_i hb
   have hk:ys.length<=k:=List.getElem?_eq_none_iff.1 hb
   omega
theorem joinS_eq:∀ (ys xs:List Ent),(joinS xs ys ys.length).2++xs.drop (joinS xs ys ys.length).1=joinL xs ys:=by
 have key:∀ (ys xs:List Ent) (c:List Ent) (n:Nat),True:=fun _ _ _ _=>trivial
 have gen:∀ (k:Nat) (ys xs:List Ent),k<=ys.length->(joinS xs ys k).2++joinL (xs.drop (joinS xs ys k).1) (ys.drop k)=joinL xs ys:=by
  intro k
  induction k with
  | zero=>intro ys xs _; simp [joinS]
  | succ k ih =>
   intro ys xs hk
   have h0:=ih ys xs (by omega)
   have hb:ys[k]?=some ys[k]:=List.getElem?_eq_getElem (by omega)
   rw [List.drop_eq_getElem_cons (show k<ys.length by omega)] at h0
   simp only [joinL] at h0
   simp only [joinS,hb]
   rw [<- h0]
   simp only [List.append_assoc,List.singleton_append]
   congr 2
   rw [<- List.drop_drop]
   have e:∀ (l:List Ent) (p:Ent->Bool),l.drop (l.takeWhile p).length=l.dropWhile p:=by
    intro l p
    calc l.drop (l.takeWhile p).length=(l.takeWhile p++l.dropWhile p).drop (l.takeWhile p).length:=by rw [List.takeWhile_append_dropWhile]
     _=l.dropWhile p:=List.drop_left
   rw [e]
 intro ys xs
 have:=gen ys.length ys xs (Nat.le_refl _)
 simpa [joinL] using this
theorem joinL_len (xs ys:List Ent):(joinL xs ys).length=xs.length+ys.length:=by
 rw [<- joinS_eq]
 obtain⟨h1,h2⟩:=joinS_le xs ys ys.length
 simp [h2]
 omega
abbrev OwnE:=OwnM (α:=Ent) 4 45 entRow
theorem twl_end {xs:List Ent} {p:Ent->Bool} {j:Nat} (hall:∀ e∈xs.take j,p e=true) (hp:∀ h:j<xs.length,p xs[j]=false):xs.takeWhile p=xs.take j:=by
 have h1:∀ (l m:List Ent),(∀ e∈l,p e=true)->(l++m).takeWhile p=l++m.takeWhile p:=by
  intro l m hl
  induction l with
  | nil=>rfl
  | cons x l ih =>
   rw [List.cons_append,List.takeWhile_cons,hl x (by simp),ih (fun e he=>hl e (List.mem_cons_of_mem _ he))]
   rfl
 conv=>lhs; rw [<- List.take_append_drop j xs]
 rw [h1 _ _ hall]
 rcases Nat.lt_or_ge j xs.length with hj | hj
 ·rw [List.drop_eq_getElem_cons hj,List.takeWhile_cons,hp hj]
  simp
 ·rw [List.drop_of_length_le hj]
  simp
theorem l11Join_ok (a b:AV) (xs ys:List Ent) (H:Hp) (ha:Ents H a xs) (hb:Ents H b ys) (hn:xs.length+ys.length<1099511627776) :
  AC Tryz.prog E 113 [a,b] H (fun v H'=>HLe H H'/\OwnE H H' v (joinL xs ys)):=by
 refine AC_by fol (tC_le tab2_ok) h_spec_l11Join ?_
 have l1:=ha.len
 have l2:=hb.len
 simp [c_spec_l11Join]
 refine W_for (fun m t H'=>∃ k v,k+m=ys.length/\t 0=a/\t 1=b/\t 5=v/\t 6=.int .i64 ((joinS xs ys k).1:Nat)/\t 7=.int .i64 (k:Nat)/\HLe H H'/\OwnE H H' v (joinS xs ys k).2) ys.length ?_ (tC_mono AC_mono) ?_
 ·exact⟨0,_,by simp,by simp,by simp,rfl,by simp [joinS],by simp,HLe.self _ _,OwnM.lit0 (HLe.refl _)⟩
 rintro m t H' ⟨k,v,hkm,h0,h1,h5,h6,h7,hle,hv⟩
 simp [h0,h1,h5,h6,h7,l2,hb.slc]
 obtain⟨hj1,hj2⟩:=joinS_le xs ys k
 refine c_split (fun hq=>?_) (fun hq=>?_)<;>simp at hq
 ·have hw:=wrapN (i:=k) (by omega)
  obtain⟨o2,i2,ob2,rfl,bH,b2,b3⟩:=hb.get hq
  have hbk:ys[k]?=some ys[k]:=List.getElem?_eq_getElem hq
  have hmin:min k ys.length=k:=by omega
  rw [hmin] at hj2
  refine W_for (fun m2 t H'=>∃ (j:Nat) (v:AV),j+m2=xs.length/\(joinS xs ys k).1<=j/\t 0=a/\t 1=.sl o2 i2 ys.length/\t 5=v/\t 6=.int .i64 j/\t 7=.int .i64 (k:Nat)/\HLe H H' /\
   (∀ e∈(xs.drop (joinS xs ys k).1).take (j-(joinS xs ys k).1),ahead e ys[k]=true)/\OwnE H H' v ((joinS xs ys k).2++(xs.drop (joinS xs ys k).1).take (j-(joinS xs ys k).1))) (xs.length-(joinS xs ys k).1) ?_ (tC_mono AC_mono) ?_
  ·exact⟨(joinS xs ys k).1,v,by omega,Nat.le_refl _,h0,h1,h5,h6,h7,hle,by simp,by simpa using hv⟩
  rintro m2 t H2 ⟨j,v,hjm,hjk,h0,h1,h5,h6,h7,hle2,hall,hv⟩
  have b1:=hle2.2 _ _ bH
  simp [h0,h1,h5,h6,h7,l1,ha.slc]
  have hend:(∀ h:j<xs.length,ahead xs[j] ys[k]=false)->(joinS xs ys (k+1)).1=j/\(joinS xs ys (k+1)).2=(joinS xs ys k).2++(xs.drop (joinS xs ys k).1).take (j-(joinS xs ys k).1)++[ys[k]]:=by
   intro hp
   have:=twl_end (xs:=xs.drop (joinS xs ys k).1) (p:=fun a=>ahead a ys[k]) (j:=j-(joinS xs ys k).1) hall (fun h=>by
    simp only [List.length_drop] at h
    simp only [List.getElem_drop]
    have e:(joinS xs ys k).1+(j-(joinS xs ys k).1)=j:=by omega
    simp only [e]
    exact hp (by omega))
   simp only [joinS,hbk,this]
   refine⟨?_,trivial⟩
   simp
   omega
  have hadd:∀ h:j<xs.length,(xs.drop (joinS xs ys k).1).take (j+1-(joinS xs ys k).1)=(xs.drop (joinS xs ys k).1).take (j-(joinS xs ys k).1)++[xs[j]]:=by
   intro h
   rw [show j+1-(joinS xs ys k).1=(j-(joinS xs ys k).1)+1 by omega,List.take_succ_eq_append_getElem (by simp; omega)]
   simp only [List.getElem_drop]
   have e:(joinS xs ys k).1+(j-(joinS xs ys k).1)=j:=by omega
   simp only [e]
  have leave:(∀ h:j<xs.length,ahead xs[j] ys[k]=false)->True:=fun _=>trivial
  refine g_split (fun hq2=>?_) (fun hq2=>?_) (by simp)<;>simp at hq2
  ·obtain⟨o1,i1,ob1,rfl,aH,a2,a3⟩:=ha.get hq2
   have a1:=hle2.2 _ _ aH
   have hw2:=wrapN (i:=j) (by omega)
   cases hah:ahead xs[j] ys[k] with
   | false =>
    simp [h0,h1,h5,h6,h7,hq,hq2,a1,a2,a3,b1,b2,b3,ent_eta,hah]
    refine appG_add hv hle2 (by simp; omega) (show _=entRow ys[k] from rfl) (fun v3 H3 g1 g2 g3 g4=>?_)
    simp [h0,h1,h5,h6,h7,hw]
    obtain⟨e1,e2⟩:=hend (fun _=>hah)
    exact⟨m-1,by omega,k+1,by omega,by rw [e1],by omega,g1,by rw [e2]; exact g2⟩
   | true =>
    simp [h0,h1,h5,h6,h7,hq,hq2,a1,a2,a3,b1,b2,b3,ent_eta,hah]
    refine appG_add hv hle2 (by simp; omega) (show _=entRow xs[j] from rfl) (fun v3 H3 g1 g2 g3 g4=>?_)
    simp [h0,h1,h5,h6,h7,hw2]
    rw [List.append_assoc,<- hadd hq2] at g2
    refine⟨m2-1,by omega,j+1,by omega,by omega,by omega,g1,?_,g2⟩
    rw [hadd hq2]
    intro e he
    rcases List.mem_append.1 he with h | h
    ·exact hall e h
    ·rw [List.mem_singleton.1 h]; exact hah
  ·have hnl:¬j<xs.length:=by omega
   simp [h0,h1,h5,h6,h7,hq,hnl,b1,b2,b3]
   refine appG_add hv hle2 (by simp; omega) (show _=entRow ys[k] from rfl) (fun v3 H3 g1 g2 g3 g4=>?_)
   simp [h0,h1,h5,h6,h7,hw]
   obtain⟨e1,e2⟩:=hend (fun h=>absurd h hnl)
   exact⟨m-1,by omega,k+1,by omega,by rw [e1],by omega,g1,by rw [e2]; exact g2⟩
 ·have:k=ys.length:=by omega
  subst this
  simp [h0,h1,h5,h6,h7,l1,ha.slc]
  refine cutG_from (ha.le hle) _ rfl (by simpa using hj1) (fun u u1 u2=>?_)
  rw [<- List.map_drop] at u1
  simp [h5]
  refine appG_cat hv u1 hle (by simp [hj2]; omega) (fun v3 H3 g1 g2 g3 g4=>?_)
  rw [joinS_eq] at g2
  simp
  exact⟨g1,g2⟩
theorem bt_at {s:ByteArray} {i:Nat} (h:i<s.data.toList.length):bt s i=(s.data.toList[i]).toNat:=by
 have h2:i<s.data.size:=by simpa using h
 have e:s[i]?=some s.data[i]:=by
  rw [getElem?_pos s i h2]
  rfl
 simp only [bt,Int.toNat_natCast,e,Option.map_some,Option.getD_some]
 simp
def I64 (n:Int):Prop:=-9223372036854775808<=n/\n<9223372036854775808
def Fit (e:Ent):Prop:=e.key.size<4611686018427387904/\I64 e.val/\I64 e.time
def Fits (es:List Ent):Prop:=∀ e∈es,Fit e
theorem Fits.short {es:List Ent} (h:Fits es):Short es:=fun e he=>(h e he).1
theorem entOk_fit {e:Ent} (h:entOk e=true):Fit e/\e.key.size<=5:=by
 simp only [entOk,keyOk,Bool.and_eq_true,decide_eq_true_eq] at h
 exact⟨⟨by omega,⟨by omega,by omega⟩,by omega,by omega⟩,h.1.1.1.2⟩
theorem runOk_fits {r:List Ent} (h:runOk r=true):Fits r/\r.length<=40/\∀ e∈r,e.key.size<=5:=by
 simp only [runOk,decide_eq_true_eq] at h
 have key:∀ e∈r,entOk e=true:=by
  intro e he
  obtain⟨i,hi,rfl⟩:=List.mem_iff_getElem.1 he
  exact (h.1 i hi).1
 exact⟨fun e he=>(entOk_fit (key e he)).1,h.2,fun e he=>(entOk_fit (key e he)).2⟩
end Go.Proofs.YtepeokaplbbpoaaGreat.B

namespace Go.Proofs.YtepeokaplbbpoaaGreat.B
open Go.RowKit Go.Proofs
set_option linter.unusedVariables false
set_option linter.unusedSimpArgs false
variable {E:Env}
theorem Fr.one (H:Hp) (o:Nat) (x:Option Ob):Fr (fun y=>y=o) H (List.set H o x):=(Fr.refl (fun y=>y=o) H).set (.inl rfl) x
theorem appG_one' {ety esz bytes n:Nat} {x:AV} {row:List AV} {H:Hp} {R:List (List AV)} {C:CallP} {d:Option Nat} {ag:List (Option Nat × AOp × Option (Nat × Bool))} {p:Plan} {t:Tm} {K:Tm->Hp->Prop}
  (hl:n=H.length) (hx:Own esz ety H x R) (hb:(R.length+1) * bytes<=140737488355328)
  (hk:∀ v H',Own esz ety H' v (R++[row])->Fr x.of H H'->(∀ o,v.of o->x.of o\/H.length<=o)->againG ag (updO t d v) H'/\RgP C p (updO t d v) H' K) :
  appG x (.sl n 0 1) ety esz bytes C d ag p t (H++[some ⟨[row],esz,ety,false⟩]) K:=by
 subst hl
 exact appG_one hx hb hk
theorem Rows.ne_of {esz:Nat} {H:Hp} {v:AV} {R:List (List AV)} (h:Rows esz H v R) {o:Nat} {ob:Ob} (ho:H.at o=some ob) (he:ob.esz≠esz) {x:Nat} (hx:v.of x):x≠o:=by
 rcases h with ⟨rfl,_⟩ | ⟨rfl,_⟩ | ⟨o',i,ob',rfl,a2,a3,_⟩
 ·exact hx.elim
 ·exact hx.elim
 ·rintro rfl
  have:o'=x:=hx
  subst this
  rw [ho] at a2
  cases a2
  exact he a3
theorem Rows.apart {e1 e2:Nat} {H:Hp} {v w:AV} {R1 R2:List (List AV)} (h:Rows e1 H v R1) (k:Rows e2 H w R2) (he:e1≠e2) {x:Nat} (hx:v.of x):¬w.of x:=by
 intro hw
 rcases k with ⟨rfl,_⟩ | ⟨rfl,_⟩ | ⟨o',i,ob',rfl,a2,a3,_⟩
 ·exact hw.elim
 ·exact hw.elim
 ·have:o'=x:=hw
  subst this
  exact h.ne_of a2 (by rw [a3]; exact he.symm) hx rfl
def byteRow (n:Int):List AV:=[.int .u8 n]
def Bytes (H:Hp) (v:AV) (bs:List Int):Prop:=Rows 1 H v (bs.map byteRow)/\∀ n∈bs,0<=n/\n<256
theorem Bytes.len {H:Hp} {v:AV} {bs:List Int} (h:Bytes H v bs):lenV v=.int .i64 bs.length:=by simpa using h.1.len
def Rd (H:Hp) (o:Nat) (N:Nat):Prop:=∃ b bs,∃ p:Nat,H.at o=some ⟨[[b,.int .i64 p]],2,111,false⟩/\Bytes H b bs/\bs.length<=2000/\p<=N/\∀ x,b.of x->x<o
theorem Rd.mono {H:Hp} {o N M:Nat} (h:Rd H o N) (hM:N<=M):Rd H o M:=by
 obtain⟨b,bs,p,h1,h2,h3,h4,h5⟩:=h
 exact⟨b,bs,p,h1,h2,h3,by omega,h5⟩
theorem Rd.fr {S:Nat->Prop} {H H':Hp} {o N:Nat} (h:Rd H o N) (hf:Fr S H H') (hs:¬S o) (hb:∀ x ob,S x->H.at x=some ob->ob.esz≠1):Rd H' o N:=by
 obtain⟨b,bs,p,h1,h2,h3,h4⟩:=h
 refine⟨b,bs,p,hf.2 _ _ hs h1,⟨?_,h2.2⟩,h3,h4⟩
 rcases h2.1 with h | h | ⟨o',i,ob,rfl,a2,a3,a4⟩
 ·exact .inl h
 ·exact .inr (.inl h)
 ·exact .inr (.inr ⟨o',i,ob,rfl,hf.2 _ _ (fun hh=>hb o' ob hh a2 a3) a2,a3,a4⟩)
theorem Rd.fr2 {S:Nat->Prop} {H H':Hp} {o N:Nat} (h:Rd H o N) (hf:Fr S H H') (hs:∀ x,S x->o<x):Rd H' o N:=by
 obtain⟨b,bs,p,h1,h2,h3,h4,h5⟩:=h
 refine⟨b,bs,p,hf.2 _ _ (fun h=>by have:=hs _ h; omega) h1,⟨?_,h2.2⟩,h3,h4,h5⟩
 rcases h2.1 with h | h | ⟨o',i,ob,rfl,a2,a3,a4⟩
 ·exact .inl h
 ·exact .inr (.inl h)
 ·exact .inr (.inr ⟨o',i,ob,rfl,hf.2 _ _ (fun hh=>by have:=hs _ hh; have:=h5 o' rfl; omega) a2,a3,a4⟩)
theorem Rd.le {H H':Hp} {o N:Nat} (h:Rd H o N) (hle:HLe H H'):Rd H' o N:=h.fr (hle.fr (S:=fun _=>False)) (fun h=>h) (fun _ _ h=>h.elim)
theorem Rd.lt {H:Hp} {o N:Nat} (h:Rd H o N):o<H.length:=by
 obtain⟨b,bs,p,h1,_⟩:=h
 exact Hp.at_lt h1
abbrev Dr (o:Nat) (H H':Hp):Prop:=Fr (fun x=>x=o) H H'
theorem l6Open_ok (c:AV) (bs:List Int) (H:Hp) (hc:Bytes H c bs) (hn:bs.length<4611686018427387904) :
  AC Tryz.prog E 46 [c] H (fun v H'=>∃ o,v=.pt o 0 0/\H.length<=o/\HLe H H'/\Rd H' o 0):=by
 refine AC_by fol (tC_le tab2_ok) h_spec_l6Open ?_
 have l1:=hc.len
 simp [c_spec_l6Open,l1,hc.1.slc]
 have fin:∀ (u:AV) (cs:List Int),Rows 1 H u (cs.map byteRow)->(∀ n∈cs,0<=n/\n<256)->cs.length<=2000->Rd (H++[some ⟨[[u,.int .i64 0]],2,111,false⟩]) H.length 0 :=
  fun u cs h1 h2 h3=>⟨u,cs,0,by simp,⟨h1.le (HLe.self _ _),h2⟩,h3,Nat.le_refl _,fun x hx=>by
   rcases h1 with ⟨rfl,_⟩ | ⟨rfl,_⟩ | ⟨o',i,ob,rfl,a2,_⟩
   ·exact hx.elim
   ·exact hx.elim
   ·have:o'=x:=hx
    subst this
    exact Hp.at_lt a2⟩
 refine c_split (fun hq=>?_) (fun hq=>?_)<;>simp at hq
 ·simp
  refine cutG_upto hc.1 2000 rfl (by simp; omega) (fun u u1 u2 _=>?_)
  rw [<- List.map_take] at u1
  simp [u1.cells,u1.cells1,u1.one]
  exact fin u _ u1 (fun n hn=>hc.2 n (List.mem_of_mem_take hn)) (by simp; omega)
 ·simp [hc.1.cells,hc.1.cells1,hc.1.one]
  exact fin c bs hc.1 hc.2 (by omega)
theorem xor_pos {x y:Int} (hx:0<=x/\x<4611686018427387904) (hy:0<=y/\y<4611686018427387904):∃ z:Int,binV .xor (.int .i64 x) (.int .i64 y)=.int .i64 z/\0<=z/\z<9223372036854775808:=by
 have hlt:(BitVec.ofInt IntKind.i64.bits x ^^^ BitVec.ofInt IntKind.i64.bits y).toNat<2 ^ 62:=by
  rw [BitVec.toNat_xor]
  have e:∀ z:Int,0<=z/\z<4611686018427387904->(BitVec.ofInt IntKind.i64.bits z).toNat<2 ^ 62:=by
   intro z hz
   rw [BitVec.toNat_ofInt]
   have:IntKind.i64.bits=64:=rfl
   rw [this]
   omega
  exact Nat.xor_lt_two_pow (e x hx) (e y hy)
 refine⟨_,rfl,?_,?_⟩
 ·rw [wrap64 (by omega) (by omega)]
  omega
 ·rw [wrap64 (by omega) (by omega)]
  omega
theorem pick_ok (o N:Nat) (n:Int) (H:Hp) (hr:Rd H o N) (hN:N<1099511627776) (hn:n<4611686018427387904) :
  AC Tryz.prog E 59 [.pt o 0 0,.int .i64 n] H (fun v H'=>∃ m:Nat,v=.int .i64 m/\((m:Int)<n\/m=0)/\Dr o H H'/\Rd H' o (N+1)/\H'.length=H.length):=by
 obtain⟨b,bs,p,hat,hb,hbl,hp,hbo⟩:=hr
 have hlt:=Hp.at_lt hat
 have hw:=wrapN (i:=p) (by omega)
 have hw1:IntKind.i64.wrap (((p+1:Nat):Int)-1)=p:=by rw [wrap64 (by omega) (by omega)]; omega
 have l1:=hb.len
 have s1:=hb.1.slc
 have fin:∀ x:Option Ob,x=some ⟨[[b,.int .i64 ((p+1:Nat):Int)]],2,111,false⟩->Dr o H (List.set H o x)/\Rd (List.set H o x) o (N+1)/\(List.set H o x).length=H.length:=by
  rintro x rfl
  refine⟨(Fr.refl (fun x=>x=o) H).set (.inl rfl) _,⟨b,bs,p+1,Hp.at_set _ hlt,⟨?_,hb.2⟩,hbl,by omega,hbo⟩,by simp⟩
  rcases hb.1 with h | h | ⟨o',i,ob,rfl,a2,a3,a4⟩
  ·exact .inl h
  ·exact .inr (.inl h)
  ·refine .inr (.inr ⟨o',i,ob,rfl,?_,a3,a4⟩)
   rw [Hp.at_set_ne]
   ·exact a2
   ·rintro rfl
    rw [hat] at a2
    cases a2
    cases a3
 have f0:=fin _ rfl
 refine AC_by fol (tC_le tab2_ok) h_spec_l6Rd_pick ?_
 by_cases hn1:n<1
 ·simp [c_spec_l6Rd_pick,hat,Hp.at_set _ hlt,hw,hn1]
  exact⟨0,rfl,.inr rfl,by simpa using f0⟩
 ·simp [c_spec_l6Rd_pick,hat,Hp.at_set _ hlt,hw,hn1,l1,s1]
  refine c_split (fun hq=>?_) (fun hq=>?_)<;>simp at hq
  ·simp
   exact⟨0,rfl,.inr rfl,by simpa using f0⟩
  ·have hpos:0<bs.length:=List.length_pos_iff.2 hq
   obtain⟨o',i',ob,rfl,a2,a3,_⟩:=hb.1.get (j:=0) (by simpa using hpos)
   have row:∀ j (h:j<bs.length),ob.rows[i'+j]?=some [.int .u8 bs[j]]:=by
    intro j h
    obtain⟨o2,i2,ob2,e1,e2,e3,e4⟩:=hb.1.get (j:=j) (by simpa using h)
    cases e1
    rw [a2] at e2
    cases e2
    simpa [byteRow] using e4
   have hne:o≠o':=by
    rintro rfl
    rw [hat] at a2
    cases a2
    cases a3
   have hat':∀ x,Hp.at (List.set H o x) o'=some ob:=fun x=>by rw [Hp.at_set_ne hne]; exact a2
   simp at f0
   have hwp:IntKind.i64.wrap (p:Int)=p:=wrap64 (by omega) (by omega)
   simp [hat,Hp.at_set _ hlt,hat',hwp,a3]
   refine c_split (fun hq2=>?_) (fun hq2=>?_)<;>simp at hq2
   ·have hbd:=hb.2 _ (List.getElem_mem hq2)
    have hwb:IntKind.i64.wrap bs[p]=bs[p]:=wrap64 (by omega) (by omega)
    have hm:bs[p].tmod n=((bs[p].tmod n).toNat:Int):=by
     have:=Int.tmod_nonneg n hbd.1
     omega
    have hn0:n≠0:=by omega
    have hlt2:bs[p].tmod n<n:=Int.tmod_lt_of_pos _ (by omega)
    simp [hat,Hp.at_set _ hlt,hat',hq2,a3,row p hq2,hwb,hn0]
    exact⟨(bs[p].tmod n).toNat,hm,.inl (by omega),f0⟩
   ·have q1:p % bs.length<bs.length:=Nat.mod_lt _ hpos
    have q2:(p * 7+3) % bs.length<bs.length:=Nat.mod_lt _ hpos
    have m1:(p:Int).tmod (bs.length:Int)=((p % bs.length:Nat):Int):=by
     rw [Int.tmod_eq_emod_of_nonneg (by omega)]
     exact (Int.natCast_emod _ _).symm
    have m2:((p:Int) * 7+3).tmod (bs.length:Int)=(((p * 7+3) % bs.length:Nat):Int):=by
     rw [Int.tmod_eq_emod_of_nonneg (by omega),Int.natCast_emod]
     rfl
    have d1:(p:Int).tdiv (bs.length:Int)=((p / bs.length:Nat):Int):=by
     rw [Int.tdiv_eq_ediv_of_nonneg (by omega)]
     exact (Int.natCast_ediv _ _).symm
    have d2:p / bs.length<=p:=Nat.div_le_self _ _
    have b1:=hb.2 _ (List.getElem_mem q1)
    have b2:=hb.2 _ (List.getElem_mem q2)
    have r1:=row _ q1
    have r2:=row _ q2
    generalize bs[p % bs.length]=A at b1 r1
    generalize bs[(p * 7+3) % bs.length]=B at b2 r2
    generalize p % bs.length=i1 at q1 m1 r1
    generalize (p * 7+3) % bs.length=i2 at q2 m2 r2
    generalize p / bs.length=qq at d1 d2
    have w1:IntKind.i64.wrap A=A:=wrap64 (by omega) (by omega)
    have w2:IntKind.i64.wrap B=B:=wrap64 (by omega) (by omega)
    have w3:IntKind.i64.wrap (A * 131)=A * 131:=wrap64 (by omega) (by omega)
    have w4:IntKind.i64.wrap (B * 1117)=B * 1117:=wrap64 (by omega) (by omega)
    have w5:IntKind.i64.wrap (A * 131+B * 1117)=A * 131+B * 1117:=wrap64 (by omega) (by omega)
    have w6:IntKind.i64.wrap ((p:Int) * 29)=p * 29:=wrap64 (by omega) (by omega)
    have w7:IntKind.i64.wrap (A * 131+B * 1117+p * 29)=A * 131+B * 1117+p * 29:=wrap64 (by omega) (by omega)
    have w8:IntKind.i64.wrap (qq:Int)=qq:=wrap64 (by omega) (by omega)
    have w9:IntKind.i64.wrap ((qq:Int) * 53)=qq * 53:=wrap64 (by omega) (by omega)
    obtain⟨X,hXe⟩:∃ X:Int,X=A * 131+B * 1117+p * 29+qq * 53:=⟨_,rfl⟩
    have w10:IntKind.i64.wrap (A * 131+B * 1117+p * 29+qq * 53)=X:=by rw [hXe]; exact wrap64 (by omega) (by omega)
    have w11:IntKind.i64.wrap ((p:Int) * 7)=p * 7:=wrap64 (by omega) (by omega)
    have w12:IntKind.i64.wrap ((p:Int) * 7+3)=p * 7+3:=wrap64 (by omega) (by omega)
    have hX:0<=X/\X<4611686018427387904:=by omega
    have e1:X.tdiv 64=X / 64:=Int.tdiv_eq_ediv_of_nonneg hX.1
    have w13:IntKind.i64.wrap (X / 64)=X / 64:=wrap64 (by omega) (by omega)
    obtain⟨Z,hZ,z1,z2⟩:=xor_pos (x:=X) (y:=X / 64) hX (by omega)
    have hn0:n≠0:=by omega
    have hbn:bs.length≠0:=by omega
    have hm:Z.tmod n=((Z.tmod n).toNat:Int):=by
     have:=Int.tmod_nonneg n z1
     omega
    have hlt2:Z.tmod n<n:=Int.tmod_lt_of_pos _ (by omega)
    simp [-binV_ixor,hat,Hp.at_set _ hlt,hat',a3,hn0,hq,m1,m2,d1,r1,r2,q1,q2,w1,w2,w3,w4,w5,w6,w7,w8,w9,w10,w11,w12,w13,e1,hZ]
    exact⟨(Z.tmod n).toNat,hm,.inl (by omega),f0⟩
end Go.Proofs.YtepeokaplbbpoaaGreat.B

namespace Go.Proofs.YtepeokaplbbpoaaGreat.B
open Go.RowKit Go.Proofs
set_option linter.unusedVariables false
set_option linter.unusedSimpArgs false
variable {E:Env}
theorem Rd.ne {H:Hp} {o N:Nat} (h:Rd H o N) {esz:Nat} {v:AV} {R:List (List AV)} (hv:Rows esz H v R) (he:esz≠2) {x:Nat} (hx:v.of x):x≠o:=by
 obtain⟨b,bs,p,h1,_⟩:=h
 rcases hv with ⟨rfl,_⟩ | ⟨rfl,_⟩ | ⟨o',i,ob,rfl,a2,a3,_⟩
 ·exact hx.elim
 ·exact hx.elim
 ·rintro rfl
  have:o'=x:=hx
  subst this
  rw [h1] at a2
  cases a2
  exact he a3.symm
theorem Rows.dr {H H':Hp} {o N:Nat} (hr:Rd H o N) {esz:Nat} {v:AV} {R:List (List AV)} (hv:Rows esz H v R) (he:esz≠2) (hd:Dr o H H'):Rows esz H' v R:=hv.fr hd (fun x hx=>hr.ne hv he hx)
theorem OwnM.dr {α:Type} {H0 H H':Hp} {o N:Nat} (hr:Rd H o N) {esz ety:Nat} {row:α->List AV} {v:AV} {xs:List α} (hv:OwnM esz ety row H0 H v xs) (he:esz≠2) (hd:Dr o H H'):OwnM esz ety row H0 H' v xs:=hv.fr hd (fun x hx=>hr.ne hv.rows he hx)
theorem HLe.dr {H H':Hp} (h:HLe H H') (o:Nat):Dr o H H':=h.fr
theorem Rd.own {H H':Hp} {o N:Nat} (h:Rd H o N) (hle:HLe H H'):Rd H' o N:=h.le hle
theorem of_ok (o N:Nat) (l:AV) (xs:List ByteArray) (H:Hp) (hr:Rd H o N) (hl:Strs H l xs) (hx:xs≠[]) (hx2:xs.length<1099511627776) (hN:N<1099511627776) :
  AC Tryz.prog E 139 [.pt o 0 0,l] H (fun v H'=>∃ s,s∈xs/\v=.str s/\Dr o H H'/\Rd H' o (N+1)/\H'.length=H.length):=by
 refine AC_by fol (tC_le tab2_ok) h_spec_l6Rd_of ?_
 have l1:=hl.len
 have hpos:0<xs.length:=List.length_pos_iff.2 hx
 simp [c_spec_l6Rd_of,l1,hl.slc]
 refine cg_ex (pick_ok o N xs.length H hr hN (by omega)) ?_
 rintro v H' ⟨m,rfl,hm,hd,hr',hlen⟩
 have hm2:m<xs.length:=by omega
 obtain⟨o1,i1,ob1,rfl,a1,a2,a3⟩:=Strs.get (Rows.dr hr hl (by decide) hd:Strs H' l xs) hm2
 simp [a1,a2,a3,hm2]
 exact⟨xs[m],List.getElem_mem hm2,rfl,hd,hr',hlen⟩
theorem l71Key_ok (o N:Nat) (H:Hp) (hr:Rd H o N) (hN:N<549755813888) :
  AC Tryz.prog E 99 [.pt o 0 0] H (fun v H'=>∃ k,v=.str k/\k.size<=5/\Dr o H H'/\Rd H' o (N+6)):=by
 refine AC_by fol (tC_le tab2_ok) h_spec_l71Key ?_
 simp [c_spec_l71Key]
 refine cg_ex (pick_ok o N 6 H hr (by omega) (by omega)) ?_
 rintro v H1 ⟨n,rfl,hn,hd,hr1,-⟩
 simp
 refine W_for (fun m t H'=>∃ k:ByteArray,m<=5/\t 0=.pt o 0 0/\t 3=.str k/\t 4=.int .i64 m/\k.size+m<=5/\Dr o H H'/\Rd H' o (N+6-m)) n ?_ (tC_mono AC_mono) ?_
 ·exact⟨⟨#[]⟩,by omega,by simp,by simp,by simp,by show 0+n<=5; omega,hd,hr1.mono (by omega)⟩
 rintro m t H' ⟨k,hm5,h0,h3,h4,hk,hd,hr⟩
 simp [h0,h3,h4]
 refine c_split (fun hq=>?_) (fun hq=>?_)<;>simp at hq
 ·have hw:IntKind.i64.wrap ((m:Int)-1)=((m-1:Nat):Int):=by rw [wrap64 (by omega) (by omega)]; omega
  simp [h0,h3,h4]
  have hl:Strs (H'++[some ⟨[[.str ⟨#[97]⟩],[.str ⟨#[98]⟩],[.str ⟨#[97]⟩],[.str ⟨#[99]⟩],[.str ⟨#[100]⟩]],1,9,false⟩]) (.sl H'.length 0 5) [⟨#[97]⟩,⟨#[98]⟩,⟨#[97]⟩,⟨#[99]⟩,⟨#[100]⟩]:=Strs.at (e:=9) (ro:=false) (by simp [strRow]) rfl
  refine cg_ex (of_ok o (N+6-m) _ _ _ (hr.le (HLe.self _ _)) hl (by simp) (by simp) (by omega)) ?_
  rintro v H2 ⟨s,hs,rfl,hd2,hr2,-⟩
  have hs1:s.size=1:=by
   simp at hs
   rcases hs with h | h | h | h | h<;>rw [h]<;>rfl
  simp [h0,h3,h4,hw]
  refine⟨by omega,m-1,by omega,by omega,rfl,by omega,?_,hr2.mono (by omega)⟩
  exact (hd.app _).same hd2
 ·have:m=0:=by omega
  subst this
  simp [h3]
  exact⟨by omega,hd,hr⟩
theorem l71Near_ok (o N:Nat) (l:AV) (xs:List ByteArray) (H:Hp) (hr:Rd H o N) (hl:Strs H l xs) (hx:xs.length<1099511627776) (hs:∀ s∈xs,s.size<=5) (hN:N<274877906944) :
  AC Tryz.prog E 100 [.pt o 0 0,l] H (fun v H'=>∃ k,v=.str k/\k.size<=5/\Dr o H H'/\Rd H' o (N+7)):=by
 refine AC_by fol (tC_le tab2_ok) h_spec_l71Near ?_
 have l1:=hl.len
 simp [c_spec_l71Near,l1,hl.slc]
 refine g_split (fun hq=>?_) (fun hq=>?_) (by simp)<;>simp at hq<;>simp [hq]
 ·refine cg_ex (l71Key_ok o N _ hr (by omega)) ?_
  rintro v H1 ⟨k,rfl,hk,hd,hr1⟩
  simp
  exact⟨hk,hd,hr1.mono (by omega)⟩
 ·have hpos:0<xs.length:=List.length_pos_iff.2 hq
  refine cg_ex (pick_ok o N 4 H hr (by omega) (by omega)) ?_
  rintro v H1 ⟨n,rfl,hn,hd1,hr1,-⟩
  simp
  have hl1:Strs H1 l xs:=Rows.dr hr hl (by decide) hd1
  refine c_split (fun hq2=>?_) (fun hq2=>?_)<;>simp at hq2<;>simp
  ·refine cg_ex (l71Key_ok o _ _ hr1 (by omega)) ?_
   rintro v H2 ⟨k,rfl,hk,hd,hr2⟩
   simp
   exact⟨hk,hd1.same hd,hr2.mono (by omega)⟩
  ·simp [l1,hl.slc]
   refine cg_ex (pick_ok o _ xs.length H1 hr1 (by omega) (by omega)) ?_
   rintro v H2 ⟨m,rfl,hm,hd2,hr2,-⟩
   have hm2:m<xs.length:=by omega
   obtain⟨o1,i1,ob1,rfl,a1,a2,a3⟩:=Strs.get (Rows.dr hr1 hl1 (by decide) hd2:Strs H2 l xs) hm2
   have hsz:=hs _ (List.getElem_mem hm2)
   simp [a1,a2,a3,hm2]
   refine cg_ex (pick_ok o _ 4 H2 hr2 (by omega) (by omega)) ?_
   rintro v H3 ⟨c,rfl,hc,hd3,hr3,-⟩
   have hd13:=(hd1.same hd2).same hd3
   simp
   refine c_split (fun hq3=>?_) (fun hq3=>?_)<;>simp at hq3<;>simp
   ·have hw:IntKind.i64.wrap ((xs[m].size:Int)+1)=((xs[m].size+1:Nat):Int):=wrapN (by omega)
    rw [hw]
    refine cg_ex (pick_ok o _ ((xs[m].size+1:Nat):Int) H3 hr3 (by omega) (by omega)) ?_
    rintro v H4 ⟨e,rfl,he,hd4,hr4,-⟩
    have he2:e<=xs[m].size:=by omega
    simp [he2]
    exact⟨by omega,hd13.same hd4,hr4.mono (by omega)⟩
   ·refine c_split (fun hq4=>?_) (fun hq4=>?_)<;>simp at hq4<;>simp
    ·refine c_split (fun hq5=>?_) (fun hq5=>?_)<;>simp at hq5<;>simp
     ·have hl3:Strs (H3++[some ⟨[[.str ⟨#[97]⟩],[.str ⟨#[98]⟩],[.str ⟨#[100]⟩]],1,9,false⟩]) (.sl H3.length 0 3) [⟨#[97]⟩,⟨#[98]⟩,⟨#[100]⟩]:=Strs.at (e:=9) (ro:=false) (by simp [strRow]) rfl
      refine cg_ex (of_ok o _ _ _ _ (hr3.le (HLe.self _ _)) hl3 (by simp) (by simp) (by omega)) ?_
      rintro v H4 ⟨s,hs4,rfl,hd4,hr4,-⟩
      have hs1:s.size=1:=by
       simp at hs4
       rcases hs4 with h | h | h<;>rw [h]<;>rfl
      simp
      exact⟨by omega,by omega,(hd13.app _).same hd4,hr4.mono (by omega)⟩
     ·exact⟨hsz,hd13,hr3.mono (by omega)⟩
    ·exact⟨hsz,hd13,hr3.mono (by omega)⟩
theorem putP_mem {k x:ByteArray} {ks:List ByteArray} (h:x∈putP k ks):x=k\/x∈ks:=by
 unfold putP at h
 rcases List.mem_append.1 h with h | h
 ·exact .inr ((List.takeWhile_sublist _).subset h)
 ·split at h
  ·rcases List.mem_cons.1 h with h | h
   ·exact .inl h
   ·exact .inr ((List.dropWhile_sublist _).subset h)
  ·simp at h
theorem putK_mem {k x:ByteArray} {ks:List ByteArray} (h:x∈putK k ks):x=k\/x∈ks:=by
 by_cases hk:k∈ks
 ·rw [putK_in hk] at h
  exact .inr h
 ·rw [putK_out hk] at h
  rcases List.mem_append.1 h with h | h
  ·exact putP_mem h
  ·split at h
   ·simp at h
   ·exact .inl (by simpa using h)
theorem l71Keys_ok (o N:Nat) (most:Nat) (H:Hp) (hr:Rd H o N) (hm:most<1000) (hN:N<137438953472) :
  AC Tryz.prog E 126 [.pt o 0 0,.int .i64 most] H (fun v H'=>∃ ks,OwnS H H' v ks/\ks.length<=most/\(∀ s∈ks,s.size<=5)/\Dr o H H'/\Rd H' o (N+1+7 * most)):=by
 refine AC_by fol (tC_le tab2_ok) h_spec_l71Keys ?_
 have hw0:=wrapN (i:=most) (by omega)
 simp [c_spec_l71Keys,hw0]
 refine cg_ex (pick_ok o N ((most:Int)+1) _ (hr.le (HLe.self _ _)) (by omega) (by omega)) ?_
 rintro v H1 ⟨n,rfl,hn,hd,hr1,hlen⟩
 have hd0:Dr o H H1:=((HLe.self H _).dr o).same hd
 simp
 have hn1:n<=most:=by omega
 refine W_for (fun m t H'=>∃ ks v,m<=most/\t 0=.pt o 0 0/\t 5=v/\t 6=.int .i64 m/\OwnS H H' v ks/\ks.length+m<=most/\(∀ s∈ks,s.size<=5)/\Dr o H H'/\Rd H' o (N+1+7 * (most-m))) n ?_ (tC_mono AC_mono) ?_
 ·refine⟨[],_,hn1,by simp,by simp; rfl,by simp,?_,by simpa using hn1,by simp,hd0,hr1.mono (by omega)⟩
  exact OwnM.dr (hr.le (HLe.self _ _)) (OwnM.lit0 (HLe.refl H)) (by decide) hd
 rintro m t H' ⟨ks,v,hm5,h0,h5,h6,hv,hk,hs,hd,hr⟩
 simp [h0,h5,h6]
 refine c_split (fun hq=>?_) (fun hq=>?_)<;>simp at hq
 ·have hw:IntKind.i64.wrap ((m:Int)-1)=((m-1:Nat):Int):=by rw [wrap64 (by omega) (by omega)]; omega
  simp [h0,h5,h6]
  refine cg_ex (l71Near_ok o _ v ks H' hr hv.strs (by omega) hs (by omega)) ?_
  rintro _ H2 ⟨k,rfl,hk5,hd2,hr2⟩
  have hv2:=OwnM.dr hr hv (by decide) hd2
  simp [h0,h5,h6]
  refine cg_ex (l2Put_ok v k ks H2 hv2.strs (by omega)) ?_
  rintro v3 H3 ⟨hle3,hv3⟩
  have hsz:=putK_len k ks
  have hv3':OwnS H H3 v3 (putK k ks):=by
   rcases hv3 with ⟨rfl,e⟩ | h
   ·rw [e]
    exact hv2.le hle3
   ·exact h.base (Nat.le_trans hd.len hd2.len)
  simp [h0,h5,h6,hw]
  refine⟨m-1,by omega,by omega,rfl,putK k ks,hv3',by omega,fun s hs'=>?_,(hd.same hd2).le_fr hle3,(hr2.le hle3).mono (by omega)⟩
  rcases putK_mem hs' with rfl | h
  ·exact hk5
  ·exact hs s h
 ·have:m=0:=by omega
  subst this
  simp [h5]
  exact⟨ks,hv,by omega,hs,hd,hr.mono (by omega)⟩
theorem joinL_mem:∀ {xs ys:List Ent} {e:Ent},e∈joinL xs ys->e∈xs\/e∈ys
 | xs,[],e,h=>.inl h
 | xs,y :: ys,e,h=>by
  simp only [joinL] at h
  rcases List.mem_append.1 h with h | h
  ·exact .inl ((List.takeWhile_sublist _).subset h)
  ·rcases List.mem_cons.1 h with h | h
   ·exact .inr (by rw [h]; simp)
   ·rcases joinL_mem h with h | h
    ·exact .inl ((List.dropWhile_sublist _).subset h)
    ·exact .inr (List.mem_cons_of_mem _ h)
end Go.Proofs.YtepeokaplbbpoaaGreat.B

namespace Go.Proofs.YtepeokaplbbpoaaGreat.B
open Go.RowKit Go.Proofs
set_option linter.unusedVariables false
set_option linter.unusedSimpArgs false
variable {E:Env}
theorem Ty.bytes {H:Hp} {v:AV} (h:Ty H (.kl [.ki .u8]) v):∃ bs:List Int,Bytes H v bs/\bs.length<=140737488351232:=by
 obtain⟨rows,h1,h2,h3⟩:=h.sl
 obtain⟨xs,rfl,hq⟩:=rows_map (f:=byteRow) (Q:=fun n=>0<=n/\n<256) (fun r hr=>by
  obtain⟨v,us,rfl,a1,a2⟩:=(h3 r hr).cons
  obtain⟨n,rfl,hn⟩:=a1.u8
  rw [a2.nil]
  exact⟨n,rfl,hn⟩)
 exact⟨xs,⟨h1,hq⟩,by simpa using h2⟩
end Go.Proofs.YtepeokaplbbpoaaGreat.B

namespace Go.Proofs.YtepeokaplbbpoaaGreat.B
open Go.RowKit
set_option linter.unusedVariables false
set_option linter.unusedSimpArgs false
def seenB (times:List Int) (p:Option Ent) (e:Ent):Bool :=
 match p with
 | none=>true
 | some q=>!decide (q.key=e.key)||times.any fun t=>decide (e.time<=t)&&decide (t<q.time)
def trim1 (times:List Int):Option Ent->List Ent->List Ent
 | _,[]=>[]
 | p,e :: es=>if seenB times p e=true then e :: trim1 times (some e) es else trim1 times (some e) es
def lastB (e:Ent):List Ent->Bool
 | []=>true
 | f :: _=>!decide (f.key=e.key)
def drop1:List Ent->List Ent
 | []=>[]
 | e :: es=>if (!e.gone||!lastB e es)=true then e :: drop1 es else drop1 es
def newK (p:Option Ent) (e:Ent):Bool :=
 match p with
 | none=>true
 | some q=>!decide (q.key=e.key)
def trimR (r:List Ent) (times:List Int) (bottom:Bool):List Ent:=if bottom=true then drop1 (trim1 times none r) else trim1 times none r
def keys1:Option Ent->List Ent->List ByteArray
 | _,[]=>[]
 | p,e :: es=>if newK p e=true then e.key :: keys1 (some e) es else keys1 (some e) es
def keysR (r:List Ent):List ByteArray:=keys1 none r
def atR (k:ByteArray) (time:Int):List Ent->Option Ent
 | []=>none
 | e :: es=>if e.key=k/\e.time<=time then some e else atR k time es
def newE (below:List Ent) (time:Int) (e:Ent):Bool:=decide (e.time<=time)&&(match atR e.key 999 below with | none=>true | some f=>decide (f.time<e.time))
def newestR (below:List Ent) (time:Int):List Ent->Bool
 | []=>true
 | e :: es=>newE below time e&&newestR below time es
def asc1 (now:Int):Option Int->List Int->Bool
 | _,[]=>true
 | p,t :: ts=>decide (0<=t)&&decide (t<=now)&&(match p with | none=>true | some q=>decide (q<t))&&asc1 now (some t) ts
def timesR (ts:List Int) (now:Int):Bool:=asc1 now none ts&&decide (ts.length<=3)
structure Sv where
 l:ByteArray
 m:ByteArray
 f:ByteArray
 r:List ByteArray
 k:Int
deriving DecidableEq,Inhabited
def letter (k:ByteArray) (d:Nat):UInt8:=if h:d<k.size then k.data[d] else 45
def grp (d:Nat) (ks:List ByteArray):List ByteArray :=
 match ks with
 | []=>[]
 | k :: _=>ks.filter fun x=>letter x d==letter k d
theorem grp_pos (d:Nat) (k:ByteArray) (ks:List ByteArray):0<(grp d (k :: ks)).length:=by
 simp [grp]
def brs (d:Nat):List ByteArray->List (List ByteArray)
 | []=>[]
 | k :: ks=>grp d (k :: ks) :: brs d ((k :: ks).drop (grp d (k :: ks)).length)
termination_by ks=>ks.length
decreasing_by
 have:=grp_pos d k ks
 simp only [List.length_drop,List.length_cons]
 omega
def restK (k:ByteArray) (d:Nat) (keep:Int):ByteArray:=(k.extract d k.size).extract 0 (min (k.size-d) keep.toNat)
abbrev Fk:=List ByteArray × Nat
def many (g:List ByteArray):Bool:=decide (1<g.length)
def addB (d:Nat) (first:Bool) (s:Sv) (g:List ByteArray):Sv :=
 { s with
  l:=s.l++lit1 (letter (g.headD ⟨#[]⟩) d)
  f:=s.f++lit1 (if first=true then 49 else 48)
  m:=s.m++lit1 (if many g=true then 49 else 48)
  r:=if many g=true then s.r else s.r++[restK (g.headD ⟨#[]⟩) (d+1) s.k] }
def addBs (d:Nat):Bool->Sv->List (List ByteArray)->Sv
 | _,s,[]=>s
 | b,s,g :: gs=>addBs d false (addB d b s g) gs
def subs (d:Nat) (gs:List (List ByteArray)):List Fk:=(gs.filter many).map fun g=>(g,d+1)
def bfs:Nat->List Fk->Sv->Sv
 | 0,_,s=>s
 | _+1,[],s=>s
 | n+1,(ks,d) :: q,s=>bfs n (q++subs d (brs d ks)) (addBs d true s (brs d ks))
def sieveR (ks:List ByteArray) (keep:Int):Sv:=bfs 500 [(ks,0)] ⟨⟨#[]⟩,⟨#[]⟩,⟨#[]⟩,[],keep⟩
def sieveO (ks:List ByteArray) (keep:Int):Option Sv:=if keysOk ks=true/\0<=keep/\keep<=5 then some (sieveR ks keep) else none
structure Sr where
 top:List Ent
 lev:List (List Ent)
 sv:List Sv
 keep:Int
 time:Int
 tms:List Int
deriving DecidableEq,Inhabited
def sizeL (i:Nat):Nat:=8 * (i+1)
def levelOk (s:Sr) (i:Nat):Bool:=runOk (s.lev.getD i [])&&decide ((s.lev.getD i []).length<=sizeL i)&&decide (sieveO (keysR (s.lev.getD i [])) s.keep=some (s.sv.getD i default))
def lowOk (s:Sr) (i k:Nat):Bool:=newestR (s.lev.getD k []) s.time (s.lev.getD i [])
def okAt (s:Sr) (i:Nat):Prop:=levelOk s i=true/\newestR (s.lev.getD i []) s.time s.top=true/\∀ k,k<3->i<k->lowOk s i k=true
instance decOkAt (s:Sr) (i:Nat):Decidable (okAt s i):=by unfold okAt; infer_instance
def headOk (s:Sr):Bool:=decide (s.lev.length=3)&&decide (s.sv.length=3)&&decide (0<=s.keep/\s.keep<=5)&&decide (0<=s.time/\s.time<=999)&&timesR s.tms s.time
def storeOk (s:Sr):Bool:=headOk s&&(runOk s.top&&decide (s.top.length<=4))&&decide (okAt s 0/\okAt s 1/\okAt s 2)
def setR (s:Sr) (i:Nat) (r:List Ent):Option Sr :=
 match sieveO (keysR r) s.keep with
 | none=>none
 | some x=>if r.length<=sizeL i then some { s with lev:=s.lev.set i r,sv:=s.sv.set i x } else none
def intoR:Nat->Sr->List Ent->Option Sr
 | 0,s,r=>setR s 2 (trimR (joinL r (s.lev.getD 2 [])) s.tms true)
 | n+1,s,r =>
  match setR s (1-n) (trimR (joinL r (s.lev.getD (1-n) [])) s.tms false) with
  | some x=>some x
  | none=>match intoR n s (s.lev.getD (1-n) []) with
   | none=>none
   | some x=>setR x (1-n) (trimR r x.tms false)
def downR (s:Sr):Option Sr:=intoR 2 { s with top:=[] } s.top
def addR (s:Sr) (e:Ent):Option Sr :=
 if (storeOk s&&entOk e)=true then
  match (if 4<=s.top.length then downR s else some s) with
  | none=>none
  | some x=>some { x with top:=joinL [e] x.top,time:=e.time }
 else none
def putR (s:Sr) (k:ByteArray) (v:Int):Option Sr:=addR s ⟨k,v,false,s.time+1⟩
def takeR (s:Sr) (k:ByteArray):Option Sr:=addR s ⟨k,0,true,s.time+1⟩
def holdR (s:Sr):Option Sr :=
 if storeOk s=true then
  let ts:=if s.tms.getLast?=some s.time then s.tms else s.tms++[s.time]
  if timesR ts s.time=true then some { s with tms:=ts } else none
 else none
def freeR (s:Sr) (t:Int):Option Sr :=
 if storeOk s=true then
  let ts:=s.tms.filter fun x=>!decide (x=t)
  if ts.length=s.tms.length then none else some { s with tms:=ts }
 else none
def letR (s:Sr):Option Sr:=if storeOk s=true then downR s else none
def joinR (s:Sr) (l:Int):Option Sr :=
 if storeOk s=true/\0<=l/\l<=1 then
  match setR s l.toNat [] with
  | none=>none
  | some x=>intoR (1-l.toNat) x (s.lev.getD l.toNat [])
 else none
structure Dd where
 kind:Int
 key:ByteArray
 num:Int
deriving DecidableEq,Inhabited
def ddAV (d:Dd):AV:=.ag [.int .i64 d.kind,.str d.key,.int .i64 d.num]
def doR (s:Sr) (d:Dd):Option Sr :=
 if d.kind=1 then putR s d.key d.num else if d.kind=2 then takeR s d.key else if d.kind=3 then holdR s else if d.kind=4 then freeR s d.num
 else if d.kind=5 then letR s else if d.kind=6 then joinR s d.num else none
def doAll (s:Sr) (ds:List Dd):Sr:=ds.foldl (fun s d=>(doR s d).getD s) s
def pastR (s:Sr) (ds:List Dd):Option Sr:=if (storeOk s&&decide (ds.length<=40))=true then some (doAll s ds) else none
def newR (keep:Int):Option Sr:=if 0<=keep/\keep<=5 then some ⟨[],[[],[],[]],List.replicate 3 ⟨⟨#[]⟩,⟨#[]⟩,⟨#[]⟩,[],keep⟩,keep,0,[]⟩ else none
end Go.Proofs.YtepeokaplbbpoaaGreat.B

namespace Go.Proofs.YtepeokaplbbpoaaGreat.B
open Go.RowKit
set_option linter.unusedVariables false
set_option linter.unusedSimpArgs false
theorem ahead_iff (a b:Ent):ahead a b=true↔sless a.key b.key=true\/(a.key=b.key/\b.time<a.time):=by
 simp [ahead]
theorem ahead_asymm {a b:Ent} (h:ahead a b=true):ahead b a=false:=by
 cases hb:ahead b a with
 | false=>rfl
 | true =>
  rw [ahead_iff] at h hb
  rcases h with h | ⟨h1,h2⟩
  ·have:=sless_asymm h
   rcases hb with hb | ⟨hb1,_⟩
   ·rw [hb] at this; cases this
   ·rw [hb1,sless_irrefl] at h; cases h
  ·rcases hb with hb | ⟨hb1,hb2⟩
   ·rw [h1,sless_irrefl] at hb; cases hb
   ·omega
theorem ahead_trans {a b c:Ent} (h:ahead a b=true) (k:ahead b c=true):ahead a c=true:=by
 rw [ahead_iff] at h k ⊢
 rcases h with h | ⟨h1,h2⟩
 ·rcases k with k | ⟨k1,k2⟩
  ·exact .inl (sless_trans h k)
  ·exact .inl (by rw [<- k1]; exact h)
 ·rcases k with k | ⟨k1,k2⟩
  ·exact .inl (by rw [h1]; exact k)
  ·exact .inr ⟨h1.trans k1,by omega⟩
theorem ahead_total (a b:Ent):ahead a b=true\/(a.key=b.key/\a.time=b.time)\/ahead b a=true:=by
 rw [ahead_iff,ahead_iff]
 rcases sless_total a.key b.key with h | h | h
 ·exact .inl (.inl h)
 ·rcases Int.lt_trichotomy a.time b.time with g | g | g
  ·exact .inr (.inr (.inr ⟨h.symm,g⟩))
  ·exact .inr (.inl ⟨h,g⟩)
  ·exact .inl (.inr ⟨h,g⟩)
 ·exact .inr (.inr (.inl h))
def Le (a b:Ent):Prop:=ahead b a=false
theorem Le.of {a b:Ent} (h:ahead a b=true):Le a b:=ahead_asymm h
theorem Le.refl (a:Ent):Le a a:=by
 cases h:ahead a a with
 | false=>exact h
 | true=>exact ahead_asymm h
theorem Le.trans {a b c:Ent} (h:Le a b) (k:Le b c):Le a c:=by
 cases hc:ahead c a with
 | false=>exact hc
 | true =>
  rcases ahead_total a b with g | g | g
  ·have:=ahead_trans hc g
   rw [k] at this; cases this
  ·have:ahead c b=true:=by
    rw [ahead_iff] at hc ⊢
    rw [<- g.1,<- g.2]
    exact hc
   rw [k] at this; cases this
  ·rw [h] at g; cases g
theorem Le.of_not {a b:Ent} (h:¬ahead b a=true):Le a b:=by
 cases hc:ahead b a with
 | false=>exact hc
 | true=>exact absurd hc h
theorem ahead_le {a b c:Ent} (h:ahead a b=true) (k:Le b c):ahead a c=true:=by
 rcases ahead_total a c with g | g | g
 ·exact g
 ·have:ahead c b=true:=by
   rw [ahead_iff] at h ⊢
   rw [<- g.1,<- g.2]
   exact h
  rw [k] at this; cases this
 ·have:=ahead_trans g h
  rw [k] at this; cases this
theorem le_ahead {a b c:Ent} (h:Le a b) (k:ahead b c=true):ahead a c=true:=by
 rcases ahead_total a c with g | g | g
 ·exact g
 ·have:ahead b a=true:=by
   rw [ahead_iff] at k ⊢
   rw [g.1,g.2]
   exact k
  rw [h] at this; cases this
 ·have:=ahead_trans k g
  rw [h] at this; cases this
abbrev Srt (l:List Ent):Prop:=l.Pairwise Le
theorem Srt.app {a b:List Ent} (h:Srt a) (k:Srt b) (hk:∀ x∈a,∀ y∈b,Le x y):Srt (a++b):=List.pairwise_append.2 ⟨h,k,hk⟩
theorem Srt.left {a b:List Ent} (h:Srt (a++b)):Srt a:=(List.pairwise_append.1 h).1
theorem Srt.right {a b:List Ent} (h:Srt (a++b)):Srt b:=(List.pairwise_append.1 h).2.1
theorem Srt.cross {a b:List Ent} (h:Srt (a++b)):∀ x∈a,∀ y∈b,Le x y:=(List.pairwise_append.1 h).2.2
theorem sorted_one:∀ {xs ys:List Ent},xs.Pairwise (fun a b=>ahead a b=true)->Srt ys->xs.Perm ys->xs=ys
 | [],ys,_,_,hp=>(List.nil_perm.1 hp).symm
 | x :: xs,[],_,_,hp=>by have:=hp.length_eq; simp at this
 | x :: xs,y :: ys,hx,hy,hp=>by
  have hxy:x=y:=by
   have hm:x∈y :: ys:=hp.subset (by simp)
   have hm2:y∈x :: xs:=hp.symm.subset (by simp)
   rcases List.mem_cons.1 hm with h | h
   ·exact h
   ·rcases List.mem_cons.1 hm2 with k | k
    ·exact k.symm
    ·have h1:=(List.pairwise_cons.1 hx).1 y k
     have h2:Le y x:=(List.pairwise_cons.1 hy).1 x h
     rw [show ahead x y=false from h2] at h1
     cases h1
  subst hxy
  rw [sorted_one (List.pairwise_cons.1 hx).2 (List.pairwise_cons.1 hy).2 ((List.perm_cons x).1 hp)]
theorem chain_pair:∀ {l:List Ent},(∀ i:Nat,∀ h:i<l.length,∀ h0:0<i,ahead l[i-1] l[i]=true)->l.Pairwise (fun a b=>ahead a b=true)
 | [],_=>List.Pairwise.nil
 | x :: xs,h=>by
  have ih:xs.Pairwise (fun a b=>ahead a b=true):=chain_pair (fun i hi h0=>by
   have:=h (i+1) (by simp; omega) (by omega)
   have e:(x :: xs)[i+1-1]'(by simp; omega)=xs[i-1]:=by
    have:i=(i-1)+1:=by omega
    simp only [Nat.add_sub_cancel]
    rw [List.getElem_cons,dif_neg (by omega)]
   rw [e] at this
   simpa using this)
  refine List.pairwise_cons.2 ⟨fun y hy=>?_,ih⟩
  cases xs with
  | nil=>cases hy
  | cons z zs =>
   have hz:ahead x z=true:=h 1 (by simp) (by omega)
   rcases List.mem_cons.1 hy with rfl | hy
   ·exact hz
   ·exact ahead_trans hz ((List.pairwise_cons.1 ih).1 y hy)
theorem runOk_pair {r:List Ent} (h:runOk r=true):r.Pairwise (fun a b=>ahead a b=true)/\(∀ e∈r,entOk e=true)/\r.length<=40:=by
 simp only [runOk,decide_eq_true_eq] at h
 refine⟨chain_pair (fun i hi h0=>(h.1 i hi).2 h0),fun e he=>?_,h.2⟩
 obtain⟨i,hi,rfl⟩:=List.mem_iff_getElem.1 he
 exact (h.1 i hi).1
theorem runOk_of {r:List Ent} (h1:r.Pairwise (fun a b=>ahead a b=true)) (h2:∀ e∈r,entOk e=true) (h3:r.length<=40):runOk r=true:=by
 simp only [runOk,decide_eq_true_eq]
 exact⟨fun i hi=>⟨h2 _ (List.getElem_mem hi),fun h0=>List.pairwise_iff_getElem.1 h1 (i-1) i (by omega) hi (by omega)⟩,h3⟩
theorem strict_srt {r:List Ent} (h:r.Pairwise (fun a b=>ahead a b=true)):Srt r:=h.imp (fun h=>Le.of h)
theorem runOk_srt {r:List Ent} (h:runOk r=true):Srt r:=strict_srt (runOk_pair h).1
theorem joinL_perm:∀ (ys xs:List Ent),(joinL xs ys).Perm (xs++ys)
 | [],xs=>by rw [joinL,List.append_nil]
 | y :: ys,xs=>by
  rw [joinL]
  have ih:=joinL_perm ys (xs.dropWhile (fun a=>ahead a y))
  have e:xs=xs.takeWhile (fun a=>ahead a y)++xs.dropWhile (fun a=>ahead a y):=List.takeWhile_append_dropWhile.symm
  have h1:(xs.takeWhile (fun a=>ahead a y)++y :: joinL (xs.dropWhile (fun a=>ahead a y)) ys).Perm (xs.takeWhile (fun a=>ahead a y)++(y :: (xs.dropWhile (fun a=>ahead a y)++ys))):=(List.Perm.cons y ih).append_left _
  refine h1.trans ?_
  have h2:(y :: (xs.dropWhile (fun a=>ahead a y)++ys)).Perm (xs.dropWhile (fun a=>ahead a y)++y :: ys):=List.perm_middle.symm
  refine (h2.append_left _).trans ?_
  rw [<- List.append_assoc,<- e]
theorem takeWhile_all {p:Ent->Bool}:∀ {l:List Ent} {x:Ent},x∈l.takeWhile p->p x=true
 | [],x,h=>by cases h
 | a :: l,x,h=>by
  rw [List.takeWhile_cons] at h
  split at h
  ·rcases List.mem_cons.1 h with rfl | h
   ·assumption
   ·exact takeWhile_all h
  ·cases h
theorem dropWhile_ge {y:Ent}:∀ {l:List Ent},Srt l->∀ x∈l.dropWhile (fun a=>ahead a y),Le y x
 | [],_,x,h=>by cases h
 | a :: l,hs,x,h=>by
  rw [List.dropWhile_cons] at h
  split at h
  ·exact dropWhile_ge (List.pairwise_cons.1 hs).2 x h
  ·rename_i hp
   rcases List.mem_cons.1 h with rfl | h
   ·exact Le.of_not hp
   ·exact (Le.of_not hp).trans ((List.pairwise_cons.1 hs).1 x h)
theorem joinL_srt:∀ {ys xs:List Ent},Srt xs->Srt ys->Srt (joinL xs ys)
 | [],xs,hx,_=>by rw [joinL]; exact hx
 | y :: ys,xs,hx,hy=>by
  rw [joinL]
  have e:xs=xs.takeWhile (fun a=>ahead a y)++xs.dropWhile (fun a=>ahead a y):=List.takeWhile_append_dropWhile.symm
  have hx':=hx
  rw [e] at hx'
  have hy1:=List.pairwise_cons.1 hy
  have ih:=joinL_srt (xs:=xs.dropWhile (fun a=>ahead a y)) hx'.right hy1.2
  have hge:∀ z∈joinL (xs.dropWhile (fun a=>ahead a y)) ys,Le y z:=fun z hz=>by
   rcases joinL_mem hz with h | h
   ·exact dropWhile_ge hx z h
   ·exact hy1.1 z h
  refine hx'.left.app (List.pairwise_cons.2 ⟨hge,ih⟩) (fun a ha z hz=>?_)
  have hay:Le a y:=Le.of (takeWhile_all (p:=fun a=>ahead a y) ha)
  rcases List.mem_cons.1 hz with rfl | hz
  ·exact hay
  ·exact hay.trans (hge z hz)
theorem sorted_join {a b s:List Ent} (ha:runOk a=true) (hb:runOk b=true) (hs:Srt s) (hp:s.Perm (a++b)):runOk s=runOk (joinL a b)/\(runOk s=true->s=joinL a b):=by
 have hj:=joinL_srt (runOk_srt ha) (runOk_srt hb)
 have hjp:=joinL_perm b a
 have key:∀ {x y:List Ent},runOk x=true->Srt y->x.Perm (a++b)->y.Perm (a++b)->x=y:=fun h1 h2 h3 h4=>sorted_one (runOk_pair h1).1 h2 (h3.trans h4.symm)
 constructor
 ·rw [Bool.eq_iff_iff]
  constructor
  ·intro h
   rw [<- key h hj hp hjp]
   exact h
  ·intro h
   rw [<- key h hs hjp hp]
   exact h
 ·intro h
  exact key h hj hp hjp
theorem ins_srt {s:List Ent} (hs:Srt s) {x:Ent} {k:Nat} (h1:∀ y∈s.drop k,ahead x y=true) (h2:∀ h:0<k/\k<=s.length,ahead x (s[k-1]'(by omega))=false) (hk:k<=s.length):Srt (s.take k++x :: s.drop k):=by
 have e:s=s.take k++s.drop k:=(List.take_append_drop k s).symm
 have hs':=hs
 rw [e] at hs'
 refine hs'.left.app (List.pairwise_cons.2 ⟨fun y hy=>Le.of (h1 y hy),hs'.right⟩) (fun a ha z hz=>?_)
 have hax:Le a x:=by
  rcases Nat.eq_zero_or_pos k with h0 | h0
  ·subst h0
   simp at ha
  ·have hl:Le (s[k-1]'(by omega)) x:=h2 ⟨h0,hk⟩
   obtain⟨i,hi,rfl⟩:=List.mem_iff_getElem.1 ha
   rw [List.length_take] at hi
   rw [List.getElem_take]
   rcases Nat.lt_or_ge i (k-1) with h | h
   ·exact (List.pairwise_iff_getElem.1 hs i (k-1) (by omega) (by omega) h).trans hl
   ·have:i=k-1:=by omega
    subst this
    exact hl
 rcases List.mem_cons.1 hz with rfl | hz
 ·exact hax
 ·exact hax.trans (Le.of (h1 z hz))
theorem ins_perm (s:List Ent) (x:Ent) (k:Nat):(s.take k++x :: s.drop k).Perm (s++[x]):=by
 refine List.perm_middle.trans ?_
 rw [List.take_append_drop]
 exact (List.perm_append_singleton x s).symm
theorem merge_step {l1 l2 r1 r2 a b:List Ent} (hl:Srt (l1++l2)) (hr:Srt (r1++r2)) (h12:∀ x∈l1,∀ y∈r2,Le x y) (h21:∀ x∈r1,∀ y∈l2,Le x y)
  (ha:Srt a) (hb:Srt b) (pa:a.Perm (l1++r1)) (pb:b.Perm (l2++r2)):Srt (a++b)/\(a++b).Perm ((l1++l2)++(r1++r2)):=by
 refine⟨ha.app hb (fun x hx y hy=>?_),?_⟩
 ·rcases List.mem_append.1 (pa.subset hx) with h | h
  ·rcases List.mem_append.1 (pb.subset hy) with k | k
   ·exact hl.cross x h y k
   ·exact h12 x h y k
  ·rcases List.mem_append.1 (pb.subset hy) with k | k
   ·exact h21 x h y k
   ·exact hr.cross x h y k
 ·refine (pa.append pb).trans ?_
  rw [List.append_assoc,List.append_assoc]
  refine List.Perm.append_left l1 ?_
  rw [<- List.append_assoc,<- List.append_assoc]
  exact List.perm_append_comm.append_right r2
end Go.Proofs.YtepeokaplbbpoaaGreat.B

namespace Go.Proofs.YtepeokaplbbpoaaGreat.B
open Go.RowKit Go.Proofs
set_option linter.unusedVariables false
set_option linter.unusedSimpArgs false
variable {E:Env}
def intRow (n:Int):List AV:=[.int .i64 n]
def Ints (H:Hp) (v:AV) (xs:List Int):Prop:=Rows 1 H v (xs.map intRow)
theorem Ints.le {H H':Hp} {v:AV} {xs:List Int} (h:Ints H v xs) (hle:HLe H H'):Ints H' v xs:=Rows.le h hle
theorem Ints.len {H:Hp} {v:AV} {xs:List Int} (h:Ints H v xs):lenV v=.int .i64 xs.length:=by simpa using Rows.len h
theorem Ints.slc {H:Hp} {v:AV} {xs:List Int} (h:Ints H v xs):slC v:=Rows.slc h
theorem Ints.get {H:Hp} {v:AV} {xs:List Int} (h:Ints H v xs) {j:Nat} (hj:j<xs.length):∃ o i ob,v=.sl o i xs.length/\H.at o=some ob/\ob.esz=1/\ob.rows[i+j]?=some [.int .i64 xs[j]]:=by
 obtain⟨o,i,ob,h1,h2,h3,h4⟩:=Rows.get h (j:=j) (by simpa using hj)
 exact⟨o,i,ob,by simpa using h1,h2,h3,by simpa [intRow] using h4⟩
abbrev OwnI:=OwnM (α:=Int) 1 3 intRow
theorem OwnM.ints {ety:Nat} {H0 H:Hp} {v:AV} {xs:List Int} (h:OwnM 1 ety intRow H0 H v xs):Ints H v xs:=h.1.rows
def prev {α:Type} (r:List α) (i:Nat):Option α:=if i=0 then none else r[i-1]?
theorem prev_succ {α:Type} {r:List α} {i:Nat} (h:i<r.length):prev r (i+1)=some r[i]:=by simp [prev,h]
theorem prev_pos {α:Type} {r:List α} {i:Nat} (h0:0<i) (h:i<=r.length):prev r i=some (r[i-1]'(by omega)):=by
 have hlt:i-1<r.length:=by omega
 simp [prev,show ¬i=0 by omega,hlt]
theorem wrapP {i:Nat} (h0:0<i) (h:i<9223372036854775807):IntKind.i64.wrap ((i:Int)-1)=((i-1:Nat):Int):=by rw [wrap64 (by omega) (by omega)]; omega
theorem l11Seen_ok (a b:AV) (r:List Ent) (ts:List Int) (i:Nat) (H:Hp) (ha:Ents H a r) (hb:Ints H b ts) (hi:i<r.length) (hn:r.length<1099511627776) (ht:ts.length<1099511627776) :
  AC Tryz.prog E 156 [a,.int .i64 i,b] H (fun v H'=>v=.bool (seenB ts (prev r i) r[i])/\H'=H):=by
 refine AC_byp (tC_le tab2_ok) h_spec_l11Seen (by simp) ?_
 have l2:=hb.len
 rcases Nat.eq_zero_or_pos i with rfl | hp
 ·simp [c_spec_l11Seen,prev,seenB]
 ·have hlt:i-1<r.length:=by omega
  have hw:=wrapP hp (by omega)
  obtain⟨o,i0,ob,rfl,a1,a2,a3⟩:=ha.get hi
  obtain⟨o2,i2,ob2,e2,b1,b2,b3⟩:=ha.get hlt
  cases e2
  rw [a1] at b1
  cases b1
  have hi0:¬i=0:=by omega
  rw [prev_pos hp (by omega)]
  simp [c_spec_l11Seen,hi0,hi,hlt,hw,a1,a2,a3,b3]
  refine c_split (fun hq=>?_) (fun hq=>?_)<;>simp at hq<;>simp [seenB,hq]
  refine W_for (fun m t H'=>∃ j:Nat,j+m=ts.length/\t 0=.sl o i0 r.length/\t 1=.int .i64 i/\t 2=b/\t 7=.int .i64 j/\((ts.drop j).any fun t=>decide (r[i].time<=t)&&decide (t<r[i-1].time))=(ts.any fun t=>decide (r[i].time<=t)&&decide (t<r[i-1].time))/\H'=H) ts.length ?_ (tC_mono AC_mono) ?_
  ·exact⟨0,by simp⟩
  rintro m t H' ⟨j,hjm,h0,h1,h2,h7,hI,rfl⟩
  simp [h0,h1,h2,h7,l2,hb.slc]
  refine c_split (fun hq2=>?_) (fun hq2=>?_)<;>simp at hq2
  ·obtain⟨o3,i3,ob3,rfl,c1,c2,c3⟩:=hb.get hq2
   have hw2:=wrapN (i:=j) (by omega)
   rw [List.drop_eq_getElem_cons hq2,List.any_cons] at hI
   simp [h0,h1,h2,h7,hi,hlt,hw,a1,a2,a3,b3,c1,c2,c3,hq2]
   refine g_split (fun hq3=>?_) (fun hq3=>?_) (by simp)<;>simp at hq3<;>simp [h0,h1,h2,h7,hi,hlt,hw,a1,a2,a3,b3,c1,c2,c3,hq2,hw2]
   ·refine c_split (fun hq4=>?_) (fun hq4=>?_)<;>simp at hq4<;>simp [h0,h1,h2,h7,hw2]
    ·exact⟨ts[j],List.getElem_mem hq2,hq3,hq4⟩
    ·refine⟨m-1,by omega,j+1,by omega,by omega,?_⟩
     rw [<- hI]
     simp [show ¬ts[j]<r[i-1].time by omega]
   ·refine⟨m-1,by omega,j+1,by omega,by omega,?_⟩
    rw [<- hI]
    simp [show ¬r[i].time<=ts[j] by omega]
  ·have:j=ts.length:=by omega
   subst this
   simp at hI
   simp
   exact hI
theorem trim1_len (ts:List Int):∀ (p:Option Ent) (r:List Ent),(trim1 ts p r).length<=r.length
 | _,[]=>by simp [trim1]
 | p,e :: es=>by
  have:=trim1_len ts (some e) es
  simp only [trim1]
  split<;>simp<;>omega
theorem drop1_len:∀ (r:List Ent),(drop1 r).length<=r.length
 | []=>by simp [drop1]
 | e :: es=>by
  have:=drop1_len es
  simp only [drop1]
  split<;>simp<;>omega
theorem trimR_len (r:List Ent) (ts:List Int) (b:Bool):(trimR r ts b).length<=r.length:=by
 unfold trimR
 have:=trim1_len ts none r
 have:=drop1_len (trim1 ts none r)
 split<;>omega
theorem trim1_sub (ts:List Int):∀ (p:Option Ent) (r:List Ent),(trim1 ts p r).Sublist r
 | _,[]=>by simp [trim1]
 | p,e :: es=>by
  simp only [trim1]
  split
  ·exact (trim1_sub ts (some e) es).cons_cons e
  ·exact (trim1_sub ts (some e) es).cons e
theorem drop1_sub:∀ (r:List Ent),(drop1 r).Sublist r
 | []=>by simp [drop1]
 | e :: es=>by
  simp only [drop1]
  split
  ·exact (drop1_sub es).cons_cons e
  ·exact (drop1_sub es).cons e
theorem trimR_sub (r:List Ent) (ts:List Int) (b:Bool):(trimR r ts b).Sublist r:=by
 unfold trimR
 split
 ·exact (drop1_sub _).trans (trim1_sub _ _ _)
 ·exact trim1_sub _ _ _
theorem l11Trim_ok (a b:AV) (r:List Ent) (ts:List Int) (bot:Bool) (H:Hp) (ha:Ents H a r) (hb:Ints H b ts) (hn:r.length<1099511627776) (ht:ts.length<1099511627776) :
  AC Tryz.prog E 112 [a,b,.bool bot] H (fun v H'=>HLe H H'/\OwnE H H' v (trimR r ts bot)):=by
 refine AC_by fol (tC_le tab2_ok) h_spec_l11Trim ?_
 have l1:=ha.len
 simp [c_spec_l11Trim]
 refine W_for (fun m t H'=>∃ i out v,i+m=r.length/\t 0=a/\t 1=b/\t 2=.bool bot/\t 7=v/\t 8=.int .i64 (i:Nat)/\HLe H H'/\OwnE H H' v out/\out++trim1 ts (prev r i) (r.drop i)=trim1 ts none r) r.length ?_ (tC_mono AC_mono) ?_
 ·exact⟨0,[],_,by simp,by simp,by simp,by simp,rfl,by simp,HLe.self _ _,OwnM.lit0 (HLe.refl _),by simp [prev]⟩
 rintro m t H' ⟨i,out,v,him,h0,h1,h2,h7,h8,hle,hv,hI⟩
 simp [h0,h1,h2,h7,h8,l1,ha.slc]
 refine c_split (fun hq=>?_) (fun hq=>?_)<;>simp at hq
 ·have hw:=wrapN (i:=i) (by omega)
  have hol:out.length<=r.length:=by
   have:=congrArg List.length hI
   simp only [List.length_append] at this
   have:=trim1_len ts none r
   omega
  simp [h0,h1,h2,h7,h8]
  refine cg_use (l11Seen_ok a b r ts i H' (ha.le hle) (hb.le hle) hq hn ht) ?_
  obtain⟨o,i0,ob,rfl,aH,a2,a3⟩:=ha.get hq
  have a1:=hle.2 _ _ aH
  rw [List.drop_eq_getElem_cons hq] at hI
  simp only [trim1] at hI
  simp
  refine c_split (fun hq3=>?_) (fun hq3=>?_)
  ·rw [if_pos hq3] at hI
   simp [h0,h1,h2,h7,h8,hq,a1,a2,a3]
   refine appG_add hv hle (by omega) (show _=entRow r[i] from rfl) (fun v3 H3 g1 g2 g3 g4=>?_)
   simp [h0,h1,h2,h7,h8,hw]
   exact⟨m-1,by omega,i+1,by omega,by omega,g1,out++[r[i]],g2,by rw [prev_succ hq]; simpa using hI⟩
  ·rw [if_neg (by rw [hq3]; simp)] at hI
   simp [h0,h1,h2,h7,h8,hw]
   exact⟨m-1,by omega,i+1,by omega,by omega,hle,out,hv,by rw [prev_succ hq]; exact hI⟩
 ·have:i=r.length:=by omega
  subst this
  rw [List.drop_length] at hI
  simp only [trim1,List.append_nil] at hI
  subst hI
  simp [h0,h1,h2,h7,h8]
  cases bot with
  | false =>
   simp [h7]
   exact⟨hle,by simpa [trimR] using hv⟩
  | true =>
   have hx:=trim1_len ts none r
   have l7:=hv.len
   simp
   refine W_for (fun m t H2=>∃ j out v9,j+m=(trim1 ts none r).length/\t 7=v/\t 9=v9/\t 10=.int .i64 (j:Nat)/\HLe H' H2/\OwnE H' H2 v9 out/\out++drop1 ((trim1 ts none r).drop j)=drop1 (trim1 ts none r)) (trim1 ts none r).length ?_ (tC_mono AC_mono) ?_
   ·exact⟨0,[],_,by simp,by simp [h7],rfl,by simp,HLe.self _ _,OwnM.lit0 (HLe.refl _),by simp⟩
   generalize hx0:trim1 ts none r=x at hx hv l7
   rintro m t H2 ⟨j,out,v9,hjm,h7,h9,h10,hle2,hv9,hI⟩
   simp [h7,h9,h10,l7,hv.slc]
   refine c_split (fun hq=>?_) (fun hq=>?_)<;>simp at hq
   ·have hw:=wrapN (i:=j) (by omega)
    have hol:out.length<=x.length:=by
     have:=congrArg List.length hI
     simp only [List.length_append] at this
     have:=drop1_len x
     omega
    obtain⟨o,i0,ob,rfl,aH,a2,a3⟩:=hv.ents.get hq
    have a1:=hle2.2 _ _ aH
    rw [List.drop_eq_getElem_cons hq] at hI
    simp only [drop1] at hI
    by_cases hlast:j+1<x.length
    ·have hw2:=wrapN (i:=j) (by omega)
     obtain⟨o',i0',ob',e2,bH,b2,b3⟩:=hv.ents.get hlast
     cases e2
     rw [aH] at bH
     cases bH
     have hlb:lastB x[j] (x.drop (j+1))=!decide (x[j+1].key=x[j].key):=by
      rw [List.drop_eq_getElem_cons hlast]
      rfl
     have hnl:¬((x.length:Int)<=(j:Int)+1):=by omega
     have b3':ob.rows[i0+j+1]?=some [.str x[j+1].key,.int .i64 x[j+1].val,.bool x[j+1].gone,.int .i64 x[j+1].time]:=b3
     have hlast':(j:Int)+1<x.length:=by omega
     have hj0:(0:Int)<=(j:Int)+1:=by omega
     have ht1:((j:Int)+1).toNat=j+1:=by omega
     rw [hlb] at hI
     have keep:(!x[j].gone||!!decide (x[j+1].key=x[j].key))=true->out++[x[j]]++drop1 (x.drop (j+1))=drop1 x:=by
      intro h
      rw [if_pos h] at hI
      simpa using hI
     have lose:¬(!x[j].gone||!!decide (x[j+1].key=x[j].key))=true->out++drop1 (x.drop (j+1))=drop1 x:=by
      intro h
      rw [if_neg h] at hI
      exact hI
     cases hg:x[j].gone with
     | false =>
      simp [h7,h9,h10,hw,hnl,hlast',hj0,ht1,hq,a1,a2,a3,b3,hg]
      refine appG_add (y:=x[j]) hv9 hle2 (by omega) (by simp [entRow,hg]) (fun v3 H3 g1 g2 g3 g4=>?_)
      simp [h7,h9,h10,hw]
      exact⟨m-1,by omega,j+1,by omega,by omega,g1,out++[x[j]],g2,keep (by simp [hg])⟩
     | true =>
      by_cases hk:x[j+1].key=x[j].key
      ·simp [h7,h9,h10,hw,hnl,hlast',hj0,ht1,hq,a1,a2,a3,b3,hg,hk]
       refine appG_add (y:=x[j]) hv9 hle2 (by omega) (by simp [entRow,hg]) (fun v3 H3 g1 g2 g3 g4=>?_)
       simp [h7,h9,h10,hw]
       exact⟨m-1,by omega,j+1,by omega,by omega,g1,out++[x[j]],g2,keep (by simp [hk])⟩
      ·simp [h7,h9,h10,hw,hnl,hlast',hj0,ht1,hq,a1,a2,a3,b3,hg,hk]
       exact⟨m-1,by omega,j+1,by omega,by omega,hle2,out,hv9,lose (by simp [hg,hk])⟩
    ·have hnl:((x.length:Int)<=(j:Int)+1):=by omega
     have hlb:lastB x[j] (x.drop (j+1))=true:=by
      rw [List.drop_of_length_le (by omega)]
      rfl
     rw [hlb] at hI
     cases hg:x[j].gone with
     | false =>
      rw [if_pos (by simp [hg])] at hI
      simp [h7,h9,h10,hw,hnl,hq,a1,a2,a3,hg]
      refine appG_add (y:=x[j]) hv9 hle2 (by omega) (by simp [entRow,hg]) (fun v3 H3 g1 g2 g3 g4=>?_)
      simp [h7,h9,h10,hw]
      exact⟨m-1,by omega,j+1,by omega,by omega,g1,out++[x[j]],g2,by simpa using hI⟩
     | true =>
      rw [if_neg (by simp [hg])] at hI
      simp [h7,h9,h10,hw,hnl,hq,a1,a2,a3,hg]
      exact⟨m-1,by omega,j+1,by omega,by omega,hle2,out,hv9,hI⟩
   ·have:j=x.length:=by omega
    subst this
    rw [List.drop_length] at hI
    simp only [drop1,List.append_nil] at hI
    subst hI
    simp [h9]
    exact⟨hle.trans hle2,by simpa [trimR,hx0] using hv9.base hle.1⟩
end Go.Proofs.YtepeokaplbbpoaaGreat.B

namespace Go.Proofs.YtepeokaplbbpoaaGreat.B
open Go.RowKit Go.Proofs
set_option linter.unusedVariables false
set_option linter.unusedSimpArgs false
variable {E:Env}
theorem wrap1:IntKind.i64.wrap 1=1:=wrap64 (by omega) (by omega)
theorem keys1_len:∀ (p:Option Ent) (r:List Ent),(keys1 p r).length<=r.length
 | _,[]=>by simp [keys1]
 | p,e :: es=>by
  have:=keys1_len (some e) es
  simp only [keys1]
  split<;>simp<;>omega
theorem keys1_mem:∀ (p:Option Ent) (r:List Ent) (k:ByteArray),k∈keys1 p r->∃ e∈r,e.key=k
 | _,[],k,h=>by simp [keys1] at h
 | p,e :: es,k,h=>by
  simp only [keys1] at h
  split at h
  ·rcases List.mem_cons.1 h with h | h
   ·exact⟨e,by simp,h.symm⟩
   ·obtain⟨x,h1,h2⟩:=keys1_mem (some e) es k h
    exact⟨x,List.mem_cons_of_mem _ h1,h2⟩
  ·obtain⟨x,h1,h2⟩:=keys1_mem (some e) es k h
   exact⟨x,List.mem_cons_of_mem _ h1,h2⟩
theorem l11Keys_ok (a:AV) (r:List Ent) (H:Hp) (ha:Ents H a r) (hn:r.length<1099511627776) :
  AC Tryz.prog E 95 [a] H (fun v H'=>HLe H H'/\OwnS H H' v (keysR r)):=by
 refine AC_by fol (tC_le tab2_ok) h_spec_l11Keys ?_
 have l1:=ha.len
 simp [c_spec_l11Keys]
 refine W_for (fun m t H'=>∃ i out v,i+m=r.length/\t 0=a/\t 3=v/\t 4=.int .i64 (i:Nat)/\HLe H H'/\OwnS H H' v out/\out++keys1 (prev r i) (r.drop i)=keysR r) r.length ?_ (tC_mono AC_mono) ?_
 ·exact⟨0,[],_,by simp,by simp,rfl,by simp,HLe.self _ _,OwnM.lit0 (HLe.refl _),by simp [prev,keysR]⟩
 rintro m t H' ⟨i,out,v,him,h0,h3,h4,hle,hv,hI⟩
 simp [h0,h3,h4,l1,ha.slc]
 refine c_split (fun hq=>?_) (fun hq=>?_)<;>simp at hq
 ·have hw:=wrapN (i:=i) (by omega)
  have hol:out.length<=r.length:=by
   have:=congrArg List.length hI
   simp only [List.length_append] at this
   have h9:(keysR r).length<=r.length:=keys1_len none r
   omega
  obtain⟨o,i0,ob,rfl,aH,a2,a3⟩:=ha.get hq
  have a1:=hle.2 _ _ aH
  rw [List.drop_eq_getElem_cons hq] at hI
  simp only [keys1] at hI
  rcases Nat.eq_zero_or_pos i with rfl | hp
  ·rw [Nat.add_zero] at a3
   rw [if_pos (by simp [prev,newK])] at hI
   simp [h0,h3,h4,hq,a1,a2,a3,hw]
   refine appG_add (y:=r[0].key) hv hle (by omega) rfl (fun v3 H3 g1 g2 g3 g4=>?_)
   simp [h0,h3,h4,wrap1]
   exact⟨m-1,by omega,1,by omega,by omega,g1,out++[r[0].key],g2,by rw [prev_succ hq]; simpa using hI⟩
  ·have hlt:i-1<r.length:=by omega
   have hw1:=wrapP hp (by omega)
   obtain⟨o2,i2,ob2,e2,b1,b2,b3⟩:=ha.get hlt
   cases e2
   rw [aH] at b1
   cases b1
   have hi0:¬i=0:=by omega
   rw [prev_pos hp (by omega)] at hI
   by_cases hk:r[i-1].key=r[i].key
   ·rw [if_neg (by simp [newK,hk])] at hI
    simp [h0,h3,h4,hq,hlt,hi0,a1,a2,a3,b3,hw,hw1,hk]
    exact⟨m-1,by omega,i+1,by omega,by omega,hle,out,hv,by rw [prev_succ hq]; exact hI⟩
   ·rw [if_pos (by simp [newK,hk])] at hI
    simp [h0,h3,h4,hq,hlt,hi0,a1,a2,a3,b3,hw,hw1,hk]
    refine appG_add (y:=r[i].key) hv hle (by omega) rfl (fun v3 H3 g1 g2 g3 g4=>?_)
    simp [h0,h3,h4,hw]
    exact⟨m-1,by omega,i+1,by omega,by omega,g1,out++[r[i].key],g2,by rw [prev_succ hq]; simpa using hI⟩
 ·have:i=r.length:=by omega
  subst this
  rw [List.drop_length] at hI
  simp only [keys1,List.append_nil] at hI
  subst hI
  simp [h3]
  exact⟨hle,hv⟩
def entAV (o:Option Ent):List AV:=match o with | some e=>[.ag (entRow e),.bool true] | none=>[.ag (entRow ⟨⟨#[]⟩,0,false,0⟩),.bool false]
theorem l11At_ok (a:AV) (r:List Ent) (k:ByteArray) (time:Int) (H:Hp) (ha:Ents H a r) (hn:r.length<1099511627776) :
  AC Tryz.prog E 132 [a,.str k,.int .i64 time] H (fun v H'=>v=.tu (entAV (atR k time r))/\H'=H):=by
 refine AC_byp (tC_le tab2_ok) h_spec_l11At (by unfold entAV; split<;>simp [entRow]) ?_
 have l1:=ha.len
 simp [c_spec_l11At]
 refine W_for (fun m t H'=>∃ i,i+m=r.length/\t 0=a/\t 1=.str k/\t 2=.int .i64 time/\t 6=.pt H.length 0 0/\t 8=.int .i64 (i:Nat)/\H'=H++[some ⟨[[.str ⟨#[]⟩,.int .i64 0,.bool false,.int .i64 0]],4,45,false⟩]/\atR k time (r.drop i)=atR k time r) r.length ?_ (tC_mono AC_mono) ?_
 ·exact⟨0,by simp⟩
 rintro m t H' ⟨i,him,h0,h1,h2,h6,h8,rfl,hI⟩
 simp [h0,h1,h2,h6,h8,l1,ha.slc]
 refine c_split (fun hq=>?_) (fun hq=>?_)<;>simp at hq
 ·have hw:=wrapN (i:=i) (by omega)
  obtain⟨o,i0,ob,rfl,aH,a2,a3⟩:=ha.get hq
  have a1:=(HLe.self H [some ⟨[[.str ⟨#[]⟩,.int .i64 0,.bool false,.int .i64 0]],4,45,false⟩]).2 _ _ aH
  rw [List.drop_eq_getElem_cons hq] at hI
  simp only [atR] at hI
  by_cases hk:r[i].key=k
  ·by_cases ht:r[i].time<=time
   ·rw [if_pos ⟨hk,ht⟩] at hI
    simp [h0,h1,h2,h6,h8,hq,a1,a2,a3,hw,hk,ht]
    rw [<- hI]
    simp [entAV,entRow,hk]
   ·rw [if_neg (fun h=>ht h.2)] at hI
    simp [h0,h1,h2,h6,h8,hq,a1,a2,a3,hw,hk,ht]
    exact⟨m-1,by omega,i+1,by omega,by omega,hI⟩
  ·rw [if_neg (fun h=>hk h.1)] at hI
   simp [h0,h1,h2,h6,h8,hq,a1,a2,a3,hw,hk]
   exact⟨m-1,by omega,i+1,by omega,by omega,hI⟩
 ·have:i=r.length:=by omega
  subst this
  rw [List.drop_length] at hI
  rw [<- hI]
  simp [h6,atR,entAV,entRow]
theorem l12Newest_ok (a b:AV) (r s:List Ent) (time:Int) (H:Hp) (ha:Ents H a r) (hb:Ents H b s) (hn:r.length<1099511627776) (hs:s.length<1099511627776) :
  AC Tryz.prog E 92 [a,b,.int .i64 time] H (fun v H'=>v=.bool (newestR s time r)/\H'=H):=by
 refine AC_byp (tC_le tab2_ok) h_spec_l12Newest (by simp) ?_
 have l1:=ha.len
 simp [c_spec_l12Newest]
 refine W_for (fun m t H'=>∃ i,i+m=r.length/\t 0=a/\t 1=b/\t 2=.int .i64 time/\t 7=.int .i64 (i:Nat)/\HLe H H'/\newestR s time (r.drop i)=newestR s time r) r.length ?_ (tC_mono AC_mono) ?_
 ·exact⟨0,by simp⟩
 rintro m t H' ⟨i,him,h0,h1,h2,h7,hle,hI⟩
 simp [h0,h1,h2,h7,l1,ha.slc]
 refine c_split (fun hq=>?_) (fun hq=>?_)<;>simp at hq
 ·have hw:=wrapN (i:=i) (by omega)
  obtain⟨o,i0,ob,rfl,aH,a2,a3⟩:=ha.get hq
  have a1:=hle.2 _ _ aH
  rw [List.drop_eq_getElem_cons hq] at hI
  simp only [newestR,newE] at hI
  simp [h0,h1,h2,h7,hq,a1,a2,a3]
  refine c_split (fun hq2=>?_) (fun hq2=>?_)<;>simp at hq2
  ·simp [hle,h0]
   rw [<- hI]
   simp [show ¬r[i].time<=time by omega]
  ·simp [h0,h1,h2,h7,hq,a1,a2,a3]
   refine cg_use (l11At_ok b s r[i].key 999 H' (hb.le hle) hs) ?_
   simp only [hq2,decide_true,Bool.true_and] at hI
   cases hat:atR r[i].key 999 s with
   | none =>
    rw [hat] at hI
    simp [entAV,entRow,h0,h1,h2,h7,hw]
    exact⟨m-1,by omega,i+1,by omega,by omega,hle.app _,by simpa using hI⟩
   | some f =>
    rw [hat] at hI
    have a1':=(HLe.self H' [some ⟨[[.str f.key,.int .i64 f.val,.bool f.gone,.int .i64 f.time]],4,45,false⟩]).2 _ _ a1
    by_cases hf:f.time<r[i].time
    ·have hf':¬r[i].time<=f.time:=by omega
     simp [hf] at hI
     simp [entAV,entRow,h0,h1,h2,h7,hw,hq,a1',a2,a3,hf']
     exact⟨m-1,by omega,i+1,by omega,by omega,hle.app _,hI⟩
    ·have hf':r[i].time<=f.time:=by omega
     simp [hf] at hI
     simp [entAV,entRow,h0,h1,h2,h7,hw,hq,a1',a2,a3,hf']
     exact⟨hI,hle.app _⟩
 ·have:i=r.length:=by omega
  subst this
  rw [List.drop_length] at hI
  rw [<- hI]
  simp [hle,newestR]
theorem l12Times_ok (a:AV) (ts:List Int) (now:Int) (H:Hp) (ha:Ints H a ts) (hn:ts.length<1099511627776) :
  AC Tryz.prog E 89 [a,.int .i64 now] H (fun v H'=>v=.bool (timesR ts now)/\H'=H):=by
 refine AC_byp (tC_le tab2_ok) h_spec_l12Times (by simp) ?_
 have l1:=ha.len
 simp [c_spec_l12Times]
 refine W_for (fun m t H'=>∃ i,i+m=ts.length/\t 0=a/\t 1=.int .i64 now/\t 5=.int .i64 (i:Nat)/\H'=H/\asc1 now (prev ts i) (ts.drop i)=asc1 now none ts) ts.length ?_ (tC_mono AC_mono) ?_
 ·exact⟨0,by simp [prev]⟩
 rintro m t H' ⟨i,him,h0,h1,h5,rfl,hI⟩
 simp [h0,h1,h5,l1,ha.slc]
 refine c_split (fun hq=>?_) (fun hq=>?_)<;>simp at hq
 ·have hw:=wrapN (i:=i) (by omega)
  obtain⟨o,i0,ob,rfl,a1,a2,a3⟩:=ha.get hq
  rw [List.drop_eq_getElem_cons hq] at hI
  simp only [asc1] at hI
  by_cases hin:0<=ts[i]/\ts[i]<=now
  ·rcases Nat.eq_zero_or_pos i with rfl | hp
   ·rw [Nat.add_zero] at a3
    simp [prev,hin.1,hin.2] at hI
    simp [h0,h1,h5,hq,a1,a2,a3,wrap1,hin.1,hin.2]
    exact⟨m-1,by omega,1,by omega,by omega,by rw [prev_succ hq]; simpa using hI⟩
   ·have hlt:i-1<ts.length:=by omega
    have hw1:=wrapP hp (by omega)
    obtain⟨o2,i2,ob2,e2,b1,b2,b3⟩:=ha.get hlt
    cases e2
    rw [a1] at b1
    cases b1
    rw [prev_pos hp (by omega)] at hI
    by_cases hk:ts[i-1]<ts[i]
    ·have hk':¬ts[i]<=ts[i-1]:=by omega
     simp [hk,hin.1,hin.2] at hI
     simp [h0,h1,h5,hq,hlt,hp,a1,a2,a3,b3,hw,hw1,hin.1,hin.2,hk']
     exact⟨m-1,by omega,i+1,by omega,by omega,by rw [prev_succ hq]; exact hI⟩
    ·have hk':ts[i]<=ts[i-1]:=by omega
     simp [hk,hin.1,hin.2] at hI
     simp [h0,h1,h5,hq,hlt,hp,a1,a2,a3,b3,hw,hw1,hin.1,hin.2,hk']
     simp [timesR,hI]
  ·have hno:timesR ts now=false:=by
    rw [timesR,<- hI]
    by_cases h:0<=ts[i]
    ·simp [show ¬ts[i]<=now by omega]
    ·simp [h]
   simp [h0,h1,h5,hq,a1,a2,a3,hw]
   refine g_split (fun hq3=>?_) (fun hq3=>?_) (by simp)
   ·simp [hno]
   ·simp at hq3
    omega
 ·have:i=ts.length:=by omega
  subst this
  rw [List.drop_length] at hI
  simp only [asc1] at hI
  simp [h0,l1,ha.slc,timesR,<- hI]
  omega
theorem l12Size_ok (i:Nat) (H:Hp) (hi:i<1000000):AC Tryz.prog E 111 [.int .i64 i] H (fun v H'=>v=.int .i64 (sizeL i:Nat)/\H'=H):=by
 refine AC_byp (tC_le tab2_ok) h_spec_l12Size (by simp) ?_
 have hw:=wrapN (i:=i) (by omega)
 have hw2:IntKind.i64.wrap (8 * ((i+1:Nat):Int))=((8 * (i+1):Nat):Int):=by rw [wrap64 (by omega) (by omega)]; omega
 have hw3:IntKind.i64.wrap (8 * ((i:Int)+1))=8 * ((i:Int)+1):=by rw [wrap64 (by omega) (by omega)]
 simp [c_spec_l12Size,hw,hw2,hw3,sizeL]
end Go.Proofs.YtepeokaplbbpoaaGreat.B

namespace Go.Proofs.YtepeokaplbbpoaaGreat.B
open Go.RowKit Go.Proofs
set_option linter.unusedVariables false
set_option linter.unusedSimpArgs false
variable {E:Env}
theorem letter_lt {k:ByteArray} {d:Nat} (h:d<k.size):(letter k d).toNat=bt k d:=by
 have hl:k.data.toList.length=k.size:=Array.length_toList
 rw [bt_at (by omega),letter,dif_pos h]
 simp
theorem letter_ge {k:ByteArray} {d:Nat} (h:k.size<=d):letter k d=45:=dif_neg (by omega)
theorem keyOk_size {k:ByteArray} (h:keyOk k=true):k.size<=5:=by simp only [keyOk,decide_eq_true_eq] at h; exact h.2
theorem letter_ok {k:ByteArray} (h:keyOk k=true) (d:Nat):letter k d=45↔k.size<=d:=by
 constructor
 ·intro e
  rcases Nat.lt_or_ge d k.size with hl | hl
  ·simp only [keyOk,decide_eq_true_eq] at h
   have h1:=h.1 d hl
   rw [<- letter_lt hl,e] at h1
   simp at h1
  ·exact hl
 ·exact letter_ge
theorem letters_inj {k k':ByteArray} (h:keyOk k=true) (h':keyOk k'=true) (he:∀ i,i<6->letter k i=letter k' i):k=k':=by
 have s1:=keyOk_size h
 have s2:=keyOk_size h'
 have hs:k.size=k'.size:=by
  rcases Nat.lt_trichotomy k.size k'.size with hl | hl | hl
  ·have:=(letter_ok h k.size).2 (Nat.le_refl _)
   rw [he _ (by omega)] at this
   have:=(letter_ok h' k.size).1 this
   omega
  ·exact hl
  ·have:=(letter_ok h' k'.size).2 (Nat.le_refl _)
   rw [<- he _ (by omega)] at this
   have:=(letter_ok h k'.size).1 this
   omega
 apply ByteArray.ext
 apply Array.ext hs
 intro i h1 h2
 have:=he i (by have:k.data.size=k.size:=rfl; omega)
 have h1':i<k.size:=h1
 have h2':i<k'.size:=h2
 simpa [letter,h1',h2'] using this
def Good (f:Fk):Prop:=f.1.Nodup/\(∀ k∈f.1,keyOk k=true)/\(∀ k∈f.1,∀ k'∈f.1,∀ i,i<f.2->letter k i=letter k' i)/\(f.2=0\/2<=f.1.length)
theorem Good.deep {f:Fk} (h:Good f):f.2<=5:=by
 obtain⟨ks,d⟩:=f
 obtain⟨h1,h2,h3,h4⟩:=h
 rcases h4 with h4 | h4
 ·simp only at h4 ⊢; omega
 ·match ks,h1,h2,h3,h4 with
  | a :: b :: r,h1,h2,h3,_ =>
   rcases Nat.lt_or_ge 5 d with hd | hd
   ·exfalso
    have:a=b:=letters_inj (h2 a (by simp)) (h2 b (by simp)) (fun i hi=>h3 a (by simp) b (by simp) i (by simp only; omega))
    subst this
    simp at h1
   ·exact hd
theorem brs_cons (d:Nat) (k:ByteArray) (ks:List ByteArray):brs d (k :: ks)=grp d (k :: ks) :: brs d ((k :: ks).drop (grp d (k :: ks)).length):=by rw [brs]
theorem grp_sub (d:Nat) (ks:List ByteArray):(grp d ks).Sublist ks:=by
 unfold grp
 split
 ·exact List.Sublist.refl _
 ·exact List.filter_sublist
theorem grp_same {d:Nat} {ks:List ByteArray} {a b:ByteArray} (ha:a∈grp d ks) (hb:b∈grp d ks):letter a d=letter b d:=by
 unfold grp at ha hb
 split at ha
 ·simp at ha
 ·simp only [List.mem_filter,beq_iff_eq] at ha hb
  rw [ha.2,hb.2]
theorem brs_sub:∀ (n:Nat) (d:Nat) (ks:List ByteArray),ks.length<=n->∀ g∈brs d ks,∃ ks',ks'.Sublist ks/\g=grp d ks':=by
 intro n
 induction n with
 | zero =>
  intro d ks hn g hg
  have:ks=[]:=List.length_eq_zero_iff.1 (by omega)
  subst this
  simp [brs] at hg
 | succ n ih =>
  intro d ks hn g hg
  cases ks with
  | nil=>simp [brs] at hg
  | cons k ks =>
   rw [brs_cons] at hg
   rcases List.mem_cons.1 hg with rfl | hg
   ·exact⟨_,List.Sublist.refl _,rfl⟩
   ·have hp:=grp_pos d k ks
    obtain⟨ks',h1,h2⟩:=ih d _ (by simp only [List.length_drop,List.length_cons] at hn ⊢; omega) g hg
    exact⟨ks',h1.trans (List.drop_sublist _ _),h2⟩
theorem brs_sum:∀ (n:Nat) (d:Nat) (ks:List ByteArray),ks.length<=n->((brs d ks).map List.length).sum=ks.length/\(brs d ks).length<=ks.length:=by
 intro n
 induction n with
 | zero =>
  intro d ks hn
  have:ks=[]:=List.length_eq_zero_iff.1 (by omega)
  subst this
  simp [brs]
 | succ n ih =>
  intro d ks hn
  cases ks with
  | nil=>simp [brs]
  | cons k ks =>
   rw [brs_cons]
   have hp:=grp_pos d k ks
   have hs:=(grp_sub d (k :: ks)).length_le
   obtain⟨h1,h2⟩:=ih d ((k :: ks).drop (grp d (k :: ks)).length) (by simp only [List.length_drop,List.length_cons] at hn ⊢; omega)
   simp only [List.map_cons,List.sum_cons,h1,List.length_cons,List.length_drop] at h2 hs hp ⊢
   omega
def mu (q:List Fk):Nat:=(q.map fun f=>1+2 * f.1.length * (7-f.2)).sum
theorem mu_subs (d:Nat) (gs:List (List ByteArray)):mu (subs d gs)<=(gs.map List.length).sum+2 * (gs.map List.length).sum * (6-d):=by
 induction gs with
 | nil=>simp [subs,mu]
 | cons g gs ih =>
  have e:mu (subs d (g :: gs))=(if many g=true then 1+2 * g.length * (7-(d+1)) else 0)+mu (subs d gs):=by
   unfold subs mu
   rw [List.filter_cons]
   split<;>simp
  rw [e]
  simp only [List.map_cons,List.sum_cons]
  have h7:7-(d+1)=6-d:=by omega
  rw [h7]
  have:(if many g=true then 1+2 * g.length * (6-d) else 0)<=g.length+2 * g.length * (6-d):=by
   split
   ·rename_i h
    simp only [many,decide_eq_true_eq] at h
    omega
   ·omega
  rw [Nat.mul_add,Nat.add_mul]
  omega
theorem mu_step {ks:List ByteArray} {d:Nat} {q:List Fk} (h:Good (ks,d)):mu (q++subs d (brs d ks))<mu ((ks,d) :: q):=by
 have hd:d<=5:=h.deep
 have h1:=mu_subs d (brs d ks)
 rw [(brs_sum ks.length d ks (Nat.le_refl _)).1] at h1
 have e1:mu (q++subs d (brs d ks))=mu q+mu (subs d (brs d ks)):=by simp [mu]
 have e2:mu ((ks,d) :: q)=1+2 * ks.length * (7-d)+mu q:=by simp [mu]
 rw [e1,e2]
 have e3:7-d=(6-d)+1:=by omega
 rw [e3,Nat.mul_add]
 omega
theorem Good.subs {ks:List ByteArray} {d:Nat} (h:Good (ks,d)):∀ f∈subs d (brs d ks),Good f:=by
 intro f hf
 simp only [B.subs,List.mem_map,List.mem_filter] at hf
 obtain⟨g,⟨hg,hm⟩,rfl⟩:=hf
 obtain⟨ks',h1,rfl⟩:=brs_sub ks.length d ks (Nat.le_refl _) g hg
 have hs:=(grp_sub d ks').trans h1
 refine⟨h.1.sublist hs,fun k hk=>h.2.1 k (hs.subset hk),fun k hk k' hk' i hi=>?_,.inr ?_⟩
 ·rcases Nat.lt_or_ge i d with hl | hl
  ·exact h.2.2.1 k (hs.subset hk) k' (hs.subset hk') i hl
  ·have:i=d:=by simp only at hi; omega
   subst this
   exact grp_same hk hk'
 ·have h9:1<(grp d ks').length:=by simpa [many] using hm
  exact h9
theorem keysOk_good {ks:List ByteArray} (h:keysOk ks=true):Good (ks,0)/\ks.length<=24:=by
 simp only [keysOk,decide_eq_true_eq] at h
 obtain⟨h1,h2⟩:=h
 have key:∀ k∈ks,keyOk k=true:=by
  intro k hk
  obtain⟨i,hi,rfl⟩:=List.mem_iff_getElem.1 hk
  exact (h1 i hi).1
 have asc:∀ (j i:Nat) (hi:i<ks.length) (hj:j<i),sless (ks[j]'(by omega)) ks[i]=true:=by
  intro j i
  induction i with
  | zero=>intro _ hj; omega
  | succ i ih =>
   intro hi hj
   have hs:=(h1 (i+1) hi).2 (by omega)
   simp only [Nat.add_sub_cancel] at hs
   rcases Nat.lt_or_ge j i with hl | hl
   ·exact sless_trans (ih (by omega) hl) hs
   ·have:j=i:=by omega
    subst this
    exact hs
 refine⟨⟨?_,key,fun _ _ _ _ i hi=>absurd hi (Nat.not_lt_zero _),.inl rfl⟩,h2⟩
 rw [List.Nodup,List.pairwise_iff_getElem]
 intro i j hi hj hij e
 have:=asc i j hj hij
 rw [e,sless_irrefl] at this
 cases this
end Go.Proofs.YtepeokaplbbpoaaGreat.B

namespace Go.Proofs.YtepeokaplbbpoaaGreat.B
open Go.RowKit
set_option linter.unusedVariables false
set_option linter.unusedSimpArgs false
theorem letter_in {k:ByteArray} {d:Nat} (h:d<k.size):letter k d=k.data[d]:=dif_pos h
theorem letter_end {k:ByteArray} {d:Nat} (h:k.size<=d):letter k d=45:=dif_neg (by omega)
theorem letter_97 {k:ByteArray} (hk:keyOk k=true) {d:Nat} (h:d<k.size):97<=(letter k d).toNat:=by
 have h0:=letter_lt h
 simp only [keyOk,decide_eq_true_eq] at hk
 have:=(hk.1 d h).1
 omega
theorem bLess_app (p:List UInt8):∀ a b:List UInt8,Op.bytesLess (p++a) (p++b)=Op.bytesLess a b:=by
 induction p with
 | nil=>intro a b; rfl
 | cons x p ih =>
  intro a b
  simp [Op.bytesLess,ih]
structure SP (d:Nat) (ks:List ByteArray):Prop where
 pw:ks.Pairwise (fun x y=>sless x y=true/\∀ j,j<d->letter x j=letter y j)
 ok:∀ x∈ks,keyOk x=true
theorem SP.sub {d:Nat} {ks ks':List ByteArray} (h:SP d ks) (hs:ks'.Sublist ks):SP d ks':=⟨h.pw.sublist hs,fun x hx=>h.ok x (hs.subset hx)⟩
theorem sizes_of {x y:ByteArray} (hx:keyOk x=true) (hy:keyOk y=true) (hl:sless x y=true) {d:Nat} (hd:∀ j,j<d->letter x j=letter y j):d<=y.size/\(d<=x.size):=by
 have key:∀ {a b:ByteArray},keyOk a=true->keyOk b=true->(∀ j,j<d->letter a j=letter b j)->a.size<d->a=b:=by
  intro a b ha hb hab hsz
  have hbs:b.size<=a.size:=by
   rcases Nat.lt_or_ge a.size b.size with h | h
   ·have:=hab a.size hsz
    rw [letter_end (Nat.le_refl _)] at this
    have:=letter_97 hb h
    rename_i e
    rw [<- e] at this
    exact absurd this (by decide)
   ·exact h
  have hbs2:a.size<=b.size:=by
   rcases Nat.lt_or_ge b.size a.size with h | h
   ·have e:=hab b.size (by omega)
    rw [letter_end (k:=b) (Nat.le_refl _)] at e
    have:=letter_97 ha h
    rw [e] at this
    exact absurd this (by decide)
   ·exact h
  have hsz2:a.size=b.size:=by omega
  have:a.data=b.data:=by
   apply Array.ext
   ·exact hsz2
   ·intro i h1 h2
    have e:=hab i (by have:i<a.size:=h1; omega)
    rw [letter_in h1,letter_in h2] at e
    exact e
  cases a
  cases b
  simp only at this
  rw [this]
 constructor
 ·rcases Nat.lt_or_ge y.size d with h | h
  ·have:=key hy hx (fun j hj=>(hd j hj).symm) h
   rw [this,sless_irrefl] at hl
   cases hl
  ·exact h
 ·rcases Nat.lt_or_ge x.size d with h | h
  ·have:=key hx hy hd h
   rw [this,sless_irrefl] at hl
   cases hl
  ·exact h
theorem toList_ba (x:ByteArray):x.toList=x.data.toList:=ByteArray.toList_eq x
theorem take_eq {x y:ByteArray} {d:Nat} (hx:d<=x.size) (hy:d<=y.size) (hd:∀ j,j<d->letter x j=letter y j):x.toList.take d=y.toList.take d:=by
 rw [toList_ba,toList_ba]
 have lx:x.data.toList.length=x.size:=Array.length_toList
 have ly:y.data.toList.length=y.size:=Array.length_toList
 apply List.ext_getElem
 ·rw [List.length_take,List.length_take]
  omega
 ·intro i h1 h2
  rw [List.length_take] at h1
  have e:=hd i (by omega)
  rw [letter_in (by omega),letter_in (by omega)] at e
  rw [List.getElem_take,List.getElem_take,Array.getElem_toList,Array.getElem_toList]
  exact e
theorem letters_le {x y:ByteArray} (hx:keyOk x=true) (hy:keyOk y=true) (hl:sless x y=true) {d:Nat} (hd:∀ j,j<d->letter x j=letter y j):(letter x d).toNat<=(letter y d).toNat:=by
 obtain⟨hys,hxs⟩:=sizes_of hx hy hl hd
 have lx:x.toList.length=x.size:=by rw [toList_ba]; exact Array.length_toList
 have ly:y.toList.length=y.size:=by rw [toList_ba]; exact Array.length_toList
 have ht:=take_eq hxs hys hd
 have hl':Op.bytesLess (x.toList.drop d) (y.toList.drop d)=true:=by
  rw [<- bLess_app (x.toList.take d),List.take_append_drop]
  rw [ht,List.take_append_drop]
  exact hl
 rcases Nat.lt_or_ge d x.size with h1 | h1
 ·rcases Nat.lt_or_ge d y.size with h2 | h2
  ·rw [List.drop_eq_getElem_cons (by omega),List.drop_eq_getElem_cons (i:=d) (l:=y.toList) (by omega)] at hl'
   simp only [Op.bytesLess,Bool.or_eq_true,decide_eq_true_eq,Bool.and_eq_true,beq_iff_eq,UInt8.lt_iff_toNat_lt] at hl'
   have ex:x.toList[d]'(by omega)=letter x d:=by
    rw [letter_in h1]
    simp only [toList_ba]
    exact Array.getElem_toList ..
   have ey:y.toList[d]'(by omega)=letter y d:=by
    rw [letter_in h2]
    simp only [toList_ba]
    exact Array.getElem_toList ..
   rw [ex,ey] at hl'
   rcases hl' with h | ⟨h,_⟩
   ·omega
   ·rw [h]; exact Nat.le_refl _
  ·rw [List.drop_of_length_le (l:=y.toList) (by omega)] at hl'
   cases hc:x.toList.drop d with
   | nil=>rw [hc] at hl'; cases hl'
   | cons a b=>rw [hc] at hl'; cases hl'
 ·rw [letter_end h1]
  rcases Nat.lt_or_ge d y.size with h2 | h2
  ·have:=letter_97 hy h2
   exact Nat.le_trans (by decide) this
  ·rw [letter_end h2]
   exact Nat.le_refl _
def cnt (d:Nat):List ByteArray->Nat
 | []=>0
 | k :: ks=>1+(ks.takeWhile (fun x=>letter x d==letter k d)).length
theorem filter_front {p:ByteArray->Bool}:∀ {l:List ByteArray},l.Pairwise (fun x y=>p y=true->p x=true)->l.filter p=l.takeWhile p
 | [],_=>rfl
 | x :: l,h=>by
  obtain⟨h1,h2⟩:=List.pairwise_cons.1 h
  rw [List.filter_cons,List.takeWhile_cons]
  split
  ·rw [filter_front h2]
  ·rename_i hx
   rw [List.filter_eq_nil_iff]
   intro y hy hpy
   exact hx (h1 y hy hpy)
theorem grp_take {d:Nat} {k:ByteArray} {ks:List ByteArray} (h:SP d (k :: ks)):grp d (k :: ks)=(k :: ks).take (cnt d (k :: ks))/\(grp d (k :: ks)).length=cnt d (k :: ks):=by
 obtain⟨h1,h2⟩:=List.pairwise_cons.1 h.pw
 have hp:ks.Pairwise (fun x y=>(letter y d==letter k d)=true->(letter x d==letter k d)=true):=by
  refine h2.imp_of_mem (fun {x y} hx hy hxy e=>?_)
  simp only [beq_iff_eq] at e ⊢
  have a1:=letters_le (h.ok k (by simp)) (h.ok x (by simp [hx])) (h1 x hx).1 (h1 x hx).2
  have a2:=letters_le (h.ok x (by simp [hx])) (h.ok y (by simp [hy])) hxy.1 hxy.2
  rw [e] at a2
  exact UInt8.toNat_inj.1 (by omega)
 have e:grp d (k :: ks)=k :: ks.takeWhile (fun x=>letter x d==letter k d):=by
  unfold grp
  simp only
  rw [List.filter_cons,if_pos (by simp),filter_front hp]
 rw [e]
 constructor
 ·rw [cnt,Nat.add_comm,List.take_succ_cons]
  congr 1
  exact (List.prefix_iff_eq_take.1 (List.takeWhile_prefix _))
 ·rw [cnt,List.length_cons]
  omega
theorem SP.of_grp {d:Nat} {k:ByteArray} {ks:List ByteArray} (h:SP d (k :: ks)):SP (d+1) (grp d (k :: ks)):=by
 have hs:(grp d (k :: ks)).Sublist (k :: ks):=List.filter_sublist
 refine⟨(h.pw.sublist hs).imp_of_mem (fun {x y} hx hy hxy=>⟨hxy.1,fun j hj=>?_⟩),fun x hx=>h.ok x (hs.subset hx)⟩
 rcases Nat.lt_or_ge j d with hlt | hge
 ·exact hxy.2 j hlt
 ·have:j=d:=by omega
  subst this
  have e1:=(List.mem_filter.1 hx).2
  have e2:=(List.mem_filter.1 hy).2
  simp only [beq_iff_eq] at e1 e2
  rw [e1,e2]
theorem SP.of_brs:∀ (n d:Nat) {ks:List ByteArray},ks.length<=n->SP d ks->∀ g∈brs d ks,SP (d+1) g
 | 0,d,ks,hn,h,g,hg=>by
  have:ks=[]:=List.eq_nil_of_length_eq_zero (by omega)
  subst this
  rw [brs] at hg
  cases hg
 | n+1,d,[],hn,h,g,hg=>by rw [brs] at hg; cases hg
 | n+1,d,k :: ks,hn,h,g,hg=>by
  rw [brs] at hg
  rcases List.mem_cons.1 hg with rfl | hg
  ·exact h.of_grp
  ·have hp:=grp_pos d k ks
   refine SP.of_brs n d (by simp only [List.length_drop,List.length_cons] at hn ⊢; omega) (h.sub (List.drop_sublist _ _)) g hg
theorem SP.of_subs {d:Nat} {ks:List ByteArray} (h:SP d ks):∀ f∈subs d (brs d ks),SP f.2 f.1:=by
 intro f hf
 simp only [subs,List.mem_map,List.mem_filter] at hf
 obtain⟨g,⟨hg,_⟩,rfl⟩:=hf
 exact SP.of_brs ks.length d (Nat.le_refl _) h g hg
theorem SP.of_keys {ks:List ByteArray} (h:keysOk ks=true):SP 0 ks:=by
 simp only [keysOk,decide_eq_true_eq] at h
 refine⟨?_,fun x hx=>?_⟩
 ·rw [List.pairwise_iff_getElem]
  intro i j hi hj hij
  refine⟨?_,fun j hj=>absurd hj (Nat.not_lt_zero _)⟩
  obtain⟨m,rfl⟩:∃ m,j=i+1+m:=⟨j-i-1,by omega⟩
  clear hij
  induction m with
  | zero =>
   have:=(h.1 (i+1) (by omega)).2 (by omega)
   simpa using this
  | succ m ih =>
   have h1:=ih (by omega)
   have h2:=(h.1 (i+1+(m+1)) (by omega)).2 (by omega)
   exact sless_trans h1 (by simpa using h2)
 ·obtain⟨i,hi,rfl⟩:=List.mem_iff_getElem.1 hx
  exact (h.1 i hi).1
end Go.Proofs.YtepeokaplbbpoaaGreat.B

namespace Go.Proofs.YtepeokaplbbpoaaGreat.B
open Go.RowKit Go.Proofs
set_option linter.unusedVariables false
set_option linter.unusedSimpArgs false
variable {E:Env}
theorem extract1 {k:ByteArray} {d:Nat} (h:d<k.size):k.extract d (d+1)=lit1 (letter k d):=by
 apply ByteArray.ext
 apply Array.ext
 ·simp [lit1,ByteArray.data_extract]
  have:k.data.size=k.size:=rfl
  omega
 ·intro i h1 h2
  have:i=0:=by simp [lit1] at h2; omega
  subst this
  simp [lit1,letter,h,ByteArray.data_extract]
theorem l3Letter_ok (k:ByteArray) (d:Nat) (H:Hp) (hd:d<4611686018427387904):AC Tryz.prog E 188 [.str k,.int .i64 d] H (fun v H'=>v=.str (lit1 (letter k d))/\H'=H):=by
 refine AC_byp (tC_le tab2_ok) h_spec_l3Letter (by simp) ?_
 have hw:=wrapN (i:=d) (by omega)
 simp [c_spec_l3Letter]
 refine c_split (fun hq=>?_) (fun hq=>?_)<;>simp at hq<;>simp [hw]
 ·rw [letter_ge hq]
  rfl
 ·have ht:((d:Int)+1).toNat=d+1:=by omega
  have e:=extract1 hq
  simp [ht,e]
  omega
theorem restK_ge {k:ByteArray} {d:Nat} (h:k.size<=d) (keep:Int):restK k d keep=⟨#[]⟩:=by
 apply ByteArray.ext
 apply Array.ext
 ·simp [restK,ByteArray.data_extract]
  have:k.data.size=k.size:=rfl
  omega
 ·intro i h1 h2
  simp at h2
theorem l3Rest_ok (k:ByteArray) (d:Nat) (keep:Int) (H:Hp) (hd:d<4611686018427387904) (hk:0<=keep):AC Tryz.prog E 189 [.str k,.int .i64 d,.int .i64 keep] H (fun v H'=>v=.str (restK k d keep)/\H'=H):=by
 refine AC_byp (tC_le tab2_ok) h_spec_l3Rest (by simp) ?_
 simp [c_spec_l3Rest]
 refine c_split (fun hq=>?_) (fun hq=>?_)<;>simp at hq<;>simp
 ·exact (restK_ge hq _).symm
 ·have e:(k.size:Int)-d=((k.size-d:Nat):Int):=by omega
  trace_state
  have e2:∀ z:Int,z=min ((k.size-d:Nat):Int) keep->(k.extract d k.size).extract 0 z.toNat=restK k d keep:=by
   intro z hz
   unfold restK
   congr 1
   omega
  refine⟨by omega,?_,e2 _ ?_⟩
  ·split<;>omega
  ·split<;>omega
def All2 {α β:Type} (P:α->β->Prop):List α->List β->Prop
 | [],[]=>True
 | a :: xs,b :: ys=>P a b/\All2 P xs ys
 | _,_=>False
theorem All2.length {α β:Type} {P:α->β->Prop}:∀ {xs:List α} {ys:List β},All2 P xs ys->xs.length=ys.length
 | [],[],_=>rfl
 | _ :: _,_ :: _,h=>by rw [List.length_cons,List.length_cons,All2.length h.2]
theorem All2.mono {α β:Type} {P Q:α->β->Prop} (hpq:∀ a b,P a b->Q a b):∀ {xs:List α} {ys:List β},All2 P xs ys->All2 Q xs ys
 | [],[],_=>trivial
 | _ :: _,_ :: _,h=>⟨hpq _ _ h.1,All2.mono hpq h.2⟩
theorem All2.append {α β:Type} {P:α->β->Prop}:∀ {xs:List α} {ys:List β} {xs':List α} {ys':List β},All2 P xs ys->All2 P xs' ys'->All2 P (xs++xs') (ys++ys')
 | [],[],_,_,_,h=>h
 | _ :: _,_ :: _,_,_,h,k=>⟨h.1,All2.append h.2 k⟩
theorem All2.get {α β:Type} {P:α->β->Prop}:∀ {xs:List α} {ys:List β},All2 P xs ys->∀ (i:Nat) (h:i<xs.length) (h':i<ys.length),P xs[i] ys[i]
 | _ :: _,_ :: _,h,0,_,_=>h.1
 | _ :: _,_ :: _,h,i+1,h1,h2=>All2.get h.2 i (by simpa using h1) (by simpa using h2)
theorem All2.drop {α β:Type} {P:α->β->Prop}:∀ {xs:List α} {ys:List β},All2 P xs ys->∀ n,All2 P (xs.drop n) (ys.drop n)
 | _,_,h,0=>h
 | [],[],_,_+1=>trivial
 | _ :: _,_ :: _,h,n+1=>All2.drop h.2 n
theorem All2.set {α β:Type} {P:α->β->Prop}:∀ {xs:List α} {ys:List β},All2 P xs ys->∀ (i:Nat) {a:α} {b:β},P a b->All2 P (xs.set i a) (ys.set i b)
 | [],[],_,_,_,_,_=>trivial
 | _ :: _,_ :: _,h,0,_,_,p=>⟨p,h.2⟩
 | _ :: _,_ :: _,h,i+1,_,_,p=>⟨h.1,All2.set h.2 i p⟩
theorem app2 (H:Hp) (a b:Option Ob):H++[a]++[b]=H++[a,b]:=by simp
theorem l3Group_ok (u:AV) (ks:List ByteArray) (d:Nat) (H:Hp) (hu:Strs H u ks) (hn:ks.length<1099511627776) (hd:d<4611686018427387904) :
  AC Tryz.prog E 187 [.ag [u,.int .i64 d]] H (fun v H'=>HLe H H'/\OwnS H H' v (grp d ks)):=by
 refine AC_by fol (tC_le tab2_ok) h_spec_l3Group ?_
 have l1:=hu.len
 simp [c_spec_l3Group,hu.cells,hu.cells1,hu.one]
 obtain⟨H1,hH1⟩:∃ H1,H1=H++[some ⟨[[u,.int .i64 d]],2,157,false⟩]:=⟨_,rfl⟩
 have hbx:H1.at H.length=some ⟨[[u,.int .i64 d]],2,157,false⟩:=by rw [hH1]; simp
 have hle1:HLe H H1:=hH1 ▸ HLe.self _ _
 refine W_for (fun m t H'=>∃ i out v,i+m=ks.length/\t 1=.pt H.length 0 0/\t 3=v/\t 4=.int .i64 (i:Nat)/\HLe H1 H'/\OwnS H1 H' v out/\(∀ k0 r,ks=k0 :: r->out++(ks.drop i).filter (fun x=>letter x d==letter k0 d)=grp d ks)/\out.length<=i) ks.length ?_ (tC_mono AC_mono) ?_
 ·refine⟨0,[],_,by simp,by simp,rfl,by simp,?_,?_,fun k0 r e=>by subst e; simp [grp],Nat.le_refl _⟩
  ·rw [hH1,<- app2]; exact HLe.self _ _
  ·rw [hH1]
   refine⟨Own.obj (R:=[]) ?_ rfl,fun o ho=>?_⟩
   ·simp
   ·simp at ho ⊢; omega
 rintro m t H' ⟨i,out,v,him,h1,h3,h4,hle,hv,hI,hol⟩
 have hb:=hle.2 _ _ hbx
 have hle2:=hle1.trans hle
 simp [h1,h3,h4,hb,l1,hu.slc]
 refine c_split (fun hq=>?_) (fun hq=>?_)<;>simp at hq
 ·have hw:=wrapN (i:=i) (by omega)
  obtain⟨k0,r,hks⟩:∃ k0 r,ks=k0 :: r:=by
   cases ks with
   | nil=>simp at hq
   | cons a b=>exact⟨a,b,rfl⟩
  have h0:0<ks.length:=by omega
  obtain⟨o,i0,ob,rfl,aH,a2,a3⟩:=hu.get hq
  obtain⟨o2,i2,ob2,e2,bH,b2,b3⟩:=hu.get h0
  cases e2
  rw [aH] at bH
  cases bH
  rw [Nat.add_zero] at b3
  have a1:=hle2.2 _ _ aH
  have hk0:ks[0]=k0:=by simp [hks]
  have hI':=hI k0 r hks
  rw [List.drop_eq_getElem_cons hq,List.filter_cons] at hI'
  simp [h1,h3,h4,hb,hq,h0,a1,a2,a3,b3]
  refine cg_use (l3Letter_ok ks[i] d H' hd) ?_
  simp [h1,h3,h4,hb,hq,h0,a1,a2,a3,b3]
  refine cg_use (l3Letter_ok ks[0] d H' hd) ?_
  simp [h1,h3,h4,hb,hq,h0,a1,a2,a3,b3]
  have hlit:(lit1 (letter ks[i] d)=lit1 (letter ks[0] d))↔letter ks[i] d=letter k0 d:=by
   rw [hk0]
   constructor
   ·intro h
    have:=congrArg ByteArray.data h
    simpa [lit1] using this
   ·intro h; rw [h]
  refine c_split (fun hq2=>?_) (fun hq2=>?_)<;>simp at hq2
  ·rw [hlit] at hq2
   rw [if_pos (by simpa using hq2)] at hI'
   simp [h1,h3,h4,hb,hq,h0,a1,a2,a3,b3]
   refine appG_add (y:=ks[i]) hv hle (by omega) rfl (fun v3 H3 g1 g2 g3 g4=>?_)
   simp [h1,h3,h4,hw]
   refine⟨m-1,by omega,i+1,by omega,by omega,g1,out++[ks[i]],g2,fun k1 r1 e=>?_,by simp; omega⟩
   rw [hks] at e
   cases e
   simpa using hI'
  ·rw [hlit] at hq2
   rw [if_neg (by simpa using hq2)] at hI'
   simp [h1,h3,h4,hw]
   refine⟨m-1,by omega,i+1,by omega,by omega,hle,out,hv,fun k1 r1 e=>?_,by omega⟩
   rw [hks] at e
   cases e
   exact hI'
 ·have:i=ks.length:=by omega
  subst this
  simp [h3]
  refine⟨hle2,?_⟩
  have hv2:=hv.base hle1.1
  cases hks:ks with
  | nil =>
   have:out=[]:=List.length_eq_zero_iff.1 (by rw [hks] at hol; simpa using hol)
   subst this
   simpa [grp] using hv2
  | cons k0 r =>
   have:=hI k0 r hks
   rw [List.drop_length] at this
   simp at this
   rw [<- hks,<- this]
   exact hv2
end Go.Proofs.YtepeokaplbbpoaaGreat.B

namespace Go.Proofs.YtepeokaplbbpoaaGreat.B
open Go.RowKit Go.Proofs
set_option linter.unusedVariables false
set_option linter.unusedSimpArgs false
variable {E:Env}
def FkR (H:Hp) (X:Nat->Prop) (row:List AV) (f:Fk):Prop:=∃ u,row=[u,.int .i64 f.2]/\Strs H u f.1/\∀ x,u.of x->¬X x
theorem FkR.fr {S X X':Nat->Prop} {H H':Hp} {row:List AV} {f:Fk} (h:FkR H X row f) (hf:Fr S H H') (hs:∀ x ob,S x->H.at x=some ob->ob.esz≠1\/X x) (hx:∀ x,x<H.length->X' x->X x):FkR H' X' row f:=by
 obtain⟨u,h1,h2,h3⟩:=h
 refine⟨u,h1,?_,fun x hu hx'=>h3 x hu (hx x (Rows.lt h2 hu) hx')⟩
 rcases h2 with h | h | ⟨o',i,ob,rfl,a2,a3,a4⟩
 ·exact .inl h
 ·exact .inr (.inl h)
 ·exact .inr (.inr ⟨o',i,ob,rfl,hf.2 _ _ (fun hh=>(hs o' ob hh a2).elim (fun hne=>hne a3) (fun hX=>h3 o' rfl hX)) a2,a3,a4⟩)
theorem grp_head (d:Nat) (k:ByteArray) (ks:List ByteArray):∃ r,grp d (k :: ks)=k :: r:=by simp [grp]
theorem addBs_cons (d:Nat) (b:Bool) (s:Sv) (g:List ByteArray) (gs:List (List ByteArray)):addBs d b s (g :: gs)=addBs d false (addB d b s g) gs:=rfl
theorem subs_cons (d:Nat) (g:List ByteArray) (gs:List (List ByteArray)):subs d (g :: gs)=(if many g=true then [(g,d+1)] else [])++subs d gs:=by
 unfold subs
 rw [List.filter_cons]
 split<;>simp
theorem l3Put_ok (s:Sv) (r u:AV) (ks:List ByteArray) (d:Nat) (H0 H:Hp) (hr:OwnS H0 H r s.r) (hu:Strs H u ks) (hne:∀ x,u.of x->¬r.of x) (h0H:H0.length<=H.length)
  (hB:s.l.size<549755813888/\s.m.size<549755813888/\s.f.size<549755813888/\s.r.length<549755813888) (hn:ks.length<1073741824) (hd:d<1099511627776) (hk:0<=s.k) :
  AC Tryz.prog E 155 [.ag [.str s.l,.str s.m,.str s.f,r,.int .i64 s.k],.ag [u,.int .i64 d]] H (fun v H'=>∃ s',s'=addBs d true s (brs d ks)/\∃ r' w rows,v=.tu [.ag [.str s'.l,.str s'.m,.str s'.f,r',.int .i64 s'.k],w] /\
   OwnS H0 H' r' s'.r/\Own 2 157 H' w rows/\(∀ o,w.of o->H.length<=o)/\All2 (FkR H' r'.of) rows (subs d (brs d ks))/\Fr r.of H H'/\(∀ o,r'.of o->r.of o\/H.length<=o) /\
   s'.k=s.k/\s'.l.size<=s.l.size+ks.length/\s'.m.size<=s.m.size+ks.length/\s'.f.size<=s.f.size+ks.length/\s'.r.length<=s.r.length+ks.length):=by
 refine AC_by fol (tC_le tab2_ok) h_spec_l3Put ?_
 simp [c_spec_l3Put,hr.rows.cells,hr.rows.cells1,hr.rows.one,hu.cells,hu.cells1,hu.one]
 have hrlt:∀ x,r.of x->x<H.length:=fun x hx=>hr.1.lt hx
 refine W_for (fun m t H'=>∃ s1 r1 rem u1 nx nrows fs b,m=rem.length/\t 2=.pt H.length 0 0/\t 3=.pt (H.length+1) 0 0/\t 4=.pt (H.length+2) 0 0/\t 6=nx/\t 7=.str (lit1 (if b=true then 49 else 48)) /\
   H'.at H.length=some ⟨[[.str s1.l,.str s1.m,.str s1.f,r1,.int .i64 s1.k]],5,76,false⟩/\H'.at (H.length+1)=some ⟨[[u1,.int .i64 d]],2,157,false⟩ /\
   (∃ x1 x2 x3 x4 x5,H'.at (H.length+2)=some ⟨[[x1,x2,x3,x4,x5]],5,76,false⟩) /\
   Strs H' u1 rem/\OwnS H0 H' r1 s1.r/\(∀ x,u1.of x->¬r1.of x)/\Own 2 157 H' nx nrows/\(∀ o,nx.of o->H.length+3<=o)/\All2 (FkR H' r1.of) nrows fs/\Fr r.of H H'/\(∀ o,r1.of o->r.of o\/H.length+3<=o) /\
   addBs d b s1 (brs d rem)=addBs d true s (brs d ks)/\fs++subs d (brs d rem)=subs d (brs d ks)/\s1.k=s.k/\s1.l.size+rem.length<=s.l.size+ks.length/\s1.m.size+rem.length<=s.m.size+ks.length/\s1.f.size+rem.length<=s.f.size+ks.length/\s1.r.length+rem.length<=s.r.length+ks.length/\nrows.length+rem.length<=ks.length) ks.length ?_ (tC_mono AC_mono) ?_
 ·refine⟨s,r,ks,u,_,[],[],true,rfl,by simp,by simp,by simp,by simp; rfl,by simp; rfl,by simp,by simp,⟨.str ⟨#[]⟩,.str ⟨#[]⟩,.str ⟨#[]⟩,.nils,.int .i64 0,by simp⟩,hu.le (HLe.self _ _),hr.le (HLe.self _ _),hne,Own.obj (R:=[]) (by simp) rfl,by simp,trivial,(HLe.self _ _).fr,fun o h=>.inl h,rfl,rfl,rfl,Nat.le_refl _,Nat.le_refl _,Nat.le_refl _,Nat.le_refl _,by simp⟩
 rintro m t H' ⟨s1,r1,rem,u1,nx,nrows,fs,b,rfl,h2,h3,h4,h6,h7,hb2,hb3,⟨x1,x2,x3,x4,x5,hb4⟩,hu1,hr1,hne1,hnx,hnxa,hfs,hfr,hr1a,hI1,hI2,hI3,hI4,hI5,hI6,hI7,hI8⟩
 have l1:=hu1.len
 simp [h2,h3,h4,h6,h7,hb3,l1,hu1.slc]
 refine c_split (fun hq=>?_) (fun hq=>?_)<;>simp at hq
 ·obtain⟨k0,rt,rfl⟩:∃ k0 rt,rem=k0 :: rt:=by
   cases rem with
   | nil=>simp at hq
   | cons a b=>exact⟨a,b,rfl⟩
  obtain⟨gt,hg⟩:=grp_head d k0 rt
  have hgs:=(grp_sub d (k0 :: rt)).length_le
  have hgp:=grp_pos d k0 rt
  rw [brs_cons,addBs_cons] at hI1
  rw [brs_cons,subs_cons] at hI2
  generalize hgg:grp d (k0 :: rt)=g at hg hgs hgp hI1 hI2
  have hlim:s1.l.size<1099511627776/\s1.m.size<1099511627776/\s1.f.size<1099511627776/\s1.r.length<1099511627776/\nrows.length<1099511627776:=by
   simp only [List.length_cons] at hI4 hI5 hI6 hI7 hI8
   omega
  simp [h2,h3,h4,h6,h7,hb3]
  refine cg_ex (l3Group_ok u1 (k0 :: rt) d H' hu1 (by simp only [List.length_cons] at hI8 ⊢; omega) (by omega)) ?_
  rintro v8 H2 ⟨hle2,hv8⟩
  rw [hgg] at hv8
  have hb2':=hle2.2 _ _ hb2
  have hb3':=hle2.2 _ _ hb3
  have hb4':=hle2.2 _ _ hb4
  have hH':=hfr.len
  obtain⟨o8,i8,ob8,hv8e,c1,c2,c3⟩:=hv8.strs.get hgp
  rw [Nat.add_zero] at c3
  have hg0:g[0]=k0:=by simp [hg]
  rw [hg0] at c3
  have ho8:H'.length<=o8:=hv8.2 o8 (by rw [hv8e]; rfl)
  simp [h2,h3,h4,h6,h7,hb2',hb3',hv8e,c1,c2,c3,hgp]
  refine cg_use (l3Letter_ok k0 d H2 (by omega)) ?_
  have e1:∀ c:UInt8,(lit1 c).size=1:=fun _=>rfl
  have hw:=wrapN (i:=d) (by omega)
  have hlt2:=Hp.at_lt hb2'
  have hlt3:=Hp.at_lt hb3'
  have n1:H.length≠H.length+1:=by omega
  have n2:H.length≠H.length+2:=by omega
  have n3:H.length+1≠H.length:=by omega
  have n4:H.length≠o8:=by have:=Hp.at_lt hb4; omega
  simp [h2,h3,h4,h6,h7,hb2',hb3',c1,c2,c3,hgp,e1,Hp.at_set _ hlt2,Hp.at_set_ne n4]
  refine⟨by omega,by omega,?_⟩
  have hs2:addB d b s1 g={ s1 with l:=s1.l++lit1 (letter k0 d),f:=s1.f++lit1 (if b=true then 49 else 48),m:=s1.m++lit1 (if many g=true then 49 else 48),r:=if many g=true then s1.r else s1.r++[restK k0 (d+1) s1.k] }:=by
   simp [addB,hg]
  refine c_split (fun hq2=>?_) (fun hq2=>?_)<;>simp at hq2
  ·have hm:many g=true:=by simp [many]; omega
   rw [hm] at hs2 hI2
   simp [h2,h3,h4,h6,h7,hb2',hb3',c1,c2,c3,hgp,e1,Hp.at_set _ hlt2,Hp.at_set_ne n1,hw]
   have e1':(⟨#[49]⟩:ByteArray).size=1:=rfl
   refine⟨by omega,?_⟩
   refine appG_one' (R:=nrows) (by simp) ((hnx.le hle2).fr (Fr.one _ _ _) (fun x hx=>by have:=hnxa x hx; omega)) (by omega) (fun v9 H4 g1 g2 g3=>?_)
   have hls:(List.set H2 H.length (some ⟨[[.str (s1.l++lit1 (letter k0 d)),.str (s1.m++⟨#[49]⟩),.str (s1.f++lit1 (if b=true then 49 else 48)),r1,.int .i64 s1.k]],5,76,false⟩)).length=H2.length:=by simp
   have d2:=g2.2 H.length _ (fun hx=>by have:=hnxa _ hx; omega) (Hp.at_set _ hlt2)
   have d3:=g2.2 (H.length+1) _ (fun hx=>by have:=hnxa _ hx; omega) (by rw [Hp.at_set_ne n1]; exact hb3')
   have d4:=g2.2 (H.length+2) _ (fun hx=>by have:=hnxa _ hx; omega) (by rw [Hp.at_set_ne n2]; exact hb4')
   have d8:=g2.2 o8 _ (fun hx=>by have:=hnx.lt hx; omega) (by rw [Hp.at_set_ne n4]; exact c1)
   have dl3:=Hp.at_lt d3
   have hF4:Fr (fun x=>x=H.length\/x=H.length+1\/nx.of x) H' H4:=((hle2.fr.set (.inl (.inl rfl)) _).trans g2 (fun x hx=>.inl (.inr (.inr hx))))
   have hu4:Strs H4 u1 (k0 :: rt):=hu1.fr hF4 (fun x hx hs=>by
    rcases hs with h | h | h
    ·exact hu1.ne_of hb2 (by simp) hx h
    ·exact hu1.ne_of hb3 (by simp) hx h
    ·exact hu1.apart hnx.rows (by simp) hx h)
   simp [h2,h3,h4,h6,h7,d3]
   refine cutG_from hu4 g.length rfl (by simpa using hgs) (fun u9 w1 w2=>?_)
   rw [<- List.map_drop] at w1
   simp [h3,d3,hls,w1.one,w1.cells,w1.cells1]
   have hF5:=hF4.set (.inl (.inr (.inl rfl))) (some ⟨[[u9,.int .i64 d]],2,157,false⟩)
   have hst:=Fr.one H4 (H.length+1) (some ⟨[[u9,.int .i64 d]],2,157,false⟩)
   have w1':Strs H4 u9 ((k0 :: rt).drop g.length):=w1
   have nr:∀ x,r1.of x->¬(x=H.length\/x=H.length+1\/nx.of x):=fun x hx hs=>by
    rcases hs with h | h | h
    ·exact hr1.rows.ne_of hb2 (by simp) hx h
    ·exact hr1.rows.ne_of hb3 (by simp) hx h
    ·exact hr1.rows.apart hnx.rows (by simp) hx h
   have nSz:∀ x ob,(x=H.length\/x=H.length+1\/nx.of x)->H'.at x=some ob->ob.esz≠1\/r1.of x:=fun x ob hs ho=>.inl (by
    rcases hs with h | h | h
    ·subst h; rw [hb2] at ho; cases ho; simp
    ·subst h; rw [hb3] at ho; cases ho; simp
    ·intro e
     rcases hnx with ⟨rfl,_⟩ | ⟨rfl,_⟩ | ⟨o',ob',rfl,a2,a3,a4,a5⟩
     ·exact h.elim
     ·exact h.elim
     ·have:o'=x:=h
      subst this
      rw [ho] at a2
      cases a2
      omega)
   have hdl:((k0 :: rt).drop g.length).length+g.length=rt.length+1:=by
    simp only [List.length_drop,List.length_cons] at hgs ⊢
    omega
   have v9a:∀ o,v9.of o->H.length+3<=o:=fun o ho=>by
    rcases g3 o ho with h | h
    ·exact hnxa o h
    ·have:=Hp.at_lt hb4'
     rw [hls] at h
     omega
   have ss:(addB d b s1 g).l=s1.l++lit1 (letter k0 d)/\(addB d b s1 g).m=s1.m++⟨#[49]⟩/\(addB d b s1 g).f=s1.f++lit1 (if b=true then 49 else 48)/\(addB d b s1 g).r=s1.r/\(addB d b s1 g).k=s1.k:=by
    rw [hs2]
    exact⟨rfl,rfl,rfl,rfl,rfl⟩
   obtain⟨sl,sm,sf,sr,sk⟩:=ss
   have hsl:(addB d b s1 g).l.size=s1.l.size+1:=by rw [sl,ByteArray.size_append]; rfl
   have hsm:(addB d b s1 g).m.size=s1.m.size+1:=by rw [sm,ByteArray.size_append]; rfl
   have hsf:(addB d b s1 g).f.size=s1.f.size+1:=by rw [sf,ByteArray.size_append]; rfl
   simp only [List.length_cons] at hI4 hI5 hI6 hI7 hI8
   have hv8':Strs H4 (.sl o8 i8 g.length) g:=by
    rw [<- hv8e]
    exact ((hv8.strs.fr (Fr.one H2 H.length _) (fun x hx=>by have:=hv8.2 x hx; have:=Hp.at_lt hb4; omega)).fr g2 (fun x hx h=>by have:=hv8.2 x hx; have:=hnx.lt h; omega))
   refine⟨_,?_,addB d b s1 g,r1,(k0 :: rt).drop g.length,rfl,h2,h4,u9,nrows++[[AV.sl o8 i8 g.length,AV.int IntKind.i64 ((d:Int)+1)]],fs++[(g,d+1)],.inl ⟨rfl,?_,?_,⟨x1,x2,x3,x4,x5,?_⟩,?_,?_,fun x hx=>hne1 x (w2 x hx),?_,v9a,?_,hfr.trans hF5 ?_,hr1a,hI1,?_,?_,?_,?_,?_,?_,?_⟩⟩
   ·omega
   ·rw [Hp.at_set_ne n3,d2,sl,sm,sf,sk]
   ·exact Hp.at_set _ dl3
   ·rw [Hp.at_set_ne (by omega)]; exact d4
   ·exact w1'.fr hst (fun x hx h=>hu4.ne_of d3 (by simp) (w2 x hx) h)
   ·rw [sr]
    exact hr1.fr hF5 nr
   ·exact g1.fr hst (fun x hx=>by have:=v9a x hx; omega)
   ·refine (All2.mono (fun row f h=>h.fr hF5 nSz (fun x _ h=>h)) hfs).append ⟨⟨.sl o8 i8 g.length,rfl,?_,fun x hx hr=>?_⟩,trivial⟩
    ·exact hv8'.fr hst (fun x hx h=>by have:o8=x:=hx; have:=Hp.at_lt hb4; omega)
    ·have:o8=x:=hx
     have:=hr1.1.lt hr
     omega
   ·exact fun x hx=>by
     rcases hx with h | h | h
     ·exact .inr (by omega)
     ·exact .inr (by omega)
     ·exact .inr (by have:=hnxa x h; omega)
   ·simpa using hI2
   ·rw [sk]; exact hI3
   ·omega
   ·omega
   ·omega
   ·rw [sr]; omega
   ·simp; omega
  ·have hm:many g=false:=by simp [many]; omega
   rw [hm] at hs2 hI2
   simp [h2,h3,h4,h6,h7,hb2',hb3',c1,c2,c3,hgp,e1,Hp.at_set _ hlt2,Hp.at_set_ne n1,Hp.at_set_ne n4,hw]
   have e1':(⟨#[48]⟩:ByteArray).size=1:=rfl
   refine⟨by omega,?_⟩
   refine cg_use (by simpa using l3Rest_ok k0 (d+1) s1.k _ (by omega) (by omega)) ?_
   have hr1H2:Own 1 9 H2 r1 (s1.r.map strRow):=hr1.1.le hle2
   have nL:∀ x,r1.of x->x≠H.length/\x≠H.length+1:=fun x hx=>⟨hr1.rows.ne_of hb2 (by simp) hx,hr1.rows.ne_of hb3 (by simp) hx⟩
   simp [h2,h3,h4,h6,h7,Hp.at_set _ hlt2]
   have hlk:(Hp.at (List.set H2 H.length (some ⟨[[.str (s1.l++lit1 (letter k0 d)),.str (s1.m++⟨#[48]⟩),.str (s1.f++lit1 (if b=true then 49 else 48)),r1,.int .i64 s1.k]],5,76,false⟩)) H.length)=_:=Hp.at_set _ hlt2
   refine⟨by rw [Hp.at_app _ (by simpa using hlt2),hlk]; simp,appG_one' (R:=s1.r.map strRow) (by simp) (hr1H2.fr (Fr.one _ _ _) (fun x hx=>(nL x hx).1)) (by simp; omega) (fun v9 H4 g1 g2 g3=>?_)⟩
   have hls:(List.set H2 H.length (some ⟨[[.str (s1.l++lit1 (letter k0 d)),.str (s1.m++⟨#[48]⟩),.str (s1.f++lit1 (if b=true then 49 else 48)),r1,.int .i64 s1.k]],5,76,false⟩)).length=H2.length:=by simp
   have d2:=g2.2 H.length _ (fun hx=>(nL _ hx).1 rfl) (Hp.at_set _ hlt2)
   have d3:=g2.2 (H.length+1) _ (fun hx=>(nL _ hx).2 rfl) (by rw [Hp.at_set_ne n1]; exact hb3')
   have d4:=g2.2 (H.length+2) _ (fun hx=>by
    rcases hr1a _ hx with h | h
    ·have:=hrlt _ h; omega
    ·omega) (by rw [Hp.at_set_ne n2]; exact hb4')
   have dl2:=Hp.at_lt d2
   have dl3:=Hp.at_lt d3
   have hF4:Fr (fun x=>x=H.length\/x=H.length+1\/r1.of x) H' H4:=((hle2.fr.set (.inl (.inl rfl)) _).trans g2 (fun x hx=>.inl (.inr (.inr hx))))
   have nu:∀ x,u1.of x->¬(x=H.length\/x=H.length+1\/r1.of x):=fun x hx hs=>by
    rcases hs with h | h | h
    ·exact hu1.ne_of hb2 (by simp) hx h
    ·exact hu1.ne_of hb3 (by simp) hx h
    ·exact hne1 x hx h
   have hu4:Strs H4 u1 (k0 :: rt):=hu1.fr hF4 nu
   obtain⟨X,hX⟩:∃ X:Ob,X=⟨[[.str (s1.l++lit1 (letter k0 d)),.str (s1.m++⟨#[48]⟩),.str (s1.f++lit1 (if b=true then 49 else 48)),v9,.int .i64 s1.k]],5,76,false⟩:=⟨_,rfl⟩
   have d3':Hp.at (List.set H4 H.length (some X)) (H.length+1)=_:=(Hp.at_set_ne n1).trans d3
   simp [h2,h3,h4,h6,h7,d2,g1.rows.one,g1.rows.cells,g1.rows.cells1,Hp.at_set_ne n1,d3,<- hX]
   refine cutG_from (hu4.fr (Fr.one H4 H.length (some X)) (fun x hx h=>nu x hx (.inl h))) g.length rfl (by simpa using hgs) (fun u9 w1 w2=>?_)
   rw [<- List.map_drop] at w1
   simp [h3,d3',w1.one,w1.cells,w1.cells1]
   have hF5:=(hF4.set (.inl (.inl rfl)) (some X)).set (.inl (.inr (.inl rfl))) (some ⟨[[u9,.int .i64 d]],2,157,false⟩)
   have hst:=Fr.one (List.set H4 H.length (some X)) (H.length+1) (some ⟨[[u9,.int .i64 d]],2,157,false⟩)
   have w1':Strs (List.set H4 H.length (some X)) u9 ((k0 :: rt).drop g.length):=w1
   have nSz:∀ x ob,(x=H.length\/x=H.length+1\/r1.of x)->H'.at x=some ob->ob.esz≠1\/r1.of x:=fun x ob hs ho=>by
    rcases hs with h | h | h
    ·exact .inl (by subst h; rw [hb2] at ho; cases ho; simp)
    ·exact .inl (by subst h; rw [hb3] at ho; cases ho; simp)
    ·exact .inr h
   have hdl:((k0 :: rt).drop g.length).length+g.length=rt.length+1:=by
    simp only [List.length_drop,List.length_cons] at hgs ⊢
    omega
   have v9a:∀ o,v9.of o->r1.of o\/H'.length<=o:=fun o ho=>(g3 o ho).imp id (fun h=>by rw [hls] at h; exact Nat.le_trans hle2.1 h)
   have hb4lt:=Hp.at_lt hb4
   have ss:(addB d b s1 g).l=s1.l++lit1 (letter k0 d)/\(addB d b s1 g).m=s1.m++⟨#[48]⟩/\(addB d b s1 g).f=s1.f++lit1 (if b=true then 49 else 48)/\(addB d b s1 g).r=s1.r++[restK k0 (d+1) s1.k]/\(addB d b s1 g).k=s1.k:=by
    rw [hs2]
    exact⟨rfl,rfl,rfl,rfl,rfl⟩
   obtain⟨sl,sm,sf,sr,sk⟩:=ss
   have hsl:(addB d b s1 g).l.size=s1.l.size+1:=by rw [sl,ByteArray.size_append]; rfl
   have hsm:(addB d b s1 g).m.size=s1.m.size+1:=by rw [sm,ByteArray.size_append]; rfl
   have hsf:(addB d b s1 g).f.size=s1.f.size+1:=by rw [sf,ByteArray.size_append]; rfl
   simp only [List.length_cons] at hI4 hI5 hI6 hI7 hI8
   have v9L:∀ x,v9.of x->x≠H.length/\x≠H.length+1:=fun x hx=>by
    rcases v9a x hx with h | h
    ·exact nL x h
    ·omega
   refine⟨_,?_,addB d b s1 g,v9,(k0 :: rt).drop g.length,rfl,h2,h4,u9,nrows,fs,.inl ⟨rfl,?_,?_,⟨x1,x2,x3,x4,x5,?_⟩,?_,⟨?_,fun o ho=>(v9a o ho).elim (hr1.2 o) (fun h=>by omega)⟩,fun x hx hv=>?_,?_,by rw [h6]; exact hnxa,?_,hfr.trans hF5 ?_,fun o ho=>(v9a o ho).elim (hr1a o) (fun h=>.inr (by omega)),hI1,by simpa using hI2,by rw [sk]; exact hI3,by omega,by omega,by omega,by rw [sr]; simp; omega,by omega⟩⟩
   ·omega
   ·rw [Hp.at_set_ne n3,Hp.at_set _ dl2,sl,sm,sf,sk,hX]
   ·exact Hp.at_set _ (by simpa using dl3)
   ·rw [Hp.at_set_ne (by omega),Hp.at_set_ne n2]; exact d4
   ·exact w1'.fr hst (fun x hx h=>nu x (w2 x hx) (.inr (.inl h)))
   ·rw [sr]
    have:=(g1.fr (Fr.one H4 H.length (some X)) (fun x hx=>(v9L x hx).1)).fr hst (fun x hx=>(v9L x hx).2)
    simpa [strRow] using this
   ·rcases v9a x hv with h | h
    ·exact hne1 x (w2 x hx) h
    ·have:=Rows.lt hu1 (w2 x hx)
     omega
   ·rw [h6]
    exact hnx.fr hF5 (fun x hx hs=>by
     have:=hnxa x hx
     rcases hs with h | h | h
     ·omega
     ·omega
     ·exact hr1.rows.apart hnx.rows (by simp) h hx)
   ·exact All2.mono (fun row f h=>h.fr hF5 nSz (fun x hx hv=>(v9a x hv).elim id (fun h=>by omega))) hfs
   ·exact fun x hx=>by
     rcases hx with h | h | h
     ·exact .inr (by omega)
     ·exact .inr (by omega)
     ·exact (hr1a x h).imp id (fun h=>by omega)
 ·subst hq
  simp [brs,addBs,subs] at hI1 hI2
  subst hI1 hI2
  have hlt4:=Hp.at_lt hb4
  simp only [List.length_nil,Nat.add_zero] at hI4 hI5 hI6 hI7
  simp [h2,h3,h4,h6,h7,hb2,hb3,hb4,hr1.rows.one,Hp.at_set _ hlt4]
  have hst:=Fr.one H' (H.length+2) (some ⟨[[.str (addBs d true s (brs d ks)).l,.str (addBs d true s (brs d ks)).m,.str (addBs d true s (brs d ks)).f,r1,.int .i64 (addBs d true s (brs d ks)).k]],5,76,false⟩)
  refine⟨r1,nx,⟨rfl,rfl⟩,hr1.fr hst (fun x hx=>?_),nrows,hnx.fr hst (fun x hx=>by have:=hnxa x hx; omega),fun o ho=>by have:=hnxa o ho; omega,?_,hfr.set (.inr (by omega)) _,fun o ho=>(hr1a o ho).imp id (fun h=>by omega),hI3,hI4,hI5,hI6,hI7⟩
  ·rcases hr1a x hx with h | h
   ·have:=hrlt x h; omega
   ·omega
  ·exact All2.mono (fun row f h=>h.fr hst (fun x ob hx ho=>.inl (by subst hx; rw [hb4] at ho; cases ho; simp)) (fun x _ h=>h)) hfs
end Go.Proofs.YtepeokaplbbpoaaGreat.B
