/- The functions in the interpreter's words. -/
import Derived.Test.YtkpbekcgigigkaaDoorAbsEnc
import Derived.Test.YtkpbekcgigigkaaDoorProg
namespace Go.Abs.Mealy
open Go Go.Abs
def a8l0b : ACode :=
  .seq (.region [⟨some 79, .bin .lss (.t 78) (.t 77), none⟩])
  (.seq (.cond (.t 79)
    (.skip)
    (.exit 0))
   (.seq (.block 1 (.seq (.region [⟨some 80, .iaddr 6 (.t 76) (.t 78), none⟩,
         ⟨some 81, .load true 6 (.t 80), none⟩,
         ⟨some 2, .box (.c (.agg [.int Go.IntKind.i64 0, .int Go.IntKind.i64 0, .int Go.IntKind.i64 0, .sl true 0 [], .sl true 0 [], .int Go.IntKind.i64 0])), none⟩,
         ⟨none, .store 6 (.t 2) (.t 81), none⟩])
      (.seq (.region [⟨some 83, .faddr 0 (.t 2), none⟩,
          ⟨some 84, .load true 5 (.t 83), none⟩,
          ⟨some 85, .call 35 [(.t 84)], none⟩,
          ⟨some 82, .mov (.t 85), none⟩,
          ⟨some 86, .ext 0 (.t 82), none⟩,
          ⟨some 87, .ext 1 (.t 82), none⟩,
          ⟨some 3, .box (.c (.agg [.int Go.IntKind.i64 0, .int Go.IntKind.i64 0, .int Go.IntKind.i64 0, .sl true 0 [], .sl true 0 []])), none⟩,
          ⟨none, .store 5 (.t 3) (.t 86), none⟩,
          ⟨some 4, .mov (.t 87), none⟩])
       (.seq (.draw 8 [⟨some 88, .faddr 0 (.t 2), none⟩,
           ⟨some 89, .load true 5 (.t 88), none⟩,
           ⟨some 90, .call 21 [(.t 89)], none⟩,
           ⟨some 91, .faddr 5 (.t 2), none⟩,
           ⟨some 92, .load false 1 (.t 91), none⟩,
           ⟨some 93, .bin .neq (.t 90) (.t 92), none⟩,
           ⟨some 94, .mov (.t 93), none⟩,
           ⟨some 95, .mov (.t 4), some (94, false)⟩,
           ⟨some 96, .faddr 5 (.t 2), some (94, false)⟩,
           ⟨some 97, .load false 1 (.t 96), some (94, false)⟩,
           ⟨some 98, .bin .neq (.t 95) (.t 97), some (94, false)⟩,
           ⟨some 99, .pick (.t 94) (.c (.bool true)) (.t 98), none⟩])
        (.cond (.t 99)
         (.seq (.region [⟨some 0, .mov (.c (.bool false)), none⟩])
          (.ret))
         (.skip))))))
    (.region [⟨some 100, .bin .add (.t 78) (.c (.int Go.IntKind.i64 1)), none⟩,
       ⟨some 78, .mov (.t 100), none⟩])))

def a8l0 : ACode := a8l0b
def a8l0s : List Nat := [1, 2, 3, 4, 5, 6, 7, 8, 9, 10, 11, 12, 13, 14, 15, 16, 17, 18, 19, 20, 21, 22, 23, 24, 25, 26, 27, 28, 29, 30, 31, 32, 33, 34, 35, 36, 37, 38, 39, 40, 41, 42, 43, 44, 45, 46, 47, 48, 49, 50, 51, 52, 53, 54, 55, 56, 57, 58, 59, 60, 61, 62, 63, 64, 65, 66, 67, 68, 69, 70, 71, 72, 73, 74, 75, 79, 80, 81, 82, 83, 84, 85, 86, 87, 88, 89, 90, 91, 92, 93, 94, 95, 96, 97, 98, 99, 100, 101, 102, 103, 104, 105, 106, 107, 108, 109, 110, 111, 112, 113, 114, 115, 116, 117, 118, 119, 120, 121, 122, 123, 124, 125, 126, 127, 128, 129, 130, 131, 132, 133, 134, 135, 136, 137, 138, 139, 140, 141, 142, 143, 144, 145, 146, 147, 148, 149, 150, 151, 152, 153, 154, 155, 156, 157, 158, 159, 160, 161, 162, 163, 164, 165, 166, 167, 168, 169, 170, 171, 172, 173, 174, 175, 176, 177, 178, 179, 180, 181, 182, 183, 184, 185, 186, 187, 188, 189, 190, 191, 192, 193, 194, 195, 196, 197, 198, 199, 200, 201, 202, 203, 204, 205, 206, 207, 208, 209, 210, 211, 212, 213, 214, 215, 216, 217, 218, 219, 220, 221, 222, 223, 224, 225, 226, 227, 228]
abbrev a8l0F (s0 s76 s77 s78 : AV) : List AV := [s0, .any, .any, .any, .any, .any, .any, .any, .any, .any, .any, .any, .any, .any, .any, .any, .any, .any, .any, .any, .any, .any, .any, .any, .any, .any, .any, .any, .any, .any, .any, .any, .any, .any, .any, .any, .any, .any, .any, .any, .any, .any, .any, .any, .any, .any, .any, .any, .any, .any, .any, .any, .any, .any, .any, .any, .any, .any, .any, .any, .any, .any, .any, .any, .any, .any, .any, .any, .any, .any, .any, .any, .any, .any, .any, .any, s76, s77, s78, .any, .any, .any, .any, .any, .any, .any, .any, .any, .any, .any, .any, .any, .any, .any, .any, .any, .any, .any, .any, .any, .any, .any, .any, .any, .any, .any, .any, .any, .any, .any, .any, .any, .any, .any, .any, .any, .any, .any, .any, .any, .any, .any, .any, .any, .any, .any, .any, .any, .any, .any, .any, .any, .any, .any, .any, .any, .any, .any, .any, .any, .any, .any, .any, .any, .any, .any, .any, .any, .any, .any, .any, .any, .any, .any, .any, .any, .any, .any, .any, .any, .any, .any, .any, .any, .any, .any, .any, .any, .any, .any, .any, .any, .any, .any, .any, .any, .any, .any, .any, .any, .any, .any, .any, .any, .any, .any, .any, .any, .any, .any, .any, .any, .any, .any, .any, .any, .any, .any, .any, .any, .any, .any, .any, .any, .any, .any, .any, .any, .any, .any, .any, .any, .any, .any, .any, .any, .any, .any, .any, .any, .any, .any, .any, .any, .any, .any, .any, .any, .any]
theorem a8l0c (s0 s1 s2 s3 s4 s5 s6 s7 s8 s9 s10 s11 s12 s13 s14 s15 s16 s17 s18 s19 s20 s21 s22 s23 s24 s25 s26 s27 s28 s29 s30 s31 s32 s33 s34 s35 s36 s37 s38 s39 s40 s41 s42 s43 s44 s45 s46 s47 s48 s49 s50 s51 s52 s53 s54 s55 s56 s57 s58 s59 s60 s61 s62 s63 s64 s65 s66 s67 s68 s69 s70 s71 s72 s73 s74 s75 s76 s77 s78 s79 s80 s81 s82 s83 s84 s85 s86 s87 s88 s89 s90 s91 s92 s93 s94 s95 s96 s97 s98 s99 s100 s101 s102 s103 s104 s105 s106 s107 s108 s109 s110 s111 s112 s113 s114 s115 s116 s117 s118 s119 s120 s121 s122 s123 s124 s125 s126 s127 s128 s129 s130 s131 s132 s133 s134 s135 s136 s137 s138 s139 s140 s141 s142 s143 s144 s145 s146 s147 s148 s149 s150 s151 s152 s153 s154 s155 s156 s157 s158 s159 s160 s161 s162 s163 s164 s165 s166 s167 s168 s169 s170 s171 s172 s173 s174 s175 s176 s177 s178 s179 s180 s181 s182 s183 s184 s185 s186 s187 s188 s189 s190 s191 s192 s193 s194 s195 s196 s197 s198 s199 s200 s201 s202 s203 s204 s205 s206 s207 s208 s209 s210 s211 s212 s213 s214 s215 s216 s217 s218 s219 s220 s221 s222 s223 s224 s225 s226 s227 s228 : AV) : clearA a8l0s [s0, s1, s2, s3, s4, s5, s6, s7, s8, s9, s10, s11, s12, s13, s14, s15, s16, s17, s18, s19, s20, s21, s22, s23, s24, s25, s26, s27, s28, s29, s30, s31, s32, s33, s34, s35, s36, s37, s38, s39, s40, s41, s42, s43, s44, s45, s46, s47, s48, s49, s50, s51, s52, s53, s54, s55, s56, s57, s58, s59, s60, s61, s62, s63, s64, s65, s66, s67, s68, s69, s70, s71, s72, s73, s74, s75, s76, s77, s78, s79, s80, s81, s82, s83, s84, s85, s86, s87, s88, s89, s90, s91, s92, s93, s94, s95, s96, s97, s98, s99, s100, s101, s102, s103, s104, s105, s106, s107, s108, s109, s110, s111, s112, s113, s114, s115, s116, s117, s118, s119, s120, s121, s122, s123, s124, s125, s126, s127, s128, s129, s130, s131, s132, s133, s134, s135, s136, s137, s138, s139, s140, s141, s142, s143, s144, s145, s146, s147, s148, s149, s150, s151, s152, s153, s154, s155, s156, s157, s158, s159, s160, s161, s162, s163, s164, s165, s166, s167, s168, s169, s170, s171, s172, s173, s174, s175, s176, s177, s178, s179, s180, s181, s182, s183, s184, s185, s186, s187, s188, s189, s190, s191, s192, s193, s194, s195, s196, s197, s198, s199, s200, s201, s202, s203, s204, s205, s206, s207, s208, s209, s210, s211, s212, s213, s214, s215, s216, s217, s218, s219, s220, s221, s222, s223, s224, s225, s226, s227, s228] = a8l0F s0 s76 s77 s78 := by kernel_rfl
theorem a8l0n {prog : Nat → Option AFunc} (s0 s76 s77 s78 : AV) (H : Heap) : (lim prog).loop a8l0s a8l0 ⟨a8l0F s0 s76 s77 s78, H⟩ = loopK (lim prog) a8l0s a8l0 (run (lim prog) a8l0b ⟨a8l0F s0 s76 s77 s78, H⟩) := lim_loop_step _ _ _ _ (by kernel_rfl)

def a8l1b : ACode :=
  .seq (.region [⟨some 134, .bin .lss (.t 133) (.t 132), none⟩])
  (.seq (.cond (.t 134)
    (.skip)
    (.exit 2))
   (.seq (.block 3 (.seq (.region [⟨some 135, .iaddr 6 (.t 131) (.t 133), none⟩,
         ⟨some 136, .load true 6 (.t 135), none⟩,
         ⟨some 6, .box (.c (.agg [.int Go.IntKind.i64 0, .int Go.IntKind.i64 0, .int Go.IntKind.i64 0, .sl true 0 [], .sl true 0 [], .int Go.IntKind.i64 0])), none⟩,
         ⟨none, .store 6 (.t 6) (.t 136), none⟩])
      (.seq (.draw 5 [⟨some 137, .faddr 0 (.t 6), none⟩,
          ⟨some 138, .load true 5 (.t 137), none⟩,
          ⟨some 139, .call 33 [(.t 138)], none⟩,
          ⟨some 140, .faddr 5 (.t 6), none⟩,
          ⟨some 141, .load false 1 (.t 140), none⟩,
          ⟨some 142, .bin .neq (.t 139) (.t 141), none⟩])
       (.cond (.t 142)
        (.seq (.region [⟨some 0, .mov (.c (.bool false)), none⟩])
         (.ret))
        (.skip)))))
    (.region [⟨some 143, .bin .add (.t 133) (.c (.int Go.IntKind.i64 1)), none⟩,
       ⟨some 133, .mov (.t 143), none⟩])))

def a8l1 : ACode := a8l1b
def a8l1s : List Nat := [1, 2, 3, 4, 5, 6, 7, 8, 9, 10, 11, 12, 13, 14, 15, 16, 17, 18, 19, 20, 21, 22, 23, 24, 25, 26, 27, 28, 29, 30, 31, 32, 33, 34, 35, 36, 37, 38, 39, 40, 41, 42, 43, 44, 45, 46, 47, 48, 49, 50, 51, 52, 53, 54, 55, 56, 57, 58, 59, 60, 61, 62, 63, 64, 65, 66, 67, 68, 69, 70, 71, 72, 73, 74, 75, 76, 77, 78, 79, 80, 81, 82, 83, 84, 85, 86, 87, 88, 89, 90, 91, 92, 93, 94, 95, 96, 97, 98, 99, 100, 101, 102, 103, 104, 105, 106, 107, 108, 109, 110, 111, 112, 113, 114, 115, 116, 117, 118, 119, 120, 121, 122, 123, 124, 125, 126, 127, 128, 129, 130, 134, 135, 136, 137, 138, 139, 140, 141, 142, 143, 144, 145, 146, 147, 148, 149, 150, 151, 152, 153, 154, 155, 156, 157, 158, 159, 160, 161, 162, 163, 164, 165, 166, 167, 168, 169, 170, 171, 172, 173, 174, 175, 176, 177, 178, 179, 180, 181, 182, 183, 184, 185, 186, 187, 188, 189, 190, 191, 192, 193, 194, 195, 196, 197, 198, 199, 200, 201, 202, 203, 204, 205, 206, 207, 208, 209, 210, 211, 212, 213, 214, 215, 216, 217, 218, 219, 220, 221, 222, 223, 224, 225, 226, 227, 228]
abbrev a8l1F (s0 s131 s132 s133 : AV) : List AV := [s0, .any, .any, .any, .any, .any, .any, .any, .any, .any, .any, .any, .any, .any, .any, .any, .any, .any, .any, .any, .any, .any, .any, .any, .any, .any, .any, .any, .any, .any, .any, .any, .any, .any, .any, .any, .any, .any, .any, .any, .any, .any, .any, .any, .any, .any, .any, .any, .any, .any, .any, .any, .any, .any, .any, .any, .any, .any, .any, .any, .any, .any, .any, .any, .any, .any, .any, .any, .any, .any, .any, .any, .any, .any, .any, .any, .any, .any, .any, .any, .any, .any, .any, .any, .any, .any, .any, .any, .any, .any, .any, .any, .any, .any, .any, .any, .any, .any, .any, .any, .any, .any, .any, .any, .any, .any, .any, .any, .any, .any, .any, .any, .any, .any, .any, .any, .any, .any, .any, .any, .any, .any, .any, .any, .any, .any, .any, .any, .any, .any, .any, s131, s132, s133, .any, .any, .any, .any, .any, .any, .any, .any, .any, .any, .any, .any, .any, .any, .any, .any, .any, .any, .any, .any, .any, .any, .any, .any, .any, .any, .any, .any, .any, .any, .any, .any, .any, .any, .any, .any, .any, .any, .any, .any, .any, .any, .any, .any, .any, .any, .any, .any, .any, .any, .any, .any, .any, .any, .any, .any, .any, .any, .any, .any, .any, .any, .any, .any, .any, .any, .any, .any, .any, .any, .any, .any, .any, .any, .any, .any, .any, .any, .any, .any, .any, .any, .any, .any, .any, .any, .any, .any, .any, .any, .any, .any, .any, .any, .any]
theorem a8l1c (s0 s1 s2 s3 s4 s5 s6 s7 s8 s9 s10 s11 s12 s13 s14 s15 s16 s17 s18 s19 s20 s21 s22 s23 s24 s25 s26 s27 s28 s29 s30 s31 s32 s33 s34 s35 s36 s37 s38 s39 s40 s41 s42 s43 s44 s45 s46 s47 s48 s49 s50 s51 s52 s53 s54 s55 s56 s57 s58 s59 s60 s61 s62 s63 s64 s65 s66 s67 s68 s69 s70 s71 s72 s73 s74 s75 s76 s77 s78 s79 s80 s81 s82 s83 s84 s85 s86 s87 s88 s89 s90 s91 s92 s93 s94 s95 s96 s97 s98 s99 s100 s101 s102 s103 s104 s105 s106 s107 s108 s109 s110 s111 s112 s113 s114 s115 s116 s117 s118 s119 s120 s121 s122 s123 s124 s125 s126 s127 s128 s129 s130 s131 s132 s133 s134 s135 s136 s137 s138 s139 s140 s141 s142 s143 s144 s145 s146 s147 s148 s149 s150 s151 s152 s153 s154 s155 s156 s157 s158 s159 s160 s161 s162 s163 s164 s165 s166 s167 s168 s169 s170 s171 s172 s173 s174 s175 s176 s177 s178 s179 s180 s181 s182 s183 s184 s185 s186 s187 s188 s189 s190 s191 s192 s193 s194 s195 s196 s197 s198 s199 s200 s201 s202 s203 s204 s205 s206 s207 s208 s209 s210 s211 s212 s213 s214 s215 s216 s217 s218 s219 s220 s221 s222 s223 s224 s225 s226 s227 s228 : AV) : clearA a8l1s [s0, s1, s2, s3, s4, s5, s6, s7, s8, s9, s10, s11, s12, s13, s14, s15, s16, s17, s18, s19, s20, s21, s22, s23, s24, s25, s26, s27, s28, s29, s30, s31, s32, s33, s34, s35, s36, s37, s38, s39, s40, s41, s42, s43, s44, s45, s46, s47, s48, s49, s50, s51, s52, s53, s54, s55, s56, s57, s58, s59, s60, s61, s62, s63, s64, s65, s66, s67, s68, s69, s70, s71, s72, s73, s74, s75, s76, s77, s78, s79, s80, s81, s82, s83, s84, s85, s86, s87, s88, s89, s90, s91, s92, s93, s94, s95, s96, s97, s98, s99, s100, s101, s102, s103, s104, s105, s106, s107, s108, s109, s110, s111, s112, s113, s114, s115, s116, s117, s118, s119, s120, s121, s122, s123, s124, s125, s126, s127, s128, s129, s130, s131, s132, s133, s134, s135, s136, s137, s138, s139, s140, s141, s142, s143, s144, s145, s146, s147, s148, s149, s150, s151, s152, s153, s154, s155, s156, s157, s158, s159, s160, s161, s162, s163, s164, s165, s166, s167, s168, s169, s170, s171, s172, s173, s174, s175, s176, s177, s178, s179, s180, s181, s182, s183, s184, s185, s186, s187, s188, s189, s190, s191, s192, s193, s194, s195, s196, s197, s198, s199, s200, s201, s202, s203, s204, s205, s206, s207, s208, s209, s210, s211, s212, s213, s214, s215, s216, s217, s218, s219, s220, s221, s222, s223, s224, s225, s226, s227, s228] = a8l1F s0 s131 s132 s133 := by kernel_rfl
theorem a8l1n {prog : Nat → Option AFunc} (s0 s131 s132 s133 : AV) (H : Heap) : (lim prog).loop a8l1s a8l1 ⟨a8l1F s0 s131 s132 s133, H⟩ = loopK (lim prog) a8l1s a8l1 (run (lim prog) a8l1b ⟨a8l1F s0 s131 s132 s133, H⟩) := lim_loop_step _ _ _ _ (by kernel_rfl)

/-- sentinel/sentinellaw34.MealyExamples -/
def a8 : AFunc := ⟨229,
  .seq (.region [⟨some 0, .mov (.c (.bool false)), none⟩])
  (.seq (.seq (.region [⟨some 27, .call 13 [], none⟩,
       ⟨some 28, .un .not (.t 27), none⟩])
    (.cond (.t 28)
     (.seq (.region [⟨some 0, .mov (.c (.bool false)), none⟩])
      (.ret))
     (.skip)))
   (.seq (.seq (.region [⟨some 29, .build [.int Go.IntKind.i64 0, .int Go.IntKind.i64 0, .int Go.IntKind.i64 0, .sl true 0 [], .sl true 0 []] [(0, 1, (.c (.int Go.IntKind.i64 (-1))))], none⟩,
        ⟨some 30, .build [.int Go.IntKind.i64 0, .int Go.IntKind.i64 0, .int Go.IntKind.i64 0, .sl true 0 [], .sl true 0 [], .int Go.IntKind.i64 0] [(0, 5, (.t 29)), (5, 1, (.c (.int Go.IntKind.i64 7)))], none⟩,
        ⟨some 31, .build [.int Go.IntKind.i64 0, .int Go.IntKind.i64 0, .int Go.IntKind.i64 0, .sl true 0 [], .sl true 0 []] [(1, 1, (.c (.int Go.IntKind.i64 (-1))))], none⟩,
        ⟨some 32, .build [.int Go.IntKind.i64 0, .int Go.IntKind.i64 0, .int Go.IntKind.i64 0, .sl true 0 [], .sl true 0 [], .int Go.IntKind.i64 0] [(0, 5, (.t 31)), (5, 1, (.c (.int Go.IntKind.i64 7)))], none⟩,
        ⟨some 33, .build [.int Go.IntKind.i64 0, .int Go.IntKind.i64 0, .int Go.IntKind.i64 0, .sl true 0 [], .sl true 0 []] [(0, 1, (.c (.int Go.IntKind.i64 4))), (1, 1, (.c (.int Go.IntKind.i64 3)))], none⟩,
        ⟨some 34, .build [.int Go.IntKind.i64 0, .int Go.IntKind.i64 0, .int Go.IntKind.i64 0, .sl true 0 [], .sl true 0 [], .int Go.IntKind.i64 0] [(0, 5, (.t 33)), (5, 1, (.c (.int Go.IntKind.i64 7)))], none⟩,
        ⟨some 35, .build [.int Go.IntKind.i64 0, .int Go.IntKind.i64 0, .int Go.IntKind.i64 0, .sl true 0 [], .sl true 0 []] [(0, 1, (.c (.int Go.IntKind.i64 4611686018427387904))), (1, 1, (.c (.int Go.IntKind.i64 4611686018427387904)))], none⟩,
        ⟨some 36, .build [.int Go.IntKind.i64 0, .int Go.IntKind.i64 0, .int Go.IntKind.i64 0, .sl true 0 [], .sl true 0 [], .int Go.IntKind.i64 0] [(0, 5, (.t 35)), (5, 1, (.c (.int Go.IntKind.i64 7)))], none⟩,
        ⟨some 37, .build [.int Go.IntKind.i64 0, .int Go.IntKind.i64 0, .int Go.IntKind.i64 0, .sl true 0 [], .sl true 0 []] [], none⟩,
        ⟨some 38, .build [.int Go.IntKind.i64 0, .int Go.IntKind.i64 0, .int Go.IntKind.i64 0, .sl true 0 [], .sl true 0 [], .int Go.IntKind.i64 0] [(0, 5, (.t 37)), (5, 1, (.c (.int Go.IntKind.i64 3)))], none⟩,
        ⟨some 39, .mkslice true [.sl true 0 []] 24 (.c (.int Go.IntKind.i64 4097)) (.c (.int Go.IntKind.i64 4097)), none⟩,
        ⟨some 40, .build [.int Go.IntKind.i64 0, .int Go.IntKind.i64 0, .int Go.IntKind.i64 0, .sl true 0 [], .sl true 0 []] [(3, 1, (.t 39))], none⟩,
        ⟨some 41, .build [.int Go.IntKind.i64 0, .int Go.IntKind.i64 0, .int Go.IntKind.i64 0, .sl true 0 [], .sl true 0 [], .int Go.IntKind.i64 0] [(0, 5, (.t 40)), (5, 1, (.c (.int Go.IntKind.i64 10)))], none⟩,
        ⟨some 42, .bslice true [.int Go.IntKind.i64 0] 1 1 [(0, (.c (.int Go.IntKind.i64 0)))], none⟩,
        ⟨some 43, .bslice true [.sl true 0 []] 1 1 [(0, (.t 42))], none⟩,
        ⟨some 44, .build [.int Go.IntKind.i64 0, .int Go.IntKind.i64 0, .int Go.IntKind.i64 0, .sl true 0 [], .sl true 0 []] [(3, 1, (.t 43)), (2, 1, (.c (.int Go.IntKind.i64 5)))], none⟩,
        ⟨some 45, .build [.int Go.IntKind.i64 0, .int Go.IntKind.i64 0, .int Go.IntKind.i64 0, .sl true 0 [], .sl true 0 [], .int Go.IntKind.i64 0] [(0, 5, (.t 44)), (5, 1, (.c (.int Go.IntKind.i64 2)))], none⟩,
        ⟨some 46, .bslice true [.int Go.IntKind.i64 0] 1 1 [(0, (.c (.int Go.IntKind.i64 9)))], none⟩,
        ⟨some 47, .bslice true [.sl true 0 []] 1 1 [(0, (.t 46))], none⟩,
        ⟨some 48, .bslice true [.int Go.IntKind.u8 0] 1 0 [], none⟩,
        ⟨some 49, .bslice true [.sl true 0 []] 1 1 [(0, (.t 48))], none⟩,
        ⟨some 50, .build [.int Go.IntKind.i64 0, .int Go.IntKind.i64 0, .int Go.IntKind.i64 0, .sl true 0 [], .sl true 0 []] [(3, 1, (.t 47)), (4, 1, (.t 49)), (2, 1, (.c (.int Go.IntKind.i64 1)))], none⟩,
        ⟨some 51, .build [.int Go.IntKind.i64 0, .int Go.IntKind.i64 0, .int Go.IntKind.i64 0, .sl true 0 [], .sl true 0 [], .int Go.IntKind.i64 0] [(0, 5, (.t 50)), (5, 1, (.c (.int Go.IntKind.i64 8)))], none⟩,
        ⟨some 52, .bslice true [.int Go.IntKind.i64 0] 1 1 [(0, (.c (.int Go.IntKind.i64 9)))], none⟩,
        ⟨some 53, .bslice true [.sl true 0 []] 1 1 [(0, (.t 52))], none⟩,
        ⟨some 54, .bslice true [.int Go.IntKind.u8 0] 1 0 [], none⟩,
        ⟨some 55, .bslice true [.sl true 0 []] 1 1 [(0, (.t 54))], none⟩,
        ⟨some 56, .build [.int Go.IntKind.i64 0, .int Go.IntKind.i64 0, .int Go.IntKind.i64 0, .sl true 0 [], .sl true 0 []] [(3, 1, (.t 53)), (4, 1, (.t 55))], none⟩,
        ⟨some 57, .build [.int Go.IntKind.i64 0, .int Go.IntKind.i64 0, .int Go.IntKind.i64 0, .sl true 0 [], .sl true 0 [], .int Go.IntKind.i64 0] [(0, 5, (.t 56)), (5, 1, (.c (.int Go.IntKind.i64 2)))], none⟩,
        ⟨some 58, .bslice true [.int Go.IntKind.i64 0] 1 1 [(0, (.c (.int Go.IntKind.i64 1)))], none⟩,
        ⟨some 59, .bslice true [.sl true 0 []] 1 1 [(0, (.t 58))], none⟩,
        ⟨some 60, .bslice true [.int Go.IntKind.u8 0] 1 1 [(0, (.c (.int Go.IntKind.u8 9)))], none⟩,
        ⟨some 61, .bslice true [.sl true 0 []] 1 1 [(0, (.t 60))], none⟩,
        ⟨some 62, .build [.int Go.IntKind.i64 0, .int Go.IntKind.i64 0, .int Go.IntKind.i64 0, .sl true 0 [], .sl true 0 []] [(3, 1, (.t 59)), (4, 1, (.t 61))], none⟩,
        ⟨some 63, .build [.int Go.IntKind.i64 0, .int Go.IntKind.i64 0, .int Go.IntKind.i64 0, .sl true 0 [], .sl true 0 [], .int Go.IntKind.i64 0] [(0, 5, (.t 62)), (5, 1, (.c (.int Go.IntKind.i64 8)))], none⟩,
        ⟨some 64, .bslice true [.int Go.IntKind.i64 0] 1 1 [(0, (.c (.int Go.IntKind.i64 0)))], none⟩,
        ⟨some 65, .bslice true [.sl true 0 []] 1 1 [(0, (.t 64))], none⟩,
        ⟨some 66, .bslice true [.int Go.IntKind.u8 0] 1 1 [(0, (.c (.int Go.IntKind.u8 1)))], none⟩,
        ⟨some 67, .bslice true [.sl true 0 []] 1 1 [(0, (.t 66))], none⟩,
        ⟨some 68, .build [.int Go.IntKind.i64 0, .int Go.IntKind.i64 0, .int Go.IntKind.i64 0, .sl true 0 [], .sl true 0 []] [(3, 1, (.t 65)), (4, 1, (.t 67))], none⟩,
        ⟨some 69, .build [.int Go.IntKind.i64 0, .int Go.IntKind.i64 0, .int Go.IntKind.i64 0, .sl true 0 [], .sl true 0 [], .int Go.IntKind.i64 0] [(0, 5, (.t 68)), (5, 1, (.c (.int Go.IntKind.i64 1)))], none⟩,
        ⟨some 70, .bslice true [.int Go.IntKind.i64 0] 1 1 [(0, (.c (.int Go.IntKind.i64 0)))], none⟩,
        ⟨some 71, .bslice true [.sl true 0 []] 1 1 [(0, (.t 70))], none⟩,
        ⟨some 72, .bslice true [.int Go.IntKind.u8 0] 1 1 [(0, (.c (.int Go.IntKind.u8 0)))], none⟩,
        ⟨some 73, .bslice true [.sl true 0 []] 1 1 [(0, (.t 72))], none⟩,
        ⟨some 74, .build [.int Go.IntKind.i64 0, .int Go.IntKind.i64 0, .int Go.IntKind.i64 0, .sl true 0 [], .sl true 0 []] [(3, 1, (.t 71)), (4, 1, (.t 73))], none⟩,
        ⟨some 75, .build [.int Go.IntKind.i64 0, .int Go.IntKind.i64 0, .int Go.IntKind.i64 0, .sl true 0 [], .sl true 0 [], .int Go.IntKind.i64 0] [(0, 5, (.t 74)), (5, 1, (.c (.int Go.IntKind.i64 0)))], none⟩,
        ⟨some 76, .bslice true [.int Go.IntKind.i64 0, .int Go.IntKind.i64 0, .int Go.IntKind.i64 0, .sl true 0 [], .sl true 0 [], .int Go.IntKind.i64 0] 6 12 [(0, (.t 30)), (1, (.t 32)), (2, (.t 34)), (3, (.t 36)), (4, (.t 38)), (5, (.t 41)), (6, (.t 45)), (7, (.t 51)), (8, (.t 57)), (9, (.t 63)), (10, (.t 69)), (11, (.t 75))], none⟩,
        ⟨some 77, .len (.t 76), none⟩,
        ⟨some 78, .mov (.c (.int Go.IntKind.i64 0)), none⟩])
     (.block 0 (.loop a8l0s a8l0)))
    (.seq (.seq (.region [⟨some 101, .build [.int Go.IntKind.i64 0, .int Go.IntKind.i64 0, .int Go.IntKind.i64 0, .sl true 0 [], .sl true 0 []] [(0, 1, (.c (.int Go.IntKind.i64 7)))], none⟩,
         ⟨some 102, .build [.int Go.IntKind.i64 0, .int Go.IntKind.i64 0, .int Go.IntKind.i64 0, .sl true 0 [], .sl true 0 [], .int Go.IntKind.i64 0] [(0, 5, (.t 101)), (5, 1, (.c (.int Go.IntKind.i64 7)))], none⟩,
         ⟨some 103, .build [.int Go.IntKind.i64 0, .int Go.IntKind.i64 0, .int Go.IntKind.i64 0, .sl true 0 [], .sl true 0 []] [], none⟩,
         ⟨some 104, .build [.int Go.IntKind.i64 0, .int Go.IntKind.i64 0, .int Go.IntKind.i64 0, .sl true 0 [], .sl true 0 [], .int Go.IntKind.i64 0] [(0, 5, (.t 103)), (5, 1, (.c (.int Go.IntKind.i64 3)))], none⟩,
         ⟨some 105, .bslice true [.int Go.IntKind.i64 0] 1 1 [(0, (.c (.int Go.IntKind.i64 0)))], none⟩,
         ⟨some 106, .bslice true [.sl true 0 []] 1 1 [(0, (.t 105))], none⟩,
         ⟨some 107, .build [.int Go.IntKind.i64 0, .int Go.IntKind.i64 0, .int Go.IntKind.i64 0, .sl true 0 [], .sl true 0 []] [(4, 1, (.t 106))], none⟩,
         ⟨some 108, .build [.int Go.IntKind.i64 0, .int Go.IntKind.i64 0, .int Go.IntKind.i64 0, .sl true 0 [], .sl true 0 [], .int Go.IntKind.i64 0] [(0, 5, (.t 107)), (5, 1, (.c (.int Go.IntKind.i64 2)))], none⟩,
         ⟨some 109, .bslice true [.int Go.IntKind.i64 0] 1 1 [(0, (.c (.int Go.IntKind.i64 0)))], none⟩,
         ⟨some 110, .bslice true [.sl true 0 []] 1 1 [(0, (.t 109))], none⟩,
         ⟨some 111, .bslice true [.int Go.IntKind.u8 0] 1 1 [(0, (.c (.int Go.IntKind.u8 9)))], none⟩,
         ⟨some 112, .build [.int Go.IntKind.i64 0, .int Go.IntKind.i64 0, .int Go.IntKind.i64 0, .sl true 0 [], .sl true 0 []] [(4, 1, (.t 110)), (3, 1, (.t 111)), (2, 1, (.c (.int Go.IntKind.i64 (-1))))], none⟩,
         ⟨some 113, .build [.int Go.IntKind.i64 0, .int Go.IntKind.i64 0, .int Go.IntKind.i64 0, .sl true 0 [], .sl true 0 [], .int Go.IntKind.i64 0] [(0, 5, (.t 112)), (5, 1, (.c (.int Go.IntKind.i64 8)))], none⟩,
         ⟨some 114, .bslice true [.int Go.IntKind.i64 0] 1 1 [(0, (.c (.int Go.IntKind.i64 0)))], none⟩,
         ⟨some 115, .bslice true [.sl true 0 []] 1 1 [(0, (.t 114))], none⟩,
         ⟨some 116, .bslice true [.int Go.IntKind.u8 0] 1 1 [(0, (.c (.int Go.IntKind.u8 9)))], none⟩,
         ⟨some 117, .build [.int Go.IntKind.i64 0, .int Go.IntKind.i64 0, .int Go.IntKind.i64 0, .sl true 0 [], .sl true 0 []] [(1, 1, (.c (.int Go.IntKind.i64 1))), (4, 1, (.t 115)), (3, 1, (.t 116))], none⟩,
         ⟨some 118, .build [.int Go.IntKind.i64 0, .int Go.IntKind.i64 0, .int Go.IntKind.i64 0, .sl true 0 [], .sl true 0 [], .int Go.IntKind.i64 0] [(0, 5, (.t 117)), (5, 1, (.c (.int Go.IntKind.i64 2)))], none⟩,
         ⟨some 119, .bslice true [.int Go.IntKind.i64 0] 1 1 [(0, (.c (.int Go.IntKind.i64 1)))], none⟩,
         ⟨some 120, .bslice true [.sl true 0 []] 1 1 [(0, (.t 119))], none⟩,
         ⟨some 121, .bslice true [.int Go.IntKind.u8 0] 1 1 [(0, (.c (.int Go.IntKind.u8 9)))], none⟩,
         ⟨some 122, .build [.int Go.IntKind.i64 0, .int Go.IntKind.i64 0, .int Go.IntKind.i64 0, .sl true 0 [], .sl true 0 []] [(4, 1, (.t 120)), (3, 1, (.t 121))], none⟩,
         ⟨some 123, .build [.int Go.IntKind.i64 0, .int Go.IntKind.i64 0, .int Go.IntKind.i64 0, .sl true 0 [], .sl true 0 [], .int Go.IntKind.i64 0] [(0, 5, (.t 122)), (5, 1, (.c (.int Go.IntKind.i64 8)))], none⟩,
         ⟨some 124, .bslice true [.int Go.IntKind.i64 0] 1 1 [(0, (.c (.int Go.IntKind.i64 0)))], none⟩,
         ⟨some 125, .bslice true [.sl true 0 []] 1 1 [(0, (.t 124))], none⟩,
         ⟨some 126, .bslice true [.int Go.IntKind.u8 0] 1 1 [(0, (.c (.int Go.IntKind.u8 1)))], none⟩,
         ⟨some 127, .build [.int Go.IntKind.i64 0, .int Go.IntKind.i64 0, .int Go.IntKind.i64 0, .sl true 0 [], .sl true 0 []] [(4, 1, (.t 125)), (3, 1, (.t 126))], none⟩,
         ⟨some 128, .build [.int Go.IntKind.i64 0, .int Go.IntKind.i64 0, .int Go.IntKind.i64 0, .sl true 0 [], .sl true 0 [], .int Go.IntKind.i64 0] [(0, 5, (.t 127)), (5, 1, (.c (.int Go.IntKind.i64 1)))], none⟩,
         ⟨some 129, .call 42 [], none⟩,
         ⟨some 130, .build [.int Go.IntKind.i64 0, .int Go.IntKind.i64 0, .int Go.IntKind.i64 0, .sl true 0 [], .sl true 0 [], .int Go.IntKind.i64 0] [(0, 5, (.t 129)), (5, 1, (.c (.int Go.IntKind.i64 0)))], none⟩,
         ⟨some 131, .bslice true [.int Go.IntKind.i64 0, .int Go.IntKind.i64 0, .int Go.IntKind.i64 0, .sl true 0 [], .sl true 0 [], .int Go.IntKind.i64 0] 6 8 [(0, (.t 102)), (1, (.t 104)), (2, (.t 108)), (3, (.t 113)), (4, (.t 118)), (5, (.t 123)), (6, (.t 128)), (7, (.t 130))], none⟩,
         ⟨some 132, .len (.t 131), none⟩,
         ⟨some 133, .mov (.c (.int Go.IntKind.i64 0)), none⟩])
      (.block 2 (.loop a8l1s a8l1)))
     (.seq (.region [⟨some 144, .call 43 [], none⟩,
         ⟨some 7, .box (.c (.agg [.int Go.IntKind.i64 0, .int Go.IntKind.i64 0, .int Go.IntKind.i64 0, .sl true 0 [], .sl true 0 []])), none⟩,
         ⟨none, .store 5 (.t 7) (.t 144), none⟩])
      (.seq (.draw 7 [⟨some 146, .load true 5 (.t 7), none⟩,
          ⟨some 147, .mkslice true [.int Go.IntKind.u8 0] 1 (.c (.int Go.IntKind.i64 65)) (.c (.int Go.IntKind.i64 65)), none⟩,
          ⟨some 148, .call 16 [(.t 146), (.t 147)], none⟩,
          ⟨some 145, .mov (.t 148), none⟩,
          ⟨some 149, .ext 0 (.t 145), none⟩,
          ⟨some 150, .ext 1 (.t 145), none⟩,
          ⟨some 151, .ext 2 (.t 145), none⟩,
          ⟨some 8, .mov (.t 149), none⟩,
          ⟨some 9, .mov (.t 150), none⟩,
          ⟨some 10, .mov (.t 151), none⟩])
       (.seq (.region [⟨some 153, .load true 5 (.t 7), none⟩,
           ⟨some 154, .bslice true [.int Go.IntKind.u8 0] 1 1 [(0, (.c (.int Go.IntKind.u8 2)))], none⟩,
           ⟨some 155, .call 16 [(.t 153), (.t 154)], none⟩,
           ⟨some 152, .mov (.t 155), none⟩,
           ⟨some 156, .ext 0 (.t 152), none⟩,
           ⟨some 157, .ext 1 (.t 152), none⟩,
           ⟨some 158, .ext 2 (.t 152), none⟩,
           ⟨some 11, .mov (.t 156), none⟩,
           ⟨some 12, .mov (.t 157), none⟩,
           ⟨some 13, .mov (.t 158), none⟩])
        (.seq (.region [⟨some 160, .load true 5 (.t 7), none⟩,
            ⟨some 161, .build [.sl true 0 [], .sl true 0 []] [], none⟩,
            ⟨some 162, .call 18 [(.t 160), (.t 161)], none⟩,
            ⟨some 159, .mov (.t 162), none⟩,
            ⟨some 163, .ext 0 (.t 159), none⟩,
            ⟨some 164, .ext 1 (.t 159), none⟩,
            ⟨some 14, .box (.c (.agg [.sl true 0 [], .sl true 0 []])), none⟩,
            ⟨none, .store 2 (.t 14) (.t 163), none⟩,
            ⟨some 15, .mov (.t 164), none⟩])
         (.seq (.region [⟨some 166, .load true 5 (.t 7), none⟩,
             ⟨some 167, .bslice true [.int Go.IntKind.i64 0] 1 1 [(0, (.c (.int Go.IntKind.i64 0)))], none⟩,
             ⟨some 168, .bslice true [.sl true 0 []] 1 1 [(0, (.t 167))], none⟩,
             ⟨some 169, .bslice true [.int Go.IntKind.u8 0] 1 1 [(0, (.c (.int Go.IntKind.u8 0)))], none⟩,
             ⟨some 170, .build [.int Go.IntKind.i64 0, .int Go.IntKind.i64 0, .int Go.IntKind.i64 0, .sl true 0 [], .sl true 0 []] [(0, 1, (.c (.int Go.IntKind.i64 1))), (4, 1, (.t 168)), (3, 1, (.t 169))], none⟩,
             ⟨some 171, .call 31 [(.t 166), (.t 170)], none⟩,
             ⟨some 165, .mov (.t 171), none⟩,
             ⟨some 172, .ext 0 (.t 165), none⟩,
             ⟨some 173, .ext 1 (.t 165), none⟩,
             ⟨some 16, .box (.c (.agg [.sl true 0 [], .sl true 0 []])), none⟩,
             ⟨none, .store 2 (.t 16) (.t 172), none⟩,
             ⟨some 17, .mov (.t 173), none⟩])
          (.seq (.region [⟨some 175, .load true 5 (.t 7), none⟩,
              ⟨some 176, .bslice true [.int Go.IntKind.i64 0] 1 1 [(0, (.c (.int Go.IntKind.i64 0)))], none⟩,
              ⟨some 177, .bslice true [.sl true 0 []] 1 1 [(0, (.t 176))], none⟩,
              ⟨some 178, .bslice true [.int Go.IntKind.u8 0] 1 1 [(0, (.c (.int Go.IntKind.u8 0)))], none⟩,
              ⟨some 179, .bslice true [.sl true 0 []] 1 1 [(0, (.t 178))], none⟩,
              ⟨some 180, .build [.int Go.IntKind.i64 0, .int Go.IntKind.i64 0, .int Go.IntKind.i64 0, .sl true 0 [], .sl true 0 []] [(3, 1, (.t 177)), (4, 1, (.t 179))], none⟩,
              ⟨some 181, .call 37 [(.t 175), (.t 180)], none⟩,
              ⟨some 174, .mov (.t 181), none⟩,
              ⟨some 182, .ext 0 (.t 174), none⟩,
              ⟨some 183, .ext 1 (.t 174), none⟩,
              ⟨some 184, .ext 2 (.t 174), none⟩,
              ⟨some 18, .mov (.t 182), none⟩,
              ⟨some 19, .mov (.t 183), none⟩,
              ⟨some 20, .mov (.t 184), none⟩])
           (.seq (.region [⟨some 186, .load true 5 (.t 7), none⟩,
               ⟨some 187, .call 16 [(.t 186), (.c (.sl true 0 []))], none⟩,
               ⟨some 185, .mov (.t 187), none⟩,
               ⟨some 188, .ext 0 (.t 185), none⟩,
               ⟨some 189, .ext 1 (.t 185), none⟩,
               ⟨some 190, .ext 2 (.t 185), none⟩,
               ⟨some 21, .mov (.t 188), none⟩,
               ⟨some 22, .mov (.t 189), none⟩,
               ⟨some 23, .mov (.t 190), none⟩])
            (.seq (.region [⟨some 192, .build [.int Go.IntKind.i64 0, .int Go.IntKind.i64 0, .int Go.IntKind.i64 0, .sl true 0 [], .sl true 0 []] [], none⟩,
                ⟨some 193, .build [.int Go.IntKind.i64 0, .int Go.IntKind.i64 0, .int Go.IntKind.i64 0, .sl true 0 [], .sl true 0 []] [(0, 1, (.c (.int Go.IntKind.i64 9)))], none⟩,
                ⟨some 194, .call 37 [(.t 192), (.t 193)], none⟩,
                ⟨some 191, .mov (.t 194), none⟩,
                ⟨some 195, .ext 0 (.t 191), none⟩,
                ⟨some 196, .ext 1 (.t 191), none⟩,
                ⟨some 197, .ext 2 (.t 191), none⟩,
                ⟨some 24, .mov (.t 195), none⟩,
                ⟨some 25, .mov (.t 196), none⟩,
                ⟨some 26, .mov (.t 197), none⟩])
             (.seq (.region [⟨some 198, .mov (.t 10), none⟩,
                 ⟨some 199, .bin .eql (.t 198) (.c (.int Go.IntKind.i64 4)), none⟩,
                 ⟨some 200, .mov (.t 199), none⟩,
                 ⟨some 201, .mov (.t 13), some (200, true)⟩,
                 ⟨some 202, .bin .eql (.t 201) (.c (.int Go.IntKind.i64 1)), some (200, true)⟩,
                 ⟨some 203, .pick (.t 200) (.t 202) (.c (.bool false)), none⟩,
                 ⟨some 204, .mov (.t 203), none⟩,
                 ⟨some 205, .mov (.t 15), some (204, true)⟩,
                 ⟨some 206, .bin .eql (.t 205) (.c (.int Go.IntKind.i64 3)), some (204, true)⟩,
                 ⟨some 207, .pick (.t 204) (.t 206) (.c (.bool false)), none⟩,
                 ⟨some 208, .mov (.t 207), none⟩,
                 ⟨some 209, .mov (.t 17), some (208, true)⟩,
                 ⟨some 210, .bin .eql (.t 209) (.c (.int Go.IntKind.i64 16)), some (208, true)⟩,
                 ⟨some 211, .pick (.t 208) (.t 210) (.c (.bool false)), none⟩,
                 ⟨some 212, .mov (.t 211), none⟩,
                 ⟨some 213, .mov (.t 20), some (212, true)⟩,
                 ⟨some 214, .bin .eql (.t 213) (.c (.int Go.IntKind.i64 7)), some (212, true)⟩,
                 ⟨some 215, .pick (.t 212) (.t 214) (.c (.bool false)), none⟩,
                 ⟨some 216, .mov (.t 215), none⟩,
                 ⟨some 217, .mov (.t 23), some (216, true)⟩,
                 ⟨some 218, .bin .eql (.t 217) (.c (.int Go.IntKind.i64 0)), some (216, true)⟩,
                 ⟨some 219, .pick (.t 216) (.t 218) (.c (.bool false)), none⟩,
                 ⟨some 220, .mov (.t 219), none⟩,
                 ⟨some 221, .mov (.t 22), some (220, true)⟩,
                 ⟨some 222, .bslice true [.int Go.IntKind.i64 0] 1 1 [(0, (.c (.int Go.IntKind.i64 0)))], some (220, true)⟩,
                 ⟨some 223, .call 24 [(.t 221), (.t 222)], some (220, true)⟩,
                 ⟨some 224, .pick (.t 220) (.t 223) (.c (.bool false)), none⟩,
                 ⟨some 225, .mov (.t 224), none⟩,
                 ⟨some 226, .mov (.t 26), some (225, true)⟩,
                 ⟨some 227, .bin .eql (.t 226) (.c (.int Go.IntKind.i64 3)), some (225, true)⟩,
                 ⟨some 228, .pick (.t 225) (.t 227) (.c (.bool false)), none⟩,
                 ⟨some 0, .mov (.t 228), none⟩])
              (.ret))))))))))))),
  [.tmp 0]⟩

/-- sentinel/sentinellaw34.awake -/
def a13 : AFunc := ⟨131,
  .seq (.region [⟨some 0, .mov (.c (.bool false)), none⟩])
  (.seq (.region [⟨some 19, .call 43 [], none⟩,
      ⟨some 1, .box (.c (.agg [.int Go.IntKind.i64 0, .int Go.IntKind.i64 0, .int Go.IntKind.i64 0, .sl true 0 [], .sl true 0 []])), none⟩,
      ⟨none, .store 5 (.t 1) (.t 19), none⟩])
   (.seq (.region [⟨some 20, .bslice true [.int Go.IntKind.i64 0] 1 2 [(0, (.c (.int Go.IntKind.i64 1))), (1, (.c (.int Go.IntKind.i64 1)))], none⟩,
       ⟨some 21, .bslice true [.int Go.IntKind.i64 0] 1 2 [(0, (.c (.int Go.IntKind.i64 0))), (1, (.c (.int Go.IntKind.i64 0)))], none⟩,
       ⟨some 22, .bslice true [.sl true 0 []] 1 2 [(0, (.t 20)), (1, (.t 21))], none⟩,
       ⟨some 23, .bslice true [.int Go.IntKind.u8 0] 1 2 [(0, (.c (.int Go.IntKind.u8 1))), (1, (.c (.int Go.IntKind.u8 0)))], none⟩,
       ⟨some 24, .bslice true [.int Go.IntKind.u8 0] 1 2 [(0, (.c (.int Go.IntKind.u8 1))), (1, (.c (.int Go.IntKind.u8 0)))], none⟩,
       ⟨some 25, .bslice true [.sl true 0 []] 1 2 [(0, (.t 23)), (1, (.t 24))], none⟩,
       ⟨some 26, .build [.int Go.IntKind.i64 0, .int Go.IntKind.i64 0, .int Go.IntKind.i64 0, .sl true 0 [], .sl true 0 []] [(0, 1, (.c (.int Go.IntKind.i64 1))), (1, 1, (.c (.int Go.IntKind.i64 1))), (3, 1, (.t 22)), (4, 1, (.t 25))], none⟩,
       ⟨some 2, .box (.c (.agg [.int Go.IntKind.i64 0, .int Go.IntKind.i64 0, .int Go.IntKind.i64 0, .sl true 0 [], .sl true 0 []])), none⟩,
       ⟨none, .store 5 (.t 2) (.t 26), none⟩])
    (.seq (.region [⟨some 27, .call 43 [], none⟩,
        ⟨some 3, .box (.c (.agg [.int Go.IntKind.i64 0, .int Go.IntKind.i64 0, .int Go.IntKind.i64 0, .sl true 0 [], .sl true 0 []])), none⟩,
        ⟨none, .store 5 (.t 3) (.t 27), none⟩])
     (.seq (.region [⟨some 28, .bslice true [.int Go.IntKind.u8 0] 1 2 [(0, (.c (.int Go.IntKind.u8 1))), (1, (.c (.int Go.IntKind.u8 1)))], none⟩,
         ⟨some 29, .bslice true [.sl true 0 []] 1 1 [(0, (.t 28))], none⟩,
         ⟨some 30, .faddr 4 (.t 3), none⟩,
         ⟨none, .store 1 (.t 30) (.t 29), none⟩])
      (.seq (.region [⟨some 32, .load true 5 (.t 1), none⟩,
          ⟨some 33, .bslice true [.int Go.IntKind.u8 0] 1 3 [(0, (.c (.int Go.IntKind.u8 0))), (1, (.c (.int Go.IntKind.u8 1))), (2, (.c (.int Go.IntKind.u8 1)))], none⟩,
          ⟨some 34, .call 16 [(.t 32), (.t 33)], none⟩,
          ⟨some 31, .mov (.t 34), none⟩,
          ⟨some 35, .ext 0 (.t 31), none⟩,
          ⟨some 36, .ext 1 (.t 31), none⟩,
          ⟨some 37, .ext 2 (.t 31), none⟩,
          ⟨some 4, .mov (.t 35), none⟩,
          ⟨some 5, .mov (.t 36), none⟩,
          ⟨some 6, .mov (.t 37), none⟩])
       (.seq (.region [⟨some 39, .load true 5 (.t 1), none⟩,
           ⟨some 40, .bslice true [.int Go.IntKind.u8 0] 1 2 [(0, (.c (.int Go.IntKind.u8 0))), (1, (.c (.int Go.IntKind.u8 1)))], none⟩,
           ⟨some 41, .build [.sl true 0 [], .sl true 0 []] [(1, 1, (.t 40))], none⟩,
           ⟨some 42, .call 18 [(.t 39), (.t 41)], none⟩,
           ⟨some 38, .mov (.t 42), none⟩,
           ⟨some 43, .ext 0 (.t 38), none⟩,
           ⟨some 44, .ext 1 (.t 38), none⟩,
           ⟨some 7, .box (.c (.agg [.sl true 0 [], .sl true 0 []])), none⟩,
           ⟨none, .store 2 (.t 7) (.t 43), none⟩,
           ⟨some 8, .mov (.t 44), none⟩])
        (.seq (.region [⟨some 46, .load true 5 (.t 2), none⟩,
            ⟨some 47, .call 35 [(.t 46)], none⟩,
            ⟨some 45, .mov (.t 47), none⟩,
            ⟨some 48, .ext 0 (.t 45), none⟩,
            ⟨some 49, .ext 1 (.t 45), none⟩,
            ⟨some 9, .box (.c (.agg [.int Go.IntKind.i64 0, .int Go.IntKind.i64 0, .int Go.IntKind.i64 0, .sl true 0 [], .sl true 0 []])), none⟩,
            ⟨none, .store 5 (.t 9) (.t 48), none⟩,
            ⟨some 10, .mov (.t 49), none⟩])
         (.seq (.region [⟨some 51, .load true 5 (.t 1), none⟩,
             ⟨some 52, .load true 5 (.t 2), none⟩,
             ⟨some 53, .call 37 [(.t 51), (.t 52)], none⟩,
             ⟨some 50, .mov (.t 53), none⟩,
             ⟨some 54, .ext 0 (.t 50), none⟩,
             ⟨some 55, .ext 1 (.t 50), none⟩,
             ⟨some 56, .ext 2 (.t 50), none⟩,
             ⟨some 11, .mov (.t 54), none⟩,
             ⟨some 12, .mov (.t 55), none⟩,
             ⟨some 13, .mov (.t 56), none⟩])
          (.seq (.draw 7 [⟨some 58, .load true 5 (.t 1), none⟩,
              ⟨some 59, .call 42 [], none⟩,
              ⟨some 60, .call 31 [(.t 58), (.t 59)], none⟩,
              ⟨some 57, .mov (.t 60), none⟩,
              ⟨some 61, .ext 0 (.t 57), none⟩,
              ⟨some 62, .ext 1 (.t 57), none⟩,
              ⟨some 14, .box (.c (.agg [.sl true 0 [], .sl true 0 []])), none⟩,
              ⟨none, .store 2 (.t 14) (.t 61), none⟩,
              ⟨some 15, .mov (.t 62), none⟩])
           (.seq (.region [⟨some 64, .load true 5 (.t 1), none⟩,
               ⟨some 65, .load true 5 (.t 3), none⟩,
               ⟨some 66, .call 37 [(.t 64), (.t 65)], none⟩,
               ⟨some 63, .mov (.t 66), none⟩,
               ⟨some 67, .ext 0 (.t 63), none⟩,
               ⟨some 68, .ext 1 (.t 63), none⟩,
               ⟨some 69, .ext 2 (.t 63), none⟩,
               ⟨some 16, .mov (.t 67), none⟩,
               ⟨some 17, .mov (.t 68), none⟩,
               ⟨some 18, .mov (.t 69), none⟩])
            (.seq (.region [⟨some 70, .mov (.t 6), none⟩,
                ⟨some 71, .bin .eql (.t 70) (.c (.int Go.IntKind.i64 0)), none⟩,
                ⟨some 72, .mov (.t 71), none⟩,
                ⟨some 73, .mov (.t 4), some (72, true)⟩,
                ⟨some 74, .bslice true [.int Go.IntKind.u8 0] 1 3 [(0, (.c (.int Go.IntKind.u8 1))), (1, (.c (.int Go.IntKind.u8 0))), (2, (.c (.int Go.IntKind.u8 0)))], some (72, true)⟩,
                ⟨some 75, .call 23 [(.t 73), (.t 74)], some (72, true)⟩,
                ⟨some 76, .pick (.t 72) (.t 75) (.c (.bool false)), none⟩,
                ⟨some 77, .mov (.t 76), none⟩,
                ⟨some 78, .mov (.t 5), some (77, true)⟩,
                ⟨some 79, .bslice true [.int Go.IntKind.i64 0] 1 4 [(0, (.c (.int Go.IntKind.i64 0))), (1, (.c (.int Go.IntKind.i64 0))), (2, (.c (.int Go.IntKind.i64 0))), (3, (.c (.int Go.IntKind.i64 0)))], some (77, true)⟩,
                ⟨some 80, .call 24 [(.t 78), (.t 79)], some (77, true)⟩,
                ⟨some 81, .pick (.t 77) (.t 80) (.c (.bool false)), none⟩,
                ⟨some 82, .mov (.t 81), none⟩,
                ⟨some 83, .mov (.t 8), some (82, true)⟩,
                ⟨some 84, .bin .eql (.t 83) (.c (.int Go.IntKind.i64 0)), some (82, true)⟩,
                ⟨some 85, .pick (.t 82) (.t 84) (.c (.bool false)), none⟩,
                ⟨some 86, .mov (.t 85), none⟩,
                ⟨some 87, .load true 2 (.t 7), some (86, true)⟩,
                ⟨some 88, .bslice true [.int Go.IntKind.u8 0] 1 2 [(0, (.c (.int Go.IntKind.u8 2))), (1, (.c (.int Go.IntKind.u8 1)))], some (86, true)⟩,
                ⟨some 89, .build [.sl true 0 [], .sl true 0 []] [(1, 1, (.t 88))], some (86, true)⟩,
                ⟨some 90, .call 25 [(.t 87), (.t 89)], some (86, true)⟩,
                ⟨some 91, .pick (.t 86) (.t 90) (.c (.bool false)), none⟩,
                ⟨some 92, .mov (.t 91), none⟩,
                ⟨some 93, .mov (.t 10), some (92, true)⟩,
                ⟨some 94, .bin .eql (.t 93) (.c (.int Go.IntKind.i64 0)), some (92, true)⟩,
                ⟨some 95, .pick (.t 92) (.t 94) (.c (.bool false)), none⟩,
                ⟨some 96, .mov (.t 95), none⟩,
                ⟨some 97, .load true 5 (.t 9), some (96, true)⟩,
                ⟨some 98, .load true 5 (.t 1), some (96, true)⟩,
                ⟨some 99, .call 29 [(.t 97), (.t 98)], some (96, true)⟩,
                ⟨some 100, .pick (.t 96) (.t 99) (.c (.bool false)), none⟩,
                ⟨some 101, .mov (.t 100), none⟩,
                ⟨some 102, .mov (.t 13), some (101, true)⟩,
                ⟨some 103, .bin .eql (.t 102) (.c (.int Go.IntKind.i64 0)), some (101, true)⟩,
                ⟨some 104, .pick (.t 101) (.t 103) (.c (.bool false)), none⟩,
                ⟨some 105, .mov (.t 104), none⟩,
                ⟨some 106, .mov (.t 12), some (105, true)⟩,
                ⟨some 107, .pick (.t 105) (.t 106) (.c (.bool false)), none⟩,
                ⟨some 108, .mov (.t 107), none⟩,
                ⟨some 109, .mov (.t 15), some (108, true)⟩,
                ⟨some 110, .bin .eql (.t 109) (.c (.int Go.IntKind.i64 0)), some (108, true)⟩,
                ⟨some 111, .pick (.t 108) (.t 110) (.c (.bool false)), none⟩,
                ⟨some 112, .mov (.t 111), none⟩,
                ⟨some 113, .load true 2 (.t 14), some (112, true)⟩,
                ⟨some 114, .bslice true [.int Go.IntKind.u8 0] 1 1 [(0, (.c (.int Go.IntKind.u8 1)))], some (112, true)⟩,
                ⟨some 115, .build [.sl true 0 [], .sl true 0 []] [(1, 1, (.t 114))], some (112, true)⟩,
                ⟨some 116, .call 25 [(.t 113), (.t 115)], some (112, true)⟩,
                ⟨some 117, .pick (.t 112) (.t 116) (.c (.bool false)), none⟩,
                ⟨some 118, .mov (.t 117), none⟩,
                ⟨some 119, .mov (.t 18), some (118, true)⟩,
                ⟨some 120, .bin .eql (.t 119) (.c (.int Go.IntKind.i64 0)), some (118, true)⟩,
                ⟨some 121, .pick (.t 118) (.t 120) (.c (.bool false)), none⟩,
                ⟨some 122, .mov (.t 121), none⟩,
                ⟨some 123, .mov (.t 17), some (122, true)⟩,
                ⟨some 124, .un .not (.t 123), some (122, true)⟩,
                ⟨some 125, .pick (.t 122) (.t 124) (.c (.bool false)), none⟩,
                ⟨some 126, .mov (.t 125), none⟩,
                ⟨some 127, .mov (.t 16), some (126, true)⟩,
                ⟨some 128, .bslice true [.int Go.IntKind.u8 0] 1 1 [(0, (.c (.int Go.IntKind.u8 1)))], some (126, true)⟩,
                ⟨some 129, .call 23 [(.t 127), (.t 128)], some (126, true)⟩,
                ⟨some 130, .pick (.t 126) (.t 129) (.c (.bool false)), none⟩,
                ⟨some 0, .mov (.t 130), none⟩])
             (.ret)))))))))))),
  [.tmp 0]⟩

def a16l0b : ACode :=
  .seq (.region [⟨some 31, .bin .lss (.t 30) (.t 29), none⟩])
  (.seq (.cond (.t 31)
    (.skip)
    (.exit 1))
   (.seq (.block 2 (.seq (.region [⟨some 32, .iaddr 1 (.t 28) (.t 30), none⟩,
         ⟨some 33, .load false 1 (.t 32), none⟩,
         ⟨some 10, .mov (.t 33), none⟩])
      (.seq (.region [⟨some 34, .mov (.t 4), none⟩,
          ⟨some 35, .faddr 4 (.t 2), none⟩,
          ⟨some 36, .load false 1 (.t 35), none⟩,
          ⟨some 37, .mov (.t 8), none⟩,
          ⟨some 38, .iaddr 1 (.t 36) (.t 37), none⟩,
          ⟨some 39, .load false 1 (.t 38), none⟩,
          ⟨some 40, .mov (.t 10), none⟩,
          ⟨some 41, .iaddr 1 (.t 39) (.t 40), none⟩,
          ⟨some 42, .load false 1 (.t 41), none⟩,
          ⟨some 43, .bslice true [.int Go.IntKind.u8 0] 1 1 [(0, (.t 42))], none⟩,
          ⟨some 44, .append false 1 1 (.t 34) (.t 43), none⟩,
          ⟨some 4, .mov (.t 44), none⟩])
       (.seq (.region [⟨some 45, .faddr 3 (.t 2), none⟩,
           ⟨some 46, .load false 1 (.t 45), none⟩,
           ⟨some 47, .mov (.t 8), none⟩,
           ⟨some 48, .iaddr 1 (.t 46) (.t 47), none⟩,
           ⟨some 49, .load false 1 (.t 48), none⟩,
           ⟨some 50, .mov (.t 10), none⟩,
           ⟨some 51, .iaddr 1 (.t 49) (.t 50), none⟩,
           ⟨some 52, .load false 1 (.t 51), none⟩,
           ⟨some 8, .mov (.t 52), none⟩])
        (.region [⟨some 53, .mov (.t 5), none⟩,
           ⟨some 54, .mov (.t 8), none⟩,
           ⟨some 55, .bslice true [.int Go.IntKind.i64 0] 1 1 [(0, (.t 54))], none⟩,
           ⟨some 56, .append false 1 8 (.t 53) (.t 55), none⟩,
           ⟨some 5, .mov (.t 56), none⟩])))))
    (.region [⟨some 57, .bin .add (.t 30) (.c (.int Go.IntKind.i64 1)), none⟩,
       ⟨some 30, .mov (.t 57), none⟩])))

def a16l0 : ACode := a16l0b
def a16l0s : List Nat := [0, 1, 3, 6, 7, 9, 10, 11, 12, 13, 14, 15, 16, 17, 18, 19, 20, 21, 22, 23, 24, 25, 26, 27, 31, 32, 33, 34, 35, 36, 37, 38, 39, 40, 41, 42, 43, 44, 45, 46, 47, 48, 49, 50, 51, 52, 53, 54, 55, 56, 57, 58, 59]
abbrev a16l0F (s2 s4 s5 s8 s28 s29 s30 : AV) : List AV := [.any, .any, s2, .any, s4, s5, .any, .any, s8, .any, .any, .any, .any, .any, .any, .any, .any, .any, .any, .any, .any, .any, .any, .any, .any, .any, .any, .any, s28, s29, s30, .any, .any, .any, .any, .any, .any, .any, .any, .any, .any, .any, .any, .any, .any, .any, .any, .any, .any, .any, .any, .any, .any, .any, .any, .any, .any, .any, .any, .any]
theorem a16l0c (s0 s1 s2 s3 s4 s5 s6 s7 s8 s9 s10 s11 s12 s13 s14 s15 s16 s17 s18 s19 s20 s21 s22 s23 s24 s25 s26 s27 s28 s29 s30 s31 s32 s33 s34 s35 s36 s37 s38 s39 s40 s41 s42 s43 s44 s45 s46 s47 s48 s49 s50 s51 s52 s53 s54 s55 s56 s57 s58 s59 : AV) : clearA a16l0s [s0, s1, s2, s3, s4, s5, s6, s7, s8, s9, s10, s11, s12, s13, s14, s15, s16, s17, s18, s19, s20, s21, s22, s23, s24, s25, s26, s27, s28, s29, s30, s31, s32, s33, s34, s35, s36, s37, s38, s39, s40, s41, s42, s43, s44, s45, s46, s47, s48, s49, s50, s51, s52, s53, s54, s55, s56, s57, s58, s59] = a16l0F s2 s4 s5 s8 s28 s29 s30 := by kernel_rfl
theorem a16l0n {prog : Nat → Option AFunc} (s2 s4 s5 s8 s28 s29 s30 : AV) (H : Heap) : (lim prog).loop a16l0s a16l0 ⟨a16l0F s2 s4 s5 s8 s28 s29 s30, H⟩ = loopK (lim prog) a16l0s a16l0 (run (lim prog) a16l0b ⟨a16l0F s2 s4 s5 s8 s28 s29 s30, H⟩) := lim_loop_step _ _ _ _ (by kernel_rfl)

/-- sentinel/mealy.Run -/
def a16 : AFunc := ⟨60,
  .seq (.region [⟨some 2, .box (.t 0), none⟩,
     ⟨some 4, .mov (.c (.sl true 0 [])), none⟩,
     ⟨some 5, .mov (.c (.sl true 0 [])), none⟩,
     ⟨some 6, .mov (.c (.int Go.IntKind.i64 0)), none⟩])
  (.seq (.seq (.region [⟨some 11, .load true 5 (.t 2), none⟩,
       ⟨some 12, .call 21 [(.t 11)], none⟩,
       ⟨some 7, .mov (.t 12), none⟩])
    (.seq (.region [⟨some 13, .mov (.t 7), none⟩,
        ⟨some 14, .bin .neq (.t 13) (.c (.int Go.IntKind.i64 0)), none⟩])
     (.cond (.t 14)
      (.seq (.region [⟨some 15, .mov (.t 7), none⟩,
          ⟨some 4, .mov (.c (.sl true 0 [])), none⟩,
          ⟨some 5, .mov (.c (.sl true 0 [])), none⟩,
          ⟨some 6, .mov (.t 15), none⟩])
       (.ret))
      (.skip))))
   (.seq (.block 0 (.seq (.region [⟨some 17, .mov (.t 1), none⟩,
         ⟨some 18, .len (.t 17), none⟩,
         ⟨some 19, .bin .gtr (.t 18) (.c (.int Go.IntKind.i64 64)), none⟩,
         ⟨some 16, .mov (.t 19), none⟩])
      (.cond (.t 16)
       (.seq (.region [⟨some 4, .mov (.c (.sl true 0 [])), none⟩,
           ⟨some 5, .mov (.c (.sl true 0 [])), none⟩,
           ⟨some 6, .mov (.c (.int Go.IntKind.i64 4)), none⟩])
        (.ret))
       (.seq (.region [⟨some 21, .mov (.t 1), none⟩,
           ⟨some 22, .mkfunc 53 [(.t 2)], none⟩,
           ⟨some 23, .icall (.c (.func 52 [])) [(.t 21), (.t 22)], none⟩,
           ⟨some 20, .mov (.t 23), none⟩])
        (.cond (.t 20)
         (.seq (.region [⟨some 4, .mov (.c (.sl true 0 [])), none⟩,
             ⟨some 5, .mov (.c (.sl true 0 [])), none⟩,
             ⟨some 6, .mov (.c (.int Go.IntKind.i64 1)), none⟩])
          (.ret))
         (.skip))))))
    (.seq (.region [⟨some 24, .faddr 2 (.t 2), none⟩,
        ⟨some 25, .load false 1 (.t 24), none⟩,
        ⟨some 8, .mov (.t 25), none⟩])
     (.seq (.region [⟨some 26, .mov (.t 8), none⟩,
         ⟨some 27, .bslice false [.int Go.IntKind.i64 0] 1 1 [(0, (.t 26))], none⟩,
         ⟨some 5, .mov (.t 27), none⟩])
      (.seq (.seq (.region [⟨some 28, .mov (.t 1), none⟩,
           ⟨some 29, .len (.t 28), none⟩,
           ⟨some 30, .mov (.c (.int Go.IntKind.i64 0)), none⟩])
        (.block 1 (.loop a16l0s a16l0)))
       (.seq (.region [⟨some 58, .mov (.t 4), none⟩,
           ⟨some 59, .mov (.t 5), none⟩,
           ⟨some 4, .mov (.t 58), none⟩,
           ⟨some 5, .mov (.t 59), none⟩,
           ⟨some 6, .mov (.c (.int Go.IntKind.i64 0)), none⟩])
        (.ret))))))),
  [.tmp 4, .tmp 5, .tmp 6]⟩

def a18l0b : ACode :=
  .seq (.block 1 (.seq (.seq (.region [⟨some 33, .mov (.t 8), none⟩,
        ⟨some 34, .load true 2 (.t 3), none⟩,
        ⟨some 35, .mov (.t 10), none⟩,
        ⟨some 36, .call 55 [(.t 34), (.t 35)], none⟩,
        ⟨some 37, .build [.int Go.IntKind.i64 0, .int Go.IntKind.i64 0] [(0, 1, (.t 33)), (1, 1, (.t 36))], none⟩,
        ⟨some 38, .icall (.c (.func 54 [])) [(.t 9), (.t 37)], none⟩,
        ⟨some 32, .mov (.t 38), none⟩,
        ⟨some 39, .ext 0 (.t 32), none⟩,
        ⟨some 40, .ext 1 (.t 32), none⟩,
        ⟨some 11, .box (.c (.agg [.sl true 0 [], .sl true 0 []])), none⟩,
        ⟨none, .store 2 (.t 11) (.t 39), none⟩,
        ⟨some 12, .mov (.t 40), none⟩])
     (.seq (.region [⟨some 41, .mov (.t 12), none⟩])
      (.cond (.t 41)
       (.seq (.region [⟨some 42, .load true 2 (.t 11), none⟩,
           ⟨none, .store 2 (.t 4) (.t 42), none⟩,
           ⟨some 5, .mov (.c (.int Go.IntKind.i64 0)), none⟩])
        (.ret))
       (.skip))))
    (.seq (.region [⟨some 43, .load true 2 (.t 3), none⟩,
        ⟨some 44, .mov (.t 10), none⟩,
        ⟨some 45, .call 47 [(.t 43), (.t 44)], none⟩,
        ⟨some 13, .mov (.t 45), none⟩])
     (.seq (.draw 11 [⟨some 46, .faddr 1 (.t 9), none⟩,
         ⟨some 47, .load false 1 (.t 46), none⟩,
         ⟨some 48, .mov (.t 13), none⟩,
         ⟨some 49, .faddr 4 (.t 2), none⟩,
         ⟨some 50, .load false 1 (.t 49), none⟩,
         ⟨some 51, .mov (.t 8), none⟩,
         ⟨some 52, .iaddr 1 (.t 50) (.t 51), none⟩,
         ⟨some 53, .load false 1 (.t 52), none⟩,
         ⟨some 54, .mov (.t 13), none⟩,
         ⟨some 55, .iaddr 1 (.t 53) (.t 54), none⟩,
         ⟨some 56, .load false 1 (.t 55), none⟩,
         ⟨some 57, .faddr 0 (.t 2), none⟩,
         ⟨some 58, .load false 1 (.t 57), none⟩,
         ⟨some 59, .bin .shl (.t 56) (.t 58), none⟩,
         ⟨some 60, .bin .or (.t 48) (.t 59), none⟩,
         ⟨some 61, .bslice true [.int Go.IntKind.u8 0] 1 1 [(0, (.t 60))], none⟩,
         ⟨some 62, .append false 1 1 (.t 47) (.t 61), none⟩,
         ⟨some 63, .faddr 1 (.t 9), none⟩,
         ⟨none, .store 1 (.t 63) (.t 62), none⟩])
      (.region [⟨some 64, .faddr 3 (.t 2), none⟩,
         ⟨some 65, .load false 1 (.t 64), none⟩,
         ⟨some 66, .mov (.t 8), none⟩,
         ⟨some 67, .iaddr 1 (.t 65) (.t 66), none⟩,
         ⟨some 68, .load false 1 (.t 67), none⟩,
         ⟨some 69, .mov (.t 13), none⟩,
         ⟨some 70, .iaddr 1 (.t 68) (.t 69), none⟩,
         ⟨some 71, .load false 1 (.t 70), none⟩,
         ⟨some 8, .mov (.t 71), none⟩])))))
  (.region [⟨some 30, .mov (.t 10), none⟩,
     ⟨some 31, .bin .add (.t 30) (.c (.int Go.IntKind.i64 1)), none⟩,
     ⟨some 10, .mov (.t 31), none⟩])

def a18l0 : ACode := a18l0b
def a18l0s : List Nat := [0, 1, 6, 7, 11, 12, 13, 14, 15, 16, 17, 18, 19, 20, 21, 22, 23, 24, 25, 26, 27, 28, 29, 30, 31, 32, 33, 34, 35, 36, 37, 38, 39, 40, 41, 42, 43, 44, 45, 46, 47, 48, 49, 50, 51, 52, 53, 54, 55, 56, 57, 58, 59, 60, 61, 62, 63, 64, 65, 66, 67, 68, 69, 70, 71]
abbrev a18l0F (s2 s3 s4 s5 s8 s9 s10 : AV) : List AV := [.any, .any, s2, s3, s4, s5, .any, .any, s8, s9, s10, .any, .any, .any, .any, .any, .any, .any, .any, .any, .any, .any, .any, .any, .any, .any, .any, .any, .any, .any, .any, .any, .any, .any, .any, .any, .any, .any, .any, .any, .any, .any, .any, .any, .any, .any, .any, .any, .any, .any, .any, .any, .any, .any, .any, .any, .any, .any, .any, .any, .any, .any, .any, .any, .any, .any, .any, .any, .any, .any, .any, .any]
theorem a18l0c (s0 s1 s2 s3 s4 s5 s6 s7 s8 s9 s10 s11 s12 s13 s14 s15 s16 s17 s18 s19 s20 s21 s22 s23 s24 s25 s26 s27 s28 s29 s30 s31 s32 s33 s34 s35 s36 s37 s38 s39 s40 s41 s42 s43 s44 s45 s46 s47 s48 s49 s50 s51 s52 s53 s54 s55 s56 s57 s58 s59 s60 s61 s62 s63 s64 s65 s66 s67 s68 s69 s70 s71 : AV) : clearA a18l0s [s0, s1, s2, s3, s4, s5, s6, s7, s8, s9, s10, s11, s12, s13, s14, s15, s16, s17, s18, s19, s20, s21, s22, s23, s24, s25, s26, s27, s28, s29, s30, s31, s32, s33, s34, s35, s36, s37, s38, s39, s40, s41, s42, s43, s44, s45, s46, s47, s48, s49, s50, s51, s52, s53, s54, s55, s56, s57, s58, s59, s60, s61, s62, s63, s64, s65, s66, s67, s68, s69, s70, s71] = a18l0F s2 s3 s4 s5 s8 s9 s10 := by kernel_rfl
theorem a18l0n {prog : Nat → Option AFunc} (s2 s3 s4 s5 s8 s9 s10 : AV) (H : Heap) : (lim prog).loop a18l0s a18l0 ⟨a18l0F s2 s3 s4 s5 s8 s9 s10, H⟩ = loopK (lim prog) a18l0s a18l0 (run (lim prog) a18l0b ⟨a18l0F s2 s3 s4 s5 s8 s9 s10, H⟩) := lim_loop_step _ _ _ _ (by kernel_rfl)

/-- sentinel/mealy.Lasso -/
def a18 : AFunc := ⟨72,
  .seq (.region [⟨some 2, .box (.t 0), none⟩,
     ⟨some 3, .box (.t 1), none⟩,
     ⟨some 4, .box (.c (.agg [.sl true 0 [], .sl true 0 []])), none⟩,
     ⟨some 5, .mov (.c (.int Go.IntKind.i64 0)), none⟩])
  (.seq (.seq (.region [⟨some 14, .load true 5 (.t 2), none⟩,
       ⟨some 15, .call 21 [(.t 14)], none⟩,
       ⟨some 6, .mov (.t 15), none⟩])
    (.seq (.region [⟨some 16, .mov (.t 6), none⟩,
        ⟨some 17, .bin .neq (.t 16) (.c (.int Go.IntKind.i64 0)), none⟩])
     (.cond (.t 17)
      (.seq (.region [⟨some 18, .build [.sl true 0 [], .sl true 0 []] [], none⟩,
          ⟨some 19, .mov (.t 6), none⟩,
          ⟨none, .store 2 (.t 4) (.t 18), none⟩,
          ⟨some 5, .mov (.t 19), none⟩])
       (.ret))
      (.skip))))
   (.seq (.seq (.region [⟨some 20, .load true 2 (.t 3), none⟩,
        ⟨some 21, .faddr 0 (.t 2), none⟩,
        ⟨some 22, .load false 1 (.t 21), none⟩,
        ⟨some 23, .call 45 [(.t 20), (.t 22)], none⟩,
        ⟨some 7, .mov (.t 23), none⟩])
     (.seq (.region [⟨some 24, .mov (.t 7), none⟩,
         ⟨some 25, .bin .neq (.t 24) (.c (.int Go.IntKind.i64 0)), none⟩])
      (.cond (.t 25)
       (.seq (.region [⟨some 26, .build [.sl true 0 [], .sl true 0 []] [], none⟩,
           ⟨some 27, .mov (.t 7), none⟩,
           ⟨none, .store 2 (.t 4) (.t 26), none⟩,
           ⟨some 5, .mov (.t 27), none⟩])
        (.ret))
       (.skip))))
    (.seq (.region [⟨some 28, .faddr 2 (.t 2), none⟩,
        ⟨some 29, .load false 1 (.t 28), none⟩,
        ⟨some 8, .mov (.t 29), none⟩])
     (.seq (.region [⟨some 9, .box (.c (.agg [.nilm, .sl true 0 []])), none⟩])
      (.seq (.region [⟨some 10, .mov (.c (.int Go.IntKind.i64 0)), none⟩])
       (.block 0 (.loop a18l0s a18l0))))))),
  [.cell 4 true 2, .tmp 5]⟩

def a21l0b : ACode :=
  .seq (.region [⟨some 28, .bin .lss (.t 27) (.t 26), none⟩])
  (.seq (.cond (.t 28)
    (.skip)
    (.exit 0))
   (.seq (.block 1 (.seq (.region [⟨some 29, .mov (.t 27), none⟩,
         ⟨some 30, .iaddr 1 (.t 25) (.t 27), none⟩,
         ⟨some 31, .load false 1 (.t 30), none⟩,
         ⟨some 5, .mov (.t 29), none⟩,
         ⟨some 6, .mov (.t 31), none⟩])
      (.block 2 (.seq (.draw 16 [⟨some 33, .mov (.t 6), none⟩,
           ⟨some 34, .len (.t 33), none⟩,
           ⟨some 35, .faddr 0 (.t 1), none⟩,
           ⟨some 36, .load false 1 (.t 35), none⟩,
           ⟨some 37, .bin .shl (.c (.int Go.IntKind.i64 1)) (.t 36), none⟩,
           ⟨some 38, .bin .neq (.t 34) (.t 37), none⟩,
           ⟨some 39, .mov (.t 38), none⟩,
           ⟨some 40, .faddr 4 (.t 1), some (39, false)⟩,
           ⟨some 41, .load false 1 (.t 40), some (39, false)⟩,
           ⟨some 42, .mov (.t 5), some (39, false)⟩,
           ⟨some 43, .iaddr 1 (.t 41) (.t 42), some (39, false)⟩,
           ⟨some 44, .load false 1 (.t 43), some (39, false)⟩,
           ⟨some 45, .len (.t 44), some (39, false)⟩,
           ⟨some 46, .faddr 0 (.t 1), some (39, false)⟩,
           ⟨some 47, .load false 1 (.t 46), some (39, false)⟩,
           ⟨some 48, .bin .shl (.c (.int Go.IntKind.i64 1)) (.t 47), some (39, false)⟩,
           ⟨some 49, .bin .neq (.t 45) (.t 48), some (39, false)⟩,
           ⟨some 50, .pick (.t 39) (.c (.bool true)) (.t 49), none⟩,
           ⟨some 32, .mov (.t 50), none⟩])
        (.cond (.t 32)
         (.seq (.region [⟨some 2, .mov (.c (.int Go.IntKind.i64 2)), none⟩])
          (.ret))
         (.seq (.region [⟨some 52, .mov (.t 6), none⟩,
             ⟨some 53, .mov (.t 3), none⟩,
             ⟨some 54, .call 60 [(.t 52), (.t 53)], none⟩,
             ⟨some 51, .mov (.t 54), none⟩])
          (.cond (.t 51)
           (.seq (.region [⟨some 2, .mov (.c (.int Go.IntKind.i64 8)), none⟩])
            (.ret))
           (.seq (.draw 10 [⟨some 56, .faddr 4 (.t 1), none⟩,
               ⟨some 57, .load false 1 (.t 56), none⟩,
               ⟨some 58, .mov (.t 5), none⟩,
               ⟨some 59, .iaddr 1 (.t 57) (.t 58), none⟩,
               ⟨some 60, .load false 1 (.t 59), none⟩,
               ⟨some 61, .call 61 [(.t 60)], none⟩,
               ⟨some 62, .conv Go.IntKind.i64 (.t 61), none⟩,
               ⟨some 63, .faddr 1 (.t 1), none⟩,
               ⟨some 64, .load false 1 (.t 63), none⟩,
               ⟨some 65, .bin .shl (.c (.int Go.IntKind.i64 1)) (.t 64), none⟩,
               ⟨some 66, .bin .geq (.t 62) (.t 65), none⟩,
               ⟨some 55, .mov (.t 66), none⟩])
            (.cond (.t 55)
             (.seq (.region [⟨some 2, .mov (.c (.int Go.IntKind.i64 1)), none⟩])
              (.ret))
             (.skip))))))))))
    (.region [⟨some 67, .bin .add (.t 27) (.c (.int Go.IntKind.i64 1)), none⟩,
       ⟨some 27, .mov (.t 67), none⟩])))

def a21l0 : ACode := a21l0b
def a21l0s : List Nat := [0, 4, 5, 6, 7, 8, 9, 10, 11, 12, 13, 14, 15, 16, 17, 18, 19, 20, 21, 22, 23, 24, 28, 29, 30, 31, 32, 33, 34, 35, 36, 37, 38, 39, 40, 41, 42, 43, 44, 45, 46, 47, 48, 49, 50, 51, 52, 53, 54, 55, 56, 57, 58, 59, 60, 61, 62, 63, 64, 65, 66, 67]
abbrev a21l0F (s1 s2 s3 s25 s26 s27 : AV) : List AV := [.any, s1, s2, s3, .any, .any, .any, .any, .any, .any, .any, .any, .any, .any, .any, .any, .any, .any, .any, .any, .any, .any, .any, .any, .any, s25, s26, s27, .any, .any, .any, .any, .any, .any, .any, .any, .any, .any, .any, .any, .any, .any, .any, .any, .any, .any, .any, .any, .any, .any, .any, .any, .any, .any, .any, .any, .any, .any, .any, .any, .any, .any, .any, .any, .any, .any, .any, .any]
theorem a21l0c (s0 s1 s2 s3 s4 s5 s6 s7 s8 s9 s10 s11 s12 s13 s14 s15 s16 s17 s18 s19 s20 s21 s22 s23 s24 s25 s26 s27 s28 s29 s30 s31 s32 s33 s34 s35 s36 s37 s38 s39 s40 s41 s42 s43 s44 s45 s46 s47 s48 s49 s50 s51 s52 s53 s54 s55 s56 s57 s58 s59 s60 s61 s62 s63 s64 s65 s66 s67 : AV) : clearA a21l0s [s0, s1, s2, s3, s4, s5, s6, s7, s8, s9, s10, s11, s12, s13, s14, s15, s16, s17, s18, s19, s20, s21, s22, s23, s24, s25, s26, s27, s28, s29, s30, s31, s32, s33, s34, s35, s36, s37, s38, s39, s40, s41, s42, s43, s44, s45, s46, s47, s48, s49, s50, s51, s52, s53, s54, s55, s56, s57, s58, s59, s60, s61, s62, s63, s64, s65, s66, s67] = a21l0F s1 s2 s3 s25 s26 s27 := by kernel_rfl
theorem a21l0n {prog : Nat → Option AFunc} (s1 s2 s3 s25 s26 s27 : AV) (H : Heap) : (lim prog).loop a21l0s a21l0 ⟨a21l0F s1 s2 s3 s25 s26 s27, H⟩ = loopK (lim prog) a21l0s a21l0 (run (lim prog) a21l0b ⟨a21l0F s1 s2 s3 s25 s26 s27, H⟩) := lim_loop_step _ _ _ _ (by kernel_rfl)

/-- sentinel/mealy.Check -/
def a21 : AFunc := ⟨68,
  .seq (.region [⟨some 1, .box (.t 0), none⟩,
     ⟨some 2, .mov (.c (.int Go.IntKind.i64 0)), none⟩])
  (.seq (.region [⟨some 7, .faddr 3 (.t 1), none⟩,
      ⟨some 8, .load false 1 (.t 7), none⟩,
      ⟨some 9, .len (.t 8), none⟩,
      ⟨some 3, .mov (.t 9), none⟩])
   (.seq (.seq (.region [⟨some 10, .faddr 0 (.t 1), none⟩,
        ⟨some 11, .load false 1 (.t 10), none⟩,
        ⟨some 12, .faddr 1 (.t 1), none⟩,
        ⟨some 13, .load false 1 (.t 12), none⟩,
        ⟨some 14, .mov (.t 3), none⟩,
        ⟨some 15, .faddr 4 (.t 1), none⟩,
        ⟨some 16, .load false 1 (.t 15), none⟩,
        ⟨some 17, .len (.t 16), none⟩,
        ⟨some 18, .faddr 2 (.t 1), none⟩,
        ⟨some 19, .load false 1 (.t 18), none⟩,
        ⟨some 20, .call 59 [(.t 11), (.t 13), (.t 14), (.t 17), (.t 19)], none⟩,
        ⟨some 4, .mov (.t 20), none⟩])
     (.seq (.region [⟨some 21, .mov (.t 4), none⟩,
         ⟨some 22, .bin .neq (.t 21) (.c (.int Go.IntKind.i64 0)), none⟩])
      (.cond (.t 22)
       (.seq (.region [⟨some 23, .mov (.t 4), none⟩,
           ⟨some 2, .mov (.t 23), none⟩])
        (.ret))
       (.skip))))
    (.seq (.seq (.region [⟨some 24, .faddr 3 (.t 1), none⟩,
         ⟨some 25, .load false 1 (.t 24), none⟩,
         ⟨some 26, .len (.t 25), none⟩,
         ⟨some 27, .mov (.c (.int Go.IntKind.i64 0)), none⟩])
      (.block 0 (.loop a21l0s a21l0)))
     (.seq (.region [⟨some 2, .mov (.c (.int Go.IntKind.i64 0)), none⟩])
      (.ret))))),
  [.tmp 2]⟩

def a23l0b : ACode :=
  .seq (.seq (.region [⟨some 11, .mov (.t 5), none⟩,
      ⟨some 12, .mov (.t 0), none⟩,
      ⟨some 13, .len (.t 12), none⟩,
      ⟨some 14, .bin .lss (.t 11) (.t 13), none⟩])
   (.cond (.t 14)
    (.skip)
    (.exit 0)))
  (.seq (.block 1 (.seq (.draw 5 [⟨some 17, .mov (.t 0), none⟩,
        ⟨some 18, .mov (.t 5), none⟩,
        ⟨some 19, .iaddr 1 (.t 17) (.t 18), none⟩,
        ⟨some 20, .load false 1 (.t 19), none⟩,
        ⟨some 21, .mov (.t 1), none⟩,
        ⟨some 22, .mov (.t 5), none⟩,
        ⟨some 23, .iaddr 1 (.t 21) (.t 22), none⟩,
        ⟨some 24, .load false 1 (.t 23), none⟩,
        ⟨some 25, .bin .neq (.t 20) (.t 24), none⟩])
     (.cond (.t 25)
      (.seq (.region [⟨some 4, .mov (.c (.bool false)), none⟩])
       (.ret))
      (.skip))))
   (.region [⟨some 15, .mov (.t 5), none⟩,
      ⟨some 16, .bin .add (.t 15) (.c (.int Go.IntKind.i64 1)), none⟩,
      ⟨some 5, .mov (.t 16), none⟩]))

def a23l0 : ACode := a23l0b
def a23l0s : List Nat := [2, 3, 6, 7, 8, 9, 10, 11, 12, 13, 14, 15, 16, 17, 18, 19, 20, 21, 22, 23, 24, 25]
abbrev a23l0F (s0 s1 s4 s5 : AV) : List AV := [s0, s1, .any, .any, s4, s5, .any, .any, .any, .any, .any, .any, .any, .any, .any, .any, .any, .any, .any, .any, .any, .any, .any, .any, .any, .any]
theorem a23l0c (s0 s1 s2 s3 s4 s5 s6 s7 s8 s9 s10 s11 s12 s13 s14 s15 s16 s17 s18 s19 s20 s21 s22 s23 s24 s25 : AV) : clearA a23l0s [s0, s1, s2, s3, s4, s5, s6, s7, s8, s9, s10, s11, s12, s13, s14, s15, s16, s17, s18, s19, s20, s21, s22, s23, s24, s25] = a23l0F s0 s1 s4 s5 := by kernel_rfl
theorem a23l0n {prog : Nat → Option AFunc} (s0 s1 s4 s5 : AV) (H : Heap) : (lim prog).loop a23l0s a23l0 ⟨a23l0F s0 s1 s4 s5, H⟩ = loopK (lim prog) a23l0s a23l0 (run (lim prog) a23l0b ⟨a23l0F s0 s1 s4 s5, H⟩) := lim_loop_step _ _ _ _ (by kernel_rfl)

/-- sentinel/sentinelkit.EqualBytes -/
def a23 : AFunc := ⟨26,
  .seq (.region [⟨some 4, .mov (.c (.bool false)), none⟩])
  (.seq (.seq (.region [⟨some 6, .mov (.t 0), none⟩,
       ⟨some 7, .len (.t 6), none⟩,
       ⟨some 8, .mov (.t 1), none⟩,
       ⟨some 9, .len (.t 8), none⟩,
       ⟨some 10, .bin .neq (.t 7) (.t 9), none⟩])
    (.cond (.t 10)
     (.seq (.region [⟨some 4, .mov (.c (.bool false)), none⟩])
      (.ret))
     (.skip)))
   (.seq (.seq (.region [⟨some 5, .mov (.c (.int Go.IntKind.i64 0)), none⟩])
     (.block 0 (.loop a23l0s a23l0)))
    (.seq (.region [⟨some 4, .mov (.c (.bool true)), none⟩])
     (.ret)))),
  [.tmp 4]⟩

def a24l0b : ACode :=
  .seq (.seq (.region [⟨some 11, .mov (.t 5), none⟩,
      ⟨some 12, .mov (.t 0), none⟩,
      ⟨some 13, .len (.t 12), none⟩,
      ⟨some 14, .bin .lss (.t 11) (.t 13), none⟩])
   (.cond (.t 14)
    (.skip)
    (.exit 0)))
  (.seq (.block 1 (.seq (.draw 5 [⟨some 17, .mov (.t 0), none⟩,
        ⟨some 18, .mov (.t 5), none⟩,
        ⟨some 19, .iaddr 1 (.t 17) (.t 18), none⟩,
        ⟨some 20, .load false 1 (.t 19), none⟩,
        ⟨some 21, .mov (.t 1), none⟩,
        ⟨some 22, .mov (.t 5), none⟩,
        ⟨some 23, .iaddr 1 (.t 21) (.t 22), none⟩,
        ⟨some 24, .load false 1 (.t 23), none⟩,
        ⟨some 25, .bin .neq (.t 20) (.t 24), none⟩])
     (.cond (.t 25)
      (.seq (.region [⟨some 4, .mov (.c (.bool false)), none⟩])
       (.ret))
      (.skip))))
   (.region [⟨some 15, .mov (.t 5), none⟩,
      ⟨some 16, .bin .add (.t 15) (.c (.int Go.IntKind.i64 1)), none⟩,
      ⟨some 5, .mov (.t 16), none⟩]))

def a24l0 : ACode := a24l0b
def a24l0s : List Nat := [2, 3, 6, 7, 8, 9, 10, 11, 12, 13, 14, 15, 16, 17, 18, 19, 20, 21, 22, 23, 24, 25]
abbrev a24l0F (s0 s1 s4 s5 : AV) : List AV := [s0, s1, .any, .any, s4, s5, .any, .any, .any, .any, .any, .any, .any, .any, .any, .any, .any, .any, .any, .any, .any, .any, .any, .any, .any, .any]
theorem a24l0c (s0 s1 s2 s3 s4 s5 s6 s7 s8 s9 s10 s11 s12 s13 s14 s15 s16 s17 s18 s19 s20 s21 s22 s23 s24 s25 : AV) : clearA a24l0s [s0, s1, s2, s3, s4, s5, s6, s7, s8, s9, s10, s11, s12, s13, s14, s15, s16, s17, s18, s19, s20, s21, s22, s23, s24, s25] = a24l0F s0 s1 s4 s5 := by kernel_rfl
theorem a24l0n {prog : Nat → Option AFunc} (s0 s1 s4 s5 : AV) (H : Heap) : (lim prog).loop a24l0s a24l0 ⟨a24l0F s0 s1 s4 s5, H⟩ = loopK (lim prog) a24l0s a24l0 (run (lim prog) a24l0b ⟨a24l0F s0 s1 s4 s5, H⟩) := lim_loop_step _ _ _ _ (by kernel_rfl)

/-- sentinel/sentinelkit.EqualInts -/
def a24 : AFunc := ⟨26,
  .seq (.region [⟨some 4, .mov (.c (.bool false)), none⟩])
  (.seq (.seq (.region [⟨some 6, .mov (.t 0), none⟩,
       ⟨some 7, .len (.t 6), none⟩,
       ⟨some 8, .mov (.t 1), none⟩,
       ⟨some 9, .len (.t 8), none⟩,
       ⟨some 10, .bin .neq (.t 7) (.t 9), none⟩])
    (.cond (.t 10)
     (.seq (.region [⟨some 4, .mov (.c (.bool false)), none⟩])
      (.ret))
     (.skip)))
   (.seq (.seq (.region [⟨some 5, .mov (.c (.int Go.IntKind.i64 0)), none⟩])
     (.block 0 (.loop a24l0s a24l0)))
    (.seq (.region [⟨some 4, .mov (.c (.bool true)), none⟩])
     (.ret)))),
  [.tmp 4]⟩

/-- sentinel/sentinelref22.Is -/
def a25 : AFunc := ⟨17,
  .seq (.region [⟨some 2, .box (.t 0), none⟩,
     ⟨some 3, .box (.t 1), none⟩,
     ⟨some 4, .mov (.c (.bool false)), none⟩])
  (.seq (.region [⟨some 5, .faddr 0 (.t 2), none⟩,
      ⟨some 6, .load false 1 (.t 5), none⟩,
      ⟨some 7, .faddr 0 (.t 3), none⟩,
      ⟨some 8, .load false 1 (.t 7), none⟩,
      ⟨some 9, .call 65 [(.t 6), (.t 8)], none⟩,
      ⟨some 10, .mov (.t 9), none⟩,
      ⟨some 11, .faddr 1 (.t 2), some (10, true)⟩,
      ⟨some 12, .load false 1 (.t 11), some (10, true)⟩,
      ⟨some 13, .faddr 1 (.t 3), some (10, true)⟩,
      ⟨some 14, .load false 1 (.t 13), some (10, true)⟩,
      ⟨some 15, .call 65 [(.t 12), (.t 14)], some (10, true)⟩,
      ⟨some 16, .pick (.t 10) (.t 15) (.c (.bool false)), none⟩,
      ⟨some 4, .mov (.t 16), none⟩])
   (.ret)),
  [.tmp 4]⟩

/-- sentinel/sentinellaw34.same -/
def a29 : AFunc := ⟨38,
  .seq (.region [⟨some 2, .box (.t 0), none⟩,
     ⟨some 3, .box (.t 1), none⟩,
     ⟨some 4, .mov (.c (.bool false)), none⟩])
  (.seq (.region [⟨some 5, .faddr 0 (.t 2), none⟩,
      ⟨some 6, .load false 1 (.t 5), none⟩,
      ⟨some 7, .faddr 0 (.t 3), none⟩,
      ⟨some 8, .load false 1 (.t 7), none⟩,
      ⟨some 9, .bin .eql (.t 6) (.t 8), none⟩,
      ⟨some 10, .mov (.t 9), none⟩,
      ⟨some 11, .faddr 1 (.t 2), some (10, true)⟩,
      ⟨some 12, .load false 1 (.t 11), some (10, true)⟩,
      ⟨some 13, .faddr 1 (.t 3), some (10, true)⟩,
      ⟨some 14, .load false 1 (.t 13), some (10, true)⟩,
      ⟨some 15, .bin .eql (.t 12) (.t 14), some (10, true)⟩,
      ⟨some 16, .pick (.t 10) (.t 15) (.c (.bool false)), none⟩,
      ⟨some 17, .mov (.t 16), none⟩,
      ⟨some 18, .faddr 2 (.t 2), some (17, true)⟩,
      ⟨some 19, .load false 1 (.t 18), some (17, true)⟩,
      ⟨some 20, .faddr 2 (.t 3), some (17, true)⟩,
      ⟨some 21, .load false 1 (.t 20), some (17, true)⟩,
      ⟨some 22, .bin .eql (.t 19) (.t 21), some (17, true)⟩,
      ⟨some 23, .pick (.t 17) (.t 22) (.c (.bool false)), none⟩,
      ⟨some 24, .mov (.t 23), none⟩,
      ⟨some 25, .faddr 3 (.t 2), some (24, true)⟩,
      ⟨some 26, .load false 1 (.t 25), some (24, true)⟩,
      ⟨some 27, .faddr 3 (.t 3), some (24, true)⟩,
      ⟨some 28, .load false 1 (.t 27), some (24, true)⟩,
      ⟨some 29, .call 66 [(.t 26), (.t 28)], some (24, true)⟩,
      ⟨some 30, .pick (.t 24) (.t 29) (.c (.bool false)), none⟩,
      ⟨some 31, .mov (.t 30), none⟩,
      ⟨some 32, .faddr 4 (.t 2), some (31, true)⟩,
      ⟨some 33, .load false 1 (.t 32), some (31, true)⟩,
      ⟨some 34, .faddr 4 (.t 3), some (31, true)⟩,
      ⟨some 35, .load false 1 (.t 34), some (31, true)⟩,
      ⟨some 36, .call 67 [(.t 33), (.t 35)], some (31, true)⟩,
      ⟨some 37, .pick (.t 31) (.t 36) (.c (.bool false)), none⟩,
      ⟨some 4, .mov (.t 37), none⟩])
   (.ret)),
  [.tmp 4]⟩

def a31l0b : ACode :=
  .block 1 (.seq (.seq (.region [⟨some 45, .load true 2 (.t 8), none⟩,
       ⟨some 46, .icall (.c (.func 68 [])) [(.t 9), (.t 45)], none⟩,
       ⟨some 44, .mov (.t 46), none⟩,
       ⟨some 47, .ext 0 (.t 44), none⟩,
       ⟨some 48, .ext 1 (.t 44), none⟩,
       ⟨some 10, .box (.c (.agg [.sl true 0 [], .sl true 0 []])), none⟩,
       ⟨none, .store 2 (.t 10) (.t 47), none⟩,
       ⟨some 11, .mov (.t 48), none⟩])
    (.seq (.region [⟨some 49, .mov (.t 11), none⟩])
     (.cond (.t 49)
      (.seq (.region [⟨some 50, .load true 2 (.t 10), none⟩,
          ⟨none, .store 2 (.t 4) (.t 50), none⟩,
          ⟨some 5, .mov (.c (.int Go.IntKind.i64 0)), none⟩])
       (.ret))
      (.skip))))
   (.seq (.region [⟨some 51, .faddr 3 (.t 3), none⟩,
       ⟨some 52, .load false 1 (.t 51), none⟩,
       ⟨some 53, .faddr 1 (.t 8), none⟩,
       ⟨some 54, .load false 1 (.t 53), none⟩,
       ⟨some 55, .iaddr 1 (.t 52) (.t 54), none⟩,
       ⟨some 56, .load false 1 (.t 55), none⟩,
       ⟨some 12, .mov (.t 56), none⟩])
    (.seq (.region [⟨some 57, .faddr 4 (.t 2), none⟩,
        ⟨some 58, .load false 1 (.t 57), none⟩,
        ⟨some 59, .faddr 0 (.t 8), none⟩,
        ⟨some 60, .load false 1 (.t 59), none⟩,
        ⟨some 61, .iaddr 1 (.t 58) (.t 60), none⟩,
        ⟨some 62, .load false 1 (.t 61), none⟩,
        ⟨some 63, .mov (.t 12), none⟩,
        ⟨some 64, .iaddr 1 (.t 62) (.t 63), none⟩,
        ⟨some 65, .load false 1 (.t 64), none⟩,
        ⟨some 13, .mov (.t 65), none⟩])
     (.seq (.draw 4 [⟨some 66, .faddr 1 (.t 9), none⟩,
         ⟨some 67, .load false 1 (.t 66), none⟩,
         ⟨some 68, .mov (.t 12), none⟩,
         ⟨some 69, .mov (.t 13), none⟩,
         ⟨some 70, .faddr 0 (.t 2), none⟩,
         ⟨some 71, .load false 1 (.t 70), none⟩,
         ⟨some 72, .bin .shl (.t 69) (.t 71), none⟩,
         ⟨some 73, .bin .or (.t 68) (.t 72), none⟩,
         ⟨some 74, .bslice true [.int Go.IntKind.u8 0] 1 1 [(0, (.t 73))], none⟩,
         ⟨some 75, .append false 1 1 (.t 67) (.t 74), none⟩,
         ⟨some 76, .faddr 1 (.t 9), none⟩,
         ⟨none, .store 1 (.t 76) (.t 75), none⟩])
      (.draw 15 [⟨some 77, .faddr 3 (.t 2), none⟩,
         ⟨some 78, .load false 1 (.t 77), none⟩,
         ⟨some 79, .faddr 0 (.t 8), none⟩,
         ⟨some 80, .load false 1 (.t 79), none⟩,
         ⟨some 81, .iaddr 1 (.t 78) (.t 80), none⟩,
         ⟨some 82, .load false 1 (.t 81), none⟩,
         ⟨some 83, .mov (.t 12), none⟩,
         ⟨some 84, .iaddr 1 (.t 82) (.t 83), none⟩,
         ⟨some 85, .load false 1 (.t 84), none⟩,
         ⟨some 86, .faddr 4 (.t 3), none⟩,
         ⟨some 87, .load false 1 (.t 86), none⟩,
         ⟨some 88, .faddr 1 (.t 8), none⟩,
         ⟨some 89, .load false 1 (.t 88), none⟩,
         ⟨some 90, .iaddr 1 (.t 87) (.t 89), none⟩,
         ⟨some 91, .load false 1 (.t 90), none⟩,
         ⟨some 92, .mov (.t 13), none⟩,
         ⟨some 93, .iaddr 1 (.t 91) (.t 92), none⟩,
         ⟨some 94, .load false 1 (.t 93), none⟩,
         ⟨some 95, .build [.int Go.IntKind.i64 0, .int Go.IntKind.i64 0] [(0, 1, (.t 85)), (1, 1, (.t 94))], none⟩,
         ⟨none, .store 2 (.t 8) (.t 95), none⟩])))))

def a31l0 : ACode := a31l0b
def a31l0s : List Nat := [0, 1, 6, 7, 10, 11, 12, 13, 14, 15, 16, 17, 18, 19, 20, 21, 22, 23, 24, 25, 26, 27, 28, 29, 30, 31, 32, 33, 34, 35, 36, 37, 38, 39, 40, 41, 42, 43, 44, 45, 46, 47, 48, 49, 50, 51, 52, 53, 54, 55, 56, 57, 58, 59, 60, 61, 62, 63, 64, 65, 66, 67, 68, 69, 70, 71, 72, 73, 74, 75, 76, 77, 78, 79, 80, 81, 82, 83, 84, 85, 86, 87, 88, 89, 90, 91, 92, 93, 94, 95]
abbrev a31l0F (s2 s3 s4 s5 s8 s9 : AV) : List AV := [.any, .any, s2, s3, s4, s5, .any, .any, s8, s9, .any, .any, .any, .any, .any, .any, .any, .any, .any, .any, .any, .any, .any, .any, .any, .any, .any, .any, .any, .any, .any, .any, .any, .any, .any, .any, .any, .any, .any, .any, .any, .any, .any, .any, .any, .any, .any, .any, .any, .any, .any, .any, .any, .any, .any, .any, .any, .any, .any, .any, .any, .any, .any, .any, .any, .any, .any, .any, .any, .any, .any, .any, .any, .any, .any, .any, .any, .any, .any, .any, .any, .any, .any, .any, .any, .any, .any, .any, .any, .any, .any, .any, .any, .any, .any, .any]
theorem a31l0c (s0 s1 s2 s3 s4 s5 s6 s7 s8 s9 s10 s11 s12 s13 s14 s15 s16 s17 s18 s19 s20 s21 s22 s23 s24 s25 s26 s27 s28 s29 s30 s31 s32 s33 s34 s35 s36 s37 s38 s39 s40 s41 s42 s43 s44 s45 s46 s47 s48 s49 s50 s51 s52 s53 s54 s55 s56 s57 s58 s59 s60 s61 s62 s63 s64 s65 s66 s67 s68 s69 s70 s71 s72 s73 s74 s75 s76 s77 s78 s79 s80 s81 s82 s83 s84 s85 s86 s87 s88 s89 s90 s91 s92 s93 s94 s95 : AV) : clearA a31l0s [s0, s1, s2, s3, s4, s5, s6, s7, s8, s9, s10, s11, s12, s13, s14, s15, s16, s17, s18, s19, s20, s21, s22, s23, s24, s25, s26, s27, s28, s29, s30, s31, s32, s33, s34, s35, s36, s37, s38, s39, s40, s41, s42, s43, s44, s45, s46, s47, s48, s49, s50, s51, s52, s53, s54, s55, s56, s57, s58, s59, s60, s61, s62, s63, s64, s65, s66, s67, s68, s69, s70, s71, s72, s73, s74, s75, s76, s77, s78, s79, s80, s81, s82, s83, s84, s85, s86, s87, s88, s89, s90, s91, s92, s93, s94, s95] = a31l0F s2 s3 s4 s5 s8 s9 := by kernel_rfl
theorem a31l0n {prog : Nat → Option AFunc} (s2 s3 s4 s5 s8 s9 : AV) (H : Heap) : (lim prog).loop a31l0s a31l0 ⟨a31l0F s2 s3 s4 s5 s8 s9, H⟩ = loopK (lim prog) a31l0s a31l0 (run (lim prog) a31l0b ⟨a31l0F s2 s3 s4 s5 s8 s9, H⟩) := lim_loop_step _ _ _ _ (by kernel_rfl)

/-- sentinel/mealy.Play -/
def a31 : AFunc := ⟨96,
  .seq (.region [⟨some 2, .box (.t 0), none⟩,
     ⟨some 3, .box (.t 1), none⟩,
     ⟨some 4, .box (.c (.agg [.sl true 0 [], .sl true 0 []])), none⟩,
     ⟨some 5, .mov (.c (.int Go.IntKind.i64 0)), none⟩])
  (.seq (.seq (.region [⟨some 14, .load true 5 (.t 2), none⟩,
       ⟨some 15, .call 21 [(.t 14)], none⟩,
       ⟨some 6, .mov (.t 15), none⟩])
    (.seq (.region [⟨some 16, .mov (.t 6), none⟩,
        ⟨some 17, .bin .neq (.t 16) (.c (.int Go.IntKind.i64 0)), none⟩])
     (.cond (.t 17)
      (.seq (.region [⟨some 18, .build [.sl true 0 [], .sl true 0 []] [], none⟩,
          ⟨some 19, .mov (.t 6), none⟩,
          ⟨none, .store 2 (.t 4) (.t 18), none⟩,
          ⟨some 5, .mov (.t 19), none⟩])
       (.ret))
      (.skip))))
   (.seq (.seq (.region [⟨some 20, .load true 5 (.t 3), none⟩,
        ⟨some 21, .call 33 [(.t 20)], none⟩,
        ⟨some 7, .mov (.t 21), none⟩])
     (.seq (.region [⟨some 22, .mov (.t 7), none⟩,
         ⟨some 23, .bin .neq (.t 22) (.c (.int Go.IntKind.i64 0)), none⟩])
      (.cond (.t 23)
       (.seq (.region [⟨some 24, .build [.sl true 0 [], .sl true 0 []] [], none⟩,
           ⟨some 25, .mov (.t 7), none⟩,
           ⟨none, .store 2 (.t 4) (.t 24), none⟩,
           ⟨some 5, .mov (.t 25), none⟩])
        (.ret))
       (.skip))))
    (.seq (.seq (.region [⟨some 26, .faddr 0 (.t 2), none⟩,
         ⟨some 27, .load false 1 (.t 26), none⟩,
         ⟨some 28, .faddr 0 (.t 3), none⟩,
         ⟨some 29, .load false 1 (.t 28), none⟩,
         ⟨some 30, .bin .neq (.t 27) (.t 29), none⟩,
         ⟨some 31, .mov (.t 30), none⟩,
         ⟨some 32, .faddr 1 (.t 2), some (31, false)⟩,
         ⟨some 33, .load false 1 (.t 32), some (31, false)⟩,
         ⟨some 34, .faddr 1 (.t 3), some (31, false)⟩,
         ⟨some 35, .load false 1 (.t 34), some (31, false)⟩,
         ⟨some 36, .bin .neq (.t 33) (.t 35), some (31, false)⟩,
         ⟨some 37, .pick (.t 31) (.c (.bool true)) (.t 36), none⟩])
      (.cond (.t 37)
       (.seq (.region [⟨some 38, .build [.sl true 0 [], .sl true 0 []] [], none⟩,
           ⟨none, .store 2 (.t 4) (.t 38), none⟩,
           ⟨some 5, .mov (.c (.int Go.IntKind.i64 16)), none⟩])
        (.ret))
       (.skip)))
     (.seq (.region [⟨some 39, .faddr 2 (.t 2), none⟩,
         ⟨some 40, .load false 1 (.t 39), none⟩,
         ⟨some 41, .faddr 2 (.t 3), none⟩,
         ⟨some 42, .load false 1 (.t 41), none⟩,
         ⟨some 43, .build [.int Go.IntKind.i64 0, .int Go.IntKind.i64 0] [(0, 1, (.t 40)), (1, 1, (.t 42))], none⟩,
         ⟨some 8, .box (.c (.agg [.int Go.IntKind.i64 0, .int Go.IntKind.i64 0])), none⟩,
         ⟨none, .store 2 (.t 8) (.t 43), none⟩])
      (.seq (.region [⟨some 9, .box (.c (.agg [.nilm, .sl true 0 []])), none⟩])
       (.block 0 (.loop a31l0s a31l0))))))),
  [.cell 4 true 2, .tmp 5]⟩

def a33l0b : ACode :=
  .seq (.region [⟨some 28, .bin .lss (.t 27) (.t 26), none⟩])
  (.seq (.cond (.t 28)
    (.skip)
    (.exit 0))
   (.seq (.block 1 (.seq (.region [⟨some 29, .mov (.t 27), none⟩,
         ⟨some 30, .iaddr 1 (.t 25) (.t 27), none⟩,
         ⟨some 31, .load false 1 (.t 30), none⟩,
         ⟨some 5, .mov (.t 29), none⟩,
         ⟨some 6, .mov (.t 31), none⟩])
      (.block 2 (.seq (.region [⟨some 33, .mov (.t 6), none⟩,
           ⟨some 34, .len (.t 33), none⟩,
           ⟨some 35, .faddr 1 (.t 1), none⟩,
           ⟨some 36, .load false 1 (.t 35), none⟩,
           ⟨some 37, .bin .shl (.c (.int Go.IntKind.i64 1)) (.t 36), none⟩,
           ⟨some 38, .bin .neq (.t 34) (.t 37), none⟩,
           ⟨some 32, .mov (.t 38), none⟩])
        (.cond (.t 32)
         (.seq (.region [⟨some 2, .mov (.c (.int Go.IntKind.i64 2)), none⟩])
          (.ret))
         (.seq (.region [⟨some 40, .mov (.t 6), none⟩,
             ⟨some 41, .mov (.t 3), none⟩,
             ⟨some 42, .call 60 [(.t 40), (.t 41)], none⟩,
             ⟨some 39, .mov (.t 42), none⟩])
          (.cond (.t 39)
           (.seq (.region [⟨some 2, .mov (.c (.int Go.IntKind.i64 8)), none⟩])
            (.ret))
           (.seq (.draw 6 [⟨some 44, .faddr 3 (.t 1), none⟩,
               ⟨some 45, .load false 1 (.t 44), none⟩,
               ⟨some 46, .mov (.t 5), none⟩,
               ⟨some 47, .iaddr 1 (.t 45) (.t 46), none⟩,
               ⟨some 48, .load false 1 (.t 47), none⟩,
               ⟨some 49, .conv Go.IntKind.i64 (.t 48), none⟩,
               ⟨some 50, .faddr 0 (.t 1), none⟩,
               ⟨some 51, .load false 1 (.t 50), none⟩,
               ⟨some 52, .bin .shl (.c (.int Go.IntKind.i64 1)) (.t 51), none⟩,
               ⟨some 53, .bin .geq (.t 49) (.t 52), none⟩,
               ⟨some 43, .mov (.t 53), none⟩])
            (.cond (.t 43)
             (.seq (.region [⟨some 2, .mov (.c (.int Go.IntKind.i64 1)), none⟩])
              (.ret))
             (.skip))))))))))
    (.region [⟨some 54, .bin .add (.t 27) (.c (.int Go.IntKind.i64 1)), none⟩,
       ⟨some 27, .mov (.t 54), none⟩])))

def a33l0 : ACode := a33l0b
def a33l0s : List Nat := [0, 4, 5, 6, 7, 8, 9, 10, 11, 12, 13, 14, 15, 16, 17, 18, 19, 20, 21, 22, 23, 24, 28, 29, 30, 31, 32, 33, 34, 35, 36, 37, 38, 39, 40, 41, 42, 43, 44, 45, 46, 47, 48, 49, 50, 51, 52, 53, 54]
abbrev a33l0F (s1 s2 s3 s25 s26 s27 : AV) : List AV := [.any, s1, s2, s3, .any, .any, .any, .any, .any, .any, .any, .any, .any, .any, .any, .any, .any, .any, .any, .any, .any, .any, .any, .any, .any, s25, s26, s27, .any, .any, .any, .any, .any, .any, .any, .any, .any, .any, .any, .any, .any, .any, .any, .any, .any, .any, .any, .any, .any, .any, .any, .any, .any, .any, .any]
theorem a33l0c (s0 s1 s2 s3 s4 s5 s6 s7 s8 s9 s10 s11 s12 s13 s14 s15 s16 s17 s18 s19 s20 s21 s22 s23 s24 s25 s26 s27 s28 s29 s30 s31 s32 s33 s34 s35 s36 s37 s38 s39 s40 s41 s42 s43 s44 s45 s46 s47 s48 s49 s50 s51 s52 s53 s54 : AV) : clearA a33l0s [s0, s1, s2, s3, s4, s5, s6, s7, s8, s9, s10, s11, s12, s13, s14, s15, s16, s17, s18, s19, s20, s21, s22, s23, s24, s25, s26, s27, s28, s29, s30, s31, s32, s33, s34, s35, s36, s37, s38, s39, s40, s41, s42, s43, s44, s45, s46, s47, s48, s49, s50, s51, s52, s53, s54] = a33l0F s1 s2 s3 s25 s26 s27 := by kernel_rfl
theorem a33l0n {prog : Nat → Option AFunc} (s1 s2 s3 s25 s26 s27 : AV) (H : Heap) : (lim prog).loop a33l0s a33l0 ⟨a33l0F s1 s2 s3 s25 s26 s27, H⟩ = loopK (lim prog) a33l0s a33l0 (run (lim prog) a33l0b ⟨a33l0F s1 s2 s3 s25 s26 s27, H⟩) := lim_loop_step _ _ _ _ (by kernel_rfl)

/-- sentinel/mealy.CheckMoore -/
def a33 : AFunc := ⟨55,
  .seq (.region [⟨some 1, .box (.t 0), none⟩,
     ⟨some 2, .mov (.c (.int Go.IntKind.i64 0)), none⟩])
  (.seq (.region [⟨some 7, .faddr 4 (.t 1), none⟩,
      ⟨some 8, .load false 1 (.t 7), none⟩,
      ⟨some 9, .len (.t 8), none⟩,
      ⟨some 3, .mov (.t 9), none⟩])
   (.seq (.seq (.region [⟨some 10, .faddr 0 (.t 1), none⟩,
        ⟨some 11, .load false 1 (.t 10), none⟩,
        ⟨some 12, .faddr 1 (.t 1), none⟩,
        ⟨some 13, .load false 1 (.t 12), none⟩,
        ⟨some 14, .mov (.t 3), none⟩,
        ⟨some 15, .faddr 3 (.t 1), none⟩,
        ⟨some 16, .load false 1 (.t 15), none⟩,
        ⟨some 17, .len (.t 16), none⟩,
        ⟨some 18, .faddr 2 (.t 1), none⟩,
        ⟨some 19, .load false 1 (.t 18), none⟩,
        ⟨some 20, .call 59 [(.t 11), (.t 13), (.t 14), (.t 17), (.t 19)], none⟩,
        ⟨some 4, .mov (.t 20), none⟩])
     (.seq (.region [⟨some 21, .mov (.t 4), none⟩,
         ⟨some 22, .bin .neq (.t 21) (.c (.int Go.IntKind.i64 0)), none⟩])
      (.cond (.t 22)
       (.seq (.region [⟨some 23, .mov (.t 4), none⟩,
           ⟨some 2, .mov (.t 23), none⟩])
        (.ret))
       (.skip))))
    (.seq (.seq (.region [⟨some 24, .faddr 4 (.t 1), none⟩,
         ⟨some 25, .load false 1 (.t 24), none⟩,
         ⟨some 26, .len (.t 25), none⟩,
         ⟨some 27, .mov (.c (.int Go.IntKind.i64 0)), none⟩])
      (.block 0 (.loop a33l0s a33l0)))
     (.seq (.region [⟨some 2, .mov (.c (.int Go.IntKind.i64 0)), none⟩])
      (.ret))))),
  [.tmp 2]⟩

def a35l0b : ACode :=
  .seq (.region [⟨some 30, .bin .lss (.t 29) (.t 28), none⟩])
  (.seq (.cond (.t 30)
    (.skip)
    (.exit 0))
   (.seq (.block 1 (.seq (.region [⟨some 31, .mov (.t 29), none⟩,
         ⟨some 32, .iaddr 1 (.t 27) (.t 29), none⟩,
         ⟨some 33, .load false 1 (.t 32), none⟩,
         ⟨some 7, .mov (.t 31), none⟩,
         ⟨some 8, .mov (.t 33), none⟩])
      (.region [⟨some 34, .load false 1 (.t 6), none⟩,
         ⟨some 35, .mov (.t 8), none⟩,
         ⟨some 36, .mov (.t 7), none⟩,
         ⟨some 37, .iaddr 1 (.t 34) (.t 35), none⟩,
         ⟨none, .store 1 (.t 37) (.t 36), none⟩])))
    (.region [⟨some 38, .bin .add (.t 29) (.c (.int Go.IntKind.i64 1)), none⟩,
       ⟨some 29, .mov (.t 38), none⟩])))

def a35l0 : ACode := a35l0b
def a35l0s : List Nat := [0, 3, 4, 7, 8, 9, 10, 11, 12, 13, 14, 15, 16, 17, 18, 19, 20, 21, 22, 23, 24, 25, 26, 30, 31, 32, 33, 34, 35, 36, 37, 38, 39, 40, 41, 42, 43, 44, 45, 46, 47, 48, 49, 50, 51, 52, 53, 54, 55, 56, 57, 58, 59, 60, 61, 62, 63, 64, 65, 66, 67, 68, 69, 70, 71, 72, 73, 74, 75, 76, 77, 78, 79, 80, 81, 82, 83, 84, 85, 86, 87, 88, 89, 90, 91, 92, 93, 94, 95, 96, 97, 98, 99, 100, 101, 102, 103, 104, 105]
abbrev a35l0F (s1 s2 s5 s6 s27 s28 s29 : AV) : List AV := [.any, s1, s2, .any, .any, s5, s6, .any, .any, .any, .any, .any, .any, .any, .any, .any, .any, .any, .any, .any, .any, .any, .any, .any, .any, .any, .any, s27, s28, s29, .any, .any, .any, .any, .any, .any, .any, .any, .any, .any, .any, .any, .any, .any, .any, .any, .any, .any, .any, .any, .any, .any, .any, .any, .any, .any, .any, .any, .any, .any, .any, .any, .any, .any, .any, .any, .any, .any, .any, .any, .any, .any, .any, .any, .any, .any, .any, .any, .any, .any, .any, .any, .any, .any, .any, .any, .any, .any, .any, .any, .any, .any, .any, .any, .any, .any, .any, .any, .any, .any, .any, .any, .any, .any, .any, .any]
theorem a35l0c (s0 s1 s2 s3 s4 s5 s6 s7 s8 s9 s10 s11 s12 s13 s14 s15 s16 s17 s18 s19 s20 s21 s22 s23 s24 s25 s26 s27 s28 s29 s30 s31 s32 s33 s34 s35 s36 s37 s38 s39 s40 s41 s42 s43 s44 s45 s46 s47 s48 s49 s50 s51 s52 s53 s54 s55 s56 s57 s58 s59 s60 s61 s62 s63 s64 s65 s66 s67 s68 s69 s70 s71 s72 s73 s74 s75 s76 s77 s78 s79 s80 s81 s82 s83 s84 s85 s86 s87 s88 s89 s90 s91 s92 s93 s94 s95 s96 s97 s98 s99 s100 s101 s102 s103 s104 s105 : AV) : clearA a35l0s [s0, s1, s2, s3, s4, s5, s6, s7, s8, s9, s10, s11, s12, s13, s14, s15, s16, s17, s18, s19, s20, s21, s22, s23, s24, s25, s26, s27, s28, s29, s30, s31, s32, s33, s34, s35, s36, s37, s38, s39, s40, s41, s42, s43, s44, s45, s46, s47, s48, s49, s50, s51, s52, s53, s54, s55, s56, s57, s58, s59, s60, s61, s62, s63, s64, s65, s66, s67, s68, s69, s70, s71, s72, s73, s74, s75, s76, s77, s78, s79, s80, s81, s82, s83, s84, s85, s86, s87, s88, s89, s90, s91, s92, s93, s94, s95, s96, s97, s98, s99, s100, s101, s102, s103, s104, s105] = a35l0F s1 s2 s5 s6 s27 s28 s29 := by kernel_rfl
theorem a35l0n {prog : Nat → Option AFunc} (s1 s2 s5 s6 s27 s28 s29 : AV) (H : Heap) : (lim prog).loop a35l0s a35l0 ⟨a35l0F s1 s2 s5 s6 s27 s28 s29, H⟩ = loopK (lim prog) a35l0s a35l0 (run (lim prog) a35l0b ⟨a35l0F s1 s2 s5 s6 s27 s28 s29, H⟩) := lim_loop_step _ _ _ _ (by kernel_rfl)

def a35l1b : ACode :=
  .seq (.region [⟨some 72, .bin .lss (.t 71) (.t 70), none⟩])
  (.seq (.cond (.t 72)
    (.skip)
    (.exit 4))
   (.seq (.block 5 (.seq (.region [⟨some 73, .mov (.t 71), none⟩,
         ⟨some 74, .iaddr 1 (.t 69) (.t 71), none⟩,
         ⟨some 75, .load false 1 (.t 74), none⟩,
         ⟨some 14, .mov (.t 73), none⟩,
         ⟨some 15, .mov (.t 75), none⟩])
      (.region [⟨some 77, .mov (.t 13), none⟩,
         ⟨some 78, .mov (.t 14), none⟩,
         ⟨some 79, .load false 1 (.t 5), none⟩,
         ⟨some 80, .mov (.t 15), none⟩,
         ⟨some 81, .iaddr 1 (.t 79) (.t 80), none⟩,
         ⟨some 82, .load false 1 (.t 81), none⟩,
         ⟨some 83, .icall (.c (.func 70 [])) [(.t 9), (.t 82)], none⟩,
         ⟨some 76, .mov (.t 83), none⟩,
         ⟨some 84, .ext 0 (.t 76), none⟩,
         ⟨some 85, .ext 1 (.t 76), none⟩,
         ⟨some 86, .iaddr 1 (.t 77) (.t 78), none⟩,
         ⟨none, .store 1 (.t 86) (.t 84), none⟩])))
    (.region [⟨some 87, .bin .add (.t 71) (.c (.int Go.IntKind.i64 1)), none⟩,
       ⟨some 71, .mov (.t 87), none⟩])))

def a35l1 : ACode := a35l1b
def a35l1s : List Nat := []
abbrev a35l1F (s0 s1 s2 s3 s4 s5 s6 s7 s8 s9 s10 s11 s12 s13 s14 s15 s16 s17 s18 s19 s20 s21 s22 s23 s24 s25 s26 s27 s28 s29 s30 s31 s32 s33 s34 s35 s36 s37 s38 s39 s40 s41 s42 s43 s44 s45 s46 s47 s48 s49 s50 s51 s52 s53 s54 s55 s56 s57 s58 s59 s60 s61 s62 s63 s64 s65 s66 s67 s68 s69 s70 s71 s72 s73 s74 s75 s76 s77 s78 s79 s80 s81 s82 s83 s84 s85 s86 s87 s88 s89 s90 s91 s92 s93 s94 s95 s96 s97 s98 s99 s100 s101 s102 s103 s104 s105 : AV) : List AV := [s0, s1, s2, s3, s4, s5, s6, s7, s8, s9, s10, s11, s12, s13, s14, s15, s16, s17, s18, s19, s20, s21, s22, s23, s24, s25, s26, s27, s28, s29, s30, s31, s32, s33, s34, s35, s36, s37, s38, s39, s40, s41, s42, s43, s44, s45, s46, s47, s48, s49, s50, s51, s52, s53, s54, s55, s56, s57, s58, s59, s60, s61, s62, s63, s64, s65, s66, s67, s68, s69, s70, s71, s72, s73, s74, s75, s76, s77, s78, s79, s80, s81, s82, s83, s84, s85, s86, s87, s88, s89, s90, s91, s92, s93, s94, s95, s96, s97, s98, s99, s100, s101, s102, s103, s104, s105]
theorem a35l1c (s0 s1 s2 s3 s4 s5 s6 s7 s8 s9 s10 s11 s12 s13 s14 s15 s16 s17 s18 s19 s20 s21 s22 s23 s24 s25 s26 s27 s28 s29 s30 s31 s32 s33 s34 s35 s36 s37 s38 s39 s40 s41 s42 s43 s44 s45 s46 s47 s48 s49 s50 s51 s52 s53 s54 s55 s56 s57 s58 s59 s60 s61 s62 s63 s64 s65 s66 s67 s68 s69 s70 s71 s72 s73 s74 s75 s76 s77 s78 s79 s80 s81 s82 s83 s84 s85 s86 s87 s88 s89 s90 s91 s92 s93 s94 s95 s96 s97 s98 s99 s100 s101 s102 s103 s104 s105 : AV) : clearA a35l1s [s0, s1, s2, s3, s4, s5, s6, s7, s8, s9, s10, s11, s12, s13, s14, s15, s16, s17, s18, s19, s20, s21, s22, s23, s24, s25, s26, s27, s28, s29, s30, s31, s32, s33, s34, s35, s36, s37, s38, s39, s40, s41, s42, s43, s44, s45, s46, s47, s48, s49, s50, s51, s52, s53, s54, s55, s56, s57, s58, s59, s60, s61, s62, s63, s64, s65, s66, s67, s68, s69, s70, s71, s72, s73, s74, s75, s76, s77, s78, s79, s80, s81, s82, s83, s84, s85, s86, s87, s88, s89, s90, s91, s92, s93, s94, s95, s96, s97, s98, s99, s100, s101, s102, s103, s104, s105] = a35l1F s0 s1 s2 s3 s4 s5 s6 s7 s8 s9 s10 s11 s12 s13 s14 s15 s16 s17 s18 s19 s20 s21 s22 s23 s24 s25 s26 s27 s28 s29 s30 s31 s32 s33 s34 s35 s36 s37 s38 s39 s40 s41 s42 s43 s44 s45 s46 s47 s48 s49 s50 s51 s52 s53 s54 s55 s56 s57 s58 s59 s60 s61 s62 s63 s64 s65 s66 s67 s68 s69 s70 s71 s72 s73 s74 s75 s76 s77 s78 s79 s80 s81 s82 s83 s84 s85 s86 s87 s88 s89 s90 s91 s92 s93 s94 s95 s96 s97 s98 s99 s100 s101 s102 s103 s104 s105 := by kernel_rfl
theorem a35l1n {prog : Nat → Option AFunc} (s0 s1 s2 s3 s4 s5 s6 s7 s8 s9 s10 s11 s12 s13 s14 s15 s16 s17 s18 s19 s20 s21 s22 s23 s24 s25 s26 s27 s28 s29 s30 s31 s32 s33 s34 s35 s36 s37 s38 s39 s40 s41 s42 s43 s44 s45 s46 s47 s48 s49 s50 s51 s52 s53 s54 s55 s56 s57 s58 s59 s60 s61 s62 s63 s64 s65 s66 s67 s68 s69 s70 s71 s72 s73 s74 s75 s76 s77 s78 s79 s80 s81 s82 s83 s84 s85 s86 s87 s88 s89 s90 s91 s92 s93 s94 s95 s96 s97 s98 s99 s100 s101 s102 s103 s104 s105 : AV) (H : Heap) : (lim prog).loop a35l1s a35l1 ⟨a35l1F s0 s1 s2 s3 s4 s5 s6 s7 s8 s9 s10 s11 s12 s13 s14 s15 s16 s17 s18 s19 s20 s21 s22 s23 s24 s25 s26 s27 s28 s29 s30 s31 s32 s33 s34 s35 s36 s37 s38 s39 s40 s41 s42 s43 s44 s45 s46 s47 s48 s49 s50 s51 s52 s53 s54 s55 s56 s57 s58 s59 s60 s61 s62 s63 s64 s65 s66 s67 s68 s69 s70 s71 s72 s73 s74 s75 s76 s77 s78 s79 s80 s81 s82 s83 s84 s85 s86 s87 s88 s89 s90 s91 s92 s93 s94 s95 s96 s97 s98 s99 s100 s101 s102 s103 s104 s105, H⟩ = loopK (lim prog) a35l1s a35l1 (run (lim prog) a35l1b ⟨a35l1F s0 s1 s2 s3 s4 s5 s6 s7 s8 s9 s10 s11 s12 s13 s14 s15 s16 s17 s18 s19 s20 s21 s22 s23 s24 s25 s26 s27 s28 s29 s30 s31 s32 s33 s34 s35 s36 s37 s38 s39 s40 s41 s42 s43 s44 s45 s46 s47 s48 s49 s50 s51 s52 s53 s54 s55 s56 s57 s58 s59 s60 s61 s62 s63 s64 s65 s66 s67 s68 s69 s70 s71 s72 s73 s74 s75 s76 s77 s78 s79 s80 s81 s82 s83 s84 s85 s86 s87 s88 s89 s90 s91 s92 s93 s94 s95 s96 s97 s98 s99 s100 s101 s102 s103 s104 s105, H⟩) := lim_loop_step _ _ _ _ (by kernel_rfl)

def a35r2ab : ACode :=
  .region [⟨some 11, .mov (.t 53), none⟩]

def a35r2b : ACode :=
  .block 3 (.seq (.region [⟨some 54, .load false 1 (.t 6), none⟩,
      ⟨some 55, .mov (.t 11), none⟩,
      ⟨some 56, .iaddr 1 (.t 54) (.t 55), none⟩,
      ⟨some 57, .load false 1 (.t 56), none⟩,
      ⟨some 12, .mov (.t 57), none⟩])
   (.seq (.region [⟨some 58, .faddr 3 (.t 1), none⟩,
       ⟨some 59, .load false 1 (.t 58), none⟩,
       ⟨some 60, .mov (.t 12), none⟩,
       ⟨some 61, .iaddr 1 (.t 59) (.t 60), none⟩,
       ⟨some 62, .load false 1 (.t 61), none⟩,
       ⟨some 63, .len (.t 62), none⟩,
       ⟨some 64, .mkslice false [.int Go.IntKind.i64 0] 8 (.t 63) (.t 63), none⟩,
       ⟨some 13, .mov (.t 64), none⟩])
    (.seq (.seq (.region [⟨some 65, .faddr 3 (.t 1), none⟩,
         ⟨some 66, .load false 1 (.t 65), none⟩,
         ⟨some 67, .mov (.t 12), none⟩,
         ⟨some 68, .iaddr 1 (.t 66) (.t 67), none⟩,
         ⟨some 69, .load false 1 (.t 68), none⟩,
         ⟨some 70, .len (.t 69), none⟩,
         ⟨some 71, .mov (.c (.int Go.IntKind.i64 0)), none⟩])
      (.block 4 (.loop a35l1s a35l1)))
     (.fzs 13 (.drawh [(93, (1, 13))] [] [(93, (1, (89, 0))), (95, (1, (89, 0))), (98, (1, (89, 0)))] 11 [⟨some 88, .faddr 3 (.t 2), none⟩,
         ⟨some 89, .load false 1 (.t 88), none⟩,
         ⟨some 90, .mov (.t 13), none⟩,
         ⟨some 91, .dslice [.sl true 0 []] 1 1 [(0, (.t 90))], none⟩,
         ⟨some 93, .faddr 4 (.t 2), none⟩,
         ⟨some 94, .load false 1 (.t 93), none⟩,
         ⟨some 95, .faddr 4 (.t 1), none⟩,
         ⟨some 96, .load false 1 (.t 95), none⟩,
         ⟨some 97, .mov (.t 12), none⟩,
         ⟨some 98, .iaddr 1 (.t 96) (.t 97), none⟩,
         ⟨some 99, .load false 1 (.t 98), none⟩,
         ⟨some 92, .append false 1 24 (.t 89) (.t 91), none⟩,
         ⟨some 103, .faddr 3 (.t 2), none⟩,
         ⟨some 100, .call 72 [(.t 99)], none⟩,
         ⟨some 101, .dslice [.sl true 0 []] 1 1 [(0, (.t 100))], none⟩,
         ⟨some 102, .append false 1 24 (.t 94) (.t 101), none⟩,
         ⟨none, .store 1 (.t 103) (.t 92), none⟩,
         ⟨some 104, .faddr 4 (.t 2), none⟩,
         ⟨none, .store 1 (.t 104) (.t 102), none⟩])))))

def a35r2a : ACode := a35r2ab
def a35r2 : ACode := a35r2b
theorem a35r2an (R : Rec) (s : St) : run R a35r2a s = run R a35r2ab s := rfl
theorem a35r2n (R : Rec) (s : St) : run R a35r2 s = run R a35r2b s := rfl

/-- sentinel/mealy.Minimize -/
def a35 : AFunc := ⟨106,
  .seq (.region [⟨some 1, .box (.t 0), none⟩,
     ⟨some 2, .box (.c (.agg [.int Go.IntKind.i64 0, .int Go.IntKind.i64 0, .int Go.IntKind.i64 0, .sl true 0 [], .sl true 0 []])), none⟩,
     ⟨some 3, .mov (.c (.int Go.IntKind.i64 0)), none⟩])
  (.seq (.seq (.region [⟨some 16, .load true 5 (.t 1), none⟩,
       ⟨some 17, .call 21 [(.t 16)], none⟩,
       ⟨some 4, .mov (.t 17), none⟩])
    (.seq (.region [⟨some 18, .mov (.t 4), none⟩,
        ⟨some 19, .bin .neq (.t 18) (.c (.int Go.IntKind.i64 0)), none⟩])
     (.cond (.t 19)
      (.seq (.region [⟨some 20, .load true 5 (.t 2), none⟩,
          ⟨some 21, .mov (.t 4), none⟩,
          ⟨none, .store 5 (.t 2) (.t 20), none⟩,
          ⟨some 3, .mov (.t 21), none⟩])
       (.ret))
      (.skip))))
   (.seq (.region [⟨some 22, .load true 5 (.t 1), none⟩,
       ⟨some 23, .call 69 [(.t 22)], none⟩,
       ⟨some 5, .box (.c (.sl true 0 [])), none⟩,
       ⟨none, .store 1 (.t 5) (.t 23), none⟩])
    (.seq (.region [⟨some 24, .load false 1 (.t 5), none⟩,
        ⟨some 25, .len (.t 24), none⟩,
        ⟨some 26, .mkslice false [.int Go.IntKind.i64 0] 8 (.t 25) (.t 25), none⟩,
        ⟨some 6, .box (.c (.sl true 0 [])), none⟩,
        ⟨none, .store 1 (.t 6) (.t 26), none⟩])
     (.seq (.seq (.region [⟨some 27, .load false 1 (.t 5), none⟩,
          ⟨some 28, .len (.t 27), none⟩,
          ⟨some 29, .mov (.c (.int Go.IntKind.i64 0)), none⟩])
       (.block 0 (.loop a35l0s a35l0)))
      (.seq (.drawl [(41, (1, (43, 1)))] 4 [⟨some 39, .faddr 0 (.t 1), none⟩,
          ⟨some 40, .load false 1 (.t 39), none⟩,
          ⟨some 41, .faddr 1 (.t 1), none⟩,
          ⟨some 42, .load false 1 (.t 41), none⟩,
          ⟨some 43, .faddr 0 (.t 2), none⟩,
          ⟨none, .store 1 (.t 43) (.t 40), none⟩,
          ⟨some 44, .faddr 1 (.t 2), none⟩,
          ⟨none, .store 1 (.t 44) (.t 42), none⟩])
       (.seq (.region [⟨some 9, .box (.c (.agg [.nilm, .sl true 0 []])), none⟩])
        (.seq (.region [⟨some 45, .load false 1 (.t 5), none⟩,
            ⟨some 46, .faddr 2 (.t 1), none⟩,
            ⟨some 47, .load false 1 (.t 46), none⟩,
            ⟨some 48, .iaddr 1 (.t 45) (.t 47), none⟩,
            ⟨some 49, .load false 1 (.t 48), none⟩,
            ⟨some 50, .icall (.c (.func 70 [])) [(.t 9), (.t 49)], none⟩])
         (.seq (.seq (.region [⟨some 51, .icall (.c (.func 71 [])) [(.t 9)], none⟩])
           (.block 2 (.range (.t 51) [52, 53] a35r2a a35r2)))
          (.seq (.region [⟨some 105, .load true 5 (.t 2), none⟩,
              ⟨none, .store 5 (.t 2) (.t 105), none⟩,
              ⟨some 3, .mov (.c (.int Go.IntKind.i64 0)), none⟩])
           (.ret)))))))))),
  [.cell 2 true 5, .tmp 3]⟩

def a37l0b : ACode :=
  .seq (.region [⟨some 23, .bin .lss (.t 22) (.t 21), none⟩])
  (.seq (.cond (.t 23)
    (.skip)
    (.exit 0))
   (.seq (.block 1 (.seq (.region [⟨some 24, .iaddr 5 (.t 20) (.t 22), none⟩,
         ⟨some 25, .load true 5 (.t 24), none⟩,
         ⟨some 8, .box (.c (.agg [.int Go.IntKind.i64 0, .int Go.IntKind.i64 0, .int Go.IntKind.i64 0, .sl true 0 [], .sl true 0 []])), none⟩,
         ⟨none, .store 5 (.t 8) (.t 25), none⟩])
      (.seq (.region [⟨some 26, .load true 5 (.t 8), none⟩,
          ⟨some 27, .call 21 [(.t 26)], none⟩,
          ⟨some 9, .mov (.t 27), none⟩])
       (.seq (.region [⟨some 28, .mov (.t 9), none⟩,
           ⟨some 29, .bin .neq (.t 28) (.c (.int Go.IntKind.i64 0)), none⟩])
        (.cond (.t 29)
         (.seq (.region [⟨some 30, .mov (.t 9), none⟩,
             ⟨none, .store 1 (.t 4) (.c (.sl true 0 [])), none⟩,
             ⟨none, .store 1 (.t 5) (.c (.bool false)), none⟩,
             ⟨none, .store 1 (.t 6) (.t 30), none⟩])
          (.ret))
         (.skip))))))
    (.region [⟨some 31, .bin .add (.t 22) (.c (.int Go.IntKind.i64 1)), none⟩,
       ⟨some 22, .mov (.t 31), none⟩])))

def a37l0 : ACode := a37l0b
def a37l0s : List Nat := [0, 1, 7, 8, 9, 10, 11, 12, 13, 14, 15, 16, 17, 18, 19, 23, 24, 25, 26, 27, 28, 29, 30, 31, 32, 33, 34, 35, 36, 37, 38, 39, 40, 41, 42, 43, 44, 45, 46, 47, 48, 49, 50, 51, 52, 53, 54, 55, 56, 57, 58, 59, 60, 61, 62, 63, 64, 65, 66, 67, 68, 69, 70, 71, 72, 73, 74, 75, 76, 77, 78, 79, 80, 81, 82, 83, 84, 85, 86, 87, 88, 89, 90, 91, 92, 93, 94, 95, 96, 97, 98, 99, 100, 101, 102, 103, 104, 105, 106, 107, 108, 109, 110, 111, 112, 113, 114, 115, 116, 117]
abbrev a37l0F (s2 s3 s4 s5 s6 s20 s21 s22 : AV) : List AV := [.any, .any, s2, s3, s4, s5, s6, .any, .any, .any, .any, .any, .any, .any, .any, .any, .any, .any, .any, .any, s20, s21, s22, .any, .any, .any, .any, .any, .any, .any, .any, .any, .any, .any, .any, .any, .any, .any, .any, .any, .any, .any, .any, .any, .any, .any, .any, .any, .any, .any, .any, .any, .any, .any, .any, .any, .any, .any, .any, .any, .any, .any, .any, .any, .any, .any, .any, .any, .any, .any, .any, .any, .any, .any, .any, .any, .any, .any, .any, .any, .any, .any, .any, .any, .any, .any, .any, .any, .any, .any, .any, .any, .any, .any, .any, .any, .any, .any, .any, .any, .any, .any, .any, .any, .any, .any, .any, .any, .any, .any, .any, .any, .any, .any, .any, .any, .any, .any]
theorem a37l0c (s0 s1 s2 s3 s4 s5 s6 s7 s8 s9 s10 s11 s12 s13 s14 s15 s16 s17 s18 s19 s20 s21 s22 s23 s24 s25 s26 s27 s28 s29 s30 s31 s32 s33 s34 s35 s36 s37 s38 s39 s40 s41 s42 s43 s44 s45 s46 s47 s48 s49 s50 s51 s52 s53 s54 s55 s56 s57 s58 s59 s60 s61 s62 s63 s64 s65 s66 s67 s68 s69 s70 s71 s72 s73 s74 s75 s76 s77 s78 s79 s80 s81 s82 s83 s84 s85 s86 s87 s88 s89 s90 s91 s92 s93 s94 s95 s96 s97 s98 s99 s100 s101 s102 s103 s104 s105 s106 s107 s108 s109 s110 s111 s112 s113 s114 s115 s116 s117 : AV) : clearA a37l0s [s0, s1, s2, s3, s4, s5, s6, s7, s8, s9, s10, s11, s12, s13, s14, s15, s16, s17, s18, s19, s20, s21, s22, s23, s24, s25, s26, s27, s28, s29, s30, s31, s32, s33, s34, s35, s36, s37, s38, s39, s40, s41, s42, s43, s44, s45, s46, s47, s48, s49, s50, s51, s52, s53, s54, s55, s56, s57, s58, s59, s60, s61, s62, s63, s64, s65, s66, s67, s68, s69, s70, s71, s72, s73, s74, s75, s76, s77, s78, s79, s80, s81, s82, s83, s84, s85, s86, s87, s88, s89, s90, s91, s92, s93, s94, s95, s96, s97, s98, s99, s100, s101, s102, s103, s104, s105, s106, s107, s108, s109, s110, s111, s112, s113, s114, s115, s116, s117] = a37l0F s2 s3 s4 s5 s6 s20 s21 s22 := by kernel_rfl
theorem a37l0n {prog : Nat → Option AFunc} (s2 s3 s4 s5 s6 s20 s21 s22 : AV) (H : Heap) : (lim prog).loop a37l0s a37l0 ⟨a37l0F s2 s3 s4 s5 s6 s20 s21 s22, H⟩ = loopK (lim prog) a37l0s a37l0 (run (lim prog) a37l0b ⟨a37l0F s2 s3 s4 s5 s6 s20 s21 s22, H⟩) := lim_loop_step _ _ _ _ (by kernel_rfl)

def a37l1b : ACode :=
  .seq (.region [⟨some 58, .bin .lss (.t 57) (.t 56), none⟩])
  (.seq (.cond (.t 58)
    (.skip)
    (.exit 4))
   (.seq (.block 5 (.seq (.region [⟨some 59, .mov (.t 57), none⟩,
         ⟨some 14, .mov (.t 59), none⟩])
      (.seq (.region [⟨some 60, .load false 1 (.t 11), none⟩,
          ⟨some 61, .mov (.t 12), none⟩,
          ⟨some 62, .iaddr 1 (.t 60) (.t 61), none⟩,
          ⟨some 63, .load false 1 (.t 62), none⟩,
          ⟨some 64, .mov (.t 14), none⟩,
          ⟨some 65, .conv Go.IntKind.u8 (.t 64), none⟩,
          ⟨some 66, .bslice true [.int Go.IntKind.u8 0] 1 1 [(0, (.t 65))], none⟩,
          ⟨some 67, .bslice true [.sl true 0 []] 1 2 [(0, (.t 63)), (1, (.t 66))], none⟩,
          ⟨some 68, .call 76 [(.t 67)], none⟩,
          ⟨some 15, .mov (.t 68), none⟩])
       (.seq (.seq (.draw 15 [⟨some 69, .faddr 4 (.t 2), none⟩,
            ⟨some 70, .load false 1 (.t 69), none⟩,
            ⟨some 71, .arrat 1 2 (.t 13) (.c (.int Go.IntKind.i64 0)), none⟩,
            ⟨some 72, .load false 1 (.t 71), none⟩,
            ⟨some 73, .iaddr 1 (.t 70) (.t 72), none⟩,
            ⟨some 74, .load false 1 (.t 73), none⟩,
            ⟨some 75, .mov (.t 14), none⟩,
            ⟨some 76, .iaddr 1 (.t 74) (.t 75), none⟩,
            ⟨some 77, .load false 1 (.t 76), none⟩,
            ⟨some 78, .faddr 4 (.t 3), none⟩,
            ⟨some 79, .load false 1 (.t 78), none⟩,
            ⟨some 80, .arrat 1 2 (.t 13) (.c (.int Go.IntKind.i64 1)), none⟩,
            ⟨some 81, .load false 1 (.t 80), none⟩,
            ⟨some 82, .iaddr 1 (.t 79) (.t 81), none⟩,
            ⟨some 83, .load false 1 (.t 82), none⟩,
            ⟨some 84, .mov (.t 14), none⟩,
            ⟨some 85, .iaddr 1 (.t 83) (.t 84), none⟩,
            ⟨some 86, .load false 1 (.t 85), none⟩,
            ⟨some 87, .bin .neq (.t 77) (.t 86), none⟩])
         (.cond (.t 87)
          (.seq (.region [⟨some 88, .mov (.t 15), none⟩,
              ⟨none, .store 1 (.t 4) (.t 88), none⟩,
              ⟨none, .store 1 (.t 5) (.c (.bool false)), none⟩,
              ⟨none, .store 1 (.t 6) (.c (.int Go.IntKind.i64 0)), none⟩])
           (.ret))
          (.skip)))
        (.seq (.draw 15 [⟨some 90, .faddr 3 (.t 2), none⟩,
            ⟨some 91, .load false 1 (.t 90), none⟩,
            ⟨some 92, .arrat 1 2 (.t 13) (.c (.int Go.IntKind.i64 0)), none⟩,
            ⟨some 93, .load false 1 (.t 92), none⟩,
            ⟨some 94, .iaddr 1 (.t 91) (.t 93), none⟩,
            ⟨some 95, .load false 1 (.t 94), none⟩,
            ⟨some 96, .mov (.t 14), none⟩,
            ⟨some 97, .iaddr 1 (.t 95) (.t 96), none⟩,
            ⟨some 98, .load false 1 (.t 97), none⟩,
            ⟨some 99, .faddr 3 (.t 3), none⟩,
            ⟨some 100, .load false 1 (.t 99), none⟩,
            ⟨some 101, .arrat 1 2 (.t 13) (.c (.int Go.IntKind.i64 1)), none⟩,
            ⟨some 102, .load false 1 (.t 101), none⟩,
            ⟨some 103, .iaddr 1 (.t 100) (.t 102), none⟩,
            ⟨some 104, .load false 1 (.t 103), none⟩,
            ⟨some 105, .mov (.t 14), none⟩,
            ⟨some 106, .iaddr 1 (.t 104) (.t 105), none⟩,
            ⟨some 107, .load false 1 (.t 106), none⟩,
            ⟨some 108, .build [.int Go.IntKind.i64 0, .int Go.IntKind.i64 0] [(0, 1, (.t 98)), (1, 1, (.t 107))], none⟩,
            ⟨some 109, .icall (.c (.func 74 [])) [(.t 10), (.t 108)], none⟩,
            ⟨some 89, .mov (.t 109), none⟩,
            ⟨some 110, .ext 0 (.t 89), none⟩,
            ⟨some 111, .ext 1 (.t 89), none⟩,
            ⟨some 16, .mov (.t 110), none⟩,
            ⟨some 17, .mov (.t 111), none⟩])
         (.seq (.region [⟨some 112, .mov (.t 17), none⟩])
          (.cond (.t 112)
           (.region [⟨some 113, .load false 1 (.t 11), none⟩,
              ⟨some 114, .mov (.t 15), none⟩,
              ⟨some 115, .bslice true [.sl true 0 []] 1 1 [(0, (.t 114))], none⟩,
              ⟨some 116, .append false 1 24 (.t 113) (.t 115), none⟩,
              ⟨none, .store 1 (.t 11) (.t 116), none⟩])
           (.skip))))))))
    (.region [⟨some 117, .bin .add (.t 57) (.c (.int Go.IntKind.i64 1)), none⟩,
       ⟨some 57, .mov (.t 117), none⟩])))

def a37l1 : ACode := a37l1b
def a37l1s : List Nat := []
abbrev a37l1F (s0 s1 s2 s3 s4 s5 s6 s7 s8 s9 s10 s11 s12 s13 s14 s15 s16 s17 s18 s19 s20 s21 s22 s23 s24 s25 s26 s27 s28 s29 s30 s31 s32 s33 s34 s35 s36 s37 s38 s39 s40 s41 s42 s43 s44 s45 s46 s47 s48 s49 s50 s51 s52 s53 s54 s55 s56 s57 s58 s59 s60 s61 s62 s63 s64 s65 s66 s67 s68 s69 s70 s71 s72 s73 s74 s75 s76 s77 s78 s79 s80 s81 s82 s83 s84 s85 s86 s87 s88 s89 s90 s91 s92 s93 s94 s95 s96 s97 s98 s99 s100 s101 s102 s103 s104 s105 s106 s107 s108 s109 s110 s111 s112 s113 s114 s115 s116 s117 : AV) : List AV := [s0, s1, s2, s3, s4, s5, s6, s7, s8, s9, s10, s11, s12, s13, s14, s15, s16, s17, s18, s19, s20, s21, s22, s23, s24, s25, s26, s27, s28, s29, s30, s31, s32, s33, s34, s35, s36, s37, s38, s39, s40, s41, s42, s43, s44, s45, s46, s47, s48, s49, s50, s51, s52, s53, s54, s55, s56, s57, s58, s59, s60, s61, s62, s63, s64, s65, s66, s67, s68, s69, s70, s71, s72, s73, s74, s75, s76, s77, s78, s79, s80, s81, s82, s83, s84, s85, s86, s87, s88, s89, s90, s91, s92, s93, s94, s95, s96, s97, s98, s99, s100, s101, s102, s103, s104, s105, s106, s107, s108, s109, s110, s111, s112, s113, s114, s115, s116, s117]
theorem a37l1c (s0 s1 s2 s3 s4 s5 s6 s7 s8 s9 s10 s11 s12 s13 s14 s15 s16 s17 s18 s19 s20 s21 s22 s23 s24 s25 s26 s27 s28 s29 s30 s31 s32 s33 s34 s35 s36 s37 s38 s39 s40 s41 s42 s43 s44 s45 s46 s47 s48 s49 s50 s51 s52 s53 s54 s55 s56 s57 s58 s59 s60 s61 s62 s63 s64 s65 s66 s67 s68 s69 s70 s71 s72 s73 s74 s75 s76 s77 s78 s79 s80 s81 s82 s83 s84 s85 s86 s87 s88 s89 s90 s91 s92 s93 s94 s95 s96 s97 s98 s99 s100 s101 s102 s103 s104 s105 s106 s107 s108 s109 s110 s111 s112 s113 s114 s115 s116 s117 : AV) : clearA a37l1s [s0, s1, s2, s3, s4, s5, s6, s7, s8, s9, s10, s11, s12, s13, s14, s15, s16, s17, s18, s19, s20, s21, s22, s23, s24, s25, s26, s27, s28, s29, s30, s31, s32, s33, s34, s35, s36, s37, s38, s39, s40, s41, s42, s43, s44, s45, s46, s47, s48, s49, s50, s51, s52, s53, s54, s55, s56, s57, s58, s59, s60, s61, s62, s63, s64, s65, s66, s67, s68, s69, s70, s71, s72, s73, s74, s75, s76, s77, s78, s79, s80, s81, s82, s83, s84, s85, s86, s87, s88, s89, s90, s91, s92, s93, s94, s95, s96, s97, s98, s99, s100, s101, s102, s103, s104, s105, s106, s107, s108, s109, s110, s111, s112, s113, s114, s115, s116, s117] = a37l1F s0 s1 s2 s3 s4 s5 s6 s7 s8 s9 s10 s11 s12 s13 s14 s15 s16 s17 s18 s19 s20 s21 s22 s23 s24 s25 s26 s27 s28 s29 s30 s31 s32 s33 s34 s35 s36 s37 s38 s39 s40 s41 s42 s43 s44 s45 s46 s47 s48 s49 s50 s51 s52 s53 s54 s55 s56 s57 s58 s59 s60 s61 s62 s63 s64 s65 s66 s67 s68 s69 s70 s71 s72 s73 s74 s75 s76 s77 s78 s79 s80 s81 s82 s83 s84 s85 s86 s87 s88 s89 s90 s91 s92 s93 s94 s95 s96 s97 s98 s99 s100 s101 s102 s103 s104 s105 s106 s107 s108 s109 s110 s111 s112 s113 s114 s115 s116 s117 := by kernel_rfl
theorem a37l1n {prog : Nat → Option AFunc} (s0 s1 s2 s3 s4 s5 s6 s7 s8 s9 s10 s11 s12 s13 s14 s15 s16 s17 s18 s19 s20 s21 s22 s23 s24 s25 s26 s27 s28 s29 s30 s31 s32 s33 s34 s35 s36 s37 s38 s39 s40 s41 s42 s43 s44 s45 s46 s47 s48 s49 s50 s51 s52 s53 s54 s55 s56 s57 s58 s59 s60 s61 s62 s63 s64 s65 s66 s67 s68 s69 s70 s71 s72 s73 s74 s75 s76 s77 s78 s79 s80 s81 s82 s83 s84 s85 s86 s87 s88 s89 s90 s91 s92 s93 s94 s95 s96 s97 s98 s99 s100 s101 s102 s103 s104 s105 s106 s107 s108 s109 s110 s111 s112 s113 s114 s115 s116 s117 : AV) (H : Heap) : (lim prog).loop a37l1s a37l1 ⟨a37l1F s0 s1 s2 s3 s4 s5 s6 s7 s8 s9 s10 s11 s12 s13 s14 s15 s16 s17 s18 s19 s20 s21 s22 s23 s24 s25 s26 s27 s28 s29 s30 s31 s32 s33 s34 s35 s36 s37 s38 s39 s40 s41 s42 s43 s44 s45 s46 s47 s48 s49 s50 s51 s52 s53 s54 s55 s56 s57 s58 s59 s60 s61 s62 s63 s64 s65 s66 s67 s68 s69 s70 s71 s72 s73 s74 s75 s76 s77 s78 s79 s80 s81 s82 s83 s84 s85 s86 s87 s88 s89 s90 s91 s92 s93 s94 s95 s96 s97 s98 s99 s100 s101 s102 s103 s104 s105 s106 s107 s108 s109 s110 s111 s112 s113 s114 s115 s116 s117, H⟩ = loopK (lim prog) a37l1s a37l1 (run (lim prog) a37l1b ⟨a37l1F s0 s1 s2 s3 s4 s5 s6 s7 s8 s9 s10 s11 s12 s13 s14 s15 s16 s17 s18 s19 s20 s21 s22 s23 s24 s25 s26 s27 s28 s29 s30 s31 s32 s33 s34 s35 s36 s37 s38 s39 s40 s41 s42 s43 s44 s45 s46 s47 s48 s49 s50 s51 s52 s53 s54 s55 s56 s57 s58 s59 s60 s61 s62 s63 s64 s65 s66 s67 s68 s69 s70 s71 s72 s73 s74 s75 s76 s77 s78 s79 s80 s81 s82 s83 s84 s85 s86 s87 s88 s89 s90 s91 s92 s93 s94 s95 s96 s97 s98 s99 s100 s101 s102 s103 s104 s105 s106 s107 s108 s109 s110 s111 s112 s113 s114 s115 s116 s117, H⟩) := lim_loop_step _ _ _ _ (by kernel_rfl)

def a37r2ab : ACode :=
  .seq (.region [⟨some 12, .mov (.t 52), none⟩])
  (.region [⟨some 13, .box (.c (.agg [.int Go.IntKind.i64 0, .int Go.IntKind.i64 0])), none⟩,
     ⟨none, .store 2 (.t 13) (.t 53), none⟩])

def a37r2b : ACode :=
  .block 3 (.seq (.region [⟨some 54, .faddr 0 (.t 2), none⟩,
      ⟨some 55, .load false 1 (.t 54), none⟩,
      ⟨some 56, .bin .shl (.c (.int Go.IntKind.i64 1)) (.t 55), none⟩,
      ⟨some 57, .mov (.c (.int Go.IntKind.i64 0)), none⟩])
   (.block 4 (.loop a37l1s a37l1)))

def a37r2a : ACode := a37r2ab
def a37r2 : ACode := a37r2b
theorem a37r2an (R : Rec) (s : St) : run R a37r2a s = run R a37r2ab s := rfl
theorem a37r2n (R : Rec) (s : St) : run R a37r2 s = run R a37r2b s := rfl

/-- sentinel/mealy.Equal -/
def a37 : AFunc := ⟨118,
  .seq (.region [⟨some 2, .box (.t 0), none⟩,
     ⟨some 3, .box (.t 1), none⟩,
     ⟨some 4, .box (.c (.sl true 0 [])), none⟩,
     ⟨some 5, .box (.c (.bool false)), none⟩,
     ⟨some 6, .box (.c (.int Go.IntKind.i64 0)), none⟩])
  (.seq (.seq (.region [⟨some 18, .load true 5 (.t 2), none⟩,
       ⟨some 19, .load true 5 (.t 3), none⟩,
       ⟨some 20, .bslice true [.int Go.IntKind.i64 0, .int Go.IntKind.i64 0, .int Go.IntKind.i64 0, .sl true 0 [], .sl true 0 []] 5 2 [(0, (.t 18)), (1, (.t 19))], none⟩,
       ⟨some 21, .len (.t 20), none⟩,
       ⟨some 22, .mov (.c (.int Go.IntKind.i64 0)), none⟩])
    (.block 0 (.loop a37l0s a37l0)))
   (.seq (.seq (.region [⟨some 32, .faddr 0 (.t 2), none⟩,
        ⟨some 33, .load false 1 (.t 32), none⟩,
        ⟨some 34, .faddr 0 (.t 3), none⟩,
        ⟨some 35, .load false 1 (.t 34), none⟩,
        ⟨some 36, .bin .neq (.t 33) (.t 35), none⟩,
        ⟨some 37, .mov (.t 36), none⟩,
        ⟨some 38, .faddr 1 (.t 2), some (37, false)⟩,
        ⟨some 39, .load false 1 (.t 38), some (37, false)⟩,
        ⟨some 40, .faddr 1 (.t 3), some (37, false)⟩,
        ⟨some 41, .load false 1 (.t 40), some (37, false)⟩,
        ⟨some 42, .bin .neq (.t 39) (.t 41), some (37, false)⟩,
        ⟨some 43, .pick (.t 37) (.c (.bool true)) (.t 42), none⟩])
     (.cond (.t 43)
      (.seq (.region [⟨none, .store 1 (.t 4) (.c (.sl true 0 [])), none⟩,
          ⟨none, .store 1 (.t 5) (.c (.bool false)), none⟩,
          ⟨none, .store 1 (.t 6) (.c (.int Go.IntKind.i64 7)), none⟩])
       (.ret))
      (.skip)))
    (.seq (.region [⟨some 10, .box (.c (.agg [.nilm, .sl true 0 []])), none⟩])
     (.seq (.region [⟨some 44, .faddr 2 (.t 2), none⟩,
         ⟨some 45, .load false 1 (.t 44), none⟩,
         ⟨some 46, .faddr 2 (.t 3), none⟩,
         ⟨some 47, .load false 1 (.t 46), none⟩,
         ⟨some 48, .build [.int Go.IntKind.i64 0, .int Go.IntKind.i64 0] [(0, 1, (.t 45)), (1, 1, (.t 47))], none⟩,
         ⟨some 49, .icall (.c (.func 74 [])) [(.t 10), (.t 48)], none⟩])
      (.seq (.region [⟨some 50, .bslice false [.sl true 0 []] 1 1 [(0, (.c (.sl true 0 [])))], none⟩,
          ⟨some 11, .box (.c (.sl true 0 [])), none⟩,
          ⟨none, .store 1 (.t 11) (.t 50), none⟩])
       (.seq (.seq (.region [⟨some 51, .icall (.c (.func 75 [])) [(.t 10)], none⟩])
         (.block 2 (.range (.t 51) [52, 53] a37r2a a37r2)))
        (.seq (.region [⟨none, .store 1 (.t 4) (.c (.sl true 0 [])), none⟩,
            ⟨none, .store 1 (.t 5) (.c (.bool true)), none⟩,
            ⟨none, .store 1 (.t 6) (.c (.int Go.IntKind.i64 0)), none⟩])
         (.ret)))))))),
  [.cell 4 false 1, .cell 5 false 1, .cell 6 false 1]⟩

/-- sentinel/sentinellaw34.one -/
def a42 : AFunc := ⟨5,
  .seq (.region [⟨some 0, .box (.c (.agg [.int Go.IntKind.i64 0, .int Go.IntKind.i64 0, .int Go.IntKind.i64 0, .sl true 0 [], .sl true 0 []])), none⟩])
  (.seq (.region [⟨some 1, .bslice true [.int Go.IntKind.u8 0] 1 1 [(0, (.c (.int Go.IntKind.u8 1)))], none⟩,
      ⟨some 2, .bslice true [.int Go.IntKind.i64 0] 1 2 [(0, (.c (.int Go.IntKind.i64 0))), (1, (.c (.int Go.IntKind.i64 0)))], none⟩,
      ⟨some 3, .bslice true [.sl true 0 []] 1 1 [(0, (.t 2))], none⟩,
      ⟨some 4, .build [.int Go.IntKind.i64 0, .int Go.IntKind.i64 0, .int Go.IntKind.i64 0, .sl true 0 [], .sl true 0 []] [(0, 1, (.c (.int Go.IntKind.i64 1))), (1, 1, (.c (.int Go.IntKind.i64 1))), (3, 1, (.t 1)), (4, 1, (.t 3))], none⟩,
      ⟨none, .store 5 (.t 0) (.t 4), none⟩])
   (.ret)),
  [.cell 0 true 5]⟩

/-- sentinel/sentinellaw34.Not -/
def a43 : AFunc := ⟨6,
  .seq (.region [⟨some 0, .box (.c (.agg [.int Go.IntKind.i64 0, .int Go.IntKind.i64 0, .int Go.IntKind.i64 0, .sl true 0 [], .sl true 0 []])), none⟩])
  (.seq (.region [⟨some 1, .bslice true [.int Go.IntKind.i64 0] 1 2 [(0, (.c (.int Go.IntKind.i64 0))), (1, (.c (.int Go.IntKind.i64 0)))], none⟩,
      ⟨some 2, .bslice true [.sl true 0 []] 1 1 [(0, (.t 1))], none⟩,
      ⟨some 3, .bslice true [.int Go.IntKind.u8 0] 1 2 [(0, (.c (.int Go.IntKind.u8 1))), (1, (.c (.int Go.IntKind.u8 0)))], none⟩,
      ⟨some 4, .bslice true [.sl true 0 []] 1 1 [(0, (.t 3))], none⟩,
      ⟨some 5, .build [.int Go.IntKind.i64 0, .int Go.IntKind.i64 0, .int Go.IntKind.i64 0, .sl true 0 [], .sl true 0 []] [(0, 1, (.c (.int Go.IntKind.i64 1))), (1, 1, (.c (.int Go.IntKind.i64 1))), (3, 1, (.t 2)), (4, 1, (.t 4))], none⟩,
      ⟨none, .store 5 (.t 0) (.t 5), none⟩])
   (.ret)),
  [.cell 0 true 5]⟩

/-- sentinel/lasso.Check -/
def a45 : AFunc := ⟨40,
  .seq (.region [⟨some 2, .box (.t 0), none⟩,
     ⟨some 3, .box (.t 1), none⟩,
     ⟨some 4, .mov (.c (.int Go.IntKind.i64 0)), none⟩])
  (.seq (.block 0 (.seq (.region [⟨some 7, .load false 1 (.t 3), none⟩,
        ⟨some 8, .bin .lss (.t 7) (.c (.int Go.IntKind.i64 0)), none⟩,
        ⟨some 9, .mov (.t 8), none⟩,
        ⟨some 10, .load false 1 (.t 3), some (9, false)⟩,
        ⟨some 11, .bin .gtr (.t 10) (.c (.int Go.IntKind.i64 6)), some (9, false)⟩,
        ⟨some 12, .pick (.t 9) (.c (.bool true)) (.t 11), none⟩,
        ⟨some 6, .mov (.t 12), none⟩])
     (.cond (.t 6)
      (.seq (.region [⟨some 4, .mov (.c (.int Go.IntKind.i64 7)), none⟩])
       (.ret))
      (.seq (.region [⟨some 14, .faddr 1 (.t 2), none⟩,
          ⟨some 15, .load false 1 (.t 14), none⟩,
          ⟨some 16, .len (.t 15), none⟩,
          ⟨some 17, .bin .eql (.t 16) (.c (.int Go.IntKind.i64 0)), none⟩,
          ⟨some 13, .mov (.t 17), none⟩])
       (.cond (.t 13)
        (.seq (.region [⟨some 4, .mov (.c (.int Go.IntKind.i64 3)), none⟩])
         (.ret))
        (.seq (.region [⟨some 19, .faddr 0 (.t 2), none⟩,
            ⟨some 20, .load false 1 (.t 19), none⟩,
            ⟨some 21, .len (.t 20), none⟩,
            ⟨some 22, .bin .gtr (.t 21) (.c (.int Go.IntKind.i64 64)), none⟩,
            ⟨some 23, .mov (.t 22), none⟩,
            ⟨some 24, .faddr 1 (.t 2), some (23, false)⟩,
            ⟨some 25, .load false 1 (.t 24), some (23, false)⟩,
            ⟨some 26, .len (.t 25), some (23, false)⟩,
            ⟨some 27, .bin .gtr (.t 26) (.c (.int Go.IntKind.i64 64)), some (23, false)⟩,
            ⟨some 28, .pick (.t 23) (.c (.bool true)) (.t 27), none⟩,
            ⟨some 18, .mov (.t 28), none⟩])
         (.cond (.t 18)
          (.seq (.region [⟨some 4, .mov (.c (.int Go.IntKind.i64 4)), none⟩])
           (.ret))
          (.skip))))))))
   (.seq (.region [⟨some 29, .mkfunc 80 [(.t 3)], none⟩,
       ⟨some 5, .mov (.t 29), none⟩])
    (.seq (.seq (.region [⟨some 30, .faddr 0 (.t 2), none⟩,
         ⟨some 31, .load false 1 (.t 30), none⟩,
         ⟨some 32, .mov (.t 5), none⟩,
         ⟨some 33, .icall (.c (.func 52 [])) [(.t 31), (.t 32)], none⟩,
         ⟨some 34, .mov (.t 33), none⟩,
         ⟨some 35, .faddr 1 (.t 2), some (34, false)⟩,
         ⟨some 36, .load false 1 (.t 35), some (34, false)⟩,
         ⟨some 37, .mov (.t 5), some (34, false)⟩,
         ⟨some 38, .icall (.c (.func 52 [])) [(.t 36), (.t 37)], some (34, false)⟩,
         ⟨some 39, .pick (.t 34) (.c (.bool true)) (.t 38), none⟩])
      (.cond (.t 39)
       (.seq (.region [⟨some 4, .mov (.c (.int Go.IntKind.i64 1)), none⟩])
        (.ret))
       (.skip)))
     (.seq (.region [⟨some 4, .mov (.c (.int Go.IntKind.i64 0)), none⟩])
      (.ret))))),
  [.tmp 4]⟩

/-- sentinel/lasso.At -/
def a47 : AFunc := ⟨29,
  .seq (.region [⟨some 2, .box (.t 0), none⟩,
     ⟨some 4, .mov (.c (.int Go.IntKind.u8 0)), none⟩])
  (.seq (.seq (.region [⟨some 6, .mov (.t 1), none⟩,
       ⟨some 7, .bin .lss (.t 6) (.c (.int Go.IntKind.i64 0)), none⟩])
    (.cond (.t 7)
     (.seq (.region [⟨some 4, .mov (.c (.int Go.IntKind.u8 0)), none⟩])
      (.ret))
     (.skip)))
   (.seq (.region [⟨some 8, .load true 2 (.t 2), none⟩,
       ⟨some 9, .call 77 [(.t 8)], none⟩,
       ⟨none, .store 2 (.t 2) (.t 9), none⟩])
    (.seq (.seq (.draw 6 [⟨some 10, .load true 2 (.t 2), none⟩,
         ⟨some 11, .mov (.t 1), none⟩,
         ⟨some 12, .call 55 [(.t 10), (.t 11)], none⟩,
         ⟨some 13, .faddr 0 (.t 2), none⟩,
         ⟨some 14, .load false 1 (.t 13), none⟩,
         ⟨some 15, .len (.t 14), none⟩,
         ⟨some 16, .bin .sub (.t 12) (.t 15), none⟩,
         ⟨some 5, .mov (.t 16), none⟩])
      (.seq (.region [⟨some 17, .mov (.t 5), none⟩,
          ⟨some 18, .bin .geq (.t 17) (.c (.int Go.IntKind.i64 0)), none⟩])
       (.cond (.t 18)
        (.seq (.region [⟨some 19, .faddr 1 (.t 2), none⟩,
            ⟨some 20, .load false 1 (.t 19), none⟩,
            ⟨some 21, .mov (.t 5), none⟩,
            ⟨some 22, .iaddr 1 (.t 20) (.t 21), none⟩,
            ⟨some 23, .load false 1 (.t 22), none⟩,
            ⟨some 4, .mov (.t 23), none⟩])
         (.ret))
        (.skip))))
     (.seq (.region [⟨some 24, .faddr 0 (.t 2), none⟩,
         ⟨some 25, .load false 1 (.t 24), none⟩,
         ⟨some 26, .mov (.t 1), none⟩,
         ⟨some 27, .iaddr 1 (.t 25) (.t 26), none⟩,
         ⟨some 28, .load false 1 (.t 27), none⟩,
         ⟨some 4, .mov (.t 28), none⟩])
      (.ret))))),
  [.tmp 4]⟩

def a49l0b : ACode :=
  .seq (.seq (.region [⟨some 16, .mov (.t 4), none⟩,
      ⟨some 17, .bin .gtr (.t 16) (.c (.int Go.IntKind.i64 0)), none⟩])
   (.cond (.t 17)
    (.skip)
    (.exit 0)))
  (.block 1 (.seq (.seq (.draw 9 [⟨some 18, .faddr 0 (.t 1), none⟩,
        ⟨some 19, .load false 1 (.t 18), none⟩,
        ⟨some 20, .mov (.t 4), none⟩,
        ⟨some 21, .bin .sub (.t 20) (.c (.int Go.IntKind.i64 1)), none⟩,
        ⟨some 22, .iaddr 1 (.t 19) (.t 21), none⟩,
        ⟨some 23, .load false 1 (.t 22), none⟩,
        ⟨some 24, .mov (.t 3), none⟩,
        ⟨some 25, .mov (.t 5), none⟩,
        ⟨some 26, .bin .sub (.t 25) (.c (.int Go.IntKind.i64 1)), none⟩,
        ⟨some 27, .mov (.t 3), none⟩,
        ⟨some 28, .len (.t 27), none⟩,
        ⟨some 29, .bin .rem (.t 26) (.t 28), none⟩,
        ⟨some 30, .iaddr 1 (.t 24) (.t 29), none⟩,
        ⟨some 31, .load false 1 (.t 30), none⟩,
        ⟨some 32, .bin .neq (.t 23) (.t 31), none⟩])
     (.cond (.t 32)
      (.exit 0)
      (.skip)))
    (.seq (.region [⟨some 33, .mov (.t 4), none⟩,
        ⟨some 34, .bin .sub (.t 33) (.c (.int Go.IntKind.i64 1)), none⟩,
        ⟨some 4, .mov (.t 34), none⟩])
     (.seq (.region [⟨some 35, .mov (.t 5), none⟩,
         ⟨some 36, .bin .sub (.t 35) (.c (.int Go.IntKind.i64 1)), none⟩,
         ⟨some 5, .mov (.t 36), none⟩])
      (.seq (.region [⟨some 37, .mov (.t 5), none⟩,
          ⟨some 38, .bin .eql (.t 37) (.c (.int Go.IntKind.i64 0)), none⟩])
       (.cond (.t 38)
        (.region [⟨some 39, .mov (.t 3), none⟩,
           ⟨some 40, .len (.t 39), none⟩,
           ⟨some 5, .mov (.t 40), none⟩])
        (.skip)))))))

def a49l0 : ACode := a49l0b
def a49l0s : List Nat := [0, 6, 7, 8, 9, 10, 11, 12, 13, 14, 15, 16, 17, 18, 19, 20, 21, 22, 23, 24, 25, 26, 27, 28, 29, 30, 31, 32, 33, 34, 35, 36, 37, 38, 39, 40, 41, 42, 43, 44, 45, 46, 47, 48, 49, 50, 51, 52, 53, 54, 55, 56, 57, 58]
abbrev a49l0F (s1 s2 s3 s4 s5 : AV) : List AV := [.any, s1, s2, s3, s4, s5, .any, .any, .any, .any, .any, .any, .any, .any, .any, .any, .any, .any, .any, .any, .any, .any, .any, .any, .any, .any, .any, .any, .any, .any, .any, .any, .any, .any, .any, .any, .any, .any, .any, .any, .any, .any, .any, .any, .any, .any, .any, .any, .any, .any, .any, .any, .any, .any, .any, .any, .any, .any, .any]
theorem a49l0c (s0 s1 s2 s3 s4 s5 s6 s7 s8 s9 s10 s11 s12 s13 s14 s15 s16 s17 s18 s19 s20 s21 s22 s23 s24 s25 s26 s27 s28 s29 s30 s31 s32 s33 s34 s35 s36 s37 s38 s39 s40 s41 s42 s43 s44 s45 s46 s47 s48 s49 s50 s51 s52 s53 s54 s55 s56 s57 s58 : AV) : clearA a49l0s [s0, s1, s2, s3, s4, s5, s6, s7, s8, s9, s10, s11, s12, s13, s14, s15, s16, s17, s18, s19, s20, s21, s22, s23, s24, s25, s26, s27, s28, s29, s30, s31, s32, s33, s34, s35, s36, s37, s38, s39, s40, s41, s42, s43, s44, s45, s46, s47, s48, s49, s50, s51, s52, s53, s54, s55, s56, s57, s58] = a49l0F s1 s2 s3 s4 s5 := by kernel_rfl
theorem a49l0n {prog : Nat → Option AFunc} (s1 s2 s3 s4 s5 : AV) (H : Heap) : (lim prog).loop a49l0s a49l0 ⟨a49l0F s1 s2 s3 s4 s5, H⟩ = loopK (lim prog) a49l0s a49l0 (run (lim prog) a49l0b ⟨a49l0F s1 s2 s3 s4 s5, H⟩) := lim_loop_step _ _ _ _ (by kernel_rfl)

/-- sentinel/lasso.Canonical -/
def a49 : AFunc := ⟨59,
  .seq (.region [⟨some 1, .box (.t 0), none⟩,
     ⟨some 2, .box (.c (.agg [.sl true 0 [], .sl true 0 []])), none⟩])
  (.scope (.seq (.region [⟨some 6, .load true 2 (.t 1), none⟩,
       ⟨some 7, .call 77 [(.t 6)], none⟩,
       ⟨none, .store 2 (.t 1) (.t 7), none⟩])
    (.seq (.draw 6 [⟨some 8, .faddr 1 (.t 1), none⟩,
        ⟨some 9, .load false 1 (.t 8), none⟩,
        ⟨some 10, .call 83 [(.t 9)], none⟩,
        ⟨some 11, .faddr 0 (.t 1), none⟩,
        ⟨some 12, .load false 1 (.t 11), none⟩,
        ⟨some 13, .len (.t 12), none⟩,
        ⟨some 3, .mov (.t 10), none⟩,
        ⟨some 4, .mov (.t 13), none⟩])
     (.seq (.region [⟨some 14, .mov (.t 3), none⟩,
         ⟨some 15, .len (.t 14), none⟩,
         ⟨some 5, .mov (.t 15), none⟩])
      (.seq (.label)
       (.seq (.block 0 (.loop a49l0s a49l0))
        (.seq (.region [⟨some 41, .mov (.t 5), none⟩,
            ⟨some 42, .mov (.t 3), none⟩,
            ⟨some 43, .len (.t 42), none⟩,
            ⟨some 44, .bin .rem (.t 41) (.t 43), none⟩,
            ⟨some 5, .mov (.t 44), none⟩])
         (.seq (.draw 12 [⟨some 45, .faddr 0 (.t 1), none⟩,
             ⟨some 46, .load false 1 (.t 45), none⟩,
             ⟨some 47, .mov (.t 4), none⟩,
             ⟨some 48, .slice 1 (.t 46) none (some (.t 47)) none, none⟩,
             ⟨some 49, .call 72 [(.t 48)], none⟩,
             ⟨some 50, .mov (.t 3), none⟩,
             ⟨some 51, .mov (.t 5), none⟩,
             ⟨some 52, .slice 1 (.t 50) (some (.t 51)) none none, none⟩,
             ⟨some 53, .mov (.t 3), none⟩,
             ⟨some 54, .mov (.t 5), none⟩,
             ⟨some 55, .slice 1 (.t 53) none (some (.t 54)) none, none⟩,
             ⟨some 56, .bslice true [.sl true 0 []] 1 2 [(0, (.t 52)), (1, (.t 55))], none⟩,
             ⟨some 57, .call 76 [(.t 56)], none⟩,
             ⟨some 58, .build [.sl true 0 [], .sl true 0 []] [(0, 1, (.t 49)), (1, 1, (.t 57))], none⟩,
             ⟨none, .store 2 (.t 2) (.t 58), none⟩])
          (.ret))))))))),
  [.cell 2 true 2]⟩

/-- slices.ContainsFunc[[]uint8,uint8] -/
def a52 : AFunc := ⟨9,
  .seq (.region [⟨some 4, .mov (.c (.bool false)), none⟩])
  (.seq (.region [⟨some 5, .mov (.t 0), none⟩,
      ⟨some 6, .mov (.t 1), none⟩,
      ⟨some 7, .icall (.c (.func 85 [])) [(.t 5), (.t 6)], none⟩,
      ⟨some 8, .bin .geq (.t 7) (.c (.int Go.IntKind.i64 0)), none⟩,
      ⟨some 4, .mov (.t 8), none⟩])
   (.ret)),
  [.tmp 4]⟩

/-- sentinel/mealy.Run$1 -/
def a53 : AFunc := ⟨10,
  .seq (.region [⟨some 3, .mov (.c (.bool false)), none⟩])
  (.seq (.region [⟨some 4, .mov (.t 0), none⟩,
      ⟨some 5, .conv Go.IntKind.i64 (.t 4), none⟩,
      ⟨some 6, .faddr 0 (.t 1), none⟩,
      ⟨some 7, .load false 1 (.t 6), none⟩,
      ⟨some 8, .bin .shl (.c (.int Go.IntKind.i64 1)) (.t 7), none⟩,
      ⟨some 9, .bin .geq (.t 5) (.t 8), none⟩,
      ⟨some 3, .mov (.t 9), none⟩])
   (.ret)),
  [.tmp 3]⟩

/-- (*sentinel/mealy.trace[[2]int]).at -/
def a54 : AFunc := ⟨52,
  .seq (.region [⟨some 3, .box (.t 1), none⟩,
     ⟨some 4, .box (.c (.agg [.sl true 0 [], .sl true 0 []])), none⟩,
     ⟨some 5, .mov (.c (.bool false)), none⟩])
  (.seq (.seq (.region [⟨some 8, .mov (.t 0), none⟩,
       ⟨some 9, .nilchk (.t 8), none⟩,
       ⟨some 10, .faddr 0 (.t 9), none⟩,
       ⟨some 11, .load false 1 (.t 10), none⟩,
       ⟨some 12, .mnil false (.t 11), none⟩])
    (.cond (.t 12)
     (.region [⟨some 13, .mov (.t 0), none⟩,
        ⟨some 14, .mkmap, none⟩,
        ⟨some 15, .nilchk (.t 13), none⟩,
        ⟨some 16, .faddr 0 (.t 15), none⟩,
        ⟨none, .store 1 (.t 16) (.t 14), none⟩])
     (.skip)))
   (.seq (.seq (.draw 9 [⟨some 18, .mov (.t 0), none⟩,
        ⟨some 19, .nilchk (.t 18), none⟩,
        ⟨some 20, .faddr 0 (.t 19), none⟩,
        ⟨some 21, .load false 1 (.t 20), none⟩,
        ⟨some 22, .load true 2 (.t 3), none⟩,
        ⟨some 23, .mlook [2, 0, 0] true (.int Go.IntKind.i64 0) (.t 21) (.t 22), none⟩,
        ⟨some 17, .mov (.t 23), none⟩,
        ⟨some 24, .ext 0 (.t 17), none⟩,
        ⟨some 25, .ext 1 (.t 17), none⟩,
        ⟨some 6, .mov (.t 24), none⟩,
        ⟨some 7, .mov (.t 25), none⟩])
     (.seq (.region [⟨some 26, .mov (.t 7), none⟩])
      (.cond (.t 26)
       (.seq (.draw 10 [⟨some 27, .mov (.t 0), none⟩,
           ⟨some 28, .nilchk (.t 27), none⟩,
           ⟨some 29, .faddr 1 (.t 28), none⟩,
           ⟨some 30, .load false 1 (.t 29), none⟩,
           ⟨some 31, .mov (.t 6), none⟩,
           ⟨some 32, .slice 1 (.t 30) none (some (.t 31)) none, none⟩,
           ⟨some 33, .mov (.t 0), none⟩,
           ⟨some 34, .nilchk (.t 33), none⟩,
           ⟨some 35, .faddr 1 (.t 34), none⟩,
           ⟨some 36, .load false 1 (.t 35), none⟩,
           ⟨some 37, .mov (.t 6), none⟩,
           ⟨some 38, .slice 1 (.t 36) (some (.t 37)) none none, none⟩,
           ⟨some 39, .build [.sl true 0 [], .sl true 0 []] [(0, 1, (.t 32)), (1, 1, (.t 38))], none⟩,
           ⟨some 40, .call 49 [(.t 39)], none⟩,
           ⟨none, .store 2 (.t 4) (.t 40), none⟩,
           ⟨some 5, .mov (.c (.bool true)), none⟩])
        (.ret))
       (.skip))))
    (.seq (.draw 5 [⟨some 41, .mov (.t 0), none⟩,
        ⟨some 42, .nilchk (.t 41), none⟩,
        ⟨some 43, .faddr 0 (.t 42), none⟩,
        ⟨some 44, .load false 1 (.t 43), none⟩,
        ⟨some 45, .load true 2 (.t 3), none⟩,
        ⟨some 46, .mov (.t 0), none⟩,
        ⟨some 47, .nilchk (.t 46), none⟩,
        ⟨some 48, .faddr 1 (.t 47), none⟩,
        ⟨some 49, .load false 1 (.t 48), none⟩,
        ⟨some 50, .len (.t 49), none⟩,
        ⟨none, .mupd [2, 0, 0] (.t 44) (.t 45) (.t 50), none⟩])
     (.seq (.region [⟨some 51, .build [.sl true 0 [], .sl true 0 []] [], none⟩,
         ⟨none, .store 2 (.t 4) (.t 51), none⟩,
         ⟨some 5, .mov (.c (.bool false)), none⟩])
      (.ret))))),
  [.cell 4 true 2, .tmp 5]⟩

/-- sentinel/lasso.Index -/
def a55 : AFunc := ⟨24,
  .seq (.region [⟨some 2, .box (.t 0), none⟩,
     ⟨some 4, .mov (.c (.int Go.IntKind.i64 0)), none⟩])
  (.seq (.region [⟨some 6, .faddr 0 (.t 2), none⟩,
      ⟨some 7, .load false 1 (.t 6), none⟩,
      ⟨some 8, .len (.t 7), none⟩,
      ⟨some 5, .mov (.t 8), none⟩])
   (.seq (.seq (.region [⟨some 9, .mov (.t 1), none⟩,
        ⟨some 10, .mov (.t 5), none⟩,
        ⟨some 11, .bin .lss (.t 9) (.t 10), none⟩])
     (.cond (.t 11)
      (.seq (.region [⟨some 12, .mov (.t 1), none⟩,
          ⟨some 13, .maxi (.t 12) (.c (.int Go.IntKind.i64 0)), none⟩,
          ⟨some 4, .mov (.t 13), none⟩])
       (.ret))
      (.skip)))
    (.seq (.region [⟨some 14, .mov (.t 5), none⟩,
        ⟨some 15, .mov (.t 1), none⟩,
        ⟨some 16, .mov (.t 5), none⟩,
        ⟨some 17, .bin .sub (.t 15) (.t 16), none⟩,
        ⟨some 18, .faddr 1 (.t 2), none⟩,
        ⟨some 19, .load false 1 (.t 18), none⟩,
        ⟨some 20, .len (.t 19), none⟩,
        ⟨some 21, .maxi (.t 20) (.c (.int Go.IntKind.i64 1)), none⟩,
        ⟨some 22, .bin .rem (.t 17) (.t 21), none⟩,
        ⟨some 23, .bin .add (.t 14) (.t 22), none⟩,
        ⟨some 4, .mov (.t 23), none⟩])
     (.ret)))),
  [.tmp 4]⟩

/-- sentinel/mealy.sizes -/
def a59 : AFunc := ⟨46,
  .seq (.region [⟨some 10, .mov (.c (.int Go.IntKind.i64 0)), none⟩])
  (.seq (.block 0 (.seq (.region [⟨some 12, .mov (.t 0), none⟩,
        ⟨some 13, .bin .lss (.t 12) (.c (.int Go.IntKind.i64 0)), none⟩,
        ⟨some 14, .mov (.t 13), none⟩,
        ⟨some 15, .mov (.t 1), some (14, false)⟩,
        ⟨some 16, .bin .lss (.t 15) (.c (.int Go.IntKind.i64 0)), some (14, false)⟩,
        ⟨some 17, .pick (.t 14) (.c (.bool true)) (.t 16), none⟩,
        ⟨some 18, .mov (.t 17), none⟩,
        ⟨some 19, .mov (.t 0), some (18, false)⟩,
        ⟨some 20, .bin .gtr (.t 19) (.c (.int Go.IntKind.i64 6)), some (18, false)⟩,
        ⟨some 21, .pick (.t 18) (.c (.bool true)) (.t 20), none⟩,
        ⟨some 22, .mov (.t 21), none⟩,
        ⟨some 23, .mov (.t 1), some (22, false)⟩,
        ⟨some 24, .mov (.t 0), some (22, false)⟩,
        ⟨some 25, .bin .sub (.c (.int Go.IntKind.i64 6)) (.t 24), some (22, false)⟩,
        ⟨some 26, .bin .gtr (.t 23) (.t 25), some (22, false)⟩,
        ⟨some 27, .pick (.t 22) (.c (.bool true)) (.t 26), none⟩,
        ⟨some 11, .mov (.t 27), none⟩])
     (.cond (.t 11)
      (.seq (.region [⟨some 10, .mov (.c (.int Go.IntKind.i64 7)), none⟩])
       (.ret))
      (.seq (.region [⟨some 29, .mov (.t 2), none⟩,
          ⟨some 30, .bin .eql (.t 29) (.c (.int Go.IntKind.i64 0)), none⟩,
          ⟨some 28, .mov (.t 30), none⟩])
       (.cond (.t 28)
        (.seq (.region [⟨some 10, .mov (.c (.int Go.IntKind.i64 3)), none⟩])
         (.ret))
        (.seq (.region [⟨some 32, .mov (.t 2), none⟩,
            ⟨some 33, .bin .gtr (.t 32) (.c (.int Go.IntKind.i64 4096)), none⟩,
            ⟨some 31, .mov (.t 33), none⟩])
         (.cond (.t 31)
          (.seq (.region [⟨some 10, .mov (.c (.int Go.IntKind.i64 10)), none⟩])
           (.ret))
          (.seq (.region [⟨some 35, .mov (.t 3), none⟩,
              ⟨some 36, .mov (.t 2), none⟩,
              ⟨some 37, .bin .neq (.t 35) (.t 36), none⟩,
              ⟨some 34, .mov (.t 37), none⟩])
           (.cond (.t 34)
            (.seq (.region [⟨some 10, .mov (.c (.int Go.IntKind.i64 2)), none⟩])
             (.ret))
            (.seq (.region [⟨some 39, .mov (.t 4), none⟩,
                ⟨some 40, .bin .lss (.t 39) (.c (.int Go.IntKind.i64 0)), none⟩,
                ⟨some 41, .mov (.t 40), none⟩,
                ⟨some 42, .mov (.t 4), some (41, false)⟩,
                ⟨some 43, .mov (.t 2), some (41, false)⟩,
                ⟨some 44, .bin .geq (.t 42) (.t 43), some (41, false)⟩,
                ⟨some 45, .pick (.t 41) (.c (.bool true)) (.t 44), none⟩,
                ⟨some 38, .mov (.t 45), none⟩])
             (.cond (.t 38)
              (.seq (.region [⟨some 10, .mov (.c (.int Go.IntKind.i64 8)), none⟩])
               (.ret))
              (.skip))))))))))))
   (.seq (.region [⟨some 10, .mov (.c (.int Go.IntKind.i64 0)), none⟩])
    (.ret))),
  [.tmp 10]⟩

/-- sentinel/mealy.outside -/
def a60 : AFunc := ⟨8,
  .seq (.region [⟨some 3, .box (.t 1), none⟩,
     ⟨some 4, .mov (.c (.bool false)), none⟩])
  (.seq (.region [⟨some 5, .mov (.t 0), none⟩,
      ⟨some 6, .mkfunc 91 [(.t 3)], none⟩,
      ⟨some 7, .icall (.c (.func 90 [])) [(.t 5), (.t 6)], none⟩,
      ⟨some 4, .mov (.t 7), none⟩])
   (.ret)),
  [.tmp 4]⟩

def a61l0b : ACode :=
  .seq (.seq (.region [⟨some 12, .mov (.t 4), none⟩,
      ⟨some 13, .mov (.t 0), none⟩,
      ⟨some 14, .len (.t 13), none⟩,
      ⟨some 15, .bin .lss (.t 12) (.t 14), none⟩])
   (.cond (.t 15)
    (.skip)
    (.exit 0)))
  (.seq (.block 1 (.region [⟨some 18, .mov (.t 3), none⟩,
       ⟨some 19, .mov (.t 0), none⟩,
       ⟨some 20, .mov (.t 4), none⟩,
       ⟨some 21, .iaddr 1 (.t 19) (.t 20), none⟩,
       ⟨some 22, .load false 1 (.t 21), none⟩,
       ⟨some 23, .maxi (.t 18) (.t 22), none⟩,
       ⟨some 3, .mov (.t 23), none⟩]))
   (.region [⟨some 16, .mov (.t 4), none⟩,
      ⟨some 17, .bin .add (.t 16) (.c (.int Go.IntKind.i64 1)), none⟩,
      ⟨some 4, .mov (.t 17), none⟩]))

def a61l0 : ACode := a61l0b
def a61l0s : List Nat := [1, 2, 5, 6, 7, 8, 9, 10, 11, 12, 13, 14, 15, 16, 17, 18, 19, 20, 21, 22, 23, 24]
abbrev a61l0F (s0 s3 s4 : AV) : List AV := [s0, .any, .any, s3, s4, .any, .any, .any, .any, .any, .any, .any, .any, .any, .any, .any, .any, .any, .any, .any, .any, .any, .any, .any, .any]
theorem a61l0c (s0 s1 s2 s3 s4 s5 s6 s7 s8 s9 s10 s11 s12 s13 s14 s15 s16 s17 s18 s19 s20 s21 s22 s23 s24 : AV) : clearA a61l0s [s0, s1, s2, s3, s4, s5, s6, s7, s8, s9, s10, s11, s12, s13, s14, s15, s16, s17, s18, s19, s20, s21, s22, s23, s24] = a61l0F s0 s3 s4 := by kernel_rfl
theorem a61l0n {prog : Nat → Option AFunc} (s0 s3 s4 : AV) (H : Heap) : (lim prog).loop a61l0s a61l0 ⟨a61l0F s0 s3 s4, H⟩ = loopK (lim prog) a61l0s a61l0 (run (lim prog) a61l0b ⟨a61l0F s0 s3 s4, H⟩) := lim_loop_step _ _ _ _ (by kernel_rfl)

/-- slices.Max[[]uint8,uint8] -/
def a61 : AFunc := ⟨25,
  .seq (.region [⟨some 2, .mov (.c (.int Go.IntKind.u8 0)), none⟩])
  (.seq (.seq (.region [⟨some 5, .mov (.t 0), none⟩,
       ⟨some 6, .len (.t 5), none⟩,
       ⟨some 7, .bin .lss (.t 6) (.c (.int Go.IntKind.i64 1)), none⟩])
    (.cond (.t 7)
     (.stuck)
     (.skip)))
   (.seq (.region [⟨some 9, .mov (.t 0), none⟩,
       ⟨some 10, .iaddr 1 (.t 9) (.c (.int Go.IntKind.i64 0)), none⟩,
       ⟨some 11, .load false 1 (.t 10), none⟩,
       ⟨some 3, .mov (.t 11), none⟩])
    (.seq (.seq (.region [⟨some 4, .mov (.c (.int Go.IntKind.i64 1)), none⟩])
      (.block 0 (.loop a61l0s a61l0)))
     (.seq (.region [⟨some 24, .mov (.t 3), none⟩,
         ⟨some 2, .mov (.t 24), none⟩])
      (.ret))))),
  [.tmp 2]⟩

def a65l0b : ACode :=
  .seq (.seq (.region [⟨some 11, .mov (.t 5), none⟩,
      ⟨some 12, .mov (.t 0), none⟩,
      ⟨some 13, .len (.t 12), none⟩,
      ⟨some 14, .bin .lss (.t 11) (.t 13), none⟩])
   (.cond (.t 14)
    (.skip)
    (.exit 0)))
  (.seq (.block 1 (.seq (.draw 5 [⟨some 17, .mov (.t 0), none⟩,
        ⟨some 18, .mov (.t 5), none⟩,
        ⟨some 19, .iaddr 1 (.t 17) (.t 18), none⟩,
        ⟨some 20, .load false 1 (.t 19), none⟩,
        ⟨some 21, .mov (.t 1), none⟩,
        ⟨some 22, .mov (.t 5), none⟩,
        ⟨some 23, .iaddr 1 (.t 21) (.t 22), none⟩,
        ⟨some 24, .load false 1 (.t 23), none⟩,
        ⟨some 25, .bin .neq (.t 20) (.t 24), none⟩])
     (.cond (.t 25)
      (.seq (.region [⟨some 4, .mov (.c (.bool false)), none⟩])
       (.ret))
      (.skip))))
   (.region [⟨some 15, .mov (.t 5), none⟩,
      ⟨some 16, .bin .add (.t 15) (.c (.int Go.IntKind.i64 1)), none⟩,
      ⟨some 5, .mov (.t 16), none⟩]))

def a65l0 : ACode := a65l0b
def a65l0s : List Nat := [2, 3, 6, 7, 8, 9, 10, 11, 12, 13, 14, 15, 16, 17, 18, 19, 20, 21, 22, 23, 24, 25]
abbrev a65l0F (s0 s1 s4 s5 : AV) : List AV := [s0, s1, .any, .any, s4, s5, .any, .any, .any, .any, .any, .any, .any, .any, .any, .any, .any, .any, .any, .any, .any, .any, .any, .any, .any, .any]
theorem a65l0c (s0 s1 s2 s3 s4 s5 s6 s7 s8 s9 s10 s11 s12 s13 s14 s15 s16 s17 s18 s19 s20 s21 s22 s23 s24 s25 : AV) : clearA a65l0s [s0, s1, s2, s3, s4, s5, s6, s7, s8, s9, s10, s11, s12, s13, s14, s15, s16, s17, s18, s19, s20, s21, s22, s23, s24, s25] = a65l0F s0 s1 s4 s5 := by kernel_rfl
theorem a65l0n {prog : Nat → Option AFunc} (s0 s1 s4 s5 : AV) (H : Heap) : (lim prog).loop a65l0s a65l0 ⟨a65l0F s0 s1 s4 s5, H⟩ = loopK (lim prog) a65l0s a65l0 (run (lim prog) a65l0b ⟨a65l0F s0 s1 s4 s5, H⟩) := lim_loop_step _ _ _ _ (by kernel_rfl)

/-- sentinel/sentinelref22.Letters -/
def a65 : AFunc := ⟨26,
  .seq (.region [⟨some 4, .mov (.c (.bool false)), none⟩])
  (.seq (.seq (.region [⟨some 6, .mov (.t 0), none⟩,
       ⟨some 7, .len (.t 6), none⟩,
       ⟨some 8, .mov (.t 1), none⟩,
       ⟨some 9, .len (.t 8), none⟩,
       ⟨some 10, .bin .neq (.t 7) (.t 9), none⟩])
    (.cond (.t 10)
     (.seq (.region [⟨some 4, .mov (.c (.bool false)), none⟩])
      (.ret))
     (.skip)))
   (.seq (.seq (.region [⟨some 5, .mov (.c (.int Go.IntKind.i64 0)), none⟩])
     (.block 0 (.loop a65l0s a65l0)))
    (.seq (.region [⟨some 4, .mov (.c (.bool true)), none⟩])
     (.ret)))),
  [.tmp 4]⟩

def a66l0b : ACode :=
  .seq (.seq (.region [⟨some 11, .mov (.t 5), none⟩,
      ⟨some 12, .mov (.t 0), none⟩,
      ⟨some 13, .len (.t 12), none⟩,
      ⟨some 14, .bin .lss (.t 11) (.t 13), none⟩])
   (.cond (.t 14)
    (.skip)
    (.exit 0)))
  (.seq (.block 1 (.seq (.draw 5 [⟨some 17, .mov (.t 0), none⟩,
        ⟨some 18, .mov (.t 5), none⟩,
        ⟨some 19, .iaddr 1 (.t 17) (.t 18), none⟩,
        ⟨some 20, .load false 1 (.t 19), none⟩,
        ⟨some 21, .mov (.t 1), none⟩,
        ⟨some 22, .mov (.t 5), none⟩,
        ⟨some 23, .iaddr 1 (.t 21) (.t 22), none⟩,
        ⟨some 24, .load false 1 (.t 23), none⟩,
        ⟨some 25, .call 24 [(.t 20), (.t 24)], none⟩,
        ⟨some 26, .un .not (.t 25), none⟩])
     (.cond (.t 26)
      (.seq (.region [⟨some 4, .mov (.c (.bool false)), none⟩])
       (.ret))
      (.skip))))
   (.region [⟨some 15, .mov (.t 5), none⟩,
      ⟨some 16, .bin .add (.t 15) (.c (.int Go.IntKind.i64 1)), none⟩,
      ⟨some 5, .mov (.t 16), none⟩]))

def a66l0 : ACode := a66l0b
def a66l0s : List Nat := [2, 3, 6, 7, 8, 9, 10, 11, 12, 13, 14, 15, 16, 17, 18, 19, 20, 21, 22, 23, 24, 25, 26]
abbrev a66l0F (s0 s1 s4 s5 : AV) : List AV := [s0, s1, .any, .any, s4, s5, .any, .any, .any, .any, .any, .any, .any, .any, .any, .any, .any, .any, .any, .any, .any, .any, .any, .any, .any, .any, .any]
theorem a66l0c (s0 s1 s2 s3 s4 s5 s6 s7 s8 s9 s10 s11 s12 s13 s14 s15 s16 s17 s18 s19 s20 s21 s22 s23 s24 s25 s26 : AV) : clearA a66l0s [s0, s1, s2, s3, s4, s5, s6, s7, s8, s9, s10, s11, s12, s13, s14, s15, s16, s17, s18, s19, s20, s21, s22, s23, s24, s25, s26] = a66l0F s0 s1 s4 s5 := by kernel_rfl
theorem a66l0n {prog : Nat → Option AFunc} (s0 s1 s4 s5 : AV) (H : Heap) : (lim prog).loop a66l0s a66l0 ⟨a66l0F s0 s1 s4 s5, H⟩ = loopK (lim prog) a66l0s a66l0 (run (lim prog) a66l0b ⟨a66l0F s0 s1 s4 s5, H⟩) := lim_loop_step _ _ _ _ (by kernel_rfl)

/-- sentinel/sentinelkit.EqualRows -/
def a66 : AFunc := ⟨27,
  .seq (.region [⟨some 4, .mov (.c (.bool false)), none⟩])
  (.seq (.seq (.region [⟨some 6, .mov (.t 0), none⟩,
       ⟨some 7, .len (.t 6), none⟩,
       ⟨some 8, .mov (.t 1), none⟩,
       ⟨some 9, .len (.t 8), none⟩,
       ⟨some 10, .bin .neq (.t 7) (.t 9), none⟩])
    (.cond (.t 10)
     (.seq (.region [⟨some 4, .mov (.c (.bool false)), none⟩])
      (.ret))
     (.skip)))
   (.seq (.seq (.region [⟨some 5, .mov (.c (.int Go.IntKind.i64 0)), none⟩])
     (.block 0 (.loop a66l0s a66l0)))
    (.seq (.region [⟨some 4, .mov (.c (.bool true)), none⟩])
     (.ret)))),
  [.tmp 4]⟩

def a67l0b : ACode :=
  .seq (.seq (.region [⟨some 11, .mov (.t 5), none⟩,
      ⟨some 12, .mov (.t 0), none⟩,
      ⟨some 13, .len (.t 12), none⟩,
      ⟨some 14, .bin .lss (.t 11) (.t 13), none⟩])
   (.cond (.t 14)
    (.skip)
    (.exit 0)))
  (.seq (.block 1 (.seq (.draw 5 [⟨some 17, .mov (.t 0), none⟩,
        ⟨some 18, .mov (.t 5), none⟩,
        ⟨some 19, .iaddr 1 (.t 17) (.t 18), none⟩,
        ⟨some 20, .load false 1 (.t 19), none⟩,
        ⟨some 21, .mov (.t 1), none⟩,
        ⟨some 22, .mov (.t 5), none⟩,
        ⟨some 23, .iaddr 1 (.t 21) (.t 22), none⟩,
        ⟨some 24, .load false 1 (.t 23), none⟩,
        ⟨some 25, .call 23 [(.t 20), (.t 24)], none⟩,
        ⟨some 26, .un .not (.t 25), none⟩])
     (.cond (.t 26)
      (.seq (.region [⟨some 4, .mov (.c (.bool false)), none⟩])
       (.ret))
      (.skip))))
   (.region [⟨some 15, .mov (.t 5), none⟩,
      ⟨some 16, .bin .add (.t 15) (.c (.int Go.IntKind.i64 1)), none⟩,
      ⟨some 5, .mov (.t 16), none⟩]))

def a67l0 : ACode := a67l0b
def a67l0s : List Nat := [2, 3, 6, 7, 8, 9, 10, 11, 12, 13, 14, 15, 16, 17, 18, 19, 20, 21, 22, 23, 24, 25, 26]
abbrev a67l0F (s0 s1 s4 s5 : AV) : List AV := [s0, s1, .any, .any, s4, s5, .any, .any, .any, .any, .any, .any, .any, .any, .any, .any, .any, .any, .any, .any, .any, .any, .any, .any, .any, .any, .any]
theorem a67l0c (s0 s1 s2 s3 s4 s5 s6 s7 s8 s9 s10 s11 s12 s13 s14 s15 s16 s17 s18 s19 s20 s21 s22 s23 s24 s25 s26 : AV) : clearA a67l0s [s0, s1, s2, s3, s4, s5, s6, s7, s8, s9, s10, s11, s12, s13, s14, s15, s16, s17, s18, s19, s20, s21, s22, s23, s24, s25, s26] = a67l0F s0 s1 s4 s5 := by kernel_rfl
theorem a67l0n {prog : Nat → Option AFunc} (s0 s1 s4 s5 : AV) (H : Heap) : (lim prog).loop a67l0s a67l0 ⟨a67l0F s0 s1 s4 s5, H⟩ = loopK (lim prog) a67l0s a67l0 (run (lim prog) a67l0b ⟨a67l0F s0 s1 s4 s5, H⟩) := lim_loop_step _ _ _ _ (by kernel_rfl)

/-- sentinel/sentinelkit.EqualWords -/
def a67 : AFunc := ⟨27,
  .seq (.region [⟨some 4, .mov (.c (.bool false)), none⟩])
  (.seq (.seq (.region [⟨some 6, .mov (.t 0), none⟩,
       ⟨some 7, .len (.t 6), none⟩,
       ⟨some 8, .mov (.t 1), none⟩,
       ⟨some 9, .len (.t 8), none⟩,
       ⟨some 10, .bin .neq (.t 7) (.t 9), none⟩])
    (.cond (.t 10)
     (.seq (.region [⟨some 4, .mov (.c (.bool false)), none⟩])
      (.ret))
     (.skip)))
   (.seq (.seq (.region [⟨some 5, .mov (.c (.int Go.IntKind.i64 0)), none⟩])
     (.block 0 (.loop a67l0s a67l0)))
    (.seq (.region [⟨some 4, .mov (.c (.bool true)), none⟩])
     (.ret)))),
  [.tmp 4]⟩

/-- (*sentinel/mealy.trace[sentinel/mealy.both]).at -/
def a68 : AFunc := ⟨52,
  .seq (.region [⟨some 3, .box (.t 1), none⟩,
     ⟨some 4, .box (.c (.agg [.sl true 0 [], .sl true 0 []])), none⟩,
     ⟨some 5, .mov (.c (.bool false)), none⟩])
  (.seq (.seq (.region [⟨some 8, .mov (.t 0), none⟩,
       ⟨some 9, .nilchk (.t 8), none⟩,
       ⟨some 10, .faddr 0 (.t 9), none⟩,
       ⟨some 11, .load false 1 (.t 10), none⟩,
       ⟨some 12, .mnil false (.t 11), none⟩])
    (.cond (.t 12)
     (.region [⟨some 13, .mov (.t 0), none⟩,
        ⟨some 14, .mkmap, none⟩,
        ⟨some 15, .nilchk (.t 13), none⟩,
        ⟨some 16, .faddr 0 (.t 15), none⟩,
        ⟨none, .store 1 (.t 16) (.t 14), none⟩])
     (.skip)))
   (.seq (.seq (.draw 9 [⟨some 18, .mov (.t 0), none⟩,
        ⟨some 19, .nilchk (.t 18), none⟩,
        ⟨some 20, .faddr 0 (.t 19), none⟩,
        ⟨some 21, .load false 1 (.t 20), none⟩,
        ⟨some 22, .load true 2 (.t 3), none⟩,
        ⟨some 23, .mlook [2, 0, 0] true (.int Go.IntKind.i64 0) (.t 21) (.t 22), none⟩,
        ⟨some 17, .mov (.t 23), none⟩,
        ⟨some 24, .ext 0 (.t 17), none⟩,
        ⟨some 25, .ext 1 (.t 17), none⟩,
        ⟨some 6, .mov (.t 24), none⟩,
        ⟨some 7, .mov (.t 25), none⟩])
     (.seq (.region [⟨some 26, .mov (.t 7), none⟩])
      (.cond (.t 26)
       (.seq (.draw 10 [⟨some 27, .mov (.t 0), none⟩,
           ⟨some 28, .nilchk (.t 27), none⟩,
           ⟨some 29, .faddr 1 (.t 28), none⟩,
           ⟨some 30, .load false 1 (.t 29), none⟩,
           ⟨some 31, .mov (.t 6), none⟩,
           ⟨some 32, .slice 1 (.t 30) none (some (.t 31)) none, none⟩,
           ⟨some 33, .mov (.t 0), none⟩,
           ⟨some 34, .nilchk (.t 33), none⟩,
           ⟨some 35, .faddr 1 (.t 34), none⟩,
           ⟨some 36, .load false 1 (.t 35), none⟩,
           ⟨some 37, .mov (.t 6), none⟩,
           ⟨some 38, .slice 1 (.t 36) (some (.t 37)) none none, none⟩,
           ⟨some 39, .build [.sl true 0 [], .sl true 0 []] [(0, 1, (.t 32)), (1, 1, (.t 38))], none⟩,
           ⟨some 40, .call 49 [(.t 39)], none⟩,
           ⟨none, .store 2 (.t 4) (.t 40), none⟩,
           ⟨some 5, .mov (.c (.bool true)), none⟩])
        (.ret))
       (.skip))))
    (.seq (.draw 5 [⟨some 41, .mov (.t 0), none⟩,
        ⟨some 42, .nilchk (.t 41), none⟩,
        ⟨some 43, .faddr 0 (.t 42), none⟩,
        ⟨some 44, .load false 1 (.t 43), none⟩,
        ⟨some 45, .load true 2 (.t 3), none⟩,
        ⟨some 46, .mov (.t 0), none⟩,
        ⟨some 47, .nilchk (.t 46), none⟩,
        ⟨some 48, .faddr 1 (.t 47), none⟩,
        ⟨some 49, .load false 1 (.t 48), none⟩,
        ⟨some 50, .len (.t 49), none⟩,
        ⟨none, .mupd [2, 0, 0] (.t 44) (.t 45) (.t 50), none⟩])
     (.seq (.region [⟨some 51, .build [.sl true 0 [], .sl true 0 []] [], none⟩,
         ⟨none, .store 2 (.t 4) (.t 51), none⟩,
         ⟨some 5, .mov (.c (.bool false)), none⟩])
      (.ret))))),
  [.cell 4 true 2, .tmp 5]⟩

def a69l0b : ACode :=
  .seq (.region [⟨some 33, .bin .lss (.t 32) (.t 31), none⟩])
  (.seq (.cond (.t 33)
    (.skip)
    (.exit 4))
   (.seq (.block 5 (.seq (.region [⟨some 34, .mov (.t 32), none⟩,
         ⟨some 35, .iaddr 1 (.t 30) (.t 32), none⟩,
         ⟨some 36, .load false 1 (.t 35), none⟩,
         ⟨some 10, .mov (.t 34), none⟩,
         ⟨some 11, .mov (.t 36), none⟩])
      (.region [⟨some 37, .mov (.t 9), none⟩,
         ⟨some 38, .mov (.t 10), none⟩,
         ⟨some 39, .mov (.t 3), none⟩,
         ⟨some 40, .mov (.t 11), none⟩,
         ⟨some 41, .iaddr 1 (.t 39) (.t 40), none⟩,
         ⟨some 42, .load false 1 (.t 41), none⟩,
         ⟨some 43, .iaddr 1 (.t 37) (.t 38), none⟩,
         ⟨none, .store 1 (.t 43) (.t 42), none⟩])))
    (.region [⟨some 44, .bin .add (.t 32) (.c (.int Go.IntKind.i64 1)), none⟩,
       ⟨some 32, .mov (.t 44), none⟩])))

def a69l0 : ACode := a69l0b
def a69l0s : List Nat := [0, 2, 8, 10, 11, 12, 13, 14, 15, 16, 17, 18, 19, 23, 24, 25, 26, 27, 28, 29, 33, 34, 35, 36, 37, 38, 39, 40, 41, 42, 43, 44, 45, 46, 47, 48, 49, 50, 51, 52, 53, 54, 55, 56, 57, 58, 59, 60, 61, 62, 63, 64, 65, 66, 67, 68, 69, 70, 71]
abbrev a69l0F (s1 s3 s4 s5 s6 s7 s9 s20 s21 s22 s30 s31 s32 : AV) : List AV := [.any, s1, .any, s3, s4, s5, s6, s7, .any, s9, .any, .any, .any, .any, .any, .any, .any, .any, .any, .any, s20, s21, s22, .any, .any, .any, .any, .any, .any, .any, s30, s31, s32, .any, .any, .any, .any, .any, .any, .any, .any, .any, .any, .any, .any, .any, .any, .any, .any, .any, .any, .any, .any, .any, .any, .any, .any, .any, .any, .any, .any, .any, .any, .any, .any, .any, .any, .any, .any, .any, .any, .any]
theorem a69l0c (s0 s1 s2 s3 s4 s5 s6 s7 s8 s9 s10 s11 s12 s13 s14 s15 s16 s17 s18 s19 s20 s21 s22 s23 s24 s25 s26 s27 s28 s29 s30 s31 s32 s33 s34 s35 s36 s37 s38 s39 s40 s41 s42 s43 s44 s45 s46 s47 s48 s49 s50 s51 s52 s53 s54 s55 s56 s57 s58 s59 s60 s61 s62 s63 s64 s65 s66 s67 s68 s69 s70 s71 : AV) : clearA a69l0s [s0, s1, s2, s3, s4, s5, s6, s7, s8, s9, s10, s11, s12, s13, s14, s15, s16, s17, s18, s19, s20, s21, s22, s23, s24, s25, s26, s27, s28, s29, s30, s31, s32, s33, s34, s35, s36, s37, s38, s39, s40, s41, s42, s43, s44, s45, s46, s47, s48, s49, s50, s51, s52, s53, s54, s55, s56, s57, s58, s59, s60, s61, s62, s63, s64, s65, s66, s67, s68, s69, s70, s71] = a69l0F s1 s3 s4 s5 s6 s7 s9 s20 s21 s22 s30 s31 s32 := by kernel_rfl
theorem a69l0n {prog : Nat → Option AFunc} (s1 s3 s4 s5 s6 s7 s9 s20 s21 s22 s30 s31 s32 : AV) (H : Heap) : (lim prog).loop a69l0s a69l0 ⟨a69l0F s1 s3 s4 s5 s6 s7 s9 s20 s21 s22 s30 s31 s32, H⟩ = loopK (lim prog) a69l0s a69l0 (run (lim prog) a69l0b ⟨a69l0F s1 s3 s4 s5 s6 s7 s9 s20 s21 s22 s30 s31 s32, H⟩) := lim_loop_step _ _ _ _ (by kernel_rfl)

def a69l1b : ACode :=
  .seq (.region [⟨some 23, .bin .lss (.t 22) (.t 21), none⟩])
  (.seq (.cond (.t 23)
    (.skip)
    (.exit 2))
   (.seq (.block 3 (.seq (.region [⟨some 24, .mov (.t 22), none⟩,
         ⟨some 25, .iaddr 1 (.t 20) (.t 22), none⟩,
         ⟨some 26, .load false 1 (.t 25), none⟩,
         ⟨some 7, .mov (.t 24), none⟩,
         ⟨some 8, .mov (.t 26), none⟩])
      (.seq (.region [⟨some 27, .mov (.t 8), none⟩,
          ⟨some 28, .len (.t 27), none⟩,
          ⟨some 29, .mkslice false [.int Go.IntKind.i64 0] 8 (.t 28) (.t 28), none⟩,
          ⟨some 9, .mov (.t 29), none⟩])
       (.seq (.seq (.region [⟨some 30, .mov (.t 8), none⟩,
            ⟨some 31, .len (.t 30), none⟩,
            ⟨some 32, .mov (.c (.int Go.IntKind.i64 0)), none⟩])
         (.block 4 (.loop a69l0s a69l0)))
        (.draw 10 [⟨some 46, .mov (.t 6), none⟩,
           ⟨some 47, .mov (.t 7), none⟩,
           ⟨some 48, .faddr 4 (.t 1), none⟩,
           ⟨some 49, .load false 1 (.t 48), none⟩,
           ⟨some 50, .mov (.t 7), none⟩,
           ⟨some 51, .iaddr 1 (.t 49) (.t 50), none⟩,
           ⟨some 52, .load false 1 (.t 51), none⟩,
           ⟨some 53, .bstr (.t 52), none⟩,
           ⟨some 54, .mov (.t 9), none⟩,
           ⟨some 55, .call 93 [(.t 54)], none⟩,
           ⟨some 56, .build [.str ⟨#[]⟩, .str ⟨#[]⟩] [(0, 1, (.t 53)), (1, 1, (.t 55))], none⟩,
           ⟨some 57, .icall (.c (.func 92 [])) [(.t 5), (.t 56)], none⟩,
           ⟨some 45, .mov (.t 57), none⟩,
           ⟨some 58, .ext 0 (.t 45), none⟩,
           ⟨some 59, .ext 1 (.t 45), none⟩,
           ⟨some 60, .iaddr 1 (.t 46) (.t 47), none⟩,
           ⟨none, .store 1 (.t 60) (.t 58), none⟩])))))
    (.region [⟨some 61, .bin .add (.t 22) (.c (.int Go.IntKind.i64 1)), none⟩,
       ⟨some 22, .mov (.t 61), none⟩])))

def a69l1 : ACode := a69l1b
def a69l1s : List Nat := [0, 2, 7, 8, 9, 10, 11, 12, 13, 14, 15, 16, 17, 18, 19, 23, 24, 25, 26, 27, 28, 29, 30, 31, 32, 33, 34, 35, 36, 37, 38, 39, 40, 41, 42, 43, 44, 45, 46, 47, 48, 49, 50, 51, 52, 53, 54, 55, 56, 57, 58, 59, 60, 61, 62, 63, 64, 65, 66, 67, 68, 69, 70, 71]
abbrev a69l1F (s1 s3 s4 s5 s6 s20 s21 s22 : AV) : List AV := [.any, s1, .any, s3, s4, s5, s6, .any, .any, .any, .any, .any, .any, .any, .any, .any, .any, .any, .any, .any, s20, s21, s22, .any, .any, .any, .any, .any, .any, .any, .any, .any, .any, .any, .any, .any, .any, .any, .any, .any, .any, .any, .any, .any, .any, .any, .any, .any, .any, .any, .any, .any, .any, .any, .any, .any, .any, .any, .any, .any, .any, .any, .any, .any, .any, .any, .any, .any, .any, .any, .any, .any]
theorem a69l1c (s0 s1 s2 s3 s4 s5 s6 s7 s8 s9 s10 s11 s12 s13 s14 s15 s16 s17 s18 s19 s20 s21 s22 s23 s24 s25 s26 s27 s28 s29 s30 s31 s32 s33 s34 s35 s36 s37 s38 s39 s40 s41 s42 s43 s44 s45 s46 s47 s48 s49 s50 s51 s52 s53 s54 s55 s56 s57 s58 s59 s60 s61 s62 s63 s64 s65 s66 s67 s68 s69 s70 s71 : AV) : clearA a69l1s [s0, s1, s2, s3, s4, s5, s6, s7, s8, s9, s10, s11, s12, s13, s14, s15, s16, s17, s18, s19, s20, s21, s22, s23, s24, s25, s26, s27, s28, s29, s30, s31, s32, s33, s34, s35, s36, s37, s38, s39, s40, s41, s42, s43, s44, s45, s46, s47, s48, s49, s50, s51, s52, s53, s54, s55, s56, s57, s58, s59, s60, s61, s62, s63, s64, s65, s66, s67, s68, s69, s70, s71] = a69l1F s1 s3 s4 s5 s6 s20 s21 s22 := by kernel_rfl
theorem a69l1n {prog : Nat → Option AFunc} (s1 s3 s4 s5 s6 s20 s21 s22 : AV) (H : Heap) : (lim prog).loop a69l1s a69l1 ⟨a69l1F s1 s3 s4 s5 s6 s20 s21 s22, H⟩ = loopK (lim prog) a69l1s a69l1 (run (lim prog) a69l1b ⟨a69l1F s1 s3 s4 s5 s6 s20 s21 s22, H⟩) := lim_loop_step _ _ _ _ (by kernel_rfl)

def a69l2b : ACode :=
  .block 1 (.seq (.region [⟨some 5, .box (.c (.agg [.nilm, .sl true 0 []])), none⟩])
   (.seq (.region [⟨some 16, .mov (.t 3), none⟩,
       ⟨some 17, .len (.t 16), none⟩,
       ⟨some 18, .mkslice false [.int Go.IntKind.i64 0] 8 (.t 17) (.t 17), none⟩,
       ⟨some 6, .mov (.t 18), none⟩])
    (.seq (.seq (.region [⟨some 19, .faddr 3 (.t 1), none⟩,
         ⟨some 20, .load false 1 (.t 19), none⟩,
         ⟨some 21, .len (.t 20), none⟩,
         ⟨some 22, .mov (.c (.int Go.IntKind.i64 0)), none⟩])
      (.block 2 (.loop a69l1s a69l1)))
     (.seq (.region [⟨some 62, .mov (.t 6), none⟩,
         ⟨some 3, .mov (.t 62), none⟩])
      (.seq (.seq (.region [⟨some 63, .faddr 1 (.t 5), none⟩,
           ⟨some 64, .load false 1 (.t 63), none⟩,
           ⟨some 65, .len (.t 64), none⟩,
           ⟨some 66, .mov (.t 4), none⟩,
           ⟨some 67, .bin .eql (.t 65) (.t 66), none⟩])
        (.cond (.t 67)
         (.seq (.region [⟨some 68, .mov (.t 3), none⟩,
             ⟨some 2, .mov (.t 68), none⟩])
          (.ret))
         (.skip)))
       (.region [⟨some 69, .faddr 1 (.t 5), none⟩,
          ⟨some 70, .load false 1 (.t 69), none⟩,
          ⟨some 71, .len (.t 70), none⟩,
          ⟨some 4, .mov (.t 71), none⟩]))))))

def a69l2 : ACode := a69l2b
def a69l2s : List Nat := [0, 5, 6, 7, 8, 9, 10, 11, 12, 13, 14, 15, 16, 17, 18, 19, 20, 21, 22, 23, 24, 25, 26, 27, 28, 29, 30, 31, 32, 33, 34, 35, 36, 37, 38, 39, 40, 41, 42, 43, 44, 45, 46, 47, 48, 49, 50, 51, 52, 53, 54, 55, 56, 57, 58, 59, 60, 61, 62, 63, 64, 65, 66, 67, 68, 69, 70, 71]
abbrev a69l2F (s1 s2 s3 s4 : AV) : List AV := [.any, s1, s2, s3, s4, .any, .any, .any, .any, .any, .any, .any, .any, .any, .any, .any, .any, .any, .any, .any, .any, .any, .any, .any, .any, .any, .any, .any, .any, .any, .any, .any, .any, .any, .any, .any, .any, .any, .any, .any, .any, .any, .any, .any, .any, .any, .any, .any, .any, .any, .any, .any, .any, .any, .any, .any, .any, .any, .any, .any, .any, .any, .any, .any, .any, .any, .any, .any, .any, .any, .any, .any]
theorem a69l2c (s0 s1 s2 s3 s4 s5 s6 s7 s8 s9 s10 s11 s12 s13 s14 s15 s16 s17 s18 s19 s20 s21 s22 s23 s24 s25 s26 s27 s28 s29 s30 s31 s32 s33 s34 s35 s36 s37 s38 s39 s40 s41 s42 s43 s44 s45 s46 s47 s48 s49 s50 s51 s52 s53 s54 s55 s56 s57 s58 s59 s60 s61 s62 s63 s64 s65 s66 s67 s68 s69 s70 s71 : AV) : clearA a69l2s [s0, s1, s2, s3, s4, s5, s6, s7, s8, s9, s10, s11, s12, s13, s14, s15, s16, s17, s18, s19, s20, s21, s22, s23, s24, s25, s26, s27, s28, s29, s30, s31, s32, s33, s34, s35, s36, s37, s38, s39, s40, s41, s42, s43, s44, s45, s46, s47, s48, s49, s50, s51, s52, s53, s54, s55, s56, s57, s58, s59, s60, s61, s62, s63, s64, s65, s66, s67, s68, s69, s70, s71] = a69l2F s1 s2 s3 s4 := by kernel_rfl
theorem a69l2n {prog : Nat → Option AFunc} (s1 s2 s3 s4 : AV) (H : Heap) : (lim prog).loop a69l2s a69l2 ⟨a69l2F s1 s2 s3 s4, H⟩ = loopK (lim prog) a69l2s a69l2 (run (lim prog) a69l2b ⟨a69l2F s1 s2 s3 s4, H⟩) := lim_loop_step _ _ _ _ (by kernel_rfl)

/-- sentinel/mealy.classes -/
def a69 : AFunc := ⟨72,
  .seq (.region [⟨some 1, .box (.t 0), none⟩,
     ⟨some 2, .mov (.c (.sl true 0 [])), none⟩])
  (.seq (.region [⟨some 12, .faddr 3 (.t 1), none⟩,
      ⟨some 13, .load false 1 (.t 12), none⟩,
      ⟨some 14, .len (.t 13), none⟩,
      ⟨some 15, .mkslice false [.int Go.IntKind.i64 0] 8 (.t 14) (.t 14), none⟩,
      ⟨some 3, .mov (.t 15), none⟩])
   (.seq (.region [⟨some 4, .mov (.c (.int Go.IntKind.i64 0)), none⟩])
    (.block 0 (.loop a69l2s a69l2)))),
  [.tmp 2]⟩

/-- (*sentinel/mealy.queue[int]).put -/
def a70 : AFunc := ⟨54,
  .seq (.region [⟨some 4, .mov (.c (.int Go.IntKind.i64 0)), none⟩,
     ⟨some 5, .mov (.c (.bool false)), none⟩])
  (.seq (.seq (.region [⟨some 8, .mov (.t 0), none⟩,
       ⟨some 9, .nilchk (.t 8), none⟩,
       ⟨some 10, .faddr 0 (.t 9), none⟩,
       ⟨some 11, .load false 1 (.t 10), none⟩,
       ⟨some 12, .mnil false (.t 11), none⟩])
    (.cond (.t 12)
     (.region [⟨some 13, .mov (.t 0), none⟩,
        ⟨some 14, .mkmap, none⟩,
        ⟨some 15, .nilchk (.t 13), none⟩,
        ⟨some 16, .faddr 0 (.t 15), none⟩,
        ⟨none, .store 1 (.t 16) (.t 14), none⟩])
     (.skip)))
   (.seq (.region [⟨some 18, .mov (.t 0), none⟩,
       ⟨some 19, .nilchk (.t 18), none⟩,
       ⟨some 20, .faddr 0 (.t 19), none⟩,
       ⟨some 21, .load false 1 (.t 20), none⟩,
       ⟨some 22, .mov (.t 1), none⟩,
       ⟨some 23, .mlook [0] true (.int Go.IntKind.i64 0) (.t 21) (.t 22), none⟩,
       ⟨some 17, .mov (.t 23), none⟩,
       ⟨some 24, .ext 0 (.t 17), none⟩,
       ⟨some 25, .ext 1 (.t 17), none⟩,
       ⟨some 6, .mov (.t 24), none⟩,
       ⟨some 7, .mov (.t 25), none⟩])
    (.seq (.seq (.region [⟨some 26, .mov (.t 7), none⟩,
         ⟨some 27, .un .not (.t 26), none⟩])
      (.cond (.t 27)
       (.seq (.region [⟨some 28, .mov (.t 0), none⟩,
           ⟨some 29, .nilchk (.t 28), none⟩,
           ⟨some 30, .faddr 1 (.t 29), none⟩,
           ⟨some 31, .load false 1 (.t 30), none⟩,
           ⟨some 32, .len (.t 31), none⟩,
           ⟨some 6, .mov (.t 32), none⟩])
        (.drawl [(35, (1, (43, 0)))] 11 [⟨some 33, .mov (.t 0), none⟩,
           ⟨some 34, .nilchk (.t 33), none⟩,
           ⟨some 35, .faddr 0 (.t 34), none⟩,
           ⟨some 36, .load false 1 (.t 35), none⟩,
           ⟨some 37, .mov (.t 1), none⟩,
           ⟨some 38, .mov (.t 0), none⟩,
           ⟨some 39, .mov (.t 6), none⟩,
           ⟨some 40, .mov (.t 0), none⟩,
           ⟨some 41, .nilchk (.t 40), none⟩,
           ⟨some 42, .faddr 1 (.t 41), none⟩,
           ⟨some 43, .load false 1 (.t 42), none⟩,
           ⟨some 44, .mov (.t 1), none⟩,
           ⟨some 45, .bslice true [.int Go.IntKind.i64 0] 1 1 [(0, (.t 44))], none⟩,
           ⟨some 46, .append false 1 8 (.t 43) (.t 45), none⟩,
           ⟨some 47, .ment [0] (.int Go.IntKind.i64 0) (.t 36) (.t 37), none⟩,
           ⟨some 48, .ext 1 (.t 47), none⟩,
           ⟨none, .mstore (.t 36) (.t 48) (.t 39), none⟩,
           ⟨some 49, .nilchk (.t 38), none⟩,
           ⟨some 50, .faddr 1 (.t 49), none⟩,
           ⟨none, .store 1 (.t 50) (.t 46), none⟩]))
       (.skip)))
     (.seq (.region [⟨some 51, .mov (.t 6), none⟩,
         ⟨some 52, .mov (.t 7), none⟩,
         ⟨some 53, .un .not (.t 52), none⟩,
         ⟨some 4, .mov (.t 51), none⟩,
         ⟨some 5, .mov (.t 53), none⟩])
      (.ret))))),
  [.tmp 4, .tmp 5]⟩

/-- (*sentinel/mealy.queue[int]).visit -/
def a71 : AFunc := ⟨4,
  .seq (.region [⟨some 1, .box (.t 0), none⟩,
     ⟨some 2, .mov (.c (.nilf)), none⟩])
  (.seq (.region [⟨some 3, .mkfunc 94 [(.t 1)], none⟩,
      ⟨some 2, .mov (.t 3), none⟩])
   (.ret)),
  [.tmp 2]⟩

/-- slices.Clone[[]uint8,uint8] -/
def a72 : AFunc := ⟨8,
  .seq (.region [⟨some 2, .mov (.c (.sl true 0 [])), none⟩])
  (.seq (.seq (.region [⟨some 3, .mov (.t 0), none⟩,
       ⟨some 4, .isnil false (.t 3), none⟩])
    (.cond (.t 4)
     (.seq (.region [⟨some 2, .mov (.c (.sl true 0 [])), none⟩])
      (.ret))
     (.skip)))
   (.seq (.region [⟨some 5, .bslice false [.int Go.IntKind.u8 0] 1 0 [], none⟩,
       ⟨some 6, .mov (.t 0), none⟩,
       ⟨some 7, .append false 1 1 (.t 5) (.t 6), none⟩,
       ⟨some 2, .mov (.t 7), none⟩])
    (.ret))),
  [.tmp 2]⟩

/-- (*sentinel/mealy.queue[[2]int]).put -/
def a74 : AFunc := ⟨54,
  .seq (.region [⟨some 3, .box (.t 1), none⟩,
     ⟨some 4, .mov (.c (.int Go.IntKind.i64 0)), none⟩,
     ⟨some 5, .mov (.c (.bool false)), none⟩])
  (.seq (.seq (.region [⟨some 8, .mov (.t 0), none⟩,
       ⟨some 9, .nilchk (.t 8), none⟩,
       ⟨some 10, .faddr 0 (.t 9), none⟩,
       ⟨some 11, .load false 1 (.t 10), none⟩,
       ⟨some 12, .mnil false (.t 11), none⟩])
    (.cond (.t 12)
     (.region [⟨some 13, .mov (.t 0), none⟩,
        ⟨some 14, .mkmap, none⟩,
        ⟨some 15, .nilchk (.t 13), none⟩,
        ⟨some 16, .faddr 0 (.t 15), none⟩,
        ⟨none, .store 1 (.t 16) (.t 14), none⟩])
     (.skip)))
   (.seq (.draw 9 [⟨some 18, .mov (.t 0), none⟩,
       ⟨some 19, .nilchk (.t 18), none⟩,
       ⟨some 20, .faddr 0 (.t 19), none⟩,
       ⟨some 21, .load false 1 (.t 20), none⟩,
       ⟨some 22, .load true 2 (.t 3), none⟩,
       ⟨some 23, .mlook [2, 0, 0] true (.int Go.IntKind.i64 0) (.t 21) (.t 22), none⟩,
       ⟨some 17, .mov (.t 23), none⟩,
       ⟨some 24, .ext 0 (.t 17), none⟩,
       ⟨some 25, .ext 1 (.t 17), none⟩,
       ⟨some 6, .mov (.t 24), none⟩,
       ⟨some 7, .mov (.t 25), none⟩])
    (.seq (.seq (.region [⟨some 26, .mov (.t 7), none⟩,
         ⟨some 27, .un .not (.t 26), none⟩])
      (.cond (.t 27)
       (.seq (.region [⟨some 28, .mov (.t 0), none⟩,
           ⟨some 29, .nilchk (.t 28), none⟩,
           ⟨some 30, .faddr 1 (.t 29), none⟩,
           ⟨some 31, .load false 1 (.t 30), none⟩,
           ⟨some 32, .len (.t 31), none⟩,
           ⟨some 6, .mov (.t 32), none⟩])
        (.drawl [(35, (1, (43, 0))), (3, (2, (43, 0)))] 11 [⟨some 33, .mov (.t 0), none⟩,
           ⟨some 34, .nilchk (.t 33), none⟩,
           ⟨some 35, .faddr 0 (.t 34), none⟩,
           ⟨some 36, .load false 1 (.t 35), none⟩,
           ⟨some 37, .load true 2 (.t 3), none⟩,
           ⟨some 38, .mov (.t 0), none⟩,
           ⟨some 39, .mov (.t 6), none⟩,
           ⟨some 40, .mov (.t 0), none⟩,
           ⟨some 41, .nilchk (.t 40), none⟩,
           ⟨some 42, .faddr 1 (.t 41), none⟩,
           ⟨some 43, .load false 1 (.t 42), none⟩,
           ⟨some 44, .load true 2 (.t 3), none⟩,
           ⟨some 45, .bslice true [.int Go.IntKind.i64 0, .int Go.IntKind.i64 0] 2 1 [(0, (.t 44))], none⟩,
           ⟨some 46, .append false 2 16 (.t 43) (.t 45), none⟩,
           ⟨some 47, .ment [2, 0, 0] (.int Go.IntKind.i64 0) (.t 36) (.t 37), none⟩,
           ⟨some 48, .ext 1 (.t 47), none⟩,
           ⟨none, .mstore (.t 36) (.t 48) (.t 39), none⟩,
           ⟨some 49, .nilchk (.t 38), none⟩,
           ⟨some 50, .faddr 1 (.t 49), none⟩,
           ⟨none, .store 1 (.t 50) (.t 46), none⟩]))
       (.skip)))
     (.seq (.region [⟨some 51, .mov (.t 6), none⟩,
         ⟨some 52, .mov (.t 7), none⟩,
         ⟨some 53, .un .not (.t 52), none⟩,
         ⟨some 4, .mov (.t 51), none⟩,
         ⟨some 5, .mov (.t 53), none⟩])
      (.ret))))),
  [.tmp 4, .tmp 5]⟩

/-- (*sentinel/mealy.queue[[2]int]).visit -/
def a75 : AFunc := ⟨4,
  .seq (.region [⟨some 1, .box (.t 0), none⟩,
     ⟨some 2, .mov (.c (.nilf)), none⟩])
  (.seq (.region [⟨some 3, .mkfunc 95 [(.t 1)], none⟩,
      ⟨some 2, .mov (.t 3), none⟩])
   (.ret)),
  [.tmp 2]⟩

def a76l0b : ACode :=
  .seq (.region [⟨some 12, .bin .lss (.t 11) (.t 10), none⟩])
  (.seq (.cond (.t 12)
    (.skip)
    (.exit 0))
   (.seq (.block 1 (.seq (.region [⟨some 13, .iaddr 1 (.t 9) (.t 11), none⟩,
         ⟨some 14, .load false 1 (.t 13), none⟩,
         ⟨some 5, .mov (.t 14), none⟩])
      (.seq (.region [⟨some 15, .mov (.t 3), none⟩,
          ⟨some 16, .mov (.t 5), none⟩,
          ⟨some 17, .len (.t 16), none⟩,
          ⟨some 18, .bin .add (.t 15) (.t 17), none⟩,
          ⟨some 3, .mov (.t 18), none⟩])
       (.seq (.region [⟨some 19, .mov (.t 3), none⟩,
           ⟨some 20, .bin .lss (.t 19) (.c (.int Go.IntKind.i64 0)), none⟩])
        (.cond (.t 20)
         (.stuck)
         (.skip))))))
    (.region [⟨some 22, .bin .add (.t 11) (.c (.int Go.IntKind.i64 1)), none⟩,
       ⟨some 11, .mov (.t 22), none⟩])))

def a76l0 : ACode := a76l0b
def a76l0s : List Nat := [1, 2, 4, 5, 6, 7, 8, 12, 13, 14, 15, 16, 17, 18, 19, 20, 21, 22, 23, 24, 25, 26, 27, 28, 29, 30, 31, 32, 33, 34, 35]
abbrev a76l0F (s0 s3 s9 s10 s11 : AV) : List AV := [s0, .any, .any, s3, .any, .any, .any, .any, .any, s9, s10, s11, .any, .any, .any, .any, .any, .any, .any, .any, .any, .any, .any, .any, .any, .any, .any, .any, .any, .any, .any, .any, .any, .any, .any, .any]
theorem a76l0c (s0 s1 s2 s3 s4 s5 s6 s7 s8 s9 s10 s11 s12 s13 s14 s15 s16 s17 s18 s19 s20 s21 s22 s23 s24 s25 s26 s27 s28 s29 s30 s31 s32 s33 s34 s35 : AV) : clearA a76l0s [s0, s1, s2, s3, s4, s5, s6, s7, s8, s9, s10, s11, s12, s13, s14, s15, s16, s17, s18, s19, s20, s21, s22, s23, s24, s25, s26, s27, s28, s29, s30, s31, s32, s33, s34, s35] = a76l0F s0 s3 s9 s10 s11 := by kernel_rfl
theorem a76l0n {prog : Nat → Option AFunc} (s0 s3 s9 s10 s11 : AV) (H : Heap) : (lim prog).loop a76l0s a76l0 ⟨a76l0F s0 s3 s9 s10 s11, H⟩ = loopK (lim prog) a76l0s a76l0 (run (lim prog) a76l0b ⟨a76l0F s0 s3 s9 s10 s11, H⟩) := lim_loop_step _ _ _ _ (by kernel_rfl)

def a76l1b : ACode :=
  .seq (.region [⟨some 28, .bin .lss (.t 27) (.t 26), none⟩])
  (.seq (.cond (.t 28)
    (.skip)
    (.exit 2))
   (.seq (.block 3 (.seq (.region [⟨some 29, .iaddr 1 (.t 25) (.t 27), none⟩,
         ⟨some 30, .load false 1 (.t 29), none⟩,
         ⟨some 8, .mov (.t 30), none⟩])
      (.region [⟨some 31, .mov (.t 6), none⟩,
         ⟨some 32, .mov (.t 8), none⟩,
         ⟨some 33, .append false 1 1 (.t 31) (.t 32), none⟩,
         ⟨some 6, .mov (.t 33), none⟩])))
    (.region [⟨some 34, .bin .add (.t 27) (.c (.int Go.IntKind.i64 1)), none⟩,
       ⟨some 27, .mov (.t 34), none⟩])))

def a76l1 : ACode := a76l1b
def a76l1s : List Nat := [0, 1, 2, 3, 4, 5, 7, 8, 9, 10, 11, 12, 13, 14, 15, 16, 17, 18, 19, 20, 21, 22, 23, 24, 28, 29, 30, 31, 32, 33, 34, 35]
abbrev a76l1F (s6 s25 s26 s27 : AV) : List AV := [.any, .any, .any, .any, .any, .any, s6, .any, .any, .any, .any, .any, .any, .any, .any, .any, .any, .any, .any, .any, .any, .any, .any, .any, .any, s25, s26, s27, .any, .any, .any, .any, .any, .any, .any, .any]
theorem a76l1c (s0 s1 s2 s3 s4 s5 s6 s7 s8 s9 s10 s11 s12 s13 s14 s15 s16 s17 s18 s19 s20 s21 s22 s23 s24 s25 s26 s27 s28 s29 s30 s31 s32 s33 s34 s35 : AV) : clearA a76l1s [s0, s1, s2, s3, s4, s5, s6, s7, s8, s9, s10, s11, s12, s13, s14, s15, s16, s17, s18, s19, s20, s21, s22, s23, s24, s25, s26, s27, s28, s29, s30, s31, s32, s33, s34, s35] = a76l1F s6 s25 s26 s27 := by kernel_rfl
theorem a76l1n {prog : Nat → Option AFunc} (s6 s25 s26 s27 : AV) (H : Heap) : (lim prog).loop a76l1s a76l1 ⟨a76l1F s6 s25 s26 s27, H⟩ = loopK (lim prog) a76l1s a76l1 (run (lim prog) a76l1b ⟨a76l1F s6 s25 s26 s27, H⟩) := lim_loop_step _ _ _ _ (by kernel_rfl)

/-- slices.Concat[[]uint8,uint8] -/
def a76 : AFunc := ⟨36,
  .seq (.region [⟨some 2, .mov (.c (.sl true 0 [])), none⟩])
  (.seq (.region [⟨some 3, .mov (.c (.int Go.IntKind.i64 0)), none⟩])
   (.seq (.seq (.region [⟨some 9, .mov (.t 0), none⟩,
        ⟨some 10, .len (.t 9), none⟩,
        ⟨some 11, .mov (.c (.int Go.IntKind.i64 0)), none⟩])
     (.block 0 (.loop a76l0s a76l0)))
    (.seq (.region [⟨some 23, .mov (.t 3), none⟩,
        ⟨some 24, .icall (.c (.func 96 [])) [(.c (.sl true 0 [])), (.t 23)], none⟩,
        ⟨some 6, .mov (.t 24), none⟩])
     (.seq (.seq (.region [⟨some 25, .mov (.t 0), none⟩,
          ⟨some 26, .len (.t 25), none⟩,
          ⟨some 27, .mov (.c (.int Go.IntKind.i64 0)), none⟩])
       (.block 2 (.loop a76l1s a76l1)))
      (.seq (.region [⟨some 35, .mov (.t 6), none⟩,
          ⟨some 2, .mov (.t 35), none⟩])
       (.ret)))))),
  [.tmp 2]⟩

/-- sentinel/lasso.full -/
def a77 : AFunc := ⟨10,
  .seq (.region [⟨some 1, .box (.t 0), none⟩,
     ⟨some 2, .box (.c (.agg [.sl true 0 [], .sl true 0 []])), none⟩])
  (.seq (.seq (.region [⟨some 3, .faddr 1 (.t 1), none⟩,
       ⟨some 4, .load false 1 (.t 3), none⟩,
       ⟨some 5, .len (.t 4), none⟩,
       ⟨some 6, .bin .eql (.t 5) (.c (.int Go.IntKind.i64 0)), none⟩])
    (.cond (.t 6)
     (.region [⟨some 7, .mkslice false [.int Go.IntKind.u8 0] 1 (.c (.int Go.IntKind.i64 1)) (.c (.int Go.IntKind.i64 1)), none⟩,
        ⟨some 8, .faddr 1 (.t 1), none⟩,
        ⟨none, .store 1 (.t 8) (.t 7), none⟩])
     (.skip)))
   (.seq (.region [⟨some 9, .load true 2 (.t 1), none⟩,
       ⟨none, .store 2 (.t 2) (.t 9), none⟩])
    (.ret))),
  [.cell 2 true 2]⟩

/-- sentinel/lasso.Check$1 -/
def a80 : AFunc := ⟨9,
  .seq (.region [⟨some 3, .mov (.c (.bool false)), none⟩])
  (.seq (.region [⟨some 4, .mov (.t 0), none⟩,
      ⟨some 5, .conv Go.IntKind.i64 (.t 4), none⟩,
      ⟨some 6, .load false 1 (.t 1), none⟩,
      ⟨some 7, .bin .shl (.c (.int Go.IntKind.i64 1)) (.t 6), none⟩,
      ⟨some 8, .bin .geq (.t 5) (.t 7), none⟩,
      ⟨some 3, .mov (.t 8), none⟩])
   (.ret)),
  [.tmp 3]⟩

def a83l0b : ACode :=
  .seq (.seq (.draw 11 [⟨some 17, .mov (.t 4), none⟩,
      ⟨some 18, .bin .gtr (.t 17) (.c (.int Go.IntKind.i64 0)), none⟩,
      ⟨some 19, .mov (.t 18), none⟩,
      ⟨some 20, .mov (.t 0), some (19, true)⟩,
      ⟨some 21, .mov (.t 5), some (19, true)⟩,
      ⟨some 22, .iaddr 1 (.t 20) (.t 21), some (19, true)⟩,
      ⟨some 23, .load false 1 (.t 22), some (19, true)⟩,
      ⟨some 24, .mov (.t 0), some (19, true)⟩,
      ⟨some 25, .mov (.t 4), some (19, true)⟩,
      ⟨some 26, .iaddr 1 (.t 24) (.t 25), some (19, true)⟩,
      ⟨some 27, .load false 1 (.t 26), some (19, true)⟩,
      ⟨some 28, .bin .neq (.t 23) (.t 27), some (19, true)⟩,
      ⟨some 29, .pick (.t 19) (.t 28) (.c (.bool false)), none⟩])
   (.cond (.t 29)
    (.skip)
    (.exit 2)))
  (.block 3 (.region [⟨some 30, .mov (.t 3), none⟩,
      ⟨some 31, .mov (.t 4), none⟩,
      ⟨some 32, .iaddr 1 (.t 30) (.t 31), none⟩,
      ⟨some 33, .load false 1 (.t 32), none⟩,
      ⟨some 4, .mov (.t 33), none⟩]))

def a83l0 : ACode := a83l0b
def a83l0s : List Nat := [1, 2, 6, 7, 8, 9, 10, 11, 12, 13, 14, 15, 16, 17, 18, 19, 20, 21, 22, 23, 24, 25, 26, 27, 28, 29, 30, 31, 32, 33, 34, 35, 36, 37, 38, 39, 40, 41, 42, 43, 44, 45, 46, 47, 48, 49, 50, 51, 52, 53, 54, 55, 56, 57, 58, 59, 60, 61, 62, 63, 64, 65, 66]
abbrev a83l0F (s0 s3 s4 s5 : AV) : List AV := [s0, .any, .any, s3, s4, s5, .any, .any, .any, .any, .any, .any, .any, .any, .any, .any, .any, .any, .any, .any, .any, .any, .any, .any, .any, .any, .any, .any, .any, .any, .any, .any, .any, .any, .any, .any, .any, .any, .any, .any, .any, .any, .any, .any, .any, .any, .any, .any, .any, .any, .any, .any, .any, .any, .any, .any, .any, .any, .any, .any, .any, .any, .any, .any, .any, .any, .any]
theorem a83l0c (s0 s1 s2 s3 s4 s5 s6 s7 s8 s9 s10 s11 s12 s13 s14 s15 s16 s17 s18 s19 s20 s21 s22 s23 s24 s25 s26 s27 s28 s29 s30 s31 s32 s33 s34 s35 s36 s37 s38 s39 s40 s41 s42 s43 s44 s45 s46 s47 s48 s49 s50 s51 s52 s53 s54 s55 s56 s57 s58 s59 s60 s61 s62 s63 s64 s65 s66 : AV) : clearA a83l0s [s0, s1, s2, s3, s4, s5, s6, s7, s8, s9, s10, s11, s12, s13, s14, s15, s16, s17, s18, s19, s20, s21, s22, s23, s24, s25, s26, s27, s28, s29, s30, s31, s32, s33, s34, s35, s36, s37, s38, s39, s40, s41, s42, s43, s44, s45, s46, s47, s48, s49, s50, s51, s52, s53, s54, s55, s56, s57, s58, s59, s60, s61, s62, s63, s64, s65, s66] = a83l0F s0 s3 s4 s5 := by kernel_rfl
theorem a83l0n {prog : Nat → Option AFunc} (s0 s3 s4 s5 : AV) (H : Heap) : (lim prog).loop a83l0s a83l0 ⟨a83l0F s0 s3 s4 s5, H⟩ = loopK (lim prog) a83l0s a83l0 (run (lim prog) a83l0b ⟨a83l0F s0 s3 s4 s5, H⟩) := lim_loop_step _ _ _ _ (by kernel_rfl)

def a83l1b : ACode :=
  .seq (.seq (.region [⟨some 11, .mov (.t 5), none⟩,
      ⟨some 12, .mov (.t 0), none⟩,
      ⟨some 13, .len (.t 12), none⟩,
      ⟨some 14, .bin .lss (.t 11) (.t 13), none⟩])
   (.cond (.t 14)
    (.skip)
    (.exit 0)))
  (.seq (.block 1 (.seq (.block 2 (.loop a83l0s a83l0))
     (.seq (.seq (.draw 5 [⟨some 34, .mov (.t 0), none⟩,
          ⟨some 35, .mov (.t 5), none⟩,
          ⟨some 36, .iaddr 1 (.t 34) (.t 35), none⟩,
          ⟨some 37, .load false 1 (.t 36), none⟩,
          ⟨some 38, .mov (.t 0), none⟩,
          ⟨some 39, .mov (.t 4), none⟩,
          ⟨some 40, .iaddr 1 (.t 38) (.t 39), none⟩,
          ⟨some 41, .load false 1 (.t 40), none⟩,
          ⟨some 42, .bin .eql (.t 37) (.t 41), none⟩])
       (.cond (.t 42)
        (.region [⟨some 43, .mov (.t 4), none⟩,
           ⟨some 44, .bin .add (.t 43) (.c (.int Go.IntKind.i64 1)), none⟩,
           ⟨some 4, .mov (.t 44), none⟩])
        (.skip)))
      (.region [⟨some 45, .mov (.t 3), none⟩,
         ⟨some 46, .mov (.t 5), none⟩,
         ⟨some 47, .bin .add (.t 46) (.c (.int Go.IntKind.i64 1)), none⟩,
         ⟨some 48, .mov (.t 4), none⟩,
         ⟨some 49, .iaddr 1 (.t 45) (.t 47), none⟩,
         ⟨none, .store 1 (.t 49) (.t 48), none⟩]))))
   (.region [⟨some 15, .mov (.t 5), none⟩,
      ⟨some 16, .bin .add (.t 15) (.c (.int Go.IntKind.i64 1)), none⟩,
      ⟨some 5, .mov (.t 16), none⟩]))

def a83l1 : ACode := a83l1b
def a83l1s : List Nat := [1, 2, 6, 7, 8, 9, 10, 11, 12, 13, 14, 15, 16, 17, 18, 19, 20, 21, 22, 23, 24, 25, 26, 27, 28, 29, 30, 31, 32, 33, 34, 35, 36, 37, 38, 39, 40, 41, 42, 43, 44, 45, 46, 47, 48, 49, 50, 51, 52, 53, 54, 55, 56, 57, 58, 59, 60, 61, 62, 63, 64, 65, 66]
abbrev a83l1F (s0 s3 s4 s5 : AV) : List AV := [s0, .any, .any, s3, s4, s5, .any, .any, .any, .any, .any, .any, .any, .any, .any, .any, .any, .any, .any, .any, .any, .any, .any, .any, .any, .any, .any, .any, .any, .any, .any, .any, .any, .any, .any, .any, .any, .any, .any, .any, .any, .any, .any, .any, .any, .any, .any, .any, .any, .any, .any, .any, .any, .any, .any, .any, .any, .any, .any, .any, .any, .any, .any, .any, .any, .any, .any]
theorem a83l1c (s0 s1 s2 s3 s4 s5 s6 s7 s8 s9 s10 s11 s12 s13 s14 s15 s16 s17 s18 s19 s20 s21 s22 s23 s24 s25 s26 s27 s28 s29 s30 s31 s32 s33 s34 s35 s36 s37 s38 s39 s40 s41 s42 s43 s44 s45 s46 s47 s48 s49 s50 s51 s52 s53 s54 s55 s56 s57 s58 s59 s60 s61 s62 s63 s64 s65 s66 : AV) : clearA a83l1s [s0, s1, s2, s3, s4, s5, s6, s7, s8, s9, s10, s11, s12, s13, s14, s15, s16, s17, s18, s19, s20, s21, s22, s23, s24, s25, s26, s27, s28, s29, s30, s31, s32, s33, s34, s35, s36, s37, s38, s39, s40, s41, s42, s43, s44, s45, s46, s47, s48, s49, s50, s51, s52, s53, s54, s55, s56, s57, s58, s59, s60, s61, s62, s63, s64, s65, s66] = a83l1F s0 s3 s4 s5 := by kernel_rfl
theorem a83l1n {prog : Nat → Option AFunc} (s0 s3 s4 s5 : AV) (H : Heap) : (lim prog).loop a83l1s a83l1 ⟨a83l1F s0 s3 s4 s5, H⟩ = loopK (lim prog) a83l1s a83l1 (run (lim prog) a83l1b ⟨a83l1F s0 s3 s4 s5, H⟩) := lim_loop_step _ _ _ _ (by kernel_rfl)

/-- sentinel/lasso.root -/
def a83 : AFunc := ⟨67,
  .seq (.region [⟨some 2, .mov (.c (.sl true 0 [])), none⟩])
  (.seq (.region [⟨some 7, .mov (.t 0), none⟩,
      ⟨some 8, .len (.t 7), none⟩,
      ⟨some 9, .bin .add (.t 8) (.c (.int Go.IntKind.i64 1)), none⟩,
      ⟨some 10, .mkslice false [.int Go.IntKind.i64 0] 8 (.t 9) (.t 9), none⟩,
      ⟨some 3, .mov (.t 10), none⟩])
   (.seq (.region [⟨some 4, .mov (.c (.int Go.IntKind.i64 0)), none⟩])
    (.seq (.seq (.region [⟨some 5, .mov (.c (.int Go.IntKind.i64 1)), none⟩])
      (.block 0 (.loop a83l1s a83l1)))
     (.seq (.seq (.region [⟨some 50, .mov (.t 0), none⟩,
          ⟨some 51, .len (.t 50), none⟩,
          ⟨some 52, .mov (.t 3), none⟩,
          ⟨some 53, .mov (.t 0), none⟩,
          ⟨some 54, .len (.t 53), none⟩,
          ⟨some 55, .iaddr 1 (.t 52) (.t 54), none⟩,
          ⟨some 56, .load false 1 (.t 55), none⟩,
          ⟨some 57, .bin .sub (.t 51) (.t 56), none⟩,
          ⟨some 6, .mov (.t 57), none⟩])
       (.seq (.region [⟨some 58, .mov (.t 0), none⟩,
           ⟨some 59, .len (.t 58), none⟩,
           ⟨some 60, .mov (.t 6), none⟩,
           ⟨some 61, .bin .rem (.t 59) (.t 60), none⟩,
           ⟨some 62, .bin .eql (.t 61) (.c (.int Go.IntKind.i64 0)), none⟩])
        (.cond (.t 62)
         (.seq (.region [⟨some 63, .mov (.t 0), none⟩,
             ⟨some 64, .mov (.t 6), none⟩,
             ⟨some 65, .slice 1 (.t 63) none (some (.t 64)) none, none⟩,
             ⟨some 2, .mov (.t 65), none⟩])
          (.ret))
         (.skip))))
      (.seq (.region [⟨some 66, .mov (.t 0), none⟩,
          ⟨some 2, .mov (.t 66), none⟩])
       (.ret)))))),
  [.tmp 2]⟩

def a85l0b : ACode :=
  .seq (.region [⟨some 9, .bin .lss (.t 8) (.t 7), none⟩])
  (.seq (.cond (.t 9)
    (.skip)
    (.exit 0))
   (.seq (.block 1 (.seq (.region [⟨some 10, .mov (.t 8), none⟩,
         ⟨some 5, .mov (.t 10), none⟩])
      (.seq (.region [⟨some 11, .mov (.t 1), none⟩,
          ⟨some 12, .mov (.t 0), none⟩,
          ⟨some 13, .mov (.t 5), none⟩,
          ⟨some 14, .iaddr 1 (.t 12) (.t 13), none⟩,
          ⟨some 15, .load false 1 (.t 14), none⟩,
          ⟨some 16, .icall (.t 11) [(.t 15)], none⟩])
       (.cond (.t 16)
        (.seq (.region [⟨some 17, .mov (.t 5), none⟩,
            ⟨some 4, .mov (.t 17), none⟩])
         (.ret))
        (.skip)))))
    (.region [⟨some 18, .bin .add (.t 8) (.c (.int Go.IntKind.i64 1)), none⟩,
       ⟨some 8, .mov (.t 18), none⟩])))

def a85l0 : ACode := a85l0b
def a85l0s : List Nat := [2, 3, 5, 6, 9, 10, 11, 12, 13, 14, 15, 16, 17, 18]
abbrev a85l0F (s0 s1 s4 s7 s8 : AV) : List AV := [s0, s1, .any, .any, s4, .any, .any, s7, s8, .any, .any, .any, .any, .any, .any, .any, .any, .any, .any]
theorem a85l0c (s0 s1 s2 s3 s4 s5 s6 s7 s8 s9 s10 s11 s12 s13 s14 s15 s16 s17 s18 : AV) : clearA a85l0s [s0, s1, s2, s3, s4, s5, s6, s7, s8, s9, s10, s11, s12, s13, s14, s15, s16, s17, s18] = a85l0F s0 s1 s4 s7 s8 := by kernel_rfl
theorem a85l0n {prog : Nat → Option AFunc} (s0 s1 s4 s7 s8 : AV) (H : Heap) : (lim prog).loop a85l0s a85l0 ⟨a85l0F s0 s1 s4 s7 s8, H⟩ = loopK (lim prog) a85l0s a85l0 (run (lim prog) a85l0b ⟨a85l0F s0 s1 s4 s7 s8, H⟩) := lim_loop_step _ _ _ _ (by kernel_rfl)

/-- slices.IndexFunc[[]uint8,uint8] -/
def a85 : AFunc := ⟨19,
  .seq (.region [⟨some 4, .mov (.c (.int Go.IntKind.i64 0)), none⟩])
  (.seq (.seq (.region [⟨some 6, .mov (.t 0), none⟩,
       ⟨some 7, .len (.t 6), none⟩,
       ⟨some 8, .mov (.c (.int Go.IntKind.i64 0)), none⟩])
    (.block 0 (.loop a85l0s a85l0)))
   (.seq (.region [⟨some 4, .mov (.c (.int Go.IntKind.i64 (-1))), none⟩])
    (.ret))),
  [.tmp 4]⟩

/-- slices.ContainsFunc[[]int,int] -/
def a90 : AFunc := ⟨9,
  .seq (.region [⟨some 4, .mov (.c (.bool false)), none⟩])
  (.seq (.region [⟨some 5, .mov (.t 0), none⟩,
      ⟨some 6, .mov (.t 1), none⟩,
      ⟨some 7, .icall (.c (.func 99 [])) [(.t 5), (.t 6)], none⟩,
      ⟨some 8, .bin .geq (.t 7) (.c (.int Go.IntKind.i64 0)), none⟩,
      ⟨some 4, .mov (.t 8), none⟩])
   (.ret)),
  [.tmp 4]⟩

/-- sentinel/mealy.outside$1 -/
def a91 : AFunc := ⟨11,
  .seq (.region [⟨some 3, .mov (.c (.bool false)), none⟩])
  (.seq (.region [⟨some 4, .mov (.t 0), none⟩,
      ⟨some 5, .bin .lss (.t 4) (.c (.int Go.IntKind.i64 0)), none⟩,
      ⟨some 6, .mov (.t 5), none⟩,
      ⟨some 7, .mov (.t 0), some (6, false)⟩,
      ⟨some 8, .load false 1 (.t 1), some (6, false)⟩,
      ⟨some 9, .bin .geq (.t 7) (.t 8), some (6, false)⟩,
      ⟨some 10, .pick (.t 6) (.c (.bool true)) (.t 9), none⟩,
      ⟨some 3, .mov (.t 10), none⟩])
   (.ret)),
  [.tmp 3]⟩

/-- (*sentinel/mealy.queue[sentinel/mealy.key]).put -/
def a92 : AFunc := ⟨54,
  .seq (.region [⟨some 3, .box (.t 1), none⟩,
     ⟨some 4, .mov (.c (.int Go.IntKind.i64 0)), none⟩,
     ⟨some 5, .mov (.c (.bool false)), none⟩])
  (.seq (.seq (.region [⟨some 8, .mov (.t 0), none⟩,
       ⟨some 9, .nilchk (.t 8), none⟩,
       ⟨some 10, .faddr 0 (.t 9), none⟩,
       ⟨some 11, .load false 1 (.t 10), none⟩,
       ⟨some 12, .mnil false (.t 11), none⟩])
    (.cond (.t 12)
     (.region [⟨some 13, .mov (.t 0), none⟩,
        ⟨some 14, .mkmap, none⟩,
        ⟨some 15, .nilchk (.t 13), none⟩,
        ⟨some 16, .faddr 0 (.t 15), none⟩,
        ⟨none, .store 1 (.t 16) (.t 14), none⟩])
     (.skip)))
   (.seq (.draw 9 [⟨some 18, .mov (.t 0), none⟩,
       ⟨some 19, .nilchk (.t 18), none⟩,
       ⟨some 20, .faddr 0 (.t 19), none⟩,
       ⟨some 21, .load false 1 (.t 20), none⟩,
       ⟨some 22, .load true 2 (.t 3), none⟩,
       ⟨some 23, .mlook [2, 1, 1] true (.int Go.IntKind.i64 0) (.t 21) (.t 22), none⟩,
       ⟨some 17, .mov (.t 23), none⟩,
       ⟨some 24, .ext 0 (.t 17), none⟩,
       ⟨some 25, .ext 1 (.t 17), none⟩,
       ⟨some 6, .mov (.t 24), none⟩,
       ⟨some 7, .mov (.t 25), none⟩])
    (.seq (.seq (.region [⟨some 26, .mov (.t 7), none⟩,
         ⟨some 27, .un .not (.t 26), none⟩])
      (.cond (.t 27)
       (.seq (.region [⟨some 28, .mov (.t 0), none⟩,
           ⟨some 29, .nilchk (.t 28), none⟩,
           ⟨some 30, .faddr 1 (.t 29), none⟩,
           ⟨some 31, .load false 1 (.t 30), none⟩,
           ⟨some 32, .len (.t 31), none⟩,
           ⟨some 6, .mov (.t 32), none⟩])
        (.drawl [(35, (1, (43, 0))), (3, (2, (43, 0)))] 11 [⟨some 33, .mov (.t 0), none⟩,
           ⟨some 34, .nilchk (.t 33), none⟩,
           ⟨some 35, .faddr 0 (.t 34), none⟩,
           ⟨some 36, .load false 1 (.t 35), none⟩,
           ⟨some 37, .load true 2 (.t 3), none⟩,
           ⟨some 38, .mov (.t 0), none⟩,
           ⟨some 39, .mov (.t 6), none⟩,
           ⟨some 40, .mov (.t 0), none⟩,
           ⟨some 41, .nilchk (.t 40), none⟩,
           ⟨some 42, .faddr 1 (.t 41), none⟩,
           ⟨some 43, .load false 1 (.t 42), none⟩,
           ⟨some 44, .load true 2 (.t 3), none⟩,
           ⟨some 45, .bslice true [.str ⟨#[]⟩, .str ⟨#[]⟩] 2 1 [(0, (.t 44))], none⟩,
           ⟨some 46, .append false 2 32 (.t 43) (.t 45), none⟩,
           ⟨some 47, .ment [2, 1, 1] (.int Go.IntKind.i64 0) (.t 36) (.t 37), none⟩,
           ⟨some 48, .ext 1 (.t 47), none⟩,
           ⟨none, .mstore (.t 36) (.t 48) (.t 39), none⟩,
           ⟨some 49, .nilchk (.t 38), none⟩,
           ⟨some 50, .faddr 1 (.t 49), none⟩,
           ⟨none, .store 1 (.t 50) (.t 46), none⟩]))
       (.skip)))
     (.seq (.region [⟨some 51, .mov (.t 6), none⟩,
         ⟨some 52, .mov (.t 7), none⟩,
         ⟨some 53, .un .not (.t 52), none⟩,
         ⟨some 4, .mov (.t 51), none⟩,
         ⟨some 5, .mov (.t 53), none⟩])
      (.ret))))),
  [.tmp 4, .tmp 5]⟩

def a94l0b : ACode :=
  .seq (.seq (.region [⟨some 4, .mov (.t 3), none⟩,
      ⟨some 5, .load false 1 (.t 1), none⟩,
      ⟨some 6, .nilchk (.t 5), none⟩,
      ⟨some 7, .faddr 1 (.t 6), none⟩,
      ⟨some 8, .load false 1 (.t 7), none⟩,
      ⟨some 9, .len (.t 8), none⟩,
      ⟨some 10, .bin .lss (.t 4) (.t 9), none⟩])
   (.cond (.t 10)
    (.skip)
    (.exit 0)))
  (.seq (.block 1 (.seq (.region [⟨some 13, .mov (.t 0), none⟩,
        ⟨some 14, .mov (.t 3), none⟩,
        ⟨some 15, .load false 1 (.t 1), none⟩,
        ⟨some 16, .nilchk (.t 15), none⟩,
        ⟨some 17, .faddr 1 (.t 16), none⟩,
        ⟨some 18, .load false 1 (.t 17), none⟩,
        ⟨some 19, .mov (.t 3), none⟩,
        ⟨some 20, .iaddr 1 (.t 18) (.t 19), none⟩,
        ⟨some 21, .load false 1 (.t 20), none⟩,
        ⟨some 22, .icall (.t 13) [(.t 14), (.t 21)], none⟩,
        ⟨some 23, .un .not (.t 22), none⟩])
     (.cond (.t 23)
      (.ret)
      (.skip))))
   (.region [⟨some 11, .mov (.t 3), none⟩,
      ⟨some 12, .bin .add (.t 11) (.c (.int Go.IntKind.i64 1)), none⟩,
      ⟨some 3, .mov (.t 12), none⟩]))

def a94l0 : ACode := a94l0b
def a94l0s : List Nat := [2, 4, 5, 6, 7, 8, 9, 10, 11, 12, 13, 14, 15, 16, 17, 18, 19, 20, 21, 22, 23]
abbrev a94l0F (s0 s1 s3 : AV) : List AV := [s0, s1, .any, s3, .any, .any, .any, .any, .any, .any, .any, .any, .any, .any, .any, .any, .any, .any, .any, .any, .any, .any, .any, .any]
theorem a94l0c (s0 s1 s2 s3 s4 s5 s6 s7 s8 s9 s10 s11 s12 s13 s14 s15 s16 s17 s18 s19 s20 s21 s22 s23 : AV) : clearA a94l0s [s0, s1, s2, s3, s4, s5, s6, s7, s8, s9, s10, s11, s12, s13, s14, s15, s16, s17, s18, s19, s20, s21, s22, s23] = a94l0F s0 s1 s3 := by kernel_rfl
theorem a94l0n {prog : Nat → Option AFunc} (s0 s1 s3 : AV) (H : Heap) : (lim prog).loop a94l0s a94l0 ⟨a94l0F s0 s1 s3, H⟩ = loopK (lim prog) a94l0s a94l0 (run (lim prog) a94l0b ⟨a94l0F s0 s1 s3, H⟩) := lim_loop_step _ _ _ _ (by kernel_rfl)

/-- (*sentinel/mealy.queue[int]).visit$1 -/
def a94 : AFunc := ⟨24,
  .seq (.region [⟨some 3, .mov (.c (.int Go.IntKind.i64 0)), none⟩])
  (.block 0 (.loop a94l0s a94l0)),
  []⟩

def a95l0b : ACode :=
  .seq (.seq (.region [⟨some 4, .mov (.t 3), none⟩,
      ⟨some 5, .load false 1 (.t 1), none⟩,
      ⟨some 6, .nilchk (.t 5), none⟩,
      ⟨some 7, .faddr 1 (.t 6), none⟩,
      ⟨some 8, .load false 1 (.t 7), none⟩,
      ⟨some 9, .len (.t 8), none⟩,
      ⟨some 10, .bin .lss (.t 4) (.t 9), none⟩])
   (.cond (.t 10)
    (.skip)
    (.exit 0)))
  (.seq (.block 1 (.seq (.region [⟨some 13, .mov (.t 0), none⟩,
        ⟨some 14, .mov (.t 3), none⟩,
        ⟨some 15, .load false 1 (.t 1), none⟩,
        ⟨some 16, .nilchk (.t 15), none⟩,
        ⟨some 17, .faddr 1 (.t 16), none⟩,
        ⟨some 18, .load false 1 (.t 17), none⟩,
        ⟨some 19, .mov (.t 3), none⟩,
        ⟨some 20, .iaddr 2 (.t 18) (.t 19), none⟩,
        ⟨some 21, .load true 2 (.t 20), none⟩,
        ⟨some 22, .icall (.t 13) [(.t 14), (.t 21)], none⟩,
        ⟨some 23, .un .not (.t 22), none⟩])
     (.cond (.t 23)
      (.ret)
      (.skip))))
   (.region [⟨some 11, .mov (.t 3), none⟩,
      ⟨some 12, .bin .add (.t 11) (.c (.int Go.IntKind.i64 1)), none⟩,
      ⟨some 3, .mov (.t 12), none⟩]))

def a95l0 : ACode := a95l0b
def a95l0s : List Nat := [2, 4, 5, 6, 7, 8, 9, 10, 11, 12, 13, 14, 15, 16, 17, 18, 19, 20, 21, 22, 23]
abbrev a95l0F (s0 s1 s3 : AV) : List AV := [s0, s1, .any, s3, .any, .any, .any, .any, .any, .any, .any, .any, .any, .any, .any, .any, .any, .any, .any, .any, .any, .any, .any, .any]
theorem a95l0c (s0 s1 s2 s3 s4 s5 s6 s7 s8 s9 s10 s11 s12 s13 s14 s15 s16 s17 s18 s19 s20 s21 s22 s23 : AV) : clearA a95l0s [s0, s1, s2, s3, s4, s5, s6, s7, s8, s9, s10, s11, s12, s13, s14, s15, s16, s17, s18, s19, s20, s21, s22, s23] = a95l0F s0 s1 s3 := by kernel_rfl
theorem a95l0n {prog : Nat → Option AFunc} (s0 s1 s3 : AV) (H : Heap) : (lim prog).loop a95l0s a95l0 ⟨a95l0F s0 s1 s3, H⟩ = loopK (lim prog) a95l0s a95l0 (run (lim prog) a95l0b ⟨a95l0F s0 s1 s3, H⟩) := lim_loop_step _ _ _ _ (by kernel_rfl)

/-- (*sentinel/mealy.queue[[2]int]).visit$1 -/
def a95 : AFunc := ⟨24,
  .seq (.region [⟨some 3, .mov (.c (.int Go.IntKind.i64 0)), none⟩])
  (.block 0 (.loop a95l0s a95l0)),
  []⟩

/-- slices.Grow[[]uint8,uint8] -/
def a96 : AFunc := ⟨27,
  .seq (.region [⟨some 4, .mov (.c (.sl true 0 [])), none⟩])
  (.seq (.seq (.region [⟨some 5, .mov (.t 1), none⟩,
       ⟨some 6, .bin .lss (.t 5) (.c (.int Go.IntKind.i64 0)), none⟩])
    (.cond (.t 6)
     (.stuck)
     (.skip)))
   (.seq (.seq (.region [⟨some 8, .mov (.t 1), none⟩,
        ⟨some 9, .mov (.t 0), none⟩,
        ⟨some 10, .cap (.t 9), none⟩,
        ⟨some 11, .mov (.t 0), none⟩,
        ⟨some 12, .len (.t 11), none⟩,
        ⟨some 13, .bin .sub (.t 10) (.t 12), none⟩,
        ⟨some 14, .bin .sub (.t 8) (.t 13), none⟩,
        ⟨some 1, .mov (.t 14), none⟩])
     (.seq (.region [⟨some 15, .mov (.t 1), none⟩,
         ⟨some 16, .bin .gtr (.t 15) (.c (.int Go.IntKind.i64 0)), none⟩])
      (.cond (.t 16)
       (.region [⟨some 17, .mov (.t 0), none⟩,
          ⟨some 18, .mov (.t 0), none⟩,
          ⟨some 19, .cap (.t 18), none⟩,
          ⟨some 20, .slice 1 (.t 17) none (some (.t 19)) none, none⟩,
          ⟨some 21, .mov (.t 1), none⟩,
          ⟨some 22, .appendz [.int Go.IntKind.u8 0] 1 (.t 20) (.t 21), none⟩,
          ⟨some 23, .mov (.t 0), none⟩,
          ⟨some 24, .len (.t 23), none⟩,
          ⟨some 25, .slice 1 (.t 22) none (some (.t 24)) none, none⟩,
          ⟨some 0, .mov (.t 25), none⟩])
       (.skip))))
    (.seq (.region [⟨some 26, .mov (.t 0), none⟩,
        ⟨some 4, .mov (.t 26), none⟩])
     (.ret)))),
  [.tmp 4]⟩

def a99l0b : ACode :=
  .seq (.region [⟨some 9, .bin .lss (.t 8) (.t 7), none⟩])
  (.seq (.cond (.t 9)
    (.skip)
    (.exit 0))
   (.seq (.block 1 (.seq (.region [⟨some 10, .mov (.t 8), none⟩,
         ⟨some 5, .mov (.t 10), none⟩])
      (.seq (.region [⟨some 11, .mov (.t 1), none⟩,
          ⟨some 12, .mov (.t 0), none⟩,
          ⟨some 13, .mov (.t 5), none⟩,
          ⟨some 14, .iaddr 1 (.t 12) (.t 13), none⟩,
          ⟨some 15, .load false 1 (.t 14), none⟩,
          ⟨some 16, .icall (.t 11) [(.t 15)], none⟩])
       (.cond (.t 16)
        (.seq (.region [⟨some 17, .mov (.t 5), none⟩,
            ⟨some 4, .mov (.t 17), none⟩])
         (.ret))
        (.skip)))))
    (.region [⟨some 18, .bin .add (.t 8) (.c (.int Go.IntKind.i64 1)), none⟩,
       ⟨some 8, .mov (.t 18), none⟩])))

def a99l0 : ACode := a99l0b
def a99l0s : List Nat := [2, 3, 5, 6, 9, 10, 11, 12, 13, 14, 15, 16, 17, 18]
abbrev a99l0F (s0 s1 s4 s7 s8 : AV) : List AV := [s0, s1, .any, .any, s4, .any, .any, s7, s8, .any, .any, .any, .any, .any, .any, .any, .any, .any, .any]
theorem a99l0c (s0 s1 s2 s3 s4 s5 s6 s7 s8 s9 s10 s11 s12 s13 s14 s15 s16 s17 s18 : AV) : clearA a99l0s [s0, s1, s2, s3, s4, s5, s6, s7, s8, s9, s10, s11, s12, s13, s14, s15, s16, s17, s18] = a99l0F s0 s1 s4 s7 s8 := by kernel_rfl
theorem a99l0n {prog : Nat → Option AFunc} (s0 s1 s4 s7 s8 : AV) (H : Heap) : (lim prog).loop a99l0s a99l0 ⟨a99l0F s0 s1 s4 s7 s8, H⟩ = loopK (lim prog) a99l0s a99l0 (run (lim prog) a99l0b ⟨a99l0F s0 s1 s4 s7 s8, H⟩) := lim_loop_step _ _ _ _ (by kernel_rfl)

/-- slices.IndexFunc[[]int,int] -/
def a99 : AFunc := ⟨19,
  .seq (.region [⟨some 4, .mov (.c (.int Go.IntKind.i64 0)), none⟩])
  (.seq (.seq (.region [⟨some 6, .mov (.t 0), none⟩,
       ⟨some 7, .len (.t 6), none⟩,
       ⟨some 8, .mov (.c (.int Go.IntKind.i64 0)), none⟩])
    (.block 0 (.loop a99l0s a99l0)))
   (.seq (.region [⟨some 4, .mov (.c (.int Go.IntKind.i64 (-1))), none⟩])
    (.ret))),
  [.tmp 4]⟩

def aprog : Nat → Option AFunc
  | 8 => some a8
  | 13 => some a13
  | 16 => some a16
  | 18 => some a18
  | 21 => some a21
  | 23 => some a23
  | 24 => some a24
  | 25 => some a25
  | 29 => some a29
  | 31 => some a31
  | 33 => some a33
  | 35 => some a35
  | 37 => some a37
  | 42 => some a42
  | 43 => some a43
  | 45 => some a45
  | 47 => some a47
  | 49 => some a49
  | 52 => some a52
  | 53 => some a53
  | 54 => some a54
  | 55 => some a55
  | 59 => some a59
  | 60 => some a60
  | 61 => some a61
  | 65 => some a65
  | 66 => some a66
  | 67 => some a67
  | 68 => some a68
  | 69 => some a69
  | 70 => some a70
  | 71 => some a71
  | 72 => some a72
  | 74 => some a74
  | 75 => some a75
  | 76 => some a76
  | 77 => some a77
  | 80 => some a80
  | 83 => some a83
  | 85 => some a85
  | 90 => some a90
  | 91 => some a91
  | 92 => some a92
  | 94 => some a94
  | 95 => some a95
  | 96 => some a96
  | 99 => some a99
  | _ => none
theorem a8p (args : List AV) : (lim aprog).pcall 8 args = pbodyA (lim aprog) a8 args := lim_pcall_eq rfl args
theorem a8i (caps args : List AV) (H : Heap) : (lim aprog).icall (.func 8 caps) args H = bodyA (lim aprog) a8 (args ++ caps) H := lim_fcall_eq rfl caps args H
theorem a13p (args : List AV) : (lim aprog).pcall 13 args = pbodyA (lim aprog) a13 args := lim_pcall_eq rfl args
theorem a13i (caps args : List AV) (H : Heap) : (lim aprog).icall (.func 13 caps) args H = bodyA (lim aprog) a13 (args ++ caps) H := lim_fcall_eq rfl caps args H
theorem a16p (args : List AV) : (lim aprog).pcall 16 args = pbodyA (lim aprog) a16 args := lim_pcall_eq rfl args
theorem a16i (caps args : List AV) (H : Heap) : (lim aprog).icall (.func 16 caps) args H = bodyA (lim aprog) a16 (args ++ caps) H := lim_fcall_eq rfl caps args H
theorem a18p (args : List AV) : (lim aprog).pcall 18 args = pbodyA (lim aprog) a18 args := lim_pcall_eq rfl args
theorem a18i (caps args : List AV) (H : Heap) : (lim aprog).icall (.func 18 caps) args H = bodyA (lim aprog) a18 (args ++ caps) H := lim_fcall_eq rfl caps args H
theorem a21p (args : List AV) : (lim aprog).pcall 21 args = pbodyA (lim aprog) a21 args := lim_pcall_eq rfl args
theorem a21i (caps args : List AV) (H : Heap) : (lim aprog).icall (.func 21 caps) args H = bodyA (lim aprog) a21 (args ++ caps) H := lim_fcall_eq rfl caps args H
theorem a23p (args : List AV) : (lim aprog).pcall 23 args = pbodyA (lim aprog) a23 args := lim_pcall_eq rfl args
theorem a23i (caps args : List AV) (H : Heap) : (lim aprog).icall (.func 23 caps) args H = bodyA (lim aprog) a23 (args ++ caps) H := lim_fcall_eq rfl caps args H
theorem a24p (args : List AV) : (lim aprog).pcall 24 args = pbodyA (lim aprog) a24 args := lim_pcall_eq rfl args
theorem a24i (caps args : List AV) (H : Heap) : (lim aprog).icall (.func 24 caps) args H = bodyA (lim aprog) a24 (args ++ caps) H := lim_fcall_eq rfl caps args H
theorem a25p (args : List AV) : (lim aprog).pcall 25 args = pbodyA (lim aprog) a25 args := lim_pcall_eq rfl args
theorem a25i (caps args : List AV) (H : Heap) : (lim aprog).icall (.func 25 caps) args H = bodyA (lim aprog) a25 (args ++ caps) H := lim_fcall_eq rfl caps args H
theorem a29p (args : List AV) : (lim aprog).pcall 29 args = pbodyA (lim aprog) a29 args := lim_pcall_eq rfl args
theorem a29i (caps args : List AV) (H : Heap) : (lim aprog).icall (.func 29 caps) args H = bodyA (lim aprog) a29 (args ++ caps) H := lim_fcall_eq rfl caps args H
theorem a31p (args : List AV) : (lim aprog).pcall 31 args = pbodyA (lim aprog) a31 args := lim_pcall_eq rfl args
theorem a31i (caps args : List AV) (H : Heap) : (lim aprog).icall (.func 31 caps) args H = bodyA (lim aprog) a31 (args ++ caps) H := lim_fcall_eq rfl caps args H
theorem a33p (args : List AV) : (lim aprog).pcall 33 args = pbodyA (lim aprog) a33 args := lim_pcall_eq rfl args
theorem a33i (caps args : List AV) (H : Heap) : (lim aprog).icall (.func 33 caps) args H = bodyA (lim aprog) a33 (args ++ caps) H := lim_fcall_eq rfl caps args H
theorem a35p (args : List AV) : (lim aprog).pcall 35 args = pbodyA (lim aprog) a35 args := lim_pcall_eq rfl args
theorem a35i (caps args : List AV) (H : Heap) : (lim aprog).icall (.func 35 caps) args H = bodyA (lim aprog) a35 (args ++ caps) H := lim_fcall_eq rfl caps args H
theorem a37p (args : List AV) : (lim aprog).pcall 37 args = pbodyA (lim aprog) a37 args := lim_pcall_eq rfl args
theorem a37i (caps args : List AV) (H : Heap) : (lim aprog).icall (.func 37 caps) args H = bodyA (lim aprog) a37 (args ++ caps) H := lim_fcall_eq rfl caps args H
theorem a42p (args : List AV) : (lim aprog).pcall 42 args = pbodyA (lim aprog) a42 args := lim_pcall_eq rfl args
theorem a42i (caps args : List AV) (H : Heap) : (lim aprog).icall (.func 42 caps) args H = bodyA (lim aprog) a42 (args ++ caps) H := lim_fcall_eq rfl caps args H
theorem a43p (args : List AV) : (lim aprog).pcall 43 args = pbodyA (lim aprog) a43 args := lim_pcall_eq rfl args
theorem a43i (caps args : List AV) (H : Heap) : (lim aprog).icall (.func 43 caps) args H = bodyA (lim aprog) a43 (args ++ caps) H := lim_fcall_eq rfl caps args H
theorem a45p (args : List AV) : (lim aprog).pcall 45 args = pbodyA (lim aprog) a45 args := lim_pcall_eq rfl args
theorem a45i (caps args : List AV) (H : Heap) : (lim aprog).icall (.func 45 caps) args H = bodyA (lim aprog) a45 (args ++ caps) H := lim_fcall_eq rfl caps args H
theorem a47p (args : List AV) : (lim aprog).pcall 47 args = pbodyA (lim aprog) a47 args := lim_pcall_eq rfl args
theorem a47i (caps args : List AV) (H : Heap) : (lim aprog).icall (.func 47 caps) args H = bodyA (lim aprog) a47 (args ++ caps) H := lim_fcall_eq rfl caps args H
theorem a49p (args : List AV) : (lim aprog).pcall 49 args = pbodyA (lim aprog) a49 args := lim_pcall_eq rfl args
theorem a49i (caps args : List AV) (H : Heap) : (lim aprog).icall (.func 49 caps) args H = bodyA (lim aprog) a49 (args ++ caps) H := lim_fcall_eq rfl caps args H
theorem a52p (args : List AV) : (lim aprog).pcall 52 args = pbodyA (lim aprog) a52 args := lim_pcall_eq rfl args
theorem a52i (caps args : List AV) (H : Heap) : (lim aprog).icall (.func 52 caps) args H = bodyA (lim aprog) a52 (args ++ caps) H := lim_fcall_eq rfl caps args H
theorem a53p (args : List AV) : (lim aprog).pcall 53 args = pbodyA (lim aprog) a53 args := lim_pcall_eq rfl args
theorem a53i (caps args : List AV) (H : Heap) : (lim aprog).icall (.func 53 caps) args H = bodyA (lim aprog) a53 (args ++ caps) H := lim_fcall_eq rfl caps args H
theorem a54p (args : List AV) : (lim aprog).pcall 54 args = pbodyA (lim aprog) a54 args := lim_pcall_eq rfl args
theorem a54i (caps args : List AV) (H : Heap) : (lim aprog).icall (.func 54 caps) args H = bodyA (lim aprog) a54 (args ++ caps) H := lim_fcall_eq rfl caps args H
theorem a55p (args : List AV) : (lim aprog).pcall 55 args = pbodyA (lim aprog) a55 args := lim_pcall_eq rfl args
theorem a55i (caps args : List AV) (H : Heap) : (lim aprog).icall (.func 55 caps) args H = bodyA (lim aprog) a55 (args ++ caps) H := lim_fcall_eq rfl caps args H
theorem a59p (args : List AV) : (lim aprog).pcall 59 args = pbodyA (lim aprog) a59 args := lim_pcall_eq rfl args
theorem a59i (caps args : List AV) (H : Heap) : (lim aprog).icall (.func 59 caps) args H = bodyA (lim aprog) a59 (args ++ caps) H := lim_fcall_eq rfl caps args H
theorem a60p (args : List AV) : (lim aprog).pcall 60 args = pbodyA (lim aprog) a60 args := lim_pcall_eq rfl args
theorem a60i (caps args : List AV) (H : Heap) : (lim aprog).icall (.func 60 caps) args H = bodyA (lim aprog) a60 (args ++ caps) H := lim_fcall_eq rfl caps args H
theorem a61p (args : List AV) : (lim aprog).pcall 61 args = pbodyA (lim aprog) a61 args := lim_pcall_eq rfl args
theorem a61i (caps args : List AV) (H : Heap) : (lim aprog).icall (.func 61 caps) args H = bodyA (lim aprog) a61 (args ++ caps) H := lim_fcall_eq rfl caps args H
theorem a65p (args : List AV) : (lim aprog).pcall 65 args = pbodyA (lim aprog) a65 args := lim_pcall_eq rfl args
theorem a65i (caps args : List AV) (H : Heap) : (lim aprog).icall (.func 65 caps) args H = bodyA (lim aprog) a65 (args ++ caps) H := lim_fcall_eq rfl caps args H
theorem a66p (args : List AV) : (lim aprog).pcall 66 args = pbodyA (lim aprog) a66 args := lim_pcall_eq rfl args
theorem a66i (caps args : List AV) (H : Heap) : (lim aprog).icall (.func 66 caps) args H = bodyA (lim aprog) a66 (args ++ caps) H := lim_fcall_eq rfl caps args H
theorem a67p (args : List AV) : (lim aprog).pcall 67 args = pbodyA (lim aprog) a67 args := lim_pcall_eq rfl args
theorem a67i (caps args : List AV) (H : Heap) : (lim aprog).icall (.func 67 caps) args H = bodyA (lim aprog) a67 (args ++ caps) H := lim_fcall_eq rfl caps args H
theorem a68p (args : List AV) : (lim aprog).pcall 68 args = pbodyA (lim aprog) a68 args := lim_pcall_eq rfl args
theorem a68i (caps args : List AV) (H : Heap) : (lim aprog).icall (.func 68 caps) args H = bodyA (lim aprog) a68 (args ++ caps) H := lim_fcall_eq rfl caps args H
theorem a69p (args : List AV) : (lim aprog).pcall 69 args = pbodyA (lim aprog) a69 args := lim_pcall_eq rfl args
theorem a69i (caps args : List AV) (H : Heap) : (lim aprog).icall (.func 69 caps) args H = bodyA (lim aprog) a69 (args ++ caps) H := lim_fcall_eq rfl caps args H
theorem a70p (args : List AV) : (lim aprog).pcall 70 args = pbodyA (lim aprog) a70 args := lim_pcall_eq rfl args
theorem a70i (caps args : List AV) (H : Heap) : (lim aprog).icall (.func 70 caps) args H = bodyA (lim aprog) a70 (args ++ caps) H := lim_fcall_eq rfl caps args H
theorem a71p (args : List AV) : (lim aprog).pcall 71 args = pbodyA (lim aprog) a71 args := lim_pcall_eq rfl args
theorem a71i (caps args : List AV) (H : Heap) : (lim aprog).icall (.func 71 caps) args H = bodyA (lim aprog) a71 (args ++ caps) H := lim_fcall_eq rfl caps args H
theorem a72p (args : List AV) : (lim aprog).pcall 72 args = pbodyA (lim aprog) a72 args := lim_pcall_eq rfl args
theorem a72i (caps args : List AV) (H : Heap) : (lim aprog).icall (.func 72 caps) args H = bodyA (lim aprog) a72 (args ++ caps) H := lim_fcall_eq rfl caps args H
theorem a74p (args : List AV) : (lim aprog).pcall 74 args = pbodyA (lim aprog) a74 args := lim_pcall_eq rfl args
theorem a74i (caps args : List AV) (H : Heap) : (lim aprog).icall (.func 74 caps) args H = bodyA (lim aprog) a74 (args ++ caps) H := lim_fcall_eq rfl caps args H
theorem a75p (args : List AV) : (lim aprog).pcall 75 args = pbodyA (lim aprog) a75 args := lim_pcall_eq rfl args
theorem a75i (caps args : List AV) (H : Heap) : (lim aprog).icall (.func 75 caps) args H = bodyA (lim aprog) a75 (args ++ caps) H := lim_fcall_eq rfl caps args H
theorem a76p (args : List AV) : (lim aprog).pcall 76 args = pbodyA (lim aprog) a76 args := lim_pcall_eq rfl args
theorem a76i (caps args : List AV) (H : Heap) : (lim aprog).icall (.func 76 caps) args H = bodyA (lim aprog) a76 (args ++ caps) H := lim_fcall_eq rfl caps args H
theorem a77p (args : List AV) : (lim aprog).pcall 77 args = pbodyA (lim aprog) a77 args := lim_pcall_eq rfl args
theorem a77i (caps args : List AV) (H : Heap) : (lim aprog).icall (.func 77 caps) args H = bodyA (lim aprog) a77 (args ++ caps) H := lim_fcall_eq rfl caps args H
theorem a80p (args : List AV) : (lim aprog).pcall 80 args = pbodyA (lim aprog) a80 args := lim_pcall_eq rfl args
theorem a80i (caps args : List AV) (H : Heap) : (lim aprog).icall (.func 80 caps) args H = bodyA (lim aprog) a80 (args ++ caps) H := lim_fcall_eq rfl caps args H
theorem a83p (args : List AV) : (lim aprog).pcall 83 args = pbodyA (lim aprog) a83 args := lim_pcall_eq rfl args
theorem a83i (caps args : List AV) (H : Heap) : (lim aprog).icall (.func 83 caps) args H = bodyA (lim aprog) a83 (args ++ caps) H := lim_fcall_eq rfl caps args H
theorem a85p (args : List AV) : (lim aprog).pcall 85 args = pbodyA (lim aprog) a85 args := lim_pcall_eq rfl args
theorem a85i (caps args : List AV) (H : Heap) : (lim aprog).icall (.func 85 caps) args H = bodyA (lim aprog) a85 (args ++ caps) H := lim_fcall_eq rfl caps args H
theorem a90p (args : List AV) : (lim aprog).pcall 90 args = pbodyA (lim aprog) a90 args := lim_pcall_eq rfl args
theorem a90i (caps args : List AV) (H : Heap) : (lim aprog).icall (.func 90 caps) args H = bodyA (lim aprog) a90 (args ++ caps) H := lim_fcall_eq rfl caps args H
theorem a91p (args : List AV) : (lim aprog).pcall 91 args = pbodyA (lim aprog) a91 args := lim_pcall_eq rfl args
theorem a91i (caps args : List AV) (H : Heap) : (lim aprog).icall (.func 91 caps) args H = bodyA (lim aprog) a91 (args ++ caps) H := lim_fcall_eq rfl caps args H
theorem a92p (args : List AV) : (lim aprog).pcall 92 args = pbodyA (lim aprog) a92 args := lim_pcall_eq rfl args
theorem a92i (caps args : List AV) (H : Heap) : (lim aprog).icall (.func 92 caps) args H = bodyA (lim aprog) a92 (args ++ caps) H := lim_fcall_eq rfl caps args H
theorem a94p (args : List AV) : (lim aprog).pcall 94 args = pbodyA (lim aprog) a94 args := lim_pcall_eq rfl args
theorem a94i (caps args : List AV) (H : Heap) : (lim aprog).icall (.func 94 caps) args H = bodyA (lim aprog) a94 (args ++ caps) H := lim_fcall_eq rfl caps args H
theorem a95p (args : List AV) : (lim aprog).pcall 95 args = pbodyA (lim aprog) a95 args := lim_pcall_eq rfl args
theorem a95i (caps args : List AV) (H : Heap) : (lim aprog).icall (.func 95 caps) args H = bodyA (lim aprog) a95 (args ++ caps) H := lim_fcall_eq rfl caps args H
theorem a96p (args : List AV) : (lim aprog).pcall 96 args = pbodyA (lim aprog) a96 args := lim_pcall_eq rfl args
theorem a96i (caps args : List AV) (H : Heap) : (lim aprog).icall (.func 96 caps) args H = bodyA (lim aprog) a96 (args ++ caps) H := lim_fcall_eq rfl caps args H
theorem a99p (args : List AV) : (lim aprog).pcall 99 args = pbodyA (lim aprog) a99 args := lim_pcall_eq rfl args
theorem a99i (caps args : List AV) (H : Heap) : (lim aprog).icall (.func 99 caps) args H = bodyA (lim aprog) a99 (args ++ caps) H := lim_fcall_eq rfl caps args H
end Go.Abs.Mealy
