/- The functions in the interpreter's words. -/
import Derived.Test.YtbfnjdhafgnlnaaDoorAbsEnc
import Derived.Test.YtbfnjdhafgnlnaaDoorProg
namespace Go.Abs.NfaD
open Go Go.Abs
def xYQ : ACode :=
 .seq (.region [⟨some 89,.bin .lss (.t 88) (.t 87),none⟩])
 (.seq (.cond (.t 89)
 (.skip)
 (.exit 0))
 (.seq (.block 1 (.seq (.region [⟨some 90,.iaddr 6 (.t 86) (.t 88),none⟩,
 ⟨some 91,.load true 6 (.t 90),none⟩,
 ⟨some 2,.box (.c (.agg [.int .i64 0,.int .i64 0,.sl true 0 [],.sl true 0 [],.sl true 0 [],.int .i64 0])),none⟩,
 ⟨none,.store 6 (.t 2) (.t 91),none⟩])
 (.seq (.region [⟨some 93,.faddr 0 (.t 2),none⟩,
 ⟨some 94,.load true 5 (.t 93),none⟩,
 ⟨some 95,.call 25 [(.t 94),(.c (.sl true 0 []))],none⟩,
 ⟨some 92,.mov (.t 95),none⟩,
 ⟨some 96,.ext 0 (.t 92),none⟩,
 ⟨some 97,.ext 1 (.t 92),none⟩,
 ⟨some 3,.mov (.t 96),none⟩,
 ⟨some 4,.mov (.t 97),none⟩])
 (.seq (.region [⟨some 99,.faddr 0 (.t 2),none⟩,
 ⟨some 100,.load true 5 (.t 99),none⟩,
 ⟨some 101,.call 17 [(.t 100)],none⟩,
 ⟨some 98,.mov (.t 101),none⟩,
 ⟨some 102,.ext 0 (.t 98),none⟩,
 ⟨some 103,.ext 1 (.t 98),none⟩,
 ⟨some 5,.box (.c (.agg [.int .i64 0,.int .i64 0,.sl true 0 [],.sl true 0 [],.sl true 0 []])),none⟩,
 ⟨none,.store 5 (.t 5) (.t 102),none⟩,
 ⟨some 6,.mov (.t 103),none⟩])
 (.seq (.region [⟨some 105,.faddr 0 (.t 2),none⟩,
 ⟨some 106,.load true 5 (.t 105),none⟩,
 ⟨some 107,.build [.int .i64 0,.int .i64 0,.sl true 0 [],.sl true 0 [],.sl true 0 []] [],none⟩,
 ⟨some 108,.call 19 [(.t 106),(.t 107)],none⟩,
 ⟨some 104,.mov (.t 108),none⟩,
 ⟨some 109,.ext 0 (.t 104),none⟩,
 ⟨some 110,.ext 1 (.t 104),none⟩,
 ⟨some 7,.box (.c (.agg [.int .i64 0,.int .i64 0,.sl true 0 [],.sl true 0 [],.sl true 0 []])),none⟩,
 ⟨none,.store 5 (.t 7) (.t 109),none⟩,
 ⟨some 8,.mov (.t 110),none⟩])
 (.seq (.region [⟨some 112,.build [.int .i64 0,.int .i64 0,.sl true 0 [],.sl true 0 [],.sl true 0 []] [],none⟩,
 ⟨some 113,.faddr 0 (.t 2),none⟩,
 ⟨some 114,.load true 5 (.t 113),none⟩,
 ⟨some 115,.call 19 [(.t 112),(.t 114)],none⟩,
 ⟨some 111,.mov (.t 115),none⟩,
 ⟨some 116,.ext 0 (.t 111),none⟩,
 ⟨some 117,.ext 1 (.t 111),none⟩,
 ⟨some 9,.box (.c (.agg [.int .i64 0,.int .i64 0,.sl true 0 [],.sl true 0 [],.sl true 0 []])),none⟩,
 ⟨none,.store 5 (.t 9) (.t 116),none⟩,
 ⟨some 10,.mov (.t 117),none⟩])
 (.seq (.draw 29 [⟨some 118,.faddr 0 (.t 2),none⟩,
 ⟨some 119,.load true 5 (.t 118),none⟩,
 ⟨some 120,.call 26 [(.t 119)],none⟩,
 ⟨some 121,.faddr 5 (.t 2),none⟩,
 ⟨some 122,.load false 1 (.t 121),none⟩,
 ⟨some 123,.bin .neq (.t 120) (.t 122),none⟩,
 ⟨some 124,.mov (.t 123),none⟩,
 ⟨some 125,.mov (.t 4),some (124,false)⟩,
 ⟨some 126,.faddr 5 (.t 2),some (124,false)⟩,
 ⟨some 127,.load false 1 (.t 126),some (124,false)⟩,
 ⟨some 128,.bin .neq (.t 125) (.t 127),some (124,false)⟩,
 ⟨some 129,.pick (.t 124) (.c (.bool true)) (.t 128),none⟩,
 ⟨some 130,.mov (.t 129),none⟩,
 ⟨some 131,.mov (.t 6),some (130,false)⟩,
 ⟨some 132,.faddr 5 (.t 2),some (130,false)⟩,
 ⟨some 133,.load false 1 (.t 132),some (130,false)⟩,
 ⟨some 134,.bin .neq (.t 131) (.t 133),some (130,false)⟩,
 ⟨some 135,.pick (.t 130) (.c (.bool true)) (.t 134),none⟩,
 ⟨some 136,.mov (.t 135),none⟩,
 ⟨some 137,.faddr 5 (.t 2),some (136,false)⟩,
 ⟨some 138,.load false 1 (.t 137),some (136,false)⟩,
 ⟨some 139,.bin .neq (.t 138) (.c (.int .i64 0)),some (136,false)⟩,
 ⟨some 140,.mov (.t 139),some (136,false)⟩,
 ⟨some 141,.mov (.t 8),some (140,true)⟩,
 ⟨some 142,.faddr 5 (.t 2),some (140,true)⟩,
 ⟨some 143,.load false 1 (.t 142),some (140,true)⟩,
 ⟨some 144,.bin .neq (.t 141) (.t 143),some (140,true)⟩,
 ⟨some 145,.mov (.t 144),some (140,true)⟩,
 ⟨some 146,.mov (.t 10),some (145,false)⟩,
 ⟨some 147,.faddr 5 (.t 2),some (145,false)⟩,
 ⟨some 148,.load false 1 (.t 147),some (145,false)⟩,
 ⟨some 149,.bin .neq (.t 146) (.t 148),some (145,false)⟩,
 ⟨some 150,.pick (.t 145) (.c (.bool true)) (.t 149),some (140,true)⟩,
 ⟨some 151,.pick (.t 140) (.t 150) (.c (.bool false)),some (136,false)⟩,
 ⟨some 152,.pick (.t 136) (.c (.bool true)) (.t 151),none⟩])
 (.cond (.t 152)
 (.seq (.region [⟨some 0,.mov (.c (.bool false)),none⟩])
 (.ret))
 (.skip)))))))))
 (.region [⟨some 153,.bin .add (.t 88) (.c (.int .i64 1)),none⟩,
 ⟨some 88,.mov (.t 153),none⟩])))
def xZS : ACode := xYQ
def xYR : List Nat := [1,2,3,4,5,6,7,8,9,10,11,12,13,14,15,16,17,18,19,20,21,22,23,24,25,26,27,28,29,30,31,32,33,34,35,36,37,38,39,40,41,42,43,44,45,46,47,48,49,50,51,52,53,54,55,56,57,58,59,60,61,62,63,64,65,66,67,68,69,70,71,72,73,74,75,76,77,78,79,80,81,82,83,84,85,89,90,91,92,93,94,95,96,97,98,99,100,101,102,103,104,105,106,107,108,109,110,111,112,113,114,115,116,117,118,119,120,121,122,123,124,125,126,127,128,129,130,131,132,133,134,135,136,137,138,139,140,141,142,143,144,145,146,147,148,149,150,151,152,153,154,155,156,157,158,159,160,161,162,163,164,165,166,167,168,169,170,171,172,173,174,175,176,177,178,179,180,181,182,183,184,185,186,187,188,189,190,191,192,193,194,195,196,197,198,199,200,201,202,203,204,205,206,207,208,209,210,211,212,213,214,215,216,217,218,219,220,221,222,223,224,225,226,227,228,229,230,231,232,233,234,235,236,237,238,239,240,241,242,243,244,245,246,247,248,249,250,251,252,253,254]
def a4 : AFunc := ⟨255,
 .seq (.region [⟨some 0,.mov (.c (.bool false)),none⟩])
 (.seq (.seq (.region [⟨some 30,.call 7 [],none⟩,
 ⟨some 31,.un .not (.t 30),none⟩,
 ⟨some 32,.mov (.t 31),none⟩,
 ⟨some 33,.pick (.t 32) (.c (.bool true)) (.c (.bool false)),none⟩,
 ⟨some 34,.mov (.t 33),none⟩,
 ⟨some 35,.pick (.t 34) (.c (.bool true)) (.c (.bool false)),none⟩,
 ⟨some 36,.mov (.t 35),none⟩,
 ⟨some 37,.pick (.t 36) (.c (.bool true)) (.c (.bool false)),none⟩])
 (.cond (.t 37)
 (.seq (.region [⟨some 0,.mov (.c (.bool false)),none⟩])
 (.ret))
 (.skip)))
 (.seq (.seq (.draw 51 [⟨some 38,.build [.int .i64 0,.int .i64 0,.sl true 0 [],.sl true 0 [],.sl true 0 []] [],none⟩,
 ⟨some 39,.build [.int .i64 0,.int .i64 0,.sl true 0 [],.sl true 0 [],.sl true 0 [],.int .i64 0] [(0,5,(.t 38)),(5,1,(.c (.int .i64 0)))],none⟩,
 ⟨some 40,.build [.int .i64 0,.int .i64 0,.sl true 0 [],.sl true 0 [],.sl true 0 []] [(0,1,(.c (.int .i64 (-1)))),(1,1,(.c (.int .i64 (-1))))],none⟩,
 ⟨some 41,.build [.int .i64 0,.int .i64 0,.sl true 0 [],.sl true 0 [],.sl true 0 [],.int .i64 0] [(0,5,(.t 40)),(5,1,(.c (.int .i64 7)))],none⟩,
 ⟨some 42,.build [.int .i64 0,.int .i64 0,.sl true 0 [],.sl true 0 [],.sl true 0 []] [(0,1,(.c (.int .i64 7)))],none⟩,
 ⟨some 43,.build [.int .i64 0,.int .i64 0,.sl true 0 [],.sl true 0 [],.sl true 0 [],.int .i64 0] [(0,5,(.t 42)),(5,1,(.c (.int .i64 7)))],none⟩,
 ⟨some 44,.mkslice true [.int .i64 0,.int .i64 0,.int .u8 0,.int .u8 0] 24 (.c (.int .i64 513)) (.c (.int .i64 513)),none⟩,
 ⟨some 45,.build [.int .i64 0,.int .i64 0,.sl true 0 [],.sl true 0 [],.sl true 0 []] [(1,1,(.c (.int .i64 (-1)))),(4,1,(.t 44))],none⟩,
 ⟨some 46,.build [.int .i64 0,.int .i64 0,.sl true 0 [],.sl true 0 [],.sl true 0 [],.int .i64 0] [(0,5,(.t 45)),(5,1,(.c (.int .i64 1)))],none⟩,
 ⟨some 47,.mkslice true [.int .i64 0,.int .i64 0,.int .u8 0,.int .u8 0] 24 (.c (.int .i64 512)) (.c (.int .i64 512)),none⟩,
 ⟨some 48,.build [.int .i64 0,.int .i64 0,.sl true 0 [],.sl true 0 [],.sl true 0 []] [(1,1,(.c (.int .i64 64))),(4,1,(.t 47))],none⟩,
 ⟨some 49,.build [.int .i64 0,.int .i64 0,.sl true 0 [],.sl true 0 [],.sl true 0 [],.int .i64 0] [(0,5,(.t 48)),(5,1,(.c (.int .i64 0)))],none⟩,
 ⟨some 50,.bslice true [.int .i64 0] 1 1 [(0,(.c (.int .i64 (-1))))],none⟩,
 ⟨some 51,.build [.int .i64 0,.int .i64 0,.sl true 0 [],.sl true 0 [],.sl true 0 []] [(1,1,(.c (.int .i64 65))),(2,1,(.t 50))],none⟩,
 ⟨some 52,.build [.int .i64 0,.int .i64 0,.sl true 0 [],.sl true 0 [],.sl true 0 [],.int .i64 0] [(0,5,(.t 51)),(5,1,(.c (.int .i64 4)))],none⟩,
 ⟨some 53,.mkslice true [.int .i64 0,.int .i64 0,.int .u8 0,.int .u8 0] 24 (.c (.int .i64 513)) (.c (.int .i64 513)),none⟩,
 ⟨some 54,.build [.int .i64 0,.int .i64 0,.sl true 0 [],.sl true 0 [],.sl true 0 []] [(1,1,(.c (.int .i64 1))),(4,1,(.t 53))],none⟩,
 ⟨some 55,.build [.int .i64 0,.int .i64 0,.sl true 0 [],.sl true 0 [],.sl true 0 [],.int .i64 0] [(0,5,(.t 54)),(5,1,(.c (.int .i64 4)))],none⟩,
 ⟨some 56,.bslice true [.int .i64 0] 1 2 [(0,(.c (.int .i64 1))),(1,(.c (.int .i64 1)))],none⟩,
 ⟨some 57,.build [.int .i64 0,.int .i64 0,.sl true 0 [],.sl true 0 [],.sl true 0 []] [(1,1,(.c (.int .i64 2))),(2,1,(.t 56))],none⟩,
 ⟨some 58,.build [.int .i64 0,.int .i64 0,.sl true 0 [],.sl true 0 [],.sl true 0 [],.int .i64 0] [(0,5,(.t 57)),(5,1,(.c (.int .i64 8)))],none⟩,
 ⟨some 59,.bslice true [.int .i64 0] 1 2 [(0,(.c (.int .i64 1))),(1,(.c (.int .i64 0)))],none⟩,
 ⟨some 60,.build [.int .i64 0,.int .i64 0,.sl true 0 [],.sl true 0 [],.sl true 0 []] [(1,1,(.c (.int .i64 2))),(3,1,(.t 59))],none⟩,
 ⟨some 61,.build [.int .i64 0,.int .i64 0,.sl true 0 [],.sl true 0 [],.sl true 0 [],.int .i64 0] [(0,5,(.t 60)),(5,1,(.c (.int .i64 8)))],none⟩,
 ⟨some 62,.bslice true [.int .i64 0] 1 1 [(0,(.c (.int .i64 2)))],none⟩,
 ⟨some 63,.build [.int .i64 0,.int .i64 0,.sl true 0 [],.sl true 0 [],.sl true 0 []] [(1,1,(.c (.int .i64 2))),(3,1,(.t 62))],none⟩,
 ⟨some 64,.build [.int .i64 0,.int .i64 0,.sl true 0 [],.sl true 0 [],.sl true 0 [],.int .i64 0] [(0,5,(.t 63)),(5,1,(.c (.int .i64 8)))],none⟩,
 ⟨some 65,.bslice true [.int .i64 0] 1 2 [(0,(.c (.int .i64 0))),(1,(.c (.int .i64 1)))],none⟩,
 ⟨some 66,.bslice true [.int .i64 0] 1 2 [(0,(.c (.int .i64 0))),(1,(.c (.int .i64 1)))],none⟩,
 ⟨some 67,.build [.int .i64 0,.int .i64 0,.sl true 0 [],.sl true 0 [],.sl true 0 []] [(1,1,(.c (.int .i64 2))),(2,1,(.t 65)),(3,1,(.t 66))],none⟩,
 ⟨some 68,.build [.int .i64 0,.int .i64 0,.sl true 0 [],.sl true 0 [],.sl true 0 [],.int .i64 0] [(0,5,(.t 67)),(5,1,(.c (.int .i64 0)))],none⟩,
 ⟨some 69,.build [.int .i64 0,.int .i64 0,.int .u8 0,.int .u8 0] [(0,1,(.c (.int .i64 2))),(2,1,(.c (.int .u8 1))),(3,1,(.c (.int .u8 1)))],none⟩,
 ⟨some 70,.bslice true [.int .i64 0,.int .i64 0,.int .u8 0,.int .u8 0] 4 1 [(0,(.t 69))],none⟩,
 ⟨some 71,.build [.int .i64 0,.int .i64 0,.sl true 0 [],.sl true 0 [],.sl true 0 []] [(1,1,(.c (.int .i64 2))),(4,1,(.t 70))],none⟩,
 ⟨some 72,.build [.int .i64 0,.int .i64 0,.sl true 0 [],.sl true 0 [],.sl true 0 [],.int .i64 0] [(0,5,(.t 71)),(5,1,(.c (.int .i64 8)))],none⟩,
 ⟨some 73,.build [.int .i64 0,.int .i64 0,.int .u8 0,.int .u8 0] [(1,1,(.c (.int .i64 (-1))))],none⟩,
 ⟨some 74,.bslice true [.int .i64 0,.int .i64 0,.int .u8 0,.int .u8 0] 4 1 [(0,(.t 73))],none⟩,
 ⟨some 75,.build [.int .i64 0,.int .i64 0,.sl true 0 [],.sl true 0 [],.sl true 0 []] [(1,1,(.c (.int .i64 2))),(4,1,(.t 74))],none⟩,
 ⟨some 76,.build [.int .i64 0,.int .i64 0,.sl true 0 [],.sl true 0 [],.sl true 0 [],.int .i64 0] [(0,5,(.t 75)),(5,1,(.c (.int .i64 8)))],none⟩,
 ⟨some 77,.build [.int .i64 0,.int .i64 0,.int .u8 0,.int .u8 0] [(2,1,(.c (.int .u8 1))),(3,1,(.c (.int .u8 1)))],none⟩,
 ⟨some 78,.build [.int .i64 0,.int .i64 0,.int .u8 0,.int .u8 0] [(1,1,(.c (.int .i64 2)))],none⟩,
 ⟨some 79,.bslice true [.int .i64 0,.int .i64 0,.int .u8 0,.int .u8 0] 4 2 [(0,(.t 77)),(1,(.t 78))],none⟩,
 ⟨some 80,.build [.int .i64 0,.int .i64 0,.sl true 0 [],.sl true 0 [],.sl true 0 []] [(1,1,(.c (.int .i64 2))),(4,1,(.t 79))],none⟩,
 ⟨some 81,.build [.int .i64 0,.int .i64 0,.sl true 0 [],.sl true 0 [],.sl true 0 [],.int .i64 0] [(0,5,(.t 80)),(5,1,(.c (.int .i64 7)))],none⟩,
 ⟨some 82,.build [.int .i64 0,.int .i64 0,.int .u8 0,.int .u8 0] [(2,1,(.c (.int .u8 1))),(3,1,(.c (.int .u8 1)))],none⟩,
 ⟨some 83,.bslice true [.int .i64 0,.int .i64 0,.int .u8 0,.int .u8 0] 4 1 [(0,(.t 82))],none⟩,
 ⟨some 84,.build [.int .i64 0,.int .i64 0,.sl true 0 [],.sl true 0 [],.sl true 0 []] [(0,1,(.c (.int .i64 1))),(1,1,(.c (.int .i64 2))),(4,1,(.t 83))],none⟩,
 ⟨some 85,.build [.int .i64 0,.int .i64 0,.sl true 0 [],.sl true 0 [],.sl true 0 [],.int .i64 0] [(0,5,(.t 84)),(5,1,(.c (.int .i64 2)))],none⟩,
 ⟨some 86,.bslice true [.int .i64 0,.int .i64 0,.sl true 0 [],.sl true 0 [],.sl true 0 [],.int .i64 0] 6 15 [(0,(.t 39)),(1,(.t 41)),(2,(.t 43)),(3,(.t 46)),(4,(.t 49)),(5,(.t 52)),(6,(.t 55)),(7,(.t 58)),(8,(.t 61)),(9,(.t 64)),(10,(.t 68)),(11,(.t 72)),(12,(.t 76)),(13,(.t 81)),(14,(.t 85))],none⟩,
 ⟨some 87,.len (.t 86),none⟩,
 ⟨some 88,.mov (.c (.int .i64 0)),none⟩])
 (.block 0 (.loop xYR xZS)))
 (.seq (.region [⟨some 154,.call 27 [],none⟩,
 ⟨some 11,.box (.c (.agg [.int .i64 0,.int .i64 0,.sl true 0 [],.sl true 0 [],.sl true 0 []])),none⟩,
 ⟨none,.store 5 (.t 11) (.t 154),none⟩])
 (.seq (.draw 6 [⟨some 156,.load true 5 (.t 11),none⟩,
 ⟨some 157,.mkslice true [.int .u8 0] 1 (.c (.int .i64 64)) (.c (.int .i64 64)),none⟩,
 ⟨some 158,.call 25 [(.t 156),(.t 157)],none⟩,
 ⟨some 155,.mov (.t 158),none⟩,
 ⟨some 159,.ext 0 (.t 155),none⟩,
 ⟨some 160,.ext 1 (.t 155),none⟩,
 ⟨some 12,.mov (.t 159),none⟩,
 ⟨some 13,.mov (.t 160),none⟩])
 (.seq (.drawp [] [(11,(5,(163,0)))] 3 [⟨some 162,.load true 5 (.t 11),none⟩,
 ⟨some 163,.mkslice false [.int .u8 0] 1 (.c (.int .i64 64)) (.c (.int .i64 64)),none⟩,
 ⟨some 164,.bslice true [.int .u8 0] 1 1 [(0,(.c (.int .u8 2)))],none⟩,
 ⟨some 165,.append false 1 1 (.t 163) (.t 164),none⟩,
 ⟨some 166,.call 25 [(.t 162),(.t 165)],none⟩,
 ⟨some 161,.mov (.t 166),none⟩,
 ⟨some 167,.ext 0 (.t 161),none⟩,
 ⟨some 168,.ext 1 (.t 161),none⟩,
 ⟨some 14,.mov (.t 167),none⟩,
 ⟨some 15,.mov (.t 168),none⟩])
 (.seq (.region [⟨some 170,.load true 5 (.t 11),none⟩,
 ⟨some 171,.bslice true [.int .u8 0] 1 2 [(0,(.c (.int .u8 0))),(1,(.c (.int .u8 2)))],none⟩,
 ⟨some 172,.call 25 [(.t 170),(.t 171)],none⟩,
 ⟨some 169,.mov (.t 172),none⟩,
 ⟨some 173,.ext 0 (.t 169),none⟩,
 ⟨some 174,.ext 1 (.t 169),none⟩,
 ⟨some 16,.mov (.t 173),none⟩,
 ⟨some 17,.mov (.t 174),none⟩])
 (.seq (.region [⟨some 176,.load true 5 (.t 11),none⟩,
 ⟨some 177,.bslice true [.int .u64 0] 1 1 [(0,(.c (.int .u64 1)))],none⟩,
 ⟨some 178,.call 28 [(.t 176),(.t 177),(.c (.int .u8 2))],none⟩,
 ⟨some 175,.mov (.t 178),none⟩,
 ⟨some 179,.ext 0 (.t 175),none⟩,
 ⟨some 180,.ext 1 (.t 175),none⟩,
 ⟨some 18,.mov (.t 179),none⟩,
 ⟨some 19,.mov (.t 180),none⟩])
 (.seq (.region [⟨some 182,.load true 5 (.t 11),none⟩,
 ⟨some 183,.build [.int .i64 0,.int .i64 0,.sl true 0 [],.sl true 0 [],.sl true 0 []] [(0,1,(.c (.int .i64 2)))],none⟩,
 ⟨some 184,.call 19 [(.t 182),(.t 183)],none⟩,
 ⟨some 181,.mov (.t 184),none⟩,
 ⟨some 185,.ext 0 (.t 181),none⟩,
 ⟨some 186,.ext 1 (.t 181),none⟩,
 ⟨some 20,.box (.c (.agg [.int .i64 0,.int .i64 0,.sl true 0 [],.sl true 0 [],.sl true 0 []])),none⟩,
 ⟨none,.store 5 (.t 20) (.t 185),none⟩,
 ⟨some 21,.mov (.t 186),none⟩])
 (.seq (.region [⟨some 188,.build [.int .i64 0,.int .i64 0,.sl true 0 [],.sl true 0 [],.sl true 0 []] [(0,1,(.c (.int .i64 1))),(1,1,(.c (.int .i64 62)))],none⟩,
 ⟨some 189,.load true 5 (.t 11),none⟩,
 ⟨some 190,.call 19 [(.t 188),(.t 189)],none⟩,
 ⟨some 187,.mov (.t 190),none⟩,
 ⟨some 191,.ext 0 (.t 187),none⟩,
 ⟨some 192,.ext 1 (.t 187),none⟩,
 ⟨some 22,.box (.c (.agg [.int .i64 0,.int .i64 0,.sl true 0 [],.sl true 0 [],.sl true 0 []])),none⟩,
 ⟨none,.store 5 (.t 22) (.t 191),none⟩,
 ⟨some 23,.mov (.t 192),none⟩])
 (.seq (.region [⟨some 194,.build [.int .i64 0,.int .i64 0,.sl true 0 [],.sl true 0 [],.sl true 0 []] [(0,1,(.c (.int .i64 1))),(1,1,(.c (.int .i64 61)))],none⟩,
 ⟨some 195,.load true 5 (.t 11),none⟩,
 ⟨some 196,.call 19 [(.t 194),(.t 195)],none⟩,
 ⟨some 193,.mov (.t 196),none⟩,
 ⟨some 197,.ext 0 (.t 193),none⟩,
 ⟨some 198,.ext 1 (.t 193),none⟩,
 ⟨some 24,.box (.c (.agg [.int .i64 0,.int .i64 0,.sl true 0 [],.sl true 0 [],.sl true 0 []])),none⟩,
 ⟨none,.store 5 (.t 24) (.t 197),none⟩,
 ⟨some 25,.mov (.t 198),none⟩])
 (.seq (.draw 8 [⟨some 200,.mkslice true [.int .i64 0,.int .i64 0,.int .u8 0,.int .u8 0] 24 (.c (.int .i64 510)) (.c (.int .i64 510)),none⟩,
 ⟨some 201,.build [.int .i64 0,.int .i64 0,.sl true 0 [],.sl true 0 [],.sl true 0 []] [(0,1,(.c (.int .i64 1))),(1,1,(.c (.int .i64 1))),(4,1,(.t 200))],none⟩,
 ⟨some 202,.load true 5 (.t 11),none⟩,
 ⟨some 203,.call 19 [(.t 201),(.t 202)],none⟩,
 ⟨some 199,.mov (.t 203),none⟩,
 ⟨some 204,.ext 0 (.t 199),none⟩,
 ⟨some 205,.ext 1 (.t 199),none⟩,
 ⟨some 26,.box (.c (.agg [.int .i64 0,.int .i64 0,.sl true 0 [],.sl true 0 [],.sl true 0 []])),none⟩,
 ⟨none,.store 5 (.t 26) (.t 204),none⟩,
 ⟨some 27,.mov (.t 205),none⟩])
 (.seq (.region [⟨some 207,.load true 5 (.t 11),none⟩,
 ⟨some 208,.bslice true [.int .u64 0] 1 1 [(0,(.c (.int .u64 9223372036854775809)))],none⟩,
 ⟨some 209,.call 28 [(.t 207),(.t 208),(.c (.int .u8 1))],none⟩,
 ⟨some 206,.mov (.t 209),none⟩,
 ⟨some 210,.ext 0 (.t 206),none⟩,
 ⟨some 211,.ext 1 (.t 206),none⟩,
 ⟨some 28,.mov (.t 210),none⟩,
 ⟨some 29,.mov (.t 211),none⟩])
 (.seq (.region [⟨some 212,.mov (.t 12),none⟩,
 ⟨some 213,.un .not (.t 212),none⟩,
 ⟨some 214,.mov (.t 213),none⟩,
 ⟨some 215,.mov (.t 13),some (214,true)⟩,
 ⟨some 216,.bin .eql (.t 215) (.c (.int .i64 0)),some (214,true)⟩,
 ⟨some 217,.pick (.t 214) (.t 216) (.c (.bool false)),none⟩,
 ⟨some 218,.mov (.t 217),none⟩,
 ⟨some 219,.mov (.t 15),some (218,true)⟩,
 ⟨some 220,.bin .eql (.t 219) (.c (.int .i64 4)),some (218,true)⟩,
 ⟨some 221,.pick (.t 218) (.t 220) (.c (.bool false)),none⟩,
 ⟨some 222,.mov (.t 221),none⟩,
 ⟨some 223,.mov (.t 17),some (222,true)⟩,
 ⟨some 224,.bin .eql (.t 223) (.c (.int .i64 1)),some (222,true)⟩,
 ⟨some 225,.pick (.t 222) (.t 224) (.c (.bool false)),none⟩,
 ⟨some 226,.mov (.t 225),none⟩,
 ⟨some 227,.mov (.t 19),some (226,true)⟩,
 ⟨some 228,.bin .eql (.t 227) (.c (.int .i64 1)),some (226,true)⟩,
 ⟨some 229,.pick (.t 226) (.t 228) (.c (.bool false)),none⟩,
 ⟨some 230,.mov (.t 229),none⟩,
 ⟨some 231,.mov (.t 21),some (230,true)⟩,
 ⟨some 232,.bin .eql (.t 231) (.c (.int .i64 7)),some (230,true)⟩,
 ⟨some 233,.pick (.t 230) (.t 232) (.c (.bool false)),none⟩,
 ⟨some 234,.mov (.t 233),none⟩,
 ⟨some 235,.mov (.t 23),some (234,true)⟩,
 ⟨some 236,.bin .eql (.t 235) (.c (.int .i64 4)),some (234,true)⟩,
 ⟨some 237,.pick (.t 234) (.t 236) (.c (.bool false)),none⟩,
 ⟨some 238,.mov (.t 237),none⟩,
 ⟨some 239,.mov (.t 25),some (238,true)⟩,
 ⟨some 240,.bin .eql (.t 239) (.c (.int .i64 0)),some (238,true)⟩,
 ⟨some 241,.pick (.t 238) (.t 240) (.c (.bool false)),none⟩,
 ⟨some 242,.mov (.t 241),none⟩,
 ⟨some 243,.mov (.t 27),some (242,true)⟩,
 ⟨some 244,.bin .eql (.t 243) (.c (.int .i64 4)),some (242,true)⟩,
 ⟨some 245,.pick (.t 242) (.t 244) (.c (.bool false)),none⟩,
 ⟨some 246,.mov (.t 245),none⟩,
 ⟨some 247,.mov (.t 29),some (246,true)⟩,
 ⟨some 248,.bin .eql (.t 247) (.c (.int .i64 0)),some (246,true)⟩,
 ⟨some 249,.pick (.t 246) (.t 248) (.c (.bool false)),none⟩,
 ⟨some 250,.mov (.t 249),none⟩,
 ⟨some 251,.mov (.t 28),some (250,true)⟩,
 ⟨some 252,.bslice true [.int .u64 0] 1 1 [(0,(.c (.int .u64 3)))],some (250,true)⟩,
 ⟨some 253,.call 20 [(.t 251),(.t 252)],some (250,true)⟩,
 ⟨some 254,.pick (.t 250) (.t 253) (.c (.bool false)),none⟩,
 ⟨some 0,.mov (.t 254),none⟩])
 (.ret)))))))))))))),
 [.tmp 0]⟩
def a5 : AFunc := ⟨117,
 .seq (.region [⟨some 2,.box (.t 0),none⟩,
 ⟨some 4,.mov (.c (.bool false)),none⟩])
 (.seq (.seq (.region [⟨some 17,.load true 5 (.t 2),none⟩,
 ⟨some 18,.bslice true [.int .i64 0,.int .i64 0,.sl true 0 [],.sl true 0 [],.sl true 0 []] 5 1 [(0,(.t 17))],none⟩,
 ⟨some 19,.call 6 [(.t 18)],none⟩,
 ⟨some 20,.mov (.t 19),none⟩,
 ⟨some 21,.mov (.t 1),some (20,false)⟩,
 ⟨some 22,.len (.t 21),some (20,false)⟩,
 ⟨some 23,.bin .gtr (.t 22) (.c (.int .i64 100)),some (20,false)⟩,
 ⟨some 24,.pick (.t 20) (.c (.bool true)) (.t 23),none⟩,
 ⟨some 25,.mov (.t 24),none⟩,
 ⟨some 26,.call 7 [],some (25,false)⟩,
 ⟨some 27,.un .not (.t 26),some (25,false)⟩,
 ⟨some 28,.pick (.t 25) (.c (.bool true)) (.t 27),none⟩])
 (.cond (.t 28)
 (.seq (.region [⟨some 29,.call 7 [],none⟩,
 ⟨some 4,.mov (.t 29),none⟩])
 (.ret))
 (.skip)))
 (.seq (.region [⟨some 31,.load true 5 (.t 2),none⟩,
 ⟨some 32,.call 17 [(.t 31)],none⟩,
 ⟨some 30,.mov (.t 32),none⟩,
 ⟨some 33,.ext 0 (.t 30),none⟩,
 ⟨some 34,.ext 1 (.t 30),none⟩,
 ⟨some 5,.box (.c (.agg [.int .i64 0,.int .i64 0,.sl true 0 [],.sl true 0 [],.sl true 0 []])),none⟩,
 ⟨none,.store 5 (.t 5) (.t 33),none⟩,
 ⟨some 6,.mov (.t 34),none⟩])
 (.seq (.region [⟨some 36,.load true 5 (.t 2),none⟩,
 ⟨some 37,.mov (.t 1),none⟩,
 ⟨some 38,.call 25 [(.t 36),(.t 37)],none⟩,
 ⟨some 35,.mov (.t 38),none⟩,
 ⟨some 39,.ext 0 (.t 35),none⟩,
 ⟨some 40,.ext 1 (.t 35),none⟩,
 ⟨some 7,.mov (.t 39),none⟩,
 ⟨some 8,.mov (.t 40),none⟩])
 (.seq (.region [⟨some 42,.load true 5 (.t 5),none⟩,
 ⟨some 43,.mov (.t 1),none⟩,
 ⟨some 44,.call 25 [(.t 42),(.t 43)],none⟩,
 ⟨some 41,.mov (.t 44),none⟩,
 ⟨some 45,.ext 0 (.t 41),none⟩,
 ⟨some 46,.ext 1 (.t 41),none⟩,
 ⟨some 9,.mov (.t 45),none⟩,
 ⟨some 10,.mov (.t 46),none⟩])
 (.seq (.seq (.region [⟨some 47,.mov (.t 6),none⟩,
 ⟨some 48,.bin .neq (.t 47) (.c (.int .i64 0)),none⟩])
 (.cond (.t 48)
 (.seq (.region [⟨some 49,.load true 5 (.t 2),none⟩,
 ⟨some 50,.call 26 [(.t 49)],none⟩,
 ⟨some 51,.mov (.t 6),none⟩,
 ⟨some 52,.bin .eql (.t 50) (.t 51),none⟩,
 ⟨some 53,.mov (.t 52),none⟩,
 ⟨some 54,.mov (.t 8),some (53,true)⟩,
 ⟨some 55,.mov (.t 6),some (53,true)⟩,
 ⟨some 56,.bin .eql (.t 54) (.t 55),some (53,true)⟩,
 ⟨some 57,.pick (.t 53) (.t 56) (.c (.bool false)),none⟩,
 ⟨some 58,.mov (.t 57),none⟩,
 ⟨some 59,.faddr 1 (.t 5),some (58,true)⟩,
 ⟨some 60,.load false 1 (.t 59),some (58,true)⟩,
 ⟨some 61,.bin .eql (.t 60) (.c (.int .i64 0)),some (58,true)⟩,
 ⟨some 62,.pick (.t 58) (.t 61) (.c (.bool false)),none⟩,
 ⟨some 4,.mov (.t 62),none⟩])
 (.ret))
 (.skip)))
 (.seq (.region [⟨some 64,.load true 5 (.t 5),none⟩,
 ⟨some 65,.call 17 [(.t 64)],none⟩,
 ⟨some 63,.mov (.t 65),none⟩,
 ⟨some 66,.ext 0 (.t 63),none⟩,
 ⟨some 67,.ext 1 (.t 63),none⟩,
 ⟨some 11,.box (.c (.agg [.int .i64 0,.int .i64 0,.sl true 0 [],.sl true 0 [],.sl true 0 []])),none⟩,
 ⟨none,.store 5 (.t 11) (.t 66),none⟩,
 ⟨some 12,.mov (.t 67),none⟩])
 (.seq (.region [⟨some 69,.load true 5 (.t 5),none⟩,
 ⟨some 70,.call 15 [(.t 69)],none⟩,
 ⟨some 68,.mov (.t 70),none⟩,
 ⟨some 71,.ext 0 (.t 68),none⟩,
 ⟨some 72,.ext 1 (.t 68),none⟩,
 ⟨some 13,.mov (.t 71),none⟩,
 ⟨some 14,.mov (.t 72),none⟩])
 (.seq (.region [⟨some 74,.load true 5 (.t 5),none⟩,
 ⟨some 75,.call 16 [(.t 74)],none⟩,
 ⟨some 73,.mov (.t 75),none⟩,
 ⟨some 76,.ext 0 (.t 73),none⟩,
 ⟨some 77,.ext 1 (.t 73),none⟩,
 ⟨some 15,.mov (.t 76),none⟩,
 ⟨some 16,.mov (.t 77),none⟩])
 (.seq (.draw 37 [⟨some 78,.mov (.t 8),none⟩,
 ⟨some 79,.mov (.t 10),none⟩,
 ⟨some 80,.bin .eql (.t 78) (.t 79),none⟩,
 ⟨some 81,.mov (.t 80),none⟩,
 ⟨some 82,.mov (.t 7),some (81,true)⟩,
 ⟨some 83,.mov (.t 9),some (81,true)⟩,
 ⟨some 84,.beq false (.t 82) (.t 83),some (81,true)⟩,
 ⟨some 85,.pick (.t 81) (.t 84) (.c (.bool false)),none⟩,
 ⟨some 86,.mov (.t 85),none⟩,
 ⟨some 87,.mov (.t 12),some (86,true)⟩,
 ⟨some 88,.bin .eql (.t 87) (.c (.int .i64 0)),some (86,true)⟩,
 ⟨some 89,.pick (.t 86) (.t 88) (.c (.bool false)),none⟩,
 ⟨some 90,.mov (.t 89),none⟩,
 ⟨some 91,.load true 5 (.t 11),some (90,true)⟩,
 ⟨some 92,.load true 5 (.t 5),some (90,true)⟩,
 ⟨some 93,.call 22 [(.t 91),(.t 92)],some (90,true)⟩,
 ⟨some 94,.pick (.t 90) (.t 93) (.c (.bool false)),none⟩,
 ⟨some 95,.mov (.t 94),none⟩,
 ⟨some 96,.mov (.t 14),some (95,true)⟩,
 ⟨some 97,.bin .eql (.t 96) (.c (.int .i64 0)),some (95,true)⟩,
 ⟨some 98,.pick (.t 95) (.t 97) (.c (.bool false)),none⟩,
 ⟨some 99,.mov (.t 98),none⟩,
 ⟨some 100,.mov (.t 16),some (99,true)⟩,
 ⟨some 101,.bin .eql (.t 100) (.c (.int .i64 0)),some (99,true)⟩,
 ⟨some 102,.pick (.t 99) (.t 101) (.c (.bool false)),none⟩,
 ⟨some 103,.mov (.t 102),none⟩,
 ⟨some 104,.mov (.t 13),some (103,true)⟩,
 ⟨some 105,.call 29 [(.t 104)],some (103,true)⟩,
 ⟨some 106,.faddr 1 (.t 5),some (103,true)⟩,
 ⟨some 107,.load false 1 (.t 106),some (103,true)⟩,
 ⟨some 108,.bin .eql (.t 105) (.t 107),some (103,true)⟩,
 ⟨some 109,.pick (.t 103) (.t 108) (.c (.bool false)),none⟩,
 ⟨some 110,.mov (.t 109),none⟩,
 ⟨some 111,.mov (.t 15),some (110,true)⟩,
 ⟨some 112,.call 29 [(.t 111)],some (110,true)⟩,
 ⟨some 113,.faddr 1 (.t 5),some (110,true)⟩,
 ⟨some 114,.load false 1 (.t 113),some (110,true)⟩,
 ⟨some 115,.bin .eql (.t 112) (.t 114),some (110,true)⟩,
 ⟨some 116,.pick (.t 110) (.t 115) (.c (.bool false)),none⟩,
 ⟨some 4,.mov (.t 116),none⟩])
 (.ret)))))))))),
 [.tmp 4]⟩
def xYS : ACode :=
 .seq (.seq (.region [⟨some 4,.mov (.t 3),none⟩,
 ⟨some 5,.mov (.t 0),none⟩,
 ⟨some 6,.len (.t 5),none⟩,
 ⟨some 7,.bin .lss (.t 4) (.t 6),none⟩])
 (.cond (.t 7)
 (.skip)
 (.exit 0)))
 (.seq (.block 1 (.seq (.region [⟨some 10,.mov (.t 0),none⟩,
 ⟨some 11,.mov (.t 3),none⟩,
 ⟨some 12,.iaddr 5 (.t 10) (.t 11),none⟩,
 ⟨some 13,.faddr 2 (.t 12),none⟩,
 ⟨some 14,.load false 1 (.t 13),none⟩,
 ⟨some 15,.len (.t 14),none⟩,
 ⟨some 16,.bin .gtr (.t 15) (.c (.int .i64 100)),none⟩,
 ⟨some 17,.mov (.t 16),none⟩,
 ⟨some 18,.mov (.t 0),some (17,false)⟩,
 ⟨some 19,.mov (.t 3),some (17,false)⟩,
 ⟨some 20,.iaddr 5 (.t 18) (.t 19),some (17,false)⟩,
 ⟨some 21,.faddr 3 (.t 20),some (17,false)⟩,
 ⟨some 22,.load false 1 (.t 21),some (17,false)⟩,
 ⟨some 23,.len (.t 22),some (17,false)⟩,
 ⟨some 24,.bin .gtr (.t 23) (.c (.int .i64 100)),some (17,false)⟩,
 ⟨some 25,.pick (.t 17) (.c (.bool true)) (.t 24),none⟩,
 ⟨some 26,.mov (.t 25),none⟩,
 ⟨some 27,.mov (.t 0),some (26,false)⟩,
 ⟨some 28,.mov (.t 3),some (26,false)⟩,
 ⟨some 29,.iaddr 5 (.t 27) (.t 28),some (26,false)⟩,
 ⟨some 30,.faddr 4 (.t 29),some (26,false)⟩,
 ⟨some 31,.load false 1 (.t 30),some (26,false)⟩,
 ⟨some 32,.len (.t 31),some (26,false)⟩,
 ⟨some 33,.bin .gtr (.t 32) (.c (.int .i64 520)),some (26,false)⟩,
 ⟨some 34,.pick (.t 26) (.c (.bool true)) (.t 33),none⟩])
 (.cond (.t 34)
 (.seq (.region [⟨some 2,.mov (.c (.bool true)),none⟩])
 (.ret))
 (.skip))))
 (.region [⟨some 8,.mov (.t 3),none⟩,
 ⟨some 9,.bin .add (.t 8) (.c (.int .i64 1)),none⟩,
 ⟨some 3,.mov (.t 9),none⟩]))
def xZT : ACode := xYS
def xYT : List Nat := [1,4,5,6,7,8,9,10,11,12,13,14,15,16,17,18,19,20,21,22,23,24,25,26,27,28,29,30,31,32,33,34]
def a6 : AFunc := ⟨35,
 .seq (.region [⟨some 2,.mov (.c (.bool false)),none⟩])
 (.seq (.seq (.region [⟨some 3,.mov (.c (.int .i64 0)),none⟩])
 (.block 0 (.loop xYT xZT)))
 (.seq (.region [⟨some 2,.mov (.c (.bool false)),none⟩])
 (.ret))),
 [.tmp 2]⟩
def a7 : AFunc := ⟨102,
 .seq (.region [⟨some 0,.mov (.c (.bool false)),none⟩])
 (.seq (.region [⟨some 14,.call 27 [],none⟩,
 ⟨some 1,.box (.c (.agg [.int .i64 0,.int .i64 0,.sl true 0 [],.sl true 0 [],.sl true 0 []])),none⟩,
 ⟨none,.store 5 (.t 1) (.t 14),none⟩])
 (.seq (.region [⟨some 16,.load true 5 (.t 1),none⟩,
 ⟨some 17,.bslice true [.int .u8 0] 1 2 [(0,(.c (.int .u8 1))),(1,(.c (.int .u8 0)))],none⟩,
 ⟨some 18,.call 25 [(.t 16),(.t 17)],none⟩,
 ⟨some 15,.mov (.t 18),none⟩,
 ⟨some 19,.ext 0 (.t 15),none⟩,
 ⟨some 20,.ext 1 (.t 15),none⟩,
 ⟨some 2,.mov (.t 19),none⟩,
 ⟨some 3,.mov (.t 20),none⟩])
 (.seq (.region [⟨some 22,.load true 5 (.t 1),none⟩,
 ⟨some 23,.bslice true [.int .u8 0] 1 3 [(0,(.c (.int .u8 0))),(1,(.c (.int .u8 1))),(2,(.c (.int .u8 1)))],none⟩,
 ⟨some 24,.call 25 [(.t 22),(.t 23)],none⟩,
 ⟨some 21,.mov (.t 24),none⟩,
 ⟨some 25,.ext 0 (.t 21),none⟩,
 ⟨some 26,.ext 1 (.t 21),none⟩,
 ⟨some 4,.mov (.t 25),none⟩,
 ⟨some 5,.mov (.t 26),none⟩])
 (.seq (.region [⟨some 28,.load true 5 (.t 1),none⟩,
 ⟨some 29,.bslice true [.int .u8 0] 1 2 [(0,(.c (.int .u8 0))),(1,(.c (.int .u8 1)))],none⟩,
 ⟨some 30,.call 25 [(.t 28),(.t 29)],none⟩,
 ⟨some 27,.mov (.t 30),none⟩,
 ⟨some 31,.ext 0 (.t 27),none⟩,
 ⟨some 32,.ext 1 (.t 27),none⟩,
 ⟨some 6,.mov (.t 31),none⟩,
 ⟨some 7,.mov (.t 32),none⟩])
 (.seq (.region [⟨some 34,.load true 5 (.t 1),none⟩,
 ⟨some 35,.call 25 [(.t 34),(.c (.sl true 0 []))],none⟩,
 ⟨some 33,.mov (.t 35),none⟩,
 ⟨some 36,.ext 0 (.t 33),none⟩,
 ⟨some 37,.ext 1 (.t 33),none⟩,
 ⟨some 8,.mov (.t 36),none⟩,
 ⟨some 9,.mov (.t 37),none⟩])
 (.seq (.region [⟨some 39,.load true 5 (.t 1),none⟩,
 ⟨some 40,.bslice true [.int .u8 0] 1 1 [(0,(.c (.int .u8 1)))],none⟩,
 ⟨some 41,.call 30 [(.t 39),(.t 40)],none⟩,
 ⟨some 38,.mov (.t 41),none⟩,
 ⟨some 42,.ext 0 (.t 38),none⟩,
 ⟨some 43,.ext 1 (.t 38),none⟩,
 ⟨some 10,.mov (.t 42),none⟩,
 ⟨some 11,.mov (.t 43),none⟩])
 (.seq (.region [⟨some 45,.load true 5 (.t 1),none⟩,
 ⟨some 46,.call 18 [(.t 45)],none⟩,
 ⟨some 44,.mov (.t 46),none⟩,
 ⟨some 47,.ext 0 (.t 44),none⟩,
 ⟨some 48,.ext 1 (.t 44),none⟩,
 ⟨some 12,.box (.c (.agg [.int .i64 0,.int .i64 0,.sl true 0 [],.sl true 0 [],.sl true 0 []])),none⟩,
 ⟨none,.store 5 (.t 12) (.t 47),none⟩,
 ⟨some 13,.mov (.t 48),none⟩])
 (.seq (.region [⟨some 49,.mov (.t 3),none⟩,
 ⟨some 50,.bin .eql (.t 49) (.c (.int .i64 0)),none⟩,
 ⟨some 51,.mov (.t 50),none⟩,
 ⟨some 52,.mov (.t 5),some (51,true)⟩,
 ⟨some 53,.bin .eql (.t 52) (.c (.int .i64 0)),some (51,true)⟩,
 ⟨some 54,.pick (.t 51) (.t 53) (.c (.bool false)),none⟩,
 ⟨some 55,.mov (.t 54),none⟩,
 ⟨some 56,.mov (.t 7),some (55,true)⟩,
 ⟨some 57,.bin .eql (.t 56) (.c (.int .i64 0)),some (55,true)⟩,
 ⟨some 58,.pick (.t 55) (.t 57) (.c (.bool false)),none⟩,
 ⟨some 59,.mov (.t 58),none⟩,
 ⟨some 60,.mov (.t 9),some (59,true)⟩,
 ⟨some 61,.bin .eql (.t 60) (.c (.int .i64 0)),some (59,true)⟩,
 ⟨some 62,.pick (.t 59) (.t 61) (.c (.bool false)),none⟩,
 ⟨some 63,.mov (.t 62),none⟩,
 ⟨some 64,.mov (.t 11),some (63,true)⟩,
 ⟨some 65,.bin .eql (.t 64) (.c (.int .i64 0)),some (63,true)⟩,
 ⟨some 66,.pick (.t 63) (.t 65) (.c (.bool false)),none⟩,
 ⟨some 67,.mov (.t 66),none⟩,
 ⟨some 68,.mov (.t 13),some (67,true)⟩,
 ⟨some 69,.bin .eql (.t 68) (.c (.int .i64 0)),some (67,true)⟩,
 ⟨some 70,.pick (.t 67) (.t 69) (.c (.bool false)),none⟩,
 ⟨some 71,.mov (.t 70),none⟩,
 ⟨some 72,.mov (.t 2),some (71,true)⟩,
 ⟨some 73,.pick (.t 71) (.t 72) (.c (.bool false)),none⟩,
 ⟨some 74,.mov (.t 73),none⟩,
 ⟨some 75,.mov (.t 4),some (74,true)⟩,
 ⟨some 76,.pick (.t 74) (.t 75) (.c (.bool false)),none⟩,
 ⟨some 77,.mov (.t 76),none⟩,
 ⟨some 78,.mov (.t 6),some (77,true)⟩,
 ⟨some 79,.un .not (.t 78),some (77,true)⟩,
 ⟨some 80,.pick (.t 77) (.t 79) (.c (.bool false)),none⟩,
 ⟨some 81,.mov (.t 80),none⟩,
 ⟨some 82,.mov (.t 8),some (81,true)⟩,
 ⟨some 83,.un .not (.t 82),some (81,true)⟩,
 ⟨some 84,.pick (.t 81) (.t 83) (.c (.bool false)),none⟩,
 ⟨some 85,.mov (.t 84),none⟩,
 ⟨some 86,.mov (.t 10),some (85,true)⟩,
 ⟨some 87,.bslice true [.int .u64 0] 1 1 [(0,(.c (.int .u64 3)))],some (85,true)⟩,
 ⟨some 88,.call 20 [(.t 86),(.t 87)],some (85,true)⟩,
 ⟨some 89,.pick (.t 85) (.t 88) (.c (.bool false)),none⟩,
 ⟨some 90,.mov (.t 89),none⟩,
 ⟨some 91,.faddr 2 (.t 12),some (90,true)⟩,
 ⟨some 92,.load false 1 (.t 91),some (90,true)⟩,
 ⟨some 93,.bslice true [.int .i64 0] 1 1 [(0,(.c (.int .i64 2)))],some (90,true)⟩,
 ⟨some 94,.call 31 [(.t 92),(.t 93)],some (90,true)⟩,
 ⟨some 95,.pick (.t 90) (.t 94) (.c (.bool false)),none⟩,
 ⟨some 96,.mov (.t 95),none⟩,
 ⟨some 97,.faddr 3 (.t 12),some (96,true)⟩,
 ⟨some 98,.load false 1 (.t 97),some (96,true)⟩,
 ⟨some 99,.bslice true [.int .i64 0] 1 1 [(0,(.c (.int .i64 0)))],some (96,true)⟩,
 ⟨some 100,.call 31 [(.t 98),(.t 99)],some (96,true)⟩,
 ⟨some 101,.pick (.t 96) (.t 100) (.c (.bool false)),none⟩,
 ⟨some 0,.mov (.t 101),none⟩])
 (.ret))))))))),
 [.tmp 0]⟩
def a15 : AFunc := ⟨16,
 .seq (.region [⟨some 1,.box (.t 0),none⟩,
 ⟨some 2,.mov (.c (.sl true 0 [])),none⟩,
 ⟨some 3,.mov (.c (.int .i64 0)),none⟩])
 (.seq (.seq (.region [⟨some 5,.load true 5 (.t 1),none⟩,
 ⟨some 6,.call 26 [(.t 5)],none⟩,
 ⟨some 4,.mov (.t 6),none⟩])
 (.seq (.region [⟨some 7,.mov (.t 4),none⟩,
 ⟨some 8,.bin .neq (.t 7) (.c (.int .i64 0)),none⟩])
 (.cond (.t 8)
 (.seq (.region [⟨some 9,.mov (.t 4),none⟩,
 ⟨some 2,.mov (.c (.sl true 0 [])),none⟩,
 ⟨some 3,.mov (.t 9),none⟩])
 (.ret))
 (.skip))))
 (.seq (.draw 5 [⟨some 10,.faddr 2 (.t 1),none⟩,
 ⟨some 11,.load false 1 (.t 10),none⟩,
 ⟨some 12,.call 43 [(.t 11)],none⟩,
 ⟨some 13,.faddr 4 (.t 1),none⟩,
 ⟨some 14,.load false 1 (.t 13),none⟩,
 ⟨some 15,.call 42 [(.t 12),(.t 14)],none⟩,
 ⟨some 2,.mov (.t 15),none⟩,
 ⟨some 3,.mov (.c (.int .i64 0)),none⟩])
 (.ret))),
 [.tmp 2,.tmp 3]⟩
def a16 : AFunc := ⟨18,
 .seq (.region [⟨some 1,.box (.t 0),none⟩,
 ⟨some 2,.mov (.c (.sl true 0 [])),none⟩,
 ⟨some 3,.mov (.c (.int .i64 0)),none⟩])
 (.seq (.region [⟨some 7,.load true 5 (.t 1),none⟩,
 ⟨some 8,.call 18 [(.t 7)],none⟩,
 ⟨some 6,.mov (.t 8),none⟩,
 ⟨some 9,.ext 0 (.t 6),none⟩,
 ⟨some 10,.ext 1 (.t 6),none⟩,
 ⟨some 4,.box (.c (.agg [.int .i64 0,.int .i64 0,.sl true 0 [],.sl true 0 [],.sl true 0 []])),none⟩,
 ⟨none,.store 5 (.t 4) (.t 9),none⟩,
 ⟨some 5,.mov (.t 10),none⟩])
 (.seq (.seq (.region [⟨some 11,.mov (.t 5),none⟩,
 ⟨some 12,.bin .neq (.t 11) (.c (.int .i64 0)),none⟩])
 (.cond (.t 12)
 (.seq (.region [⟨some 13,.mov (.t 5),none⟩,
 ⟨some 2,.mov (.c (.sl true 0 [])),none⟩,
 ⟨some 3,.mov (.t 13),none⟩])
 (.ret))
 (.skip)))
 (.seq (.region [⟨some 14,.load true 5 (.t 4),none⟩,
 ⟨some 15,.call 15 [(.t 14)],none⟩,
 ⟨some 16,.ext 0 (.t 15),none⟩,
 ⟨some 17,.ext 1 (.t 15),none⟩,
 ⟨some 2,.mov (.t 16),none⟩,
 ⟨some 3,.mov (.t 17),none⟩])
 (.ret)))),
 [.tmp 2,.tmp 3]⟩
def xKA : ACode :=
 .seq (.region [⟨some 52,.bin .lss (.t 51) (.t 50),none⟩])
 (.seq (.cond (.t 52)
 (.skip)
 (.exit 0))
 (.seq (.block 1 (.seq (.region [⟨some 53,.iaddr 1 (.t 49) (.t 51),none⟩,
 ⟨some 54,.load false 1 (.t 53),none⟩,
 ⟨some 10,.mov (.t 54),none⟩])
 (.seq (.region [⟨some 56,.mov (.t 8),none⟩,
 ⟨some 57,.mov (.t 10),none⟩,
 ⟨some 58,.icall (.t 56) [(.t 57)],none⟩,
 ⟨some 55,.mov (.t 58),none⟩,
 ⟨some 59,.ext 0 (.t 55),none⟩,
 ⟨some 60,.ext 1 (.t 55),none⟩,
 ⟨some 11,.mov (.t 59),none⟩,
 ⟨some 12,.mov (.t 60),none⟩])
 (.seq (.region [⟨some 61,.mov (.t 12),none⟩])
 (.cond (.t 61)
 (.region [⟨some 62,.faddr 2 (.t 2),none⟩,
 ⟨some 63,.load false 1 (.t 62),none⟩,
 ⟨some 64,.mov (.t 11),none⟩,
 ⟨some 65,.bslice true [.int .i64 0] 1 1 [(0,(.t 64))],none⟩,
 ⟨some 66,.append false 1 8 (.t 63) (.t 65),none⟩,
 ⟨some 67,.faddr 2 (.t 2),none⟩,
 ⟨none,.store 1 (.t 67) (.t 66),none⟩])
 (.skip))))))
 (.region [⟨some 68,.bin .add (.t 51) (.c (.int .i64 1)),none⟩,
 ⟨some 51,.mov (.t 68),none⟩])))
def xUE : ACode := xKA
def xMY : List Nat := [0,3,4,5,6,7,9,10,11,12,13,14,15,16,17,18,19,20,21,22,23,24,25,26,27,28,29,30,31,32,33,34,35,36,37,38,39,40,41,42,43,44,45,46,47,48,52,53,54,55,56,57,58,59,60,61,62,63,64,65,66,67,68,69,70,71,72,73,74,75,76,77,78,79,80,81,82,83,84,85,86,87,88,89,90,91,92,93,94,95,96,97,98,99,100,101,102,103,104,105,106,107,108,109,110,111,112,113,114,115,116,117,118,119,120,121,122,123,124,125,126,127,128]
abbrev xMZ (s1 s2 s8 s49 s50 s51 : AV) : List AV := [.any,s1,s2,.any,.any,.any,.any,.any,s8,.any,.any,.any,.any,.any,.any,.any,.any,.any,.any,.any,.any,.any,.any,.any,.any,.any,.any,.any,.any,.any,.any,.any,.any,.any,.any,.any,.any,.any,.any,.any,.any,.any,.any,.any,.any,.any,.any,.any,.any,s49,s50,s51,.any,.any,.any,.any,.any,.any,.any,.any,.any,.any,.any,.any,.any,.any,.any,.any,.any,.any,.any,.any,.any,.any,.any,.any,.any,.any,.any,.any,.any,.any,.any,.any,.any,.any,.any,.any,.any,.any,.any,.any,.any,.any,.any,.any,.any,.any,.any,.any,.any,.any,.any,.any,.any,.any,.any,.any,.any,.any,.any,.any,.any,.any,.any,.any,.any,.any,.any,.any,.any,.any,.any,.any,.any,.any,.any,.any,.any]
theorem xM0 (s0 s1 s2 s3 s4 s5 s6 s7 s8 s9 s10 s11 s12 s13 s14 s15 s16 s17 s18 s19 s20 s21 s22 s23 s24 s25 s26 s27 s28 s29 s30 s31 s32 s33 s34 s35 s36 s37 s38 s39 s40 s41 s42 s43 s44 s45 s46 s47 s48 s49 s50 s51 s52 s53 s54 s55 s56 s57 s58 s59 s60 s61 s62 s63 s64 s65 s66 s67 s68 s69 s70 s71 s72 s73 s74 s75 s76 s77 s78 s79 s80 s81 s82 s83 s84 s85 s86 s87 s88 s89 s90 s91 s92 s93 s94 s95 s96 s97 s98 s99 s100 s101 s102 s103 s104 s105 s106 s107 s108 s109 s110 s111 s112 s113 s114 s115 s116 s117 s118 s119 s120 s121 s122 s123 s124 s125 s126 s127 s128 : AV) : xBA xMY [s0,s1,s2,s3,s4,s5,s6,s7,s8,s9,s10,s11,s12,s13,s14,s15,s16,s17,s18,s19,s20,s21,s22,s23,s24,s25,s26,s27,s28,s29,s30,s31,s32,s33,s34,s35,s36,s37,s38,s39,s40,s41,s42,s43,s44,s45,s46,s47,s48,s49,s50,s51,s52,s53,s54,s55,s56,s57,s58,s59,s60,s61,s62,s63,s64,s65,s66,s67,s68,s69,s70,s71,s72,s73,s74,s75,s76,s77,s78,s79,s80,s81,s82,s83,s84,s85,s86,s87,s88,s89,s90,s91,s92,s93,s94,s95,s96,s97,s98,s99,s100,s101,s102,s103,s104,s105,s106,s107,s108,s109,s110,s111,s112,s113,s114,s115,s116,s117,s118,s119,s120,s121,s122,s123,s124,s125,s126,s127,s128] = xMZ s1 s2 s8 s49 s50 s51 := by kernel_rfl
theorem xPA {prog : Nat → Option AFunc} (s1 s2 s8 s49 s50 s51 : AV) (H : Heap) : (lim prog).loop xMY xUE ⟨xMZ s1 s2 s8 s49 s50 s51,H⟩ = xDn (lim prog) xMY xUE (run (lim prog) xKA ⟨xMZ s1 s2 s8 s49 s50 s51,H⟩) := xA5 _ _ _ _ (by kernel_rfl)
def xKB : ACode :=
 .seq (.region [⟨some 73,.bin .lss (.t 72) (.t 71),none⟩])
 (.seq (.cond (.t 73)
 (.skip)
 (.exit 2))
 (.seq (.block 3 (.seq (.region [⟨some 74,.iaddr 1 (.t 70) (.t 72),none⟩,
 ⟨some 75,.load false 1 (.t 74),none⟩,
 ⟨some 14,.mov (.t 75),none⟩])
 (.seq (.region [⟨some 77,.mov (.t 8),none⟩,
 ⟨some 78,.mov (.t 14),none⟩,
 ⟨some 79,.icall (.t 77) [(.t 78)],none⟩,
 ⟨some 76,.mov (.t 79),none⟩,
 ⟨some 80,.ext 0 (.t 76),none⟩,
 ⟨some 81,.ext 1 (.t 76),none⟩,
 ⟨some 15,.mov (.t 80),none⟩,
 ⟨some 16,.mov (.t 81),none⟩])
 (.seq (.region [⟨some 82,.mov (.t 16),none⟩])
 (.cond (.t 82)
 (.region [⟨some 83,.faddr 3 (.t 2),none⟩,
 ⟨some 84,.load false 1 (.t 83),none⟩,
 ⟨some 85,.mov (.t 15),none⟩,
 ⟨some 86,.bslice true [.int .i64 0] 1 1 [(0,(.t 85))],none⟩,
 ⟨some 87,.append false 1 8 (.t 84) (.t 86),none⟩,
 ⟨some 88,.faddr 3 (.t 2),none⟩,
 ⟨none,.store 1 (.t 88) (.t 87),none⟩])
 (.skip))))))
 (.region [⟨some 89,.bin .add (.t 72) (.c (.int .i64 1)),none⟩,
 ⟨some 72,.mov (.t 89),none⟩])))
def xUF : ACode := xKB
def xM1 : List Nat := [0,3,4,5,6,7,9,10,11,12,13,14,15,16,17,18,19,20,21,22,23,24,25,26,27,28,29,30,31,32,33,34,35,36,37,38,39,40,41,42,43,44,45,46,47,48,49,50,51,52,53,54,55,56,57,58,59,60,61,62,63,64,65,66,67,68,69,73,74,75,76,77,78,79,80,81,82,83,84,85,86,87,88,89,90,91,92,93,94,95,96,97,98,99,100,101,102,103,104,105,106,107,108,109,110,111,112,113,114,115,116,117,118,119,120,121,122,123,124,125,126,127,128]
abbrev xM2 (s1 s2 s8 s70 s71 s72 : AV) : List AV := [.any,s1,s2,.any,.any,.any,.any,.any,s8,.any,.any,.any,.any,.any,.any,.any,.any,.any,.any,.any,.any,.any,.any,.any,.any,.any,.any,.any,.any,.any,.any,.any,.any,.any,.any,.any,.any,.any,.any,.any,.any,.any,.any,.any,.any,.any,.any,.any,.any,.any,.any,.any,.any,.any,.any,.any,.any,.any,.any,.any,.any,.any,.any,.any,.any,.any,.any,.any,.any,.any,s70,s71,s72,.any,.any,.any,.any,.any,.any,.any,.any,.any,.any,.any,.any,.any,.any,.any,.any,.any,.any,.any,.any,.any,.any,.any,.any,.any,.any,.any,.any,.any,.any,.any,.any,.any,.any,.any,.any,.any,.any,.any,.any,.any,.any,.any,.any,.any,.any,.any,.any,.any,.any,.any,.any,.any,.any,.any,.any]
theorem xM3 (s0 s1 s2 s3 s4 s5 s6 s7 s8 s9 s10 s11 s12 s13 s14 s15 s16 s17 s18 s19 s20 s21 s22 s23 s24 s25 s26 s27 s28 s29 s30 s31 s32 s33 s34 s35 s36 s37 s38 s39 s40 s41 s42 s43 s44 s45 s46 s47 s48 s49 s50 s51 s52 s53 s54 s55 s56 s57 s58 s59 s60 s61 s62 s63 s64 s65 s66 s67 s68 s69 s70 s71 s72 s73 s74 s75 s76 s77 s78 s79 s80 s81 s82 s83 s84 s85 s86 s87 s88 s89 s90 s91 s92 s93 s94 s95 s96 s97 s98 s99 s100 s101 s102 s103 s104 s105 s106 s107 s108 s109 s110 s111 s112 s113 s114 s115 s116 s117 s118 s119 s120 s121 s122 s123 s124 s125 s126 s127 s128 : AV) : xBA xM1 [s0,s1,s2,s3,s4,s5,s6,s7,s8,s9,s10,s11,s12,s13,s14,s15,s16,s17,s18,s19,s20,s21,s22,s23,s24,s25,s26,s27,s28,s29,s30,s31,s32,s33,s34,s35,s36,s37,s38,s39,s40,s41,s42,s43,s44,s45,s46,s47,s48,s49,s50,s51,s52,s53,s54,s55,s56,s57,s58,s59,s60,s61,s62,s63,s64,s65,s66,s67,s68,s69,s70,s71,s72,s73,s74,s75,s76,s77,s78,s79,s80,s81,s82,s83,s84,s85,s86,s87,s88,s89,s90,s91,s92,s93,s94,s95,s96,s97,s98,s99,s100,s101,s102,s103,s104,s105,s106,s107,s108,s109,s110,s111,s112,s113,s114,s115,s116,s117,s118,s119,s120,s121,s122,s123,s124,s125,s126,s127,s128] = xM2 s1 s2 s8 s70 s71 s72 := by kernel_rfl
theorem xPB {prog : Nat → Option AFunc} (s1 s2 s8 s70 s71 s72 : AV) (H : Heap) : (lim prog).loop xM1 xUF ⟨xM2 s1 s2 s8 s70 s71 s72,H⟩ = xDn (lim prog) xM1 xUF (run (lim prog) xKB ⟨xM2 s1 s2 s8 s70 s71 s72,H⟩) := xA5 _ _ _ _ (by kernel_rfl)
def xIZ : ACode :=
 .seq (.region [⟨some 94,.bin .lss (.t 93) (.t 92),none⟩])
 (.seq (.cond (.t 94)
 (.skip)
 (.exit 4))
 (.seq (.block 5 (.seq (.region [⟨some 95,.iaddr 4 (.t 91) (.t 93),none⟩,
 ⟨some 96,.load true 4 (.t 95),none⟩,
 ⟨some 18,.box (.c (.agg [.int .i64 0,.int .i64 0,.int .u8 0,.int .u8 0])),none⟩,
 ⟨none,.store 4 (.t 18) (.t 96),none⟩])
 (.seq (.region [⟨some 98,.mov (.t 8),none⟩,
 ⟨some 99,.faddr 0 (.t 18),none⟩,
 ⟨some 100,.load false 1 (.t 99),none⟩,
 ⟨some 101,.icall (.t 98) [(.t 100)],none⟩,
 ⟨some 97,.mov (.t 101),none⟩,
 ⟨some 102,.ext 0 (.t 97),none⟩,
 ⟨some 103,.ext 1 (.t 97),none⟩,
 ⟨some 19,.mov (.t 102),none⟩,
 ⟨some 20,.mov (.t 103),none⟩])
 (.seq (.region [⟨some 105,.mov (.t 8),none⟩,
 ⟨some 106,.faddr 1 (.t 18),none⟩,
 ⟨some 107,.load false 1 (.t 106),none⟩,
 ⟨some 108,.icall (.t 105) [(.t 107)],none⟩,
 ⟨some 104,.mov (.t 108),none⟩,
 ⟨some 109,.ext 0 (.t 104),none⟩,
 ⟨some 110,.ext 1 (.t 104),none⟩,
 ⟨some 21,.mov (.t 109),none⟩,
 ⟨some 22,.mov (.t 110),none⟩])
 (.seq (.region [⟨some 111,.mov (.t 20),none⟩,
 ⟨some 112,.mov (.t 111),none⟩,
 ⟨some 113,.mov (.t 22),some (112,true)⟩,
 ⟨some 114,.pick (.t 112) (.t 113) (.c (.bool false)),none⟩])
 (.cond (.t 114)
 (.region [⟨some 115,.faddr 4 (.t 2),none⟩,
 ⟨some 116,.load false 1 (.t 115),none⟩,
 ⟨some 117,.mov (.t 19),none⟩,
 ⟨some 118,.mov (.t 21),none⟩,
 ⟨some 119,.faddr 2 (.t 18),none⟩,
 ⟨some 120,.load false 1 (.t 119),none⟩,
 ⟨some 121,.faddr 3 (.t 18),none⟩,
 ⟨some 122,.load false 1 (.t 121),none⟩,
 ⟨some 123,.build [.int .i64 0,.int .i64 0,.int .u8 0,.int .u8 0] [(0,1,(.t 117)),(1,1,(.t 118)),(2,1,(.t 120)),(3,1,(.t 122))],none⟩,
 ⟨some 124,.bslice true [.int .i64 0,.int .i64 0,.int .u8 0,.int .u8 0] 4 1 [(0,(.t 123))],none⟩,
 ⟨some 125,.append false 4 24 (.t 116) (.t 124),none⟩,
 ⟨some 126,.faddr 4 (.t 2),none⟩,
 ⟨none,.store 1 (.t 126) (.t 125),none⟩])
 (.skip)))))))
 (.region [⟨some 127,.bin .add (.t 93) (.c (.int .i64 1)),none⟩,
 ⟨some 93,.mov (.t 127),none⟩])))
def xUG : ACode := xIZ
def xM4 : List Nat := [0,1,3,4,5,6,7,9,10,11,12,13,14,15,16,17,18,19,20,21,22,23,24,25,26,27,28,29,30,31,32,33,34,35,36,37,38,39,40,41,42,43,44,45,46,47,48,49,50,51,52,53,54,55,56,57,58,59,60,61,62,63,64,65,66,67,68,69,70,71,72,73,74,75,76,77,78,79,80,81,82,83,84,85,86,87,88,89,90,94,95,96,97,98,99,100,101,102,103,104,105,106,107,108,109,110,111,112,113,114,115,116,117,118,119,120,121,122,123,124,125,126,127,128]
abbrev xM5 (s2 s8 s91 s92 s93 : AV) : List AV := [.any,.any,s2,.any,.any,.any,.any,.any,s8,.any,.any,.any,.any,.any,.any,.any,.any,.any,.any,.any,.any,.any,.any,.any,.any,.any,.any,.any,.any,.any,.any,.any,.any,.any,.any,.any,.any,.any,.any,.any,.any,.any,.any,.any,.any,.any,.any,.any,.any,.any,.any,.any,.any,.any,.any,.any,.any,.any,.any,.any,.any,.any,.any,.any,.any,.any,.any,.any,.any,.any,.any,.any,.any,.any,.any,.any,.any,.any,.any,.any,.any,.any,.any,.any,.any,.any,.any,.any,.any,.any,.any,s91,s92,s93,.any,.any,.any,.any,.any,.any,.any,.any,.any,.any,.any,.any,.any,.any,.any,.any,.any,.any,.any,.any,.any,.any,.any,.any,.any,.any,.any,.any,.any,.any,.any,.any,.any,.any,.any]
theorem xKC (s0 s1 s2 s3 s4 s5 s6 s7 s8 s9 s10 s11 s12 s13 s14 s15 s16 s17 s18 s19 s20 s21 s22 s23 s24 s25 s26 s27 s28 s29 s30 s31 s32 s33 s34 s35 s36 s37 s38 s39 s40 s41 s42 s43 s44 s45 s46 s47 s48 s49 s50 s51 s52 s53 s54 s55 s56 s57 s58 s59 s60 s61 s62 s63 s64 s65 s66 s67 s68 s69 s70 s71 s72 s73 s74 s75 s76 s77 s78 s79 s80 s81 s82 s83 s84 s85 s86 s87 s88 s89 s90 s91 s92 s93 s94 s95 s96 s97 s98 s99 s100 s101 s102 s103 s104 s105 s106 s107 s108 s109 s110 s111 s112 s113 s114 s115 s116 s117 s118 s119 s120 s121 s122 s123 s124 s125 s126 s127 s128 : AV) : xBA xM4 [s0,s1,s2,s3,s4,s5,s6,s7,s8,s9,s10,s11,s12,s13,s14,s15,s16,s17,s18,s19,s20,s21,s22,s23,s24,s25,s26,s27,s28,s29,s30,s31,s32,s33,s34,s35,s36,s37,s38,s39,s40,s41,s42,s43,s44,s45,s46,s47,s48,s49,s50,s51,s52,s53,s54,s55,s56,s57,s58,s59,s60,s61,s62,s63,s64,s65,s66,s67,s68,s69,s70,s71,s72,s73,s74,s75,s76,s77,s78,s79,s80,s81,s82,s83,s84,s85,s86,s87,s88,s89,s90,s91,s92,s93,s94,s95,s96,s97,s98,s99,s100,s101,s102,s103,s104,s105,s106,s107,s108,s109,s110,s111,s112,s113,s114,s115,s116,s117,s118,s119,s120,s121,s122,s123,s124,s125,s126,s127,s128] = xM5 s2 s8 s91 s92 s93 := by kernel_rfl
theorem xM6 {prog : Nat → Option AFunc} (s2 s8 s91 s92 s93 : AV) (H : Heap) : (lim prog).loop xM4 xUG ⟨xM5 s2 s8 s91 s92 s93,H⟩ = xDn (lim prog) xM4 xUG (run (lim prog) xIZ ⟨xM5 s2 s8 s91 s92 s93,H⟩) := xA5 _ _ _ _ (by kernel_rfl)
def a17 : AFunc := ⟨129,
 .seq (.region [⟨some 1,.box (.t 0),none⟩,
 ⟨some 2,.box (.c (.agg [.int .i64 0,.int .i64 0,.sl true 0 [],.sl true 0 [],.sl true 0 []])),none⟩,
 ⟨some 3,.mov (.c (.int .i64 0)),none⟩])
 (.seq (.region [⟨some 24,.load true 5 (.t 1),none⟩,
 ⟨some 25,.call 15 [(.t 24)],none⟩,
 ⟨some 23,.mov (.t 25),none⟩,
 ⟨some 26,.ext 0 (.t 23),none⟩,
 ⟨some 27,.ext 1 (.t 23),none⟩,
 ⟨some 4,.mov (.t 26),none⟩,
 ⟨some 3,.mov (.t 27),none⟩])
 (.seq (.seq (.region [⟨some 28,.mov (.t 3),none⟩,
 ⟨some 29,.bin .neq (.t 28) (.c (.int .i64 0)),none⟩])
 (.cond (.t 29)
 (.seq (.region [⟨some 30,.build [.int .i64 0,.int .i64 0,.sl true 0 [],.sl true 0 [],.sl true 0 []] [],none⟩,
 ⟨some 31,.mov (.t 3),none⟩,
 ⟨none,.store 5 (.t 2) (.t 30),none⟩,
 ⟨some 3,.mov (.t 31),none⟩])
 (.ret))
 (.skip)))
 (.seq (.region [⟨some 33,.load true 5 (.t 1),none⟩,
 ⟨some 34,.call 16 [(.t 33)],none⟩,
 ⟨some 32,.mov (.t 34),none⟩,
 ⟨some 35,.ext 0 (.t 32),none⟩,
 ⟨some 36,.ext 1 (.t 32),none⟩,
 ⟨some 5,.mov (.t 35),none⟩,
 ⟨some 6,.mov (.t 36),none⟩])
 (.seq (.region [⟨some 37,.mov (.t 4),none⟩,
 ⟨some 38,.mov (.t 5),none⟩,
 ⟨some 39,.call 45 [(.t 37),(.t 38)],none⟩,
 ⟨some 40,.call 44 [(.t 39)],none⟩,
 ⟨some 7,.box (.c (.sl true 0 [])),none⟩,
 ⟨none,.store 1 (.t 7) (.t 40),none⟩])
 (.seq (.region [⟨some 41,.mkfunc 46 [(.t 7)],none⟩,
 ⟨some 8,.mov (.t 41),none⟩])
 (.seq (.drawl [(7,(1,(46,1)))] 4 [⟨some 42,.faddr 0 (.t 1),none⟩,
 ⟨some 43,.load false 1 (.t 42),none⟩,
 ⟨some 44,.load false 1 (.t 7),none⟩,
 ⟨some 45,.len (.t 44),none⟩,
 ⟨some 46,.faddr 0 (.t 2),none⟩,
 ⟨none,.store 1 (.t 46) (.t 43),none⟩,
 ⟨some 47,.faddr 1 (.t 2),none⟩,
 ⟨none,.store 1 (.t 47) (.t 45),none⟩])
 (.seq (.seq (.region [⟨some 48,.faddr 2 (.t 1),none⟩,
 ⟨some 49,.load false 1 (.t 48),none⟩,
 ⟨some 50,.len (.t 49),none⟩,
 ⟨some 51,.mov (.c (.int .i64 0)),none⟩])
 (.block 0 (.loop xMY xUE)))
 (.seq (.seq (.region [⟨some 69,.faddr 3 (.t 1),none⟩,
 ⟨some 70,.load false 1 (.t 69),none⟩,
 ⟨some 71,.len (.t 70),none⟩,
 ⟨some 72,.mov (.c (.int .i64 0)),none⟩])
 (.block 2 (.loop xM1 xUF)))
 (.seq (.seq (.region [⟨some 90,.faddr 4 (.t 1),none⟩,
 ⟨some 91,.load false 1 (.t 90),none⟩,
 ⟨some 92,.len (.t 91),none⟩,
 ⟨some 93,.mov (.c (.int .i64 0)),none⟩])
 (.block 4 (.loop xM4 xUG)))
 (.seq (.region [⟨some 128,.load true 5 (.t 2),none⟩,
 ⟨none,.store 5 (.t 2) (.t 128),none⟩,
 ⟨some 3,.mov (.c (.int .i64 0)),none⟩])
 (.ret))))))))))),
 [.cell 2 true 5,.tmp 3]⟩
def xKD : ACode :=
 .seq (.region [⟨some 29,.bin .lss (.t 28) (.t 27),none⟩])
 (.seq (.cond (.t 29)
 (.skip)
 (.exit 0))
 (.seq (.block 1 (.seq (.region [⟨some 30,.iaddr 4 (.t 26) (.t 28),none⟩,
 ⟨some 31,.load true 4 (.t 30),none⟩,
 ⟨some 7,.box (.c (.agg [.int .i64 0,.int .i64 0,.int .u8 0,.int .u8 0])),none⟩,
 ⟨none,.store 4 (.t 7) (.t 31),none⟩])
 (.region [⟨some 32,.faddr 4 (.t 5),none⟩,
 ⟨some 33,.load false 1 (.t 32),none⟩,
 ⟨some 34,.faddr 1 (.t 7),none⟩,
 ⟨some 35,.load false 1 (.t 34),none⟩,
 ⟨some 36,.faddr 0 (.t 7),none⟩,
 ⟨some 37,.load false 1 (.t 36),none⟩,
 ⟨some 38,.faddr 2 (.t 7),none⟩,
 ⟨some 39,.load false 1 (.t 38),none⟩,
 ⟨some 40,.faddr 3 (.t 7),none⟩,
 ⟨some 41,.load false 1 (.t 40),none⟩,
 ⟨some 42,.build [.int .i64 0,.int .i64 0,.int .u8 0,.int .u8 0] [(0,1,(.t 35)),(1,1,(.t 37)),(2,1,(.t 39)),(3,1,(.t 41))],none⟩,
 ⟨some 43,.bslice true [.int .i64 0,.int .i64 0,.int .u8 0,.int .u8 0] 4 1 [(0,(.t 42))],none⟩,
 ⟨some 44,.append false 4 24 (.t 33) (.t 43),none⟩,
 ⟨some 45,.faddr 4 (.t 5),none⟩,
 ⟨none,.store 1 (.t 45) (.t 44),none⟩])))
 (.region [⟨some 46,.bin .add (.t 28) (.c (.int .i64 1)),none⟩,
 ⟨some 28,.mov (.t 46),none⟩])))
def xSs : ACode := xKD
def xKE : List Nat := [0,1,3,4,6,7,8,9,10,11,12,13,14,15,16,17,18,19,20,21,22,23,24,25,29,30,31,32,33,34,35,36,37,38,39,40,41,42,43,44,45,46,47]
abbrev xI0 (s2 s5 s26 s27 s28 : AV) : List AV := [.any,.any,s2,.any,.any,s5,.any,.any,.any,.any,.any,.any,.any,.any,.any,.any,.any,.any,.any,.any,.any,.any,.any,.any,.any,.any,s26,s27,s28,.any,.any,.any,.any,.any,.any,.any,.any,.any,.any,.any,.any,.any,.any,.any,.any,.any,.any,.any]
theorem xM7 (s0 s1 s2 s3 s4 s5 s6 s7 s8 s9 s10 s11 s12 s13 s14 s15 s16 s17 s18 s19 s20 s21 s22 s23 s24 s25 s26 s27 s28 s29 s30 s31 s32 s33 s34 s35 s36 s37 s38 s39 s40 s41 s42 s43 s44 s45 s46 s47 : AV) : xBA xKE [s0,s1,s2,s3,s4,s5,s6,s7,s8,s9,s10,s11,s12,s13,s14,s15,s16,s17,s18,s19,s20,s21,s22,s23,s24,s25,s26,s27,s28,s29,s30,s31,s32,s33,s34,s35,s36,s37,s38,s39,s40,s41,s42,s43,s44,s45,s46,s47] = xI0 s2 s5 s26 s27 s28 := by kernel_rfl
theorem xPC {prog : Nat → Option AFunc} (s2 s5 s26 s27 s28 : AV) (H : Heap) : (lim prog).loop xKE xSs ⟨xI0 s2 s5 s26 s27 s28,H⟩ = xDn (lim prog) xKE xSs (run (lim prog) xKD ⟨xI0 s2 s5 s26 s27 s28,H⟩) := xA5 _ _ _ _ (by kernel_rfl)
def a18 : AFunc := ⟨48,
 .seq (.region [⟨some 1,.box (.t 0),none⟩,
 ⟨some 2,.box (.c (.agg [.int .i64 0,.int .i64 0,.sl true 0 [],.sl true 0 [],.sl true 0 []])),none⟩,
 ⟨some 3,.mov (.c (.int .i64 0)),none⟩])
 (.seq (.seq (.region [⟨some 8,.load true 5 (.t 1),none⟩,
 ⟨some 9,.call 26 [(.t 8)],none⟩,
 ⟨some 4,.mov (.t 9),none⟩])
 (.seq (.region [⟨some 10,.mov (.t 4),none⟩,
 ⟨some 11,.bin .neq (.t 10) (.c (.int .i64 0)),none⟩])
 (.cond (.t 11)
 (.seq (.region [⟨some 12,.build [.int .i64 0,.int .i64 0,.sl true 0 [],.sl true 0 [],.sl true 0 []] [],none⟩,
 ⟨some 13,.mov (.t 4),none⟩,
 ⟨none,.store 5 (.t 2) (.t 12),none⟩,
 ⟨some 3,.mov (.t 13),none⟩])
 (.ret))
 (.skip))))
 (.seq (.draw 12 [⟨some 14,.faddr 0 (.t 1),none⟩,
 ⟨some 15,.load false 1 (.t 14),none⟩,
 ⟨some 16,.faddr 1 (.t 1),none⟩,
 ⟨some 17,.load false 1 (.t 16),none⟩,
 ⟨some 18,.faddr 3 (.t 1),none⟩,
 ⟨some 19,.load false 1 (.t 18),none⟩,
 ⟨some 20,.call 48 [(.t 19)],none⟩,
 ⟨some 21,.faddr 2 (.t 1),none⟩,
 ⟨some 22,.load false 1 (.t 21),none⟩,
 ⟨some 23,.call 48 [(.t 22)],none⟩,
 ⟨some 24,.build [.int .i64 0,.int .i64 0,.sl true 0 [],.sl true 0 [],.sl true 0 []] [(0,1,(.t 15)),(1,1,(.t 17)),(2,1,(.t 20)),(3,1,(.t 23))],none⟩,
 ⟨some 5,.box (.c (.agg [.int .i64 0,.int .i64 0,.sl true 0 [],.sl true 0 [],.sl true 0 []])),none⟩,
 ⟨none,.store 5 (.t 5) (.t 24),none⟩])
 (.seq (.seq (.region [⟨some 25,.faddr 4 (.t 1),none⟩,
 ⟨some 26,.load false 1 (.t 25),none⟩,
 ⟨some 27,.len (.t 26),none⟩,
 ⟨some 28,.mov (.c (.int .i64 0)),none⟩])
 (.block 0 (.loop xKE xSs)))
 (.seq (.region [⟨some 47,.load true 5 (.t 5),none⟩,
 ⟨none,.store 5 (.t 2) (.t 47),none⟩,
 ⟨some 3,.mov (.c (.int .i64 0)),none⟩])
 (.ret))))),
 [.cell 2 true 5,.tmp 3]⟩
def xM8 : ACode :=
 .seq (.region [⟨some 70,.bin .lss (.t 69) (.t 68),none⟩])
 (.seq (.cond (.t 70)
 (.skip)
 (.exit 1))
 (.seq (.block 2 (.seq (.region [⟨some 71,.iaddr 1 (.t 67) (.t 69),none⟩,
 ⟨some 72,.load false 1 (.t 71),none⟩,
 ⟨some 9,.mov (.t 72),none⟩])
 (.region [⟨some 73,.faddr 2 (.t 4),none⟩,
 ⟨some 74,.load false 1 (.t 73),none⟩,
 ⟨some 75,.faddr 1 (.t 2),none⟩,
 ⟨some 76,.load false 1 (.t 75),none⟩,
 ⟨some 77,.mov (.t 9),none⟩,
 ⟨some 78,.bin .add (.t 76) (.t 77),none⟩,
 ⟨some 79,.bslice true [.int .i64 0] 1 1 [(0,(.t 78))],none⟩,
 ⟨some 80,.append false 1 8 (.t 74) (.t 79),none⟩,
 ⟨some 81,.faddr 2 (.t 4),none⟩,
 ⟨none,.store 1 (.t 81) (.t 80),none⟩])))
 (.region [⟨some 82,.bin .add (.t 69) (.c (.int .i64 1)),none⟩,
 ⟨some 69,.mov (.t 82),none⟩])))
def xRi : ACode := xM8
def xI1 : List Nat := [0,1,5,6,7,8,9,10,11,12,13,14,15,16,17,18,19,20,21,22,23,24,25,26,27,28,29,30,31,32,33,34,35,36,37,38,39,40,41,42,43,44,45,46,47,48,49,50,51,52,53,54,55,56,57,58,59,60,61,62,63,64,65,66,70,71,72,73,74,75,76,77,78,79,80,81,82,83,84,85,86,87,88,89,90,91,92,93,94,95,96,97,98,99,100,101,102,103,104,105,106,107,108,109,110,111,112,113,114,115,116,117,118,119,120,121,122,123,124,125,126]
abbrev xGH (s2 s3 s4 s67 s68 s69 : AV) : List AV := [.any,.any,s2,s3,s4,.any,.any,.any,.any,.any,.any,.any,.any,.any,.any,.any,.any,.any,.any,.any,.any,.any,.any,.any,.any,.any,.any,.any,.any,.any,.any,.any,.any,.any,.any,.any,.any,.any,.any,.any,.any,.any,.any,.any,.any,.any,.any,.any,.any,.any,.any,.any,.any,.any,.any,.any,.any,.any,.any,.any,.any,.any,.any,.any,.any,.any,.any,s67,s68,s69,.any,.any,.any,.any,.any,.any,.any,.any,.any,.any,.any,.any,.any,.any,.any,.any,.any,.any,.any,.any,.any,.any,.any,.any,.any,.any,.any,.any,.any,.any,.any,.any,.any,.any,.any,.any,.any,.any,.any,.any,.any,.any,.any,.any,.any,.any,.any,.any,.any,.any,.any,.any,.any,.any,.any,.any,.any]
theorem xPD (s0 s1 s2 s3 s4 s5 s6 s7 s8 s9 s10 s11 s12 s13 s14 s15 s16 s17 s18 s19 s20 s21 s22 s23 s24 s25 s26 s27 s28 s29 s30 s31 s32 s33 s34 s35 s36 s37 s38 s39 s40 s41 s42 s43 s44 s45 s46 s47 s48 s49 s50 s51 s52 s53 s54 s55 s56 s57 s58 s59 s60 s61 s62 s63 s64 s65 s66 s67 s68 s69 s70 s71 s72 s73 s74 s75 s76 s77 s78 s79 s80 s81 s82 s83 s84 s85 s86 s87 s88 s89 s90 s91 s92 s93 s94 s95 s96 s97 s98 s99 s100 s101 s102 s103 s104 s105 s106 s107 s108 s109 s110 s111 s112 s113 s114 s115 s116 s117 s118 s119 s120 s121 s122 s123 s124 s125 s126 : AV) : xBA xI1 [s0,s1,s2,s3,s4,s5,s6,s7,s8,s9,s10,s11,s12,s13,s14,s15,s16,s17,s18,s19,s20,s21,s22,s23,s24,s25,s26,s27,s28,s29,s30,s31,s32,s33,s34,s35,s36,s37,s38,s39,s40,s41,s42,s43,s44,s45,s46,s47,s48,s49,s50,s51,s52,s53,s54,s55,s56,s57,s58,s59,s60,s61,s62,s63,s64,s65,s66,s67,s68,s69,s70,s71,s72,s73,s74,s75,s76,s77,s78,s79,s80,s81,s82,s83,s84,s85,s86,s87,s88,s89,s90,s91,s92,s93,s94,s95,s96,s97,s98,s99,s100,s101,s102,s103,s104,s105,s106,s107,s108,s109,s110,s111,s112,s113,s114,s115,s116,s117,s118,s119,s120,s121,s122,s123,s124,s125,s126] = xGH s2 s3 s4 s67 s68 s69 := by kernel_rfl
theorem xSt {prog : Nat → Option AFunc} (s2 s3 s4 s67 s68 s69 : AV) (H : Heap) : (lim prog).loop xI1 xRi ⟨xGH s2 s3 s4 s67 s68 s69,H⟩ = xDn (lim prog) xI1 xRi (run (lim prog) xM8 ⟨xGH s2 s3 s4 s67 s68 s69,H⟩) := xA5 _ _ _ _ (by kernel_rfl)
def xM9 : ACode :=
 .seq (.region [⟨some 87,.bin .lss (.t 86) (.t 85),none⟩])
 (.seq (.cond (.t 87)
 (.skip)
 (.exit 3))
 (.seq (.block 4 (.seq (.region [⟨some 88,.iaddr 1 (.t 84) (.t 86),none⟩,
 ⟨some 89,.load false 1 (.t 88),none⟩,
 ⟨some 11,.mov (.t 89),none⟩])
 (.region [⟨some 90,.faddr 3 (.t 4),none⟩,
 ⟨some 91,.load false 1 (.t 90),none⟩,
 ⟨some 92,.faddr 1 (.t 2),none⟩,
 ⟨some 93,.load false 1 (.t 92),none⟩,
 ⟨some 94,.mov (.t 11),none⟩,
 ⟨some 95,.bin .add (.t 93) (.t 94),none⟩,
 ⟨some 96,.bslice true [.int .i64 0] 1 1 [(0,(.t 95))],none⟩,
 ⟨some 97,.append false 1 8 (.t 91) (.t 96),none⟩,
 ⟨some 98,.faddr 3 (.t 4),none⟩,
 ⟨none,.store 1 (.t 98) (.t 97),none⟩])))
 (.region [⟨some 99,.bin .add (.t 86) (.c (.int .i64 1)),none⟩,
 ⟨some 86,.mov (.t 99),none⟩])))
def xRj : ACode := xM9
def xI2 : List Nat := [0,1,5,6,7,8,9,10,11,12,13,14,15,16,17,18,19,20,21,22,23,24,25,26,27,28,29,30,31,32,33,34,35,36,37,38,39,40,41,42,43,44,45,46,47,48,49,50,51,52,53,54,55,56,57,58,59,60,61,62,63,64,65,66,67,68,69,70,71,72,73,74,75,76,77,78,79,80,81,82,83,87,88,89,90,91,92,93,94,95,96,97,98,99,100,101,102,103,104,105,106,107,108,109,110,111,112,113,114,115,116,117,118,119,120,121,122,123,124,125,126]
abbrev xGI (s2 s3 s4 s84 s85 s86 : AV) : List AV := [.any,.any,s2,s3,s4,.any,.any,.any,.any,.any,.any,.any,.any,.any,.any,.any,.any,.any,.any,.any,.any,.any,.any,.any,.any,.any,.any,.any,.any,.any,.any,.any,.any,.any,.any,.any,.any,.any,.any,.any,.any,.any,.any,.any,.any,.any,.any,.any,.any,.any,.any,.any,.any,.any,.any,.any,.any,.any,.any,.any,.any,.any,.any,.any,.any,.any,.any,.any,.any,.any,.any,.any,.any,.any,.any,.any,.any,.any,.any,.any,.any,.any,.any,.any,s84,s85,s86,.any,.any,.any,.any,.any,.any,.any,.any,.any,.any,.any,.any,.any,.any,.any,.any,.any,.any,.any,.any,.any,.any,.any,.any,.any,.any,.any,.any,.any,.any,.any,.any,.any,.any,.any,.any,.any,.any,.any,.any]
theorem xPE (s0 s1 s2 s3 s4 s5 s6 s7 s8 s9 s10 s11 s12 s13 s14 s15 s16 s17 s18 s19 s20 s21 s22 s23 s24 s25 s26 s27 s28 s29 s30 s31 s32 s33 s34 s35 s36 s37 s38 s39 s40 s41 s42 s43 s44 s45 s46 s47 s48 s49 s50 s51 s52 s53 s54 s55 s56 s57 s58 s59 s60 s61 s62 s63 s64 s65 s66 s67 s68 s69 s70 s71 s72 s73 s74 s75 s76 s77 s78 s79 s80 s81 s82 s83 s84 s85 s86 s87 s88 s89 s90 s91 s92 s93 s94 s95 s96 s97 s98 s99 s100 s101 s102 s103 s104 s105 s106 s107 s108 s109 s110 s111 s112 s113 s114 s115 s116 s117 s118 s119 s120 s121 s122 s123 s124 s125 s126 : AV) : xBA xI2 [s0,s1,s2,s3,s4,s5,s6,s7,s8,s9,s10,s11,s12,s13,s14,s15,s16,s17,s18,s19,s20,s21,s22,s23,s24,s25,s26,s27,s28,s29,s30,s31,s32,s33,s34,s35,s36,s37,s38,s39,s40,s41,s42,s43,s44,s45,s46,s47,s48,s49,s50,s51,s52,s53,s54,s55,s56,s57,s58,s59,s60,s61,s62,s63,s64,s65,s66,s67,s68,s69,s70,s71,s72,s73,s74,s75,s76,s77,s78,s79,s80,s81,s82,s83,s84,s85,s86,s87,s88,s89,s90,s91,s92,s93,s94,s95,s96,s97,s98,s99,s100,s101,s102,s103,s104,s105,s106,s107,s108,s109,s110,s111,s112,s113,s114,s115,s116,s117,s118,s119,s120,s121,s122,s123,s124,s125,s126] = xGI s2 s3 s4 s84 s85 s86 := by kernel_rfl
theorem xSu {prog : Nat → Option AFunc} (s2 s3 s4 s84 s85 s86 : AV) (H : Heap) : (lim prog).loop xI2 xRj ⟨xGI s2 s3 s4 s84 s85 s86,H⟩ = xDn (lim prog) xI2 xRj (run (lim prog) xM9 ⟨xGI s2 s3 s4 s84 s85 s86,H⟩) := xA5 _ _ _ _ (by kernel_rfl)
def xNa : ACode :=
 .seq (.region [⟨some 104,.bin .lss (.t 103) (.t 102),none⟩])
 (.seq (.cond (.t 104)
 (.skip)
 (.exit 5))
 (.seq (.block 6 (.seq (.region [⟨some 105,.iaddr 4 (.t 101) (.t 103),none⟩,
 ⟨some 106,.load true 4 (.t 105),none⟩,
 ⟨some 13,.box (.c (.agg [.int .i64 0,.int .i64 0,.int .u8 0,.int .u8 0])),none⟩,
 ⟨none,.store 4 (.t 13) (.t 106),none⟩])
 (.seq (.drawl [(112,(1,(117,1)))] 10 [⟨some 107,.faddr 1 (.t 2),none⟩,
 ⟨some 108,.load false 1 (.t 107),none⟩,
 ⟨some 109,.faddr 0 (.t 13),none⟩,
 ⟨some 110,.load false 1 (.t 109),none⟩,
 ⟨some 111,.bin .add (.t 108) (.t 110),none⟩,
 ⟨some 112,.faddr 1 (.t 2),none⟩,
 ⟨some 113,.load false 1 (.t 112),none⟩,
 ⟨some 114,.faddr 1 (.t 13),none⟩,
 ⟨some 115,.load false 1 (.t 114),none⟩,
 ⟨some 116,.bin .add (.t 113) (.t 115),none⟩,
 ⟨some 117,.faddr 0 (.t 13),none⟩,
 ⟨none,.store 1 (.t 117) (.t 111),none⟩,
 ⟨some 118,.faddr 1 (.t 13),none⟩,
 ⟨none,.store 1 (.t 118) (.t 116),none⟩])
 (.region [⟨some 119,.faddr 4 (.t 4),none⟩,
 ⟨some 120,.load false 1 (.t 119),none⟩,
 ⟨some 121,.load true 4 (.t 13),none⟩,
 ⟨some 122,.bslice true [.int .i64 0,.int .i64 0,.int .u8 0,.int .u8 0] 4 1 [(0,(.t 121))],none⟩,
 ⟨some 123,.append false 4 24 (.t 120) (.t 122),none⟩,
 ⟨some 124,.faddr 4 (.t 4),none⟩,
 ⟨none,.store 1 (.t 124) (.t 123),none⟩]))))
 (.region [⟨some 125,.bin .add (.t 103) (.c (.int .i64 1)),none⟩,
 ⟨some 103,.mov (.t 125),none⟩])))
def xRk : ACode := xNa
def xI3 : List Nat := [0,1,3,5,6,7,8,9,10,11,12,13,14,15,16,17,18,19,20,21,22,23,24,25,26,27,28,29,30,31,32,33,34,35,36,37,38,39,40,41,42,43,44,45,46,47,48,49,50,51,52,53,54,55,56,57,58,59,60,61,62,63,64,65,66,67,68,69,70,71,72,73,74,75,76,77,78,79,80,81,82,83,84,85,86,87,88,89,90,91,92,93,94,95,96,97,98,99,100,104,105,106,107,108,109,110,111,112,113,114,115,116,117,118,119,120,121,122,123,124,125,126]
abbrev xGJ (s2 s4 s101 s102 s103 : AV) : List AV := [.any,.any,s2,.any,s4,.any,.any,.any,.any,.any,.any,.any,.any,.any,.any,.any,.any,.any,.any,.any,.any,.any,.any,.any,.any,.any,.any,.any,.any,.any,.any,.any,.any,.any,.any,.any,.any,.any,.any,.any,.any,.any,.any,.any,.any,.any,.any,.any,.any,.any,.any,.any,.any,.any,.any,.any,.any,.any,.any,.any,.any,.any,.any,.any,.any,.any,.any,.any,.any,.any,.any,.any,.any,.any,.any,.any,.any,.any,.any,.any,.any,.any,.any,.any,.any,.any,.any,.any,.any,.any,.any,.any,.any,.any,.any,.any,.any,.any,.any,.any,.any,s101,s102,s103,.any,.any,.any,.any,.any,.any,.any,.any,.any,.any,.any,.any,.any,.any,.any,.any,.any,.any,.any,.any,.any,.any,.any]
theorem xPF (s0 s1 s2 s3 s4 s5 s6 s7 s8 s9 s10 s11 s12 s13 s14 s15 s16 s17 s18 s19 s20 s21 s22 s23 s24 s25 s26 s27 s28 s29 s30 s31 s32 s33 s34 s35 s36 s37 s38 s39 s40 s41 s42 s43 s44 s45 s46 s47 s48 s49 s50 s51 s52 s53 s54 s55 s56 s57 s58 s59 s60 s61 s62 s63 s64 s65 s66 s67 s68 s69 s70 s71 s72 s73 s74 s75 s76 s77 s78 s79 s80 s81 s82 s83 s84 s85 s86 s87 s88 s89 s90 s91 s92 s93 s94 s95 s96 s97 s98 s99 s100 s101 s102 s103 s104 s105 s106 s107 s108 s109 s110 s111 s112 s113 s114 s115 s116 s117 s118 s119 s120 s121 s122 s123 s124 s125 s126 : AV) : xBA xI3 [s0,s1,s2,s3,s4,s5,s6,s7,s8,s9,s10,s11,s12,s13,s14,s15,s16,s17,s18,s19,s20,s21,s22,s23,s24,s25,s26,s27,s28,s29,s30,s31,s32,s33,s34,s35,s36,s37,s38,s39,s40,s41,s42,s43,s44,s45,s46,s47,s48,s49,s50,s51,s52,s53,s54,s55,s56,s57,s58,s59,s60,s61,s62,s63,s64,s65,s66,s67,s68,s69,s70,s71,s72,s73,s74,s75,s76,s77,s78,s79,s80,s81,s82,s83,s84,s85,s86,s87,s88,s89,s90,s91,s92,s93,s94,s95,s96,s97,s98,s99,s100,s101,s102,s103,s104,s105,s106,s107,s108,s109,s110,s111,s112,s113,s114,s115,s116,s117,s118,s119,s120,s121,s122,s123,s124,s125,s126] = xGJ s2 s4 s101 s102 s103 := by kernel_rfl
theorem xSv {prog : Nat → Option AFunc} (s2 s4 s101 s102 s103 : AV) (H : Heap) : (lim prog).loop xI3 xRk ⟨xGJ s2 s4 s101 s102 s103,H⟩ = xDn (lim prog) xI3 xRk (run (lim prog) xNa ⟨xGJ s2 s4 s101 s102 s103,H⟩) := xA5 _ _ _ _ (by kernel_rfl)
def a19 : AFunc := ⟨127,
 .seq (.region [⟨some 2,.box (.t 0),none⟩,
 ⟨some 3,.box (.t 1),none⟩,
 ⟨some 4,.box (.c (.agg [.int .i64 0,.int .i64 0,.sl true 0 [],.sl true 0 [],.sl true 0 []])),none⟩,
 ⟨some 5,.mov (.c (.int .i64 0)),none⟩])
 (.seq (.seq (.region [⟨some 14,.load true 5 (.t 2),none⟩,
 ⟨some 15,.call 26 [(.t 14)],none⟩,
 ⟨some 6,.mov (.t 15),none⟩])
 (.seq (.region [⟨some 16,.mov (.t 6),none⟩,
 ⟨some 17,.bin .neq (.t 16) (.c (.int .i64 0)),none⟩])
 (.cond (.t 17)
 (.seq (.region [⟨some 18,.build [.int .i64 0,.int .i64 0,.sl true 0 [],.sl true 0 [],.sl true 0 []] [],none⟩,
 ⟨some 19,.mov (.t 6),none⟩,
 ⟨none,.store 5 (.t 4) (.t 18),none⟩,
 ⟨some 5,.mov (.t 19),none⟩])
 (.ret))
 (.skip))))
 (.seq (.seq (.region [⟨some 20,.load true 5 (.t 3),none⟩,
 ⟨some 21,.call 26 [(.t 20)],none⟩,
 ⟨some 7,.mov (.t 21),none⟩])
 (.seq (.region [⟨some 22,.mov (.t 7),none⟩,
 ⟨some 23,.bin .neq (.t 22) (.c (.int .i64 0)),none⟩])
 (.cond (.t 23)
 (.seq (.region [⟨some 24,.build [.int .i64 0,.int .i64 0,.sl true 0 [],.sl true 0 [],.sl true 0 []] [],none⟩,
 ⟨some 25,.mov (.t 7),none⟩,
 ⟨none,.store 5 (.t 4) (.t 24),none⟩,
 ⟨some 5,.mov (.t 25),none⟩])
 (.ret))
 (.skip))))
 (.seq (.block 0 (.seq (.region [⟨some 27,.faddr 0 (.t 2),none⟩,
 ⟨some 28,.load false 1 (.t 27),none⟩,
 ⟨some 29,.faddr 0 (.t 3),none⟩,
 ⟨some 30,.load false 1 (.t 29),none⟩,
 ⟨some 31,.bin .neq (.t 28) (.t 30),none⟩,
 ⟨some 26,.mov (.t 31),none⟩])
 (.cond (.t 26)
 (.seq (.region [⟨some 32,.build [.int .i64 0,.int .i64 0,.sl true 0 [],.sl true 0 [],.sl true 0 []] [],none⟩,
 ⟨none,.store 5 (.t 4) (.t 32),none⟩,
 ⟨some 5,.mov (.c (.int .i64 7)),none⟩])
 (.ret))
 (.seq (.seq (.region [⟨some 34,.faddr 1 (.t 2),none⟩,
 ⟨some 35,.load false 1 (.t 34),none⟩,
 ⟨some 36,.faddr 1 (.t 3),none⟩,
 ⟨some 37,.load false 1 (.t 36),none⟩,
 ⟨some 38,.bin .add (.t 35) (.t 37),none⟩,
 ⟨some 39,.bin .gtr (.t 38) (.c (.int .i64 64)),none⟩,
 ⟨some 33,.mov (.t 39),none⟩])
 (.cond (.t 33)
 (.skip)
 (.region [⟨some 40,.faddr 4 (.t 2),none⟩,
 ⟨some 41,.load false 1 (.t 40),none⟩,
 ⟨some 42,.len (.t 41),none⟩,
 ⟨some 43,.faddr 4 (.t 3),none⟩,
 ⟨some 44,.load false 1 (.t 43),none⟩,
 ⟨some 45,.len (.t 44),none⟩,
 ⟨some 46,.bin .add (.t 42) (.t 45),none⟩,
 ⟨some 47,.bin .gtr (.t 46) (.c (.int .i64 512)),none⟩,
 ⟨some 33,.mov (.t 47),none⟩])))
 (.cond (.t 33)
 (.seq (.region [⟨some 48,.build [.int .i64 0,.int .i64 0,.sl true 0 [],.sl true 0 [],.sl true 0 []] [],none⟩,
 ⟨none,.store 5 (.t 4) (.t 48),none⟩,
 ⟨some 5,.mov (.c (.int .i64 4)),none⟩])
 (.ret))
 (.skip))))))
 (.seq (.drawp [] [] 16 [⟨some 49,.faddr 0 (.t 2),none⟩,
 ⟨some 50,.load false 1 (.t 49),none⟩,
 ⟨some 51,.faddr 1 (.t 2),none⟩,
 ⟨some 52,.load false 1 (.t 51),none⟩,
 ⟨some 53,.faddr 1 (.t 3),none⟩,
 ⟨some 54,.load false 1 (.t 53),none⟩,
 ⟨some 55,.bin .add (.t 52) (.t 54),none⟩,
 ⟨some 56,.faddr 2 (.t 2),none⟩,
 ⟨some 57,.load false 1 (.t 56),none⟩,
 ⟨some 58,.ocall 48 [(.t 57)],none⟩,
 ⟨some 59,.faddr 3 (.t 2),none⟩,
 ⟨some 60,.load false 1 (.t 59),none⟩,
 ⟨some 61,.ocall 48 [(.t 60)],none⟩,
 ⟨some 62,.faddr 4 (.t 2),none⟩,
 ⟨some 63,.load false 1 (.t 62),none⟩,
 ⟨some 64,.ocall 49 [(.t 63)],none⟩,
 ⟨some 65,.build [.int .i64 0,.int .i64 0,.sl true 0 [],.sl true 0 [],.sl true 0 []] [(0,1,(.t 50)),(1,1,(.t 55)),(2,1,(.t 58)),(3,1,(.t 61)),(4,1,(.t 64))],none⟩,
 ⟨none,.store 5 (.t 4) (.t 65),none⟩])
 (.seq (.seq (.region [⟨some 66,.faddr 2 (.t 3),none⟩,
 ⟨some 67,.load false 1 (.t 66),none⟩,
 ⟨some 68,.len (.t 67),none⟩,
 ⟨some 69,.mov (.c (.int .i64 0)),none⟩])
 (.block 1 (.loop xI1 xRi)))
 (.seq (.seq (.region [⟨some 83,.faddr 3 (.t 3),none⟩,
 ⟨some 84,.load false 1 (.t 83),none⟩,
 ⟨some 85,.len (.t 84),none⟩,
 ⟨some 86,.mov (.c (.int .i64 0)),none⟩])
 (.block 3 (.loop xI2 xRj)))
 (.seq (.seq (.region [⟨some 100,.faddr 4 (.t 3),none⟩,
 ⟨some 101,.load false 1 (.t 100),none⟩,
 ⟨some 102,.len (.t 101),none⟩,
 ⟨some 103,.mov (.c (.int .i64 0)),none⟩])
 (.block 5 (.loop xI3 xRk)))
 (.seq (.region [⟨some 126,.load true 5 (.t 4),none⟩,
 ⟨none,.store 5 (.t 4) (.t 126),none⟩,
 ⟨some 5,.mov (.c (.int .i64 0)),none⟩])
 (.ret))))))))),
 [.cell 4 true 5,.tmp 5]⟩
def xXY : ACode :=
 .seq (.seq (.region [⟨some 11,.mov (.t 5),none⟩,
 ⟨some 12,.mov (.t 0),none⟩,
 ⟨some 13,.len (.t 12),none⟩,
 ⟨some 14,.bin .lss (.t 11) (.t 13),none⟩])
 (.cond (.t 14)
 (.skip)
 (.exit 0)))
 (.seq (.block 1 (.seq (.draw 5 [⟨some 17,.mov (.t 0),none⟩,
 ⟨some 18,.mov (.t 5),none⟩,
 ⟨some 19,.iaddr 1 (.t 17) (.t 18),none⟩,
 ⟨some 20,.load false 1 (.t 19),none⟩,
 ⟨some 21,.mov (.t 1),none⟩,
 ⟨some 22,.mov (.t 5),none⟩,
 ⟨some 23,.iaddr 1 (.t 21) (.t 22),none⟩,
 ⟨some 24,.load false 1 (.t 23),none⟩,
 ⟨some 25,.bin .neq (.t 20) (.t 24),none⟩])
 (.cond (.t 25)
 (.seq (.region [⟨some 4,.mov (.c (.bool false)),none⟩])
 (.ret))
 (.skip))))
 (.region [⟨some 15,.mov (.t 5),none⟩,
 ⟨some 16,.bin .add (.t 15) (.c (.int .i64 1)),none⟩,
 ⟨some 5,.mov (.t 16),none⟩]))
def xYU : ACode := xXY
def xXZ : List Nat := [2,3,6,7,8,9,10,11,12,13,14,15,16,17,18,19,20,21,22,23,24,25]
def a20 : AFunc := ⟨26,
 .seq (.region [⟨some 4,.mov (.c (.bool false)),none⟩])
 (.seq (.seq (.region [⟨some 6,.mov (.t 0),none⟩,
 ⟨some 7,.len (.t 6),none⟩,
 ⟨some 8,.mov (.t 1),none⟩,
 ⟨some 9,.len (.t 8),none⟩,
 ⟨some 10,.bin .neq (.t 7) (.t 9),none⟩])
 (.cond (.t 10)
 (.seq (.region [⟨some 4,.mov (.c (.bool false)),none⟩])
 (.ret))
 (.skip)))
 (.seq (.seq (.region [⟨some 5,.mov (.c (.int .i64 0)),none⟩])
 (.block 0 (.loop xXZ xYU)))
 (.seq (.region [⟨some 4,.mov (.c (.bool true)),none⟩])
 (.ret)))),
 [.tmp 4]⟩
def a22 : AFunc := ⟨38,
 .seq (.region [⟨some 2,.box (.t 0),none⟩,
 ⟨some 3,.box (.t 1),none⟩,
 ⟨some 4,.mov (.c (.bool false)),none⟩])
 (.seq (.region [⟨some 5,.faddr 0 (.t 2),none⟩,
 ⟨some 6,.load false 1 (.t 5),none⟩,
 ⟨some 7,.faddr 0 (.t 3),none⟩,
 ⟨some 8,.load false 1 (.t 7),none⟩,
 ⟨some 9,.bin .eql (.t 6) (.t 8),none⟩,
 ⟨some 10,.mov (.t 9),none⟩,
 ⟨some 11,.faddr 1 (.t 2),some (10,true)⟩,
 ⟨some 12,.load false 1 (.t 11),some (10,true)⟩,
 ⟨some 13,.faddr 1 (.t 3),some (10,true)⟩,
 ⟨some 14,.load false 1 (.t 13),some (10,true)⟩,
 ⟨some 15,.bin .eql (.t 12) (.t 14),some (10,true)⟩,
 ⟨some 16,.pick (.t 10) (.t 15) (.c (.bool false)),none⟩,
 ⟨some 17,.mov (.t 16),none⟩,
 ⟨some 18,.faddr 2 (.t 2),some (17,true)⟩,
 ⟨some 19,.load false 1 (.t 18),some (17,true)⟩,
 ⟨some 20,.faddr 2 (.t 3),some (17,true)⟩,
 ⟨some 21,.load false 1 (.t 20),some (17,true)⟩,
 ⟨some 22,.call 31 [(.t 19),(.t 21)],some (17,true)⟩,
 ⟨some 23,.pick (.t 17) (.t 22) (.c (.bool false)),none⟩,
 ⟨some 24,.mov (.t 23),none⟩,
 ⟨some 25,.faddr 3 (.t 2),some (24,true)⟩,
 ⟨some 26,.load false 1 (.t 25),some (24,true)⟩,
 ⟨some 27,.faddr 3 (.t 3),some (24,true)⟩,
 ⟨some 28,.load false 1 (.t 27),some (24,true)⟩,
 ⟨some 29,.call 31 [(.t 26),(.t 28)],some (24,true)⟩,
 ⟨some 30,.pick (.t 24) (.t 29) (.c (.bool false)),none⟩,
 ⟨some 31,.mov (.t 30),none⟩,
 ⟨some 32,.faddr 4 (.t 2),some (31,true)⟩,
 ⟨some 33,.load false 1 (.t 32),some (31,true)⟩,
 ⟨some 34,.faddr 4 (.t 3),some (31,true)⟩,
 ⟨some 35,.load false 1 (.t 34),some (31,true)⟩,
 ⟨some 36,.call 50 [(.t 33),(.t 35)],some (31,true)⟩,
 ⟨some 37,.pick (.t 31) (.t 36) (.c (.bool false)),none⟩,
 ⟨some 4,.mov (.t 37),none⟩])
 (.ret)),
 [.tmp 4]⟩
def a25 : AFunc := ⟨24,
 .seq (.region [⟨some 2,.box (.t 0),none⟩,
 ⟨some 4,.mov (.c (.bool false)),none⟩,
 ⟨some 5,.mov (.c (.int .i64 0)),none⟩])
 (.seq (.region [⟨some 9,.load true 5 (.t 2),none⟩,
 ⟨some 10,.mov (.t 1),none⟩,
 ⟨some 11,.call 30 [(.t 9),(.t 10)],none⟩,
 ⟨some 8,.mov (.t 11),none⟩,
 ⟨some 12,.ext 0 (.t 8),none⟩,
 ⟨some 13,.ext 1 (.t 8),none⟩,
 ⟨some 6,.mov (.t 12),none⟩,
 ⟨some 7,.mov (.t 13),none⟩])
 (.seq (.region [⟨some 14,.mov (.t 7),none⟩,
 ⟨some 15,.bin .eql (.t 14) (.c (.int .i64 0)),none⟩,
 ⟨some 16,.mov (.t 15),none⟩,
 ⟨some 17,.mov (.t 6),some (16,true)⟩,
 ⟨some 18,.faddr 3 (.t 2),some (16,true)⟩,
 ⟨some 19,.load false 1 (.t 18),some (16,true)⟩,
 ⟨some 20,.call 43 [(.t 19)],some (16,true)⟩,
 ⟨some 21,.call 53 [(.t 17),(.t 20)],some (16,true)⟩,
 ⟨some 22,.pick (.t 16) (.t 21) (.c (.bool false)),none⟩,
 ⟨some 23,.mov (.t 7),none⟩,
 ⟨some 4,.mov (.t 22),none⟩,
 ⟨some 5,.mov (.t 23),none⟩])
 (.ret))),
 [.tmp 4,.tmp 5]⟩
def xHH : ACode :=
 .seq (.region [⟨some 19,.bin .lss (.t 18) (.t 17),none⟩])
 (.seq (.cond (.t 19)
 (.skip)
 (.exit 0))
 (.seq (.block 1 (.seq (.region [⟨some 20,.iaddr 2 (.t 16) (.t 18),none⟩,
 ⟨some 21,.load true 2 (.t 20),none⟩,
 ⟨some 4,.box (.c (.agg [.nilf,.int .i64 0])),none⟩,
 ⟨none,.store 2 (.t 4) (.t 21),none⟩])
 (.seq (.region [⟨some 22,.faddr 0 (.t 4),none⟩,
 ⟨some 23,.load false 1 (.t 22),none⟩,
 ⟨some 24,.icall (.t 23) [],none⟩])
 (.cond (.t 24)
 (.seq (.region [⟨some 25,.faddr 1 (.t 4),none⟩,
 ⟨some 26,.load false 1 (.t 25),none⟩,
 ⟨some 2,.mov (.t 26),none⟩])
 (.ret))
 (.skip)))))
 (.region [⟨some 27,.bin .add (.t 18) (.c (.int .i64 1)),none⟩,
 ⟨some 18,.mov (.t 27),none⟩])))
def xWJ : ACode := xHH
def xPG : List Nat := [0,3,4,5,6,7,8,9,10,11,12,13,14,15,19,20,21,22,23,24,25,26,27,28,29,30,31,32,33,34,35,36,37,38,39,40,41,42,43,44,45,46,47,48,49,50,51,52,53,54,55,56,57,58,59,60,61,62]
abbrev xSw (s1 s2 s16 s17 s18 : AV) : List AV := [.any,s1,s2,.any,.any,.any,.any,.any,.any,.any,.any,.any,.any,.any,.any,.any,s16,s17,s18,.any,.any,.any,.any,.any,.any,.any,.any,.any,.any,.any,.any,.any,.any,.any,.any,.any,.any,.any,.any,.any,.any,.any,.any,.any,.any,.any,.any,.any,.any,.any,.any,.any,.any,.any,.any,.any,.any,.any,.any,.any,.any,.any,.any]
theorem xKF (s0 s1 s2 s3 s4 s5 s6 s7 s8 s9 s10 s11 s12 s13 s14 s15 s16 s17 s18 s19 s20 s21 s22 s23 s24 s25 s26 s27 s28 s29 s30 s31 s32 s33 s34 s35 s36 s37 s38 s39 s40 s41 s42 s43 s44 s45 s46 s47 s48 s49 s50 s51 s52 s53 s54 s55 s56 s57 s58 s59 s60 s61 s62 : AV) : xBA xPG [s0,s1,s2,s3,s4,s5,s6,s7,s8,s9,s10,s11,s12,s13,s14,s15,s16,s17,s18,s19,s20,s21,s22,s23,s24,s25,s26,s27,s28,s29,s30,s31,s32,s33,s34,s35,s36,s37,s38,s39,s40,s41,s42,s43,s44,s45,s46,s47,s48,s49,s50,s51,s52,s53,s54,s55,s56,s57,s58,s59,s60,s61,s62] = xSw s1 s2 s16 s17 s18 := by kernel_rfl
theorem xKG {prog : Nat → Option AFunc} (s1 s2 s16 s17 s18 : AV) (H : Heap) : (lim prog).loop xPG xWJ ⟨xSw s1 s2 s16 s17 s18,H⟩ = xDn (lim prog) xPG xWJ (run (lim prog) xHH ⟨xSw s1 s2 s16 s17 s18,H⟩) := xA5 _ _ _ _ (by kernel_rfl)
def xHI : ACode :=
 .seq (.region [⟨some 32,.bin .lss (.t 31) (.t 30),none⟩])
 (.seq (.cond (.t 32)
 (.skip)
 (.exit 2))
 (.seq (.block 3 (.seq (.region [⟨some 33,.iaddr 4 (.t 29) (.t 31),none⟩,
 ⟨some 34,.load true 4 (.t 33),none⟩,
 ⟨some 6,.box (.c (.agg [.int .i64 0,.int .i64 0,.int .u8 0,.int .u8 0])),none⟩,
 ⟨none,.store 4 (.t 6) (.t 34),none⟩])
 (.seq (.seq (.region [⟨some 35,.faddr 0 (.t 6),none⟩,
 ⟨some 36,.load false 1 (.t 35),none⟩,
 ⟨some 37,.faddr 1 (.t 6),none⟩,
 ⟨some 38,.load false 1 (.t 37),none⟩,
 ⟨some 39,.mini (.t 36) (.t 38),none⟩,
 ⟨some 40,.bin .lss (.t 39) (.c (.int .i64 0)),none⟩,
 ⟨some 41,.mov (.t 40),none⟩,
 ⟨some 42,.faddr 0 (.t 6),some (41,false)⟩,
 ⟨some 43,.load false 1 (.t 42),some (41,false)⟩,
 ⟨some 44,.faddr 1 (.t 6),some (41,false)⟩,
 ⟨some 45,.load false 1 (.t 44),some (41,false)⟩,
 ⟨some 46,.maxi (.t 43) (.t 45),some (41,false)⟩,
 ⟨some 47,.faddr 1 (.t 1),some (41,false)⟩,
 ⟨some 48,.load false 1 (.t 47),some (41,false)⟩,
 ⟨some 49,.bin .geq (.t 46) (.t 48),some (41,false)⟩,
 ⟨some 50,.pick (.t 41) (.c (.bool true)) (.t 49),none⟩])
 (.cond (.t 50)
 (.seq (.region [⟨some 2,.mov (.c (.int .i64 8)),none⟩])
 (.ret))
 (.skip)))
 (.seq (.region [⟨some 51,.faddr 2 (.t 6),none⟩,
 ⟨some 52,.load false 1 (.t 51),none⟩,
 ⟨some 53,.faddr 3 (.t 6),none⟩,
 ⟨some 54,.load false 1 (.t 53),none⟩,
 ⟨some 55,.build [.int .u8 0,.int .u8 0] [(0,1,(.t 52)),(1,1,(.t 54))],none⟩,
 ⟨some 56,.faddr 0 (.t 1),none⟩,
 ⟨some 57,.load false 1 (.t 56),none⟩,
 ⟨some 58,.call 59 [(.t 55),(.t 57)],none⟩,
 ⟨some 7,.mov (.t 58),none⟩])
 (.seq (.region [⟨some 59,.mov (.t 7),none⟩,
 ⟨some 60,.bin .neq (.t 59) (.c (.int .i64 0)),none⟩])
 (.cond (.t 60)
 (.seq (.region [⟨some 61,.mov (.t 7),none⟩,
 ⟨some 2,.mov (.t 61),none⟩])
 (.ret))
 (.skip)))))))
 (.region [⟨some 62,.bin .add (.t 31) (.c (.int .i64 1)),none⟩,
 ⟨some 31,.mov (.t 62),none⟩])))
def xUH : ACode := xHI
def xNb : List Nat := [0,3,4,5,6,7,8,9,10,11,12,13,14,15,16,17,18,19,20,21,22,23,24,25,26,27,28,32,33,34,35,36,37,38,39,40,41,42,43,44,45,46,47,48,49,50,51,52,53,54,55,56,57,58,59,60,61,62]
abbrev xKH (s1 s2 s29 s30 s31 : AV) : List AV := [.any,s1,s2,.any,.any,.any,.any,.any,.any,.any,.any,.any,.any,.any,.any,.any,.any,.any,.any,.any,.any,.any,.any,.any,.any,.any,.any,.any,.any,s29,s30,s31,.any,.any,.any,.any,.any,.any,.any,.any,.any,.any,.any,.any,.any,.any,.any,.any,.any,.any,.any,.any,.any,.any,.any,.any,.any,.any,.any,.any,.any,.any,.any]
theorem xHJ (s0 s1 s2 s3 s4 s5 s6 s7 s8 s9 s10 s11 s12 s13 s14 s15 s16 s17 s18 s19 s20 s21 s22 s23 s24 s25 s26 s27 s28 s29 s30 s31 s32 s33 s34 s35 s36 s37 s38 s39 s40 s41 s42 s43 s44 s45 s46 s47 s48 s49 s50 s51 s52 s53 s54 s55 s56 s57 s58 s59 s60 s61 s62 : AV) : xBA xNb [s0,s1,s2,s3,s4,s5,s6,s7,s8,s9,s10,s11,s12,s13,s14,s15,s16,s17,s18,s19,s20,s21,s22,s23,s24,s25,s26,s27,s28,s29,s30,s31,s32,s33,s34,s35,s36,s37,s38,s39,s40,s41,s42,s43,s44,s45,s46,s47,s48,s49,s50,s51,s52,s53,s54,s55,s56,s57,s58,s59,s60,s61,s62] = xKH s1 s2 s29 s30 s31 := by kernel_rfl
theorem xNc {prog : Nat → Option AFunc} (s1 s2 s29 s30 s31 : AV) (H : Heap) : (lim prog).loop xNb xUH ⟨xKH s1 s2 s29 s30 s31,H⟩ = xDn (lim prog) xNb xUH (run (lim prog) xHI ⟨xKH s1 s2 s29 s30 s31,H⟩) := xA5 _ _ _ _ (by kernel_rfl)
def a26 : AFunc := ⟨63,
 .seq (.region [⟨some 1,.box (.t 0),none⟩,
 ⟨some 2,.mov (.c (.int .i64 0)),none⟩])
 (.seq (.seq (.region [⟨some 8,.mkfunc 54 [(.t 1)],none⟩,
 ⟨some 9,.build [.nilf,.int .i64 0] [(0,1,(.t 8)),(1,1,(.c (.int .i64 7)))],none⟩,
 ⟨some 10,.mkfunc 55 [(.t 1)],none⟩,
 ⟨some 11,.build [.nilf,.int .i64 0] [(0,1,(.t 10)),(1,1,(.c (.int .i64 1)))],none⟩,
 ⟨some 12,.mkfunc 56 [(.t 1)],none⟩,
 ⟨some 13,.build [.nilf,.int .i64 0] [(0,1,(.t 12)),(1,1,(.c (.int .i64 4)))],none⟩,
 ⟨some 14,.mkfunc 57 [(.t 1)],none⟩,
 ⟨some 15,.build [.nilf,.int .i64 0] [(0,1,(.t 14)),(1,1,(.c (.int .i64 8)))],none⟩,
 ⟨some 16,.bslice false [.nilf,.int .i64 0] 2 4 [(0,(.t 9)),(1,(.t 11)),(2,(.t 13)),(3,(.t 15))],none⟩,
 ⟨some 17,.len (.t 16),none⟩,
 ⟨some 18,.mov (.c (.int .i64 0)),none⟩])
 (.block 0 (.loop xPG xWJ)))
 (.seq (.seq (.region [⟨some 28,.faddr 4 (.t 1),none⟩,
 ⟨some 29,.load false 1 (.t 28),none⟩,
 ⟨some 30,.len (.t 29),none⟩,
 ⟨some 31,.mov (.c (.int .i64 0)),none⟩])
 (.block 2 (.loop xNb xUH)))
 (.seq (.region [⟨some 2,.mov (.c (.int .i64 0)),none⟩])
 (.ret)))),
 [.tmp 2]⟩
def a27 : AFunc := ⟨8,
 .seq (.region [⟨some 0,.box (.c (.agg [.int .i64 0,.int .i64 0,.sl true 0 [],.sl true 0 [],.sl true 0 []])),none⟩])
 (.seq (.region [⟨some 1,.bslice true [.int .i64 0] 1 1 [(0,(.c (.int .i64 0)))],none⟩,
 ⟨some 2,.bslice true [.int .i64 0] 1 1 [(0,(.c (.int .i64 2)))],none⟩,
 ⟨some 3,.build [.int .i64 0,.int .i64 0,.int .u8 0,.int .u8 0] [(0,1,(.c (.int .i64 0))),(1,1,(.c (.int .i64 0)))],none⟩,
 ⟨some 4,.build [.int .i64 0,.int .i64 0,.int .u8 0,.int .u8 0] [(0,1,(.c (.int .i64 0))),(1,1,(.c (.int .i64 1))),(2,1,(.c (.int .u8 1)))],none⟩,
 ⟨some 5,.build [.int .i64 0,.int .i64 0,.int .u8 0,.int .u8 0] [(0,1,(.c (.int .i64 1))),(1,1,(.c (.int .i64 2)))],none⟩,
 ⟨some 6,.bslice true [.int .i64 0,.int .i64 0,.int .u8 0,.int .u8 0] 4 3 [(0,(.t 3)),(1,(.t 4)),(2,(.t 5))],none⟩,
 ⟨some 7,.build [.int .i64 0,.int .i64 0,.sl true 0 [],.sl true 0 [],.sl true 0 []] [(0,1,(.c (.int .i64 1))),(1,1,(.c (.int .i64 3))),(2,1,(.t 1)),(3,1,(.t 2)),(4,1,(.t 6))],none⟩,
 ⟨none,.store 5 (.t 0) (.t 7),none⟩])
 (.ret)),
 [.cell 0 true 5]⟩
def a28 : AFunc := ⟨24,
 .seq (.region [⟨some 3,.box (.t 0),none⟩,
 ⟨some 6,.mov (.c (.sl true 0 [])),none⟩,
 ⟨some 7,.mov (.c (.int .i64 0)),none⟩])
 (.seq (.region [⟨some 9,.load true 5 (.t 3),none⟩,
 ⟨some 10,.call 26 [(.t 9)],none⟩,
 ⟨some 8,.mov (.t 10),none⟩])
 (.seq (.seq (.region [⟨some 11,.mov (.t 8),none⟩,
 ⟨some 12,.bin .eql (.t 11) (.c (.int .i64 0)),none⟩])
 (.cond (.t 12)
 (.region [⟨some 13,.load true 5 (.t 3),none⟩,
 ⟨some 14,.mov (.t 2),none⟩,
 ⟨some 15,.bslice true [.int .u8 0] 1 1 [(0,(.t 14))],none⟩,
 ⟨some 16,.call 60 [(.t 13),(.t 15)],none⟩,
 ⟨some 8,.mov (.t 16),none⟩])
 (.skip)))
 (.seq (.seq (.region [⟨some 17,.mov (.t 8),none⟩,
 ⟨some 18,.bin .neq (.t 17) (.c (.int .i64 0)),none⟩])
 (.cond (.t 18)
 (.seq (.region [⟨some 19,.mov (.t 8),none⟩,
 ⟨some 6,.mov (.c (.sl true 0 [])),none⟩,
 ⟨some 7,.mov (.t 19),none⟩])
 (.ret))
 (.skip)))
 (.seq (.region [⟨some 20,.load true 5 (.t 3),none⟩,
 ⟨some 21,.mov (.t 1),none⟩,
 ⟨some 22,.mov (.t 2),none⟩,
 ⟨some 23,.call 61 [(.t 20),(.t 21),(.t 22)],none⟩,
 ⟨some 6,.mov (.t 23),none⟩,
 ⟨some 7,.mov (.c (.int .i64 0)),none⟩])
 (.ret))))),
 [.tmp 6,.tmp 7]⟩
def xX0 : ACode :=
 .seq (.region [⟨some 9,.bin .lss (.t 8) (.t 7),none⟩])
 (.seq (.cond (.t 9)
 (.skip)
 (.exit 0))
 (.seq (.block 1 (.seq (.region [⟨some 10,.iaddr 1 (.t 6) (.t 8),none⟩,
 ⟨some 11,.load false 1 (.t 10),none⟩,
 ⟨some 4,.mov (.t 11),none⟩])
 (.region [⟨some 12,.mov (.t 2),none⟩,
 ⟨some 13,.mov (.t 4),none⟩,
 ⟨some 14,.call 63 [(.t 13)],none⟩,
 ⟨some 15,.bin .add (.t 12) (.t 14),none⟩,
 ⟨some 2,.mov (.t 15),none⟩])))
 (.region [⟨some 16,.bin .add (.t 8) (.c (.int .i64 1)),none⟩,
 ⟨some 8,.mov (.t 16),none⟩])))
def xYV : ACode := xX0
def xX1 : List Nat := [0,1,3,4,5,9,10,11,12,13,14,15,16,17]
def a29 : AFunc := ⟨18,
 .seq (.region [⟨some 2,.mov (.c (.int .i64 0)),none⟩])
 (.seq (.seq (.region [⟨some 5,.mov (.t 0),none⟩,
 ⟨some 6,.call 62 [(.t 5)],none⟩,
 ⟨some 7,.len (.t 6),none⟩,
 ⟨some 8,.mov (.c (.int .i64 0)),none⟩])
 (.block 0 (.loop xX1 xYV)))
 (.seq (.region [⟨some 17,.mov (.t 2),none⟩,
 ⟨some 2,.mov (.t 17),none⟩])
 (.ret))),
 [.tmp 2]⟩
def xPH : ACode :=
 .seq (.region [⟨some 26,.bin .lss (.t 25) (.t 24),none⟩])
 (.seq (.cond (.t 26)
 (.skip)
 (.exit 0))
 (.seq (.block 1 (.seq (.region [⟨some 27,.iaddr 1 (.t 23) (.t 25),none⟩,
 ⟨some 28,.load false 1 (.t 27),none⟩,
 ⟨some 9,.mov (.t 28),none⟩])
 (.region [⟨some 29,.load true 5 (.t 2),none⟩,
 ⟨some 30,.mov (.t 7),none⟩,
 ⟨some 31,.mov (.t 9),none⟩,
 ⟨some 32,.call 61 [(.t 29),(.t 30),(.t 31)],none⟩,
 ⟨some 7,.mov (.t 32),none⟩])))
 (.region [⟨some 33,.bin .add (.t 25) (.c (.int .i64 1)),none⟩,
 ⟨some 25,.mov (.t 33),none⟩])))
def xUI : ACode := xPH
def xNd : List Nat := [0,1,3,4,5,6,8,9,10,11,12,13,14,15,16,17,18,19,20,21,22,26,27,28,29,30,31,32,33,34]
abbrev xNe (s2 s7 s23 s24 s25 : AV) : List AV := [.any,.any,s2,.any,.any,.any,.any,s7,.any,.any,.any,.any,.any,.any,.any,.any,.any,.any,.any,.any,.any,.any,.any,s23,s24,s25,.any,.any,.any,.any,.any,.any,.any,.any,.any]
theorem xSx (s0 s1 s2 s3 s4 s5 s6 s7 s8 s9 s10 s11 s12 s13 s14 s15 s16 s17 s18 s19 s20 s21 s22 s23 s24 s25 s26 s27 s28 s29 s30 s31 s32 s33 s34 : AV) : xBA xNd [s0,s1,s2,s3,s4,s5,s6,s7,s8,s9,s10,s11,s12,s13,s14,s15,s16,s17,s18,s19,s20,s21,s22,s23,s24,s25,s26,s27,s28,s29,s30,s31,s32,s33,s34] = xNe s2 s7 s23 s24 s25 := by kernel_rfl
theorem xVD {prog : Nat → Option AFunc} (s2 s7 s23 s24 s25 : AV) (H : Heap) : (lim prog).loop xNd xUI ⟨xNe s2 s7 s23 s24 s25,H⟩ = xDn (lim prog) xNd xUI (run (lim prog) xPH ⟨xNe s2 s7 s23 s24 s25,H⟩) := xA5 _ _ _ _ (by kernel_rfl)
def a30 : AFunc := ⟨35,
 .seq (.region [⟨some 2,.box (.t 0),none⟩,
 ⟨some 4,.mov (.c (.sl true 0 [])),none⟩,
 ⟨some 5,.mov (.c (.int .i64 0)),none⟩])
 (.seq (.region [⟨some 10,.load true 5 (.t 2),none⟩,
 ⟨some 11,.call 26 [(.t 10)],none⟩,
 ⟨some 6,.mov (.t 11),none⟩])
 (.seq (.seq (.region [⟨some 12,.mov (.t 6),none⟩,
 ⟨some 13,.bin .eql (.t 12) (.c (.int .i64 0)),none⟩])
 (.cond (.t 13)
 (.region [⟨some 14,.load true 5 (.t 2),none⟩,
 ⟨some 15,.mov (.t 1),none⟩,
 ⟨some 16,.call 60 [(.t 14),(.t 15)],none⟩,
 ⟨some 6,.mov (.t 16),none⟩])
 (.skip)))
 (.seq (.seq (.region [⟨some 17,.mov (.t 6),none⟩,
 ⟨some 18,.bin .neq (.t 17) (.c (.int .i64 0)),none⟩])
 (.cond (.t 18)
 (.seq (.region [⟨some 19,.mov (.t 6),none⟩,
 ⟨some 4,.mov (.c (.sl true 0 [])),none⟩,
 ⟨some 5,.mov (.t 19),none⟩])
 (.ret))
 (.skip)))
 (.seq (.region [⟨some 20,.faddr 2 (.t 2),none⟩,
 ⟨some 21,.load false 1 (.t 20),none⟩,
 ⟨some 22,.call 43 [(.t 21)],none⟩,
 ⟨some 7,.mov (.t 22),none⟩])
 (.seq (.seq (.region [⟨some 23,.mov (.t 1),none⟩,
 ⟨some 24,.len (.t 23),none⟩,
 ⟨some 25,.mov (.c (.int .i64 0)),none⟩])
 (.block 0 (.loop xNd xUI)))
 (.seq (.region [⟨some 34,.mov (.t 7),none⟩,
 ⟨some 4,.mov (.t 34),none⟩,
 ⟨some 5,.mov (.c (.int .i64 0)),none⟩])
 (.ret))))))),
 [.tmp 4,.tmp 5]⟩
def xX2 : ACode :=
 .seq (.seq (.region [⟨some 11,.mov (.t 5),none⟩,
 ⟨some 12,.mov (.t 0),none⟩,
 ⟨some 13,.len (.t 12),none⟩,
 ⟨some 14,.bin .lss (.t 11) (.t 13),none⟩])
 (.cond (.t 14)
 (.skip)
 (.exit 0)))
 (.seq (.block 1 (.seq (.draw 5 [⟨some 17,.mov (.t 0),none⟩,
 ⟨some 18,.mov (.t 5),none⟩,
 ⟨some 19,.iaddr 1 (.t 17) (.t 18),none⟩,
 ⟨some 20,.load false 1 (.t 19),none⟩,
 ⟨some 21,.mov (.t 1),none⟩,
 ⟨some 22,.mov (.t 5),none⟩,
 ⟨some 23,.iaddr 1 (.t 21) (.t 22),none⟩,
 ⟨some 24,.load false 1 (.t 23),none⟩,
 ⟨some 25,.bin .neq (.t 20) (.t 24),none⟩])
 (.cond (.t 25)
 (.seq (.region [⟨some 4,.mov (.c (.bool false)),none⟩])
 (.ret))
 (.skip))))
 (.region [⟨some 15,.mov (.t 5),none⟩,
 ⟨some 16,.bin .add (.t 15) (.c (.int .i64 1)),none⟩,
 ⟨some 5,.mov (.t 16),none⟩]))
def xYW : ACode := xX2
def xX3 : List Nat := [2,3,6,7,8,9,10,11,12,13,14,15,16,17,18,19,20,21,22,23,24,25]
def a31 : AFunc := ⟨26,
 .seq (.region [⟨some 4,.mov (.c (.bool false)),none⟩])
 (.seq (.seq (.region [⟨some 6,.mov (.t 0),none⟩,
 ⟨some 7,.len (.t 6),none⟩,
 ⟨some 8,.mov (.t 1),none⟩,
 ⟨some 9,.len (.t 8),none⟩,
 ⟨some 10,.bin .neq (.t 7) (.t 9),none⟩])
 (.cond (.t 10)
 (.seq (.region [⟨some 4,.mov (.c (.bool false)),none⟩])
 (.ret))
 (.skip)))
 (.seq (.seq (.region [⟨some 5,.mov (.c (.int .i64 0)),none⟩])
 (.block 0 (.loop xX3 xYW)))
 (.seq (.region [⟨some 4,.mov (.c (.bool true)),none⟩])
 (.ret)))),
 [.tmp 4]⟩
def xPI : ACode :=
 .seq (.seq (.region [⟨some 7,.mov (.t 5),none⟩,
 ⟨some 8,.icall (.t 7) [],none⟩])
 (.cond (.t 8)
 (.skip)
 (.exit 0)))
 (.block 1 (.skip))
def xUJ : ACode := xPI
def xNf : List Nat := [0,1,3,4,6,7,8,9]
abbrev xNg (s2 s5 : AV) : List AV := [.any,.any,s2,.any,.any,s5,.any,.any,.any,.any]
theorem xSy (s0 s1 s2 s3 s4 s5 s6 s7 s8 s9 : AV) : xBA xNf [s0,s1,s2,s3,s4,s5,s6,s7,s8,s9] = xNg s2 s5 := by kernel_rfl
theorem xVE {prog : Nat → Option AFunc} (s2 s5 : AV) (H : Heap) : (lim prog).loop xNf xUJ ⟨xNg s2 s5,H⟩ = xDn (lim prog) xNf xUJ (run (lim prog) xPI ⟨xNg s2 s5,H⟩) := xA5 _ _ _ _ (by kernel_rfl)
def a42 : AFunc := ⟨10,
 .seq (.region [⟨some 2,.box (.t 0),none⟩,
 ⟨some 3,.box (.t 1),none⟩,
 ⟨some 4,.mov (.c (.sl true 0 [])),none⟩])
 (.seq (.region [⟨some 6,.mkfunc 66 [(.t 3),(.t 2)],none⟩,
 ⟨some 5,.mov (.t 6),none⟩])
 (.seq (.block 0 (.loop xNf xUJ))
 (.seq (.region [⟨some 9,.load false 1 (.t 2),none⟩,
 ⟨some 4,.mov (.t 9),none⟩])
 (.ret)))),
 [.tmp 4]⟩
def xPJ : ACode :=
 .seq (.region [⟨some 8,.bin .lss (.t 7) (.t 6),none⟩])
 (.seq (.cond (.t 8)
 (.skip)
 (.exit 0))
 (.seq (.block 1 (.seq (.region [⟨some 9,.iaddr 1 (.t 5) (.t 7),none⟩,
 ⟨some 10,.load false 1 (.t 9),none⟩,
 ⟨some 4,.mov (.t 10),none⟩])
 (.region [⟨some 11,.mov (.t 2),none⟩,
 ⟨some 12,.mov (.t 4),none⟩,
 ⟨some 13,.call 68 [(.t 11),(.t 12)],none⟩,
 ⟨some 2,.mov (.t 13),none⟩])))
 (.region [⟨some 14,.bin .add (.t 7) (.c (.int .i64 1)),none⟩,
 ⟨some 7,.mov (.t 14),none⟩])))
def xSz : ACode := xPJ
def xKI : List Nat := [0,1,3,4,8,9,10,11,12,13,14,15]
abbrev xKJ (s2 s5 s6 s7 : AV) : List AV := [.any,.any,s2,.any,.any,s5,s6,s7,.any,.any,.any,.any,.any,.any,.any,.any]
theorem xSA (s0 s1 s2 s3 s4 s5 s6 s7 s8 s9 s10 s11 s12 s13 s14 s15 : AV) : xBA xKI [s0,s1,s2,s3,s4,s5,s6,s7,s8,s9,s10,s11,s12,s13,s14,s15] = xKJ s2 s5 s6 s7 := by kernel_rfl
theorem xVF {prog : Nat → Option AFunc} (s2 s5 s6 s7 : AV) (H : Heap) : (lim prog).loop xKI xSz ⟨xKJ s2 s5 s6 s7,H⟩ = xDn (lim prog) xKI xSz (run (lim prog) xPJ ⟨xKJ s2 s5 s6 s7,H⟩) := xA5 _ _ _ _ (by kernel_rfl)
def a43 : AFunc := ⟨16,
 .seq (.region [⟨some 2,.mov (.c (.sl true 0 [])),none⟩])
 (.seq (.seq (.region [⟨some 5,.mov (.t 0),none⟩,
 ⟨some 6,.len (.t 5),none⟩,
 ⟨some 7,.mov (.c (.int .i64 0)),none⟩])
 (.block 0 (.loop xKI xSz)))
 (.seq (.region [⟨some 15,.mov (.t 2),none⟩,
 ⟨some 2,.mov (.t 15),none⟩])
 (.ret))),
 [.tmp 2]⟩
def xL0 : ACode :=
 .region [⟨some 3,.mov (.t 6),none⟩]
def xPK : ACode :=
 .block 1 (.region [⟨some 7,.load false 1 (.t 2),none⟩,
 ⟨some 8,.mov (.t 3),none⟩,
 ⟨some 9,.bslice true [.int .i64 0] 1 1 [(0,(.t 8))],none⟩,
 ⟨some 10,.append false 1 8 (.t 7) (.t 9),none⟩,
 ⟨none,.store 1 (.t 2) (.t 10),none⟩])
def xPL : ACode := xL0
def xUK : ACode := xPK
theorem xSB (R : Rec) (s : St) : run R xPL s = run R xL0 s := rfl
theorem xVG (R : Rec) (s : St) : run R xUK s = run R xPK s := rfl
def a44 : AFunc := ⟨12,
 .seq (.region [⟨some 2,.box (.c (.sl true 0 [])),none⟩])
 (.seq (.seq (.region [⟨some 4,.mov (.t 0),none⟩,
 ⟨some 5,.icall (.c (.func 69 [])) [(.t 4)],none⟩])
 (.block 0 (.range (.t 5) [6] xPL xUK)))
 (.seq (.region [⟨some 11,.load false 1 (.t 2),none⟩,
 ⟨none,.store 1 (.t 2) (.t 11),none⟩])
 (.ret))),
 [.cell 2 false 1]⟩
def a45 : AFunc := ⟨8,
 .seq (.region [⟨some 4,.mov (.c (.sl true 0 [])),none⟩])
 (.seq (.region [⟨some 5,.mov (.t 0),none⟩,
 ⟨some 6,.mov (.t 1),none⟩,
 ⟨some 7,.icall (.c (.func 70 [])) [(.t 5),(.t 6),(.c (.func 71 []))],none⟩,
 ⟨some 4,.mov (.t 7),none⟩])
 (.ret)),
 [.tmp 4]⟩
def a46 : AFunc := ⟨10,
 .seq (.region [⟨some 3,.mov (.c (.int .i64 0)),none⟩,
 ⟨some 4,.mov (.c (.bool false)),none⟩])
 (.seq (.region [⟨some 5,.load false 1 (.t 1),none⟩,
 ⟨some 6,.mov (.t 0),none⟩,
 ⟨some 7,.call 47 [(.t 5),(.t 6)],none⟩,
 ⟨some 8,.ext 0 (.t 7),none⟩,
 ⟨some 9,.ext 1 (.t 7),none⟩,
 ⟨some 3,.mov (.t 8),none⟩,
 ⟨some 4,.mov (.t 9),none⟩])
 (.ret)),
 [.tmp 3,.tmp 4]⟩
def xKK : ACode :=
 .seq (.seq (.region [⟨some 13,.mov (.t 7),none⟩,
 ⟨some 14,.mov (.t 8),none⟩,
 ⟨some 15,.bin .lss (.t 13) (.t 14),none⟩])
 (.cond (.t 15)
 (.skip)
 (.exit 0)))
 (.block 1 (.seq (.region [⟨some 16,.mov (.t 7),none⟩,
 ⟨some 17,.mov (.t 8),none⟩,
 ⟨some 18,.bin .add (.t 16) (.t 17),none⟩,
 ⟨some 19,.conv .u64 (.t 18),none⟩,
 ⟨some 20,.bin .shr (.t 19) (.c (.int .u64 1)),none⟩,
 ⟨some 21,.conv .i64 (.t 20),none⟩,
 ⟨some 9,.mov (.t 21),none⟩])
 (.seq (.region [⟨some 22,.mov (.t 0),none⟩,
 ⟨some 23,.mov (.t 9),none⟩,
 ⟨some 24,.iaddr 1 (.t 22) (.t 23),none⟩,
 ⟨some 25,.load false 1 (.t 24),none⟩,
 ⟨some 26,.mov (.t 1),none⟩,
 ⟨some 27,.call 72 [(.t 25),(.t 26)],none⟩])
 (.cond (.t 27)
 (.region [⟨some 28,.mov (.t 9),none⟩,
 ⟨some 29,.bin .add (.t 28) (.c (.int .i64 1)),none⟩,
 ⟨some 7,.mov (.t 29),none⟩])
 (.region [⟨some 30,.mov (.t 9),none⟩,
 ⟨some 8,.mov (.t 30),none⟩])))))
def xUL : ACode := xKK
def xNh : List Nat := [2,3,4,5,9,10,11,12,13,14,15,16,17,18,19,20,21,22,23,24,25,26,27,28,29,30,31,32,33,34,35,36,37,38,39,40,41,42,43,44,45,46,47,48,49,50,51,52,53]
abbrev xNi (s0 s1 s6 s7 s8 : AV) : List AV := [s0,s1,.any,.any,.any,.any,s6,s7,s8,.any,.any,.any,.any,.any,.any,.any,.any,.any,.any,.any,.any,.any,.any,.any,.any,.any,.any,.any,.any,.any,.any,.any,.any,.any,.any,.any,.any,.any,.any,.any,.any,.any,.any,.any,.any,.any,.any,.any,.any,.any,.any,.any,.any,.any]
theorem xI4 (s0 s1 s2 s3 s4 s5 s6 s7 s8 s9 s10 s11 s12 s13 s14 s15 s16 s17 s18 s19 s20 s21 s22 s23 s24 s25 s26 s27 s28 s29 s30 s31 s32 s33 s34 s35 s36 s37 s38 s39 s40 s41 s42 s43 s44 s45 s46 s47 s48 s49 s50 s51 s52 s53 : AV) : xBA xNh [s0,s1,s2,s3,s4,s5,s6,s7,s8,s9,s10,s11,s12,s13,s14,s15,s16,s17,s18,s19,s20,s21,s22,s23,s24,s25,s26,s27,s28,s29,s30,s31,s32,s33,s34,s35,s36,s37,s38,s39,s40,s41,s42,s43,s44,s45,s46,s47,s48,s49,s50,s51,s52,s53] = xNi s0 s1 s6 s7 s8 := by kernel_rfl
theorem xPM {prog : Nat → Option AFunc} (s0 s1 s6 s7 s8 : AV) (H : Heap) : (lim prog).loop xNh xUL ⟨xNi s0 s1 s6 s7 s8,H⟩ = xDn (lim prog) xNh xUL (run (lim prog) xKK ⟨xNi s0 s1 s6 s7 s8,H⟩) := xA5 _ _ _ _ (by kernel_rfl)
def a47 : AFunc := ⟨54,
 .seq (.region [⟨some 4,.mov (.c (.int .i64 0)),none⟩,
 ⟨some 5,.mov (.c (.bool false)),none⟩])
 (.seq (.region [⟨some 10,.mov (.t 0),none⟩,
 ⟨some 11,.len (.t 10),none⟩,
 ⟨some 6,.mov (.t 11),none⟩])
 (.seq (.region [⟨some 12,.mov (.t 6),none⟩,
 ⟨some 7,.mov (.c (.int .i64 0)),none⟩,
 ⟨some 8,.mov (.t 12),none⟩])
 (.seq (.block 0 (.loop xNh xUL))
 (.seq (.region [⟨some 31,.mov (.t 7),none⟩,
 ⟨some 32,.mov (.t 7),none⟩,
 ⟨some 33,.mov (.t 6),none⟩,
 ⟨some 34,.bin .lss (.t 32) (.t 33),none⟩,
 ⟨some 35,.mov (.t 34),none⟩,
 ⟨some 36,.mov (.t 0),some (35,true)⟩,
 ⟨some 37,.mov (.t 7),some (35,true)⟩,
 ⟨some 38,.iaddr 1 (.t 36) (.t 37),some (35,true)⟩,
 ⟨some 39,.load false 1 (.t 38),some (35,true)⟩,
 ⟨some 40,.mov (.t 1),some (35,true)⟩,
 ⟨some 41,.bin .eql (.t 39) (.t 40),some (35,true)⟩,
 ⟨some 42,.mov (.t 41),some (35,true)⟩,
 ⟨some 43,.mov (.t 0),some (42,false)⟩,
 ⟨some 44,.mov (.t 7),some (42,false)⟩,
 ⟨some 45,.iaddr 1 (.t 43) (.t 44),some (42,false)⟩,
 ⟨some 46,.load false 1 (.t 45),some (42,false)⟩,
 ⟨some 47,.call 73 [(.t 46)],some (42,false)⟩,
 ⟨some 48,.mov (.t 47),some (42,false)⟩,
 ⟨some 49,.mov (.t 1),some (48,true)⟩,
 ⟨some 50,.call 73 [(.t 49)],some (48,true)⟩,
 ⟨some 51,.pick (.t 48) (.t 50) (.c (.bool false)),some (42,false)⟩,
 ⟨some 52,.pick (.t 42) (.c (.bool true)) (.t 51),some (35,true)⟩,
 ⟨some 53,.pick (.t 35) (.t 52) (.c (.bool false)),none⟩,
 ⟨some 4,.mov (.t 31),none⟩,
 ⟨some 5,.mov (.t 53),none⟩])
 (.ret))))),
 [.tmp 4,.tmp 5]⟩
def a48 : AFunc := ⟨8,
 .seq (.region [⟨some 2,.mov (.c (.sl true 0 [])),none⟩])
 (.seq (.seq (.region [⟨some 3,.mov (.t 0),none⟩,
 ⟨some 4,.isnil false (.t 3),none⟩])
 (.cond (.t 4)
 (.seq (.region [⟨some 2,.mov (.c (.sl true 0 [])),none⟩])
 (.ret))
 (.skip)))
 (.seq (.region [⟨some 5,.bslice false [.int .i64 0] 1 0 [],none⟩,
 ⟨some 6,.mov (.t 0),none⟩,
 ⟨some 7,.append false 1 8 (.t 5) (.t 6),none⟩,
 ⟨some 2,.mov (.t 7),none⟩])
 (.ret))),
 [.tmp 2]⟩
def a49 : AFunc := ⟨8,
 .seq (.region [⟨some 2,.mov (.c (.sl true 0 [])),none⟩])
 (.seq (.seq (.region [⟨some 3,.mov (.t 0),none⟩,
 ⟨some 4,.isnil false (.t 3),none⟩])
 (.cond (.t 4)
 (.seq (.region [⟨some 2,.mov (.c (.sl true 0 [])),none⟩])
 (.ret))
 (.skip)))
 (.seq (.region [⟨some 5,.bslice false [.int .i64 0,.int .i64 0,.int .u8 0,.int .u8 0] 4 0 [],none⟩,
 ⟨some 6,.mov (.t 0),none⟩,
 ⟨some 7,.append false 4 24 (.t 5) (.t 6),none⟩,
 ⟨some 2,.mov (.t 7),none⟩])
 (.ret))),
 [.tmp 2]⟩
def xX4 : ACode :=
 .seq (.seq (.region [⟨some 11,.mov (.t 5),none⟩,
 ⟨some 12,.mov (.t 0),none⟩,
 ⟨some 13,.len (.t 12),none⟩,
 ⟨some 14,.bin .lss (.t 11) (.t 13),none⟩])
 (.cond (.t 14)
 (.skip)
 (.exit 0)))
 (.seq (.block 1 (.seq (.draw 5 [⟨some 17,.mov (.t 0),none⟩,
 ⟨some 18,.mov (.t 5),none⟩,
 ⟨some 19,.iaddr 4 (.t 17) (.t 18),none⟩,
 ⟨some 20,.load true 4 (.t 19),none⟩,
 ⟨some 21,.mov (.t 1),none⟩,
 ⟨some 22,.mov (.t 5),none⟩,
 ⟨some 23,.iaddr 4 (.t 21) (.t 22),none⟩,
 ⟨some 24,.load true 4 (.t 23),none⟩,
 ⟨some 25,.aeq true 4 (.t 20) (.t 24),none⟩])
 (.cond (.t 25)
 (.seq (.region [⟨some 4,.mov (.c (.bool false)),none⟩])
 (.ret))
 (.skip))))
 (.region [⟨some 15,.mov (.t 5),none⟩,
 ⟨some 16,.bin .add (.t 15) (.c (.int .i64 1)),none⟩,
 ⟨some 5,.mov (.t 16),none⟩]))
def xYX : ACode := xX4
def xX5 : List Nat := [2,3,6,7,8,9,10,11,12,13,14,15,16,17,18,19,20,21,22,23,24,25]
def a50 : AFunc := ⟨26,
 .seq (.region [⟨some 4,.mov (.c (.bool false)),none⟩])
 (.seq (.seq (.region [⟨some 6,.mov (.t 0),none⟩,
 ⟨some 7,.len (.t 6),none⟩,
 ⟨some 8,.mov (.t 1),none⟩,
 ⟨some 9,.len (.t 8),none⟩,
 ⟨some 10,.bin .neq (.t 7) (.t 9),none⟩])
 (.cond (.t 10)
 (.seq (.region [⟨some 4,.mov (.c (.bool false)),none⟩])
 (.ret))
 (.skip)))
 (.seq (.seq (.region [⟨some 5,.mov (.c (.int .i64 0)),none⟩])
 (.block 0 (.loop xX5 xYX)))
 (.seq (.region [⟨some 4,.mov (.c (.bool true)),none⟩])
 (.ret)))),
 [.tmp 4]⟩
def a53 : AFunc := ⟨10,
 .seq (.region [⟨some 4,.mov (.c (.bool false)),none⟩])
 (.seq (.region [⟨some 5,.mov (.t 0),none⟩,
 ⟨some 6,.mov (.t 1),none⟩,
 ⟨some 7,.call 45 [(.t 5),(.t 6)],none⟩,
 ⟨some 8,.len (.t 7),none⟩,
 ⟨some 9,.bin .gtr (.t 8) (.c (.int .i64 0)),none⟩,
 ⟨some 4,.mov (.t 9),none⟩])
 (.ret)),
 [.tmp 4]⟩
def a54 : AFunc := ⟨10,
 .seq (.region [⟨some 1,.mov (.c (.bool false)),none⟩])
 (.seq (.region [⟨some 2,.faddr 0 (.t 0),none⟩,
 ⟨some 3,.load false 1 (.t 2),none⟩,
 ⟨some 4,.bin .lss (.t 3) (.c (.int .i64 0)),none⟩,
 ⟨some 5,.mov (.t 4),none⟩,
 ⟨some 6,.faddr 0 (.t 0),some (5,false)⟩,
 ⟨some 7,.load false 1 (.t 6),some (5,false)⟩,
 ⟨some 8,.bin .gtr (.t 7) (.c (.int .i64 6)),some (5,false)⟩,
 ⟨some 9,.pick (.t 5) (.c (.bool true)) (.t 8),none⟩,
 ⟨some 1,.mov (.t 9),none⟩])
 (.ret)),
 [.tmp 1]⟩
def a55 : AFunc := ⟨5,
 .seq (.region [⟨some 1,.mov (.c (.bool false)),none⟩])
 (.seq (.region [⟨some 2,.faddr 1 (.t 0),none⟩,
 ⟨some 3,.load false 1 (.t 2),none⟩,
 ⟨some 4,.bin .lss (.t 3) (.c (.int .i64 0)),none⟩,
 ⟨some 1,.mov (.t 4),none⟩])
 (.ret)),
 [.tmp 1]⟩
def a56 : AFunc := ⟨11,
 .seq (.region [⟨some 1,.mov (.c (.bool false)),none⟩])
 (.seq (.region [⟨some 2,.faddr 1 (.t 0),none⟩,
 ⟨some 3,.load false 1 (.t 2),none⟩,
 ⟨some 4,.bin .gtr (.t 3) (.c (.int .i64 64)),none⟩,
 ⟨some 5,.mov (.t 4),none⟩,
 ⟨some 6,.faddr 4 (.t 0),some (5,false)⟩,
 ⟨some 7,.load false 1 (.t 6),some (5,false)⟩,
 ⟨some 8,.len (.t 7),some (5,false)⟩,
 ⟨some 9,.bin .gtr (.t 8) (.c (.int .i64 512)),some (5,false)⟩,
 ⟨some 10,.pick (.t 5) (.c (.bool true)) (.t 9),none⟩,
 ⟨some 1,.mov (.t 10),none⟩])
 (.ret)),
 [.tmp 1]⟩
def a57 : AFunc := ⟨14,
 .seq (.region [⟨some 1,.mov (.c (.bool false)),none⟩])
 (.seq (.region [⟨some 2,.load true 5 (.t 0),none⟩,
 ⟨some 3,.faddr 2 (.t 0),none⟩,
 ⟨some 4,.load false 1 (.t 3),none⟩,
 ⟨some 5,.call 58 [(.t 2),(.t 4)],none⟩,
 ⟨some 6,.un .not (.t 5),none⟩,
 ⟨some 7,.mov (.t 6),none⟩,
 ⟨some 8,.load true 5 (.t 0),some (7,false)⟩,
 ⟨some 9,.faddr 3 (.t 0),some (7,false)⟩,
 ⟨some 10,.load false 1 (.t 9),some (7,false)⟩,
 ⟨some 11,.call 58 [(.t 8),(.t 10)],some (7,false)⟩,
 ⟨some 12,.un .not (.t 11),some (7,false)⟩,
 ⟨some 13,.pick (.t 7) (.c (.bool true)) (.t 12),none⟩,
 ⟨some 1,.mov (.t 13),none⟩])
 (.ret)),
 [.tmp 1]⟩
def xI5 : ACode :=
 .seq (.region [⟨some 11,.bin .lss (.t 10) (.t 9),none⟩])
 (.seq (.cond (.t 11)
 (.skip)
 (.exit 0))
 (.seq (.block 1 (.seq (.region [⟨some 12,.iaddr 1 (.t 8) (.t 10),none⟩,
 ⟨some 13,.load false 1 (.t 12),none⟩,
 ⟨some 7,.mov (.t 13),none⟩])
 (.seq (.seq (.region [⟨some 14,.mov (.t 7),none⟩,
 ⟨some 15,.mov (.t 5),none⟩,
 ⟨some 16,.bin .leq (.t 14) (.t 15),none⟩,
 ⟨some 17,.mov (.t 16),none⟩,
 ⟨some 18,.mov (.t 7),some (17,false)⟩,
 ⟨some 19,.faddr 1 (.t 2),some (17,false)⟩,
 ⟨some 20,.load false 1 (.t 19),some (17,false)⟩,
 ⟨some 21,.bin .geq (.t 18) (.t 20),some (17,false)⟩,
 ⟨some 22,.pick (.t 17) (.c (.bool true)) (.t 21),none⟩])
 (.cond (.t 22)
 (.seq (.region [⟨some 4,.mov (.c (.bool false)),none⟩])
 (.ret))
 (.skip)))
 (.region [⟨some 23,.mov (.t 7),none⟩,
 ⟨some 5,.mov (.t 23),none⟩]))))
 (.region [⟨some 24,.bin .add (.t 10) (.c (.int .i64 1)),none⟩,
 ⟨some 10,.mov (.t 24),none⟩])))
def xUM : ACode := xI5
def xNj : List Nat := [0,1,3,6,7,11,12,13,14,15,16,17,18,19,20,21,22,23,24]
abbrev xKL (s2 s4 s5 s8 s9 s10 : AV) : List AV := [.any,.any,s2,.any,s4,s5,.any,.any,s8,s9,s10,.any,.any,.any,.any,.any,.any,.any,.any,.any,.any,.any,.any,.any,.any]
theorem xI6 (s0 s1 s2 s3 s4 s5 s6 s7 s8 s9 s10 s11 s12 s13 s14 s15 s16 s17 s18 s19 s20 s21 s22 s23 s24 : AV) : xBA xNj [s0,s1,s2,s3,s4,s5,s6,s7,s8,s9,s10,s11,s12,s13,s14,s15,s16,s17,s18,s19,s20,s21,s22,s23,s24] = xKL s2 s4 s5 s8 s9 s10 := by kernel_rfl
theorem xPN {prog : Nat → Option AFunc} (s2 s4 s5 s8 s9 s10 : AV) (H : Heap) : (lim prog).loop xNj xUM ⟨xKL s2 s4 s5 s8 s9 s10,H⟩ = xDn (lim prog) xNj xUM (run (lim prog) xI5 ⟨xKL s2 s4 s5 s8 s9 s10,H⟩) := xA5 _ _ _ _ (by kernel_rfl)
def a58 : AFunc := ⟨25,
 .seq (.region [⟨some 2,.box (.t 0),none⟩,
 ⟨some 4,.mov (.c (.bool false)),none⟩])
 (.seq (.region [⟨some 5,.mov (.c (.int .i64 (-1))),none⟩])
 (.seq (.seq (.region [⟨some 8,.mov (.t 1),none⟩,
 ⟨some 9,.len (.t 8),none⟩,
 ⟨some 10,.mov (.c (.int .i64 0)),none⟩])
 (.block 0 (.loop xNj xUM)))
 (.seq (.region [⟨some 4,.mov (.c (.bool true)),none⟩])
 (.ret)))),
 [.tmp 4]⟩
def a59 : AFunc := ⟨28,
 .seq (.region [⟨some 2,.box (.t 0),none⟩,
 ⟨some 4,.mov (.c (.int .i64 0)),none⟩])
 (.seq (.block 0 (.seq (.seq (.region [⟨some 6,.mov (.t 1),none⟩,
 ⟨some 7,.bin .lss (.t 6) (.c (.int .i64 0)),none⟩,
 ⟨some 8,.mov (.t 7),none⟩,
 ⟨some 9,.mov (.t 1),some (8,false)⟩,
 ⟨some 10,.bin .gtr (.t 9) (.c (.int .i64 6)),some (8,false)⟩,
 ⟨some 11,.pick (.t 8) (.c (.bool true)) (.t 10),none⟩,
 ⟨some 5,.mov (.t 11),none⟩])
 (.cond (.t 5)
 (.skip)
 (.draw 6 [⟨some 12,.faddr 0 (.t 2),none⟩,
 ⟨some 13,.load false 1 (.t 12),none⟩,
 ⟨some 14,.faddr 1 (.t 2),none⟩,
 ⟨some 15,.load false 1 (.t 14),none⟩,
 ⟨some 16,.bin .or (.t 13) (.t 15),none⟩,
 ⟨some 17,.conv .i64 (.t 16),none⟩,
 ⟨some 18,.mov (.t 1),none⟩,
 ⟨some 19,.bin .shl (.c (.int .i64 1)) (.t 18),none⟩,
 ⟨some 20,.bin .geq (.t 17) (.t 19),none⟩,
 ⟨some 5,.mov (.t 20),none⟩])))
 (.cond (.t 5)
 (.seq (.region [⟨some 4,.mov (.c (.int .i64 7)),none⟩])
 (.ret))
 (.seq (.region [⟨some 22,.faddr 0 (.t 2),none⟩,
 ⟨some 23,.load false 1 (.t 22),none⟩,
 ⟨some 24,.faddr 1 (.t 2),none⟩,
 ⟨some 25,.load false 1 (.t 24),none⟩,
 ⟨some 26,.bin .and (.t 23) (.t 25),none⟩,
 ⟨some 27,.bin .neq (.t 26) (.c (.int .u8 0)),none⟩,
 ⟨some 21,.mov (.t 27),none⟩])
 (.cond (.t 21)
 (.seq (.region [⟨some 4,.mov (.c (.int .i64 2)),none⟩])
 (.ret))
 (.skip))))))
 (.seq (.region [⟨some 4,.mov (.c (.int .i64 0)),none⟩])
 (.ret))),
 [.tmp 4]⟩
def a60 : AFunc := ⟨13,
 .seq (.region [⟨some 2,.box (.t 0),none⟩,
 ⟨some 4,.mov (.c (.int .i64 0)),none⟩])
 (.seq (.block 0 (.seq (.region [⟨some 6,.mov (.t 1),none⟩,
 ⟨some 7,.len (.t 6),none⟩,
 ⟨some 8,.bin .gtr (.t 7) (.c (.int .i64 64)),none⟩,
 ⟨some 5,.mov (.t 8),none⟩])
 (.cond (.t 5)
 (.seq (.region [⟨some 4,.mov (.c (.int .i64 4)),none⟩])
 (.ret))
 (.seq (.region [⟨some 10,.mov (.t 1),none⟩,
 ⟨some 11,.mkfunc 75 [(.t 2)],none⟩,
 ⟨some 12,.icall (.c (.func 74 [])) [(.t 10),(.t 11)],none⟩,
 ⟨some 9,.mov (.t 12),none⟩])
 (.cond (.t 9)
 (.seq (.region [⟨some 4,.mov (.c (.int .i64 1)),none⟩])
 (.ret))
 (.skip))))))
 (.seq (.region [⟨some 4,.mov (.c (.int .i64 0)),none⟩])
 (.ret))),
 [.tmp 4]⟩
def xL1 : ACode :=
 .region [⟨some 7,.box (.c (.agg [.int .i64 0,.int .i64 0,.int .u8 0,.int .u8 0])),none⟩,
 ⟨none,.store 4 (.t 7) (.t 11),none⟩]
def xPO : ACode :=
 .block 1 (.seq (.region [⟨some 12,.load false 1 (.t 4),none⟩,
 ⟨some 13,.faddr 0 (.t 7),none⟩,
 ⟨some 14,.load false 1 (.t 13),none⟩,
 ⟨some 15,.call 67 [(.t 12),(.t 14)],none⟩])
 (.cond (.t 15)
 (.region [⟨some 16,.load false 1 (.t 6),none⟩,
 ⟨some 17,.faddr 1 (.t 7),none⟩,
 ⟨some 18,.load false 1 (.t 17),none⟩,
 ⟨some 19,.call 68 [(.t 16),(.t 18)],none⟩,
 ⟨none,.store 1 (.t 6) (.t 19),none⟩])
 (.skip)))
def xSC : ACode := xL1
def xWK : ACode := xPO
theorem xSD (R : Rec) (s : St) : run R xSC s = run R xL1 s := rfl
theorem xVH (R : Rec) (s : St) : run R xWK s = run R xPO s := rfl
def a61 : AFunc := ⟨21,
 .seq (.region [⟨some 3,.box (.t 0),none⟩,
 ⟨some 4,.box (.t 1),none⟩,
 ⟨some 6,.box (.c (.sl true 0 [])),none⟩])
 (.seq (.seq (.region [⟨some 8,.load true 5 (.t 3),none⟩,
 ⟨some 9,.mov (.t 2),none⟩,
 ⟨some 10,.icall (.c (.func 76 [])) [(.t 8),(.t 9)],none⟩])
 (.block 0 (.range (.t 10) [11] xSC xWK)))
 (.seq (.region [⟨some 20,.load false 1 (.t 6),none⟩,
 ⟨none,.store 1 (.t 6) (.t 20),none⟩])
 (.ret))),
 [.cell 6 false 1]⟩
def a62 : AFunc := ⟨5,
 .seq (.region [⟨some 2,.mov (.c (.sl true 0 [])),none⟩])
 (.seq (.region [⟨some 3,.mov (.t 0),none⟩,
 ⟨some 4,.call 77 [(.t 3),(.c (.sl true 0 []))],none⟩,
 ⟨some 2,.mov (.t 4),none⟩])
 (.ret)),
 [.tmp 2]⟩
def a63 : AFunc := ⟨35,
 .seq (.region [⟨some 2,.mov (.c (.int .i64 0)),none⟩])
 (.seq (.region [⟨some 3,.mov (.t 0),none⟩,
 ⟨some 4,.bin .shr (.t 3) (.c (.int .u64 1)),none⟩,
 ⟨some 5,.bin .and (.t 4) (.c (.int .u64 6148914691236517205)),none⟩,
 ⟨some 6,.mov (.t 0),none⟩,
 ⟨some 7,.bin .and (.t 6) (.c (.int .u64 6148914691236517205)),none⟩,
 ⟨some 8,.bin .add (.t 5) (.t 7),none⟩,
 ⟨some 0,.mov (.t 8),none⟩])
 (.seq (.region [⟨some 9,.mov (.t 0),none⟩,
 ⟨some 10,.bin .shr (.t 9) (.c (.int .u64 2)),none⟩,
 ⟨some 11,.bin .and (.t 10) (.c (.int .u64 3689348814741910323)),none⟩,
 ⟨some 12,.mov (.t 0),none⟩,
 ⟨some 13,.bin .and (.t 12) (.c (.int .u64 3689348814741910323)),none⟩,
 ⟨some 14,.bin .add (.t 11) (.t 13),none⟩,
 ⟨some 0,.mov (.t 14),none⟩])
 (.seq (.region [⟨some 15,.mov (.t 0),none⟩,
 ⟨some 16,.bin .shr (.t 15) (.c (.int .u64 4)),none⟩,
 ⟨some 17,.mov (.t 0),none⟩,
 ⟨some 18,.bin .add (.t 16) (.t 17),none⟩,
 ⟨some 19,.bin .and (.t 18) (.c (.int .u64 1085102592571150095)),none⟩,
 ⟨some 0,.mov (.t 19),none⟩])
 (.seq (.region [⟨some 20,.mov (.t 0),none⟩,
 ⟨some 21,.mov (.t 0),none⟩,
 ⟨some 22,.bin .shr (.t 21) (.c (.int .u64 8)),none⟩,
 ⟨some 23,.bin .add (.t 20) (.t 22),none⟩,
 ⟨some 0,.mov (.t 23),none⟩])
 (.seq (.region [⟨some 24,.mov (.t 0),none⟩,
 ⟨some 25,.mov (.t 0),none⟩,
 ⟨some 26,.bin .shr (.t 25) (.c (.int .u64 16)),none⟩,
 ⟨some 27,.bin .add (.t 24) (.t 26),none⟩,
 ⟨some 0,.mov (.t 27),none⟩])
 (.seq (.region [⟨some 28,.mov (.t 0),none⟩,
 ⟨some 29,.mov (.t 0),none⟩,
 ⟨some 30,.bin .shr (.t 29) (.c (.int .u64 32)),none⟩,
 ⟨some 31,.bin .add (.t 28) (.t 30),none⟩,
 ⟨some 0,.mov (.t 31),none⟩])
 (.seq (.region [⟨some 32,.mov (.t 0),none⟩,
 ⟨some 33,.conv .i64 (.t 32),none⟩,
 ⟨some 34,.bin .and (.t 33) (.c (.int .i64 127)),none⟩,
 ⟨some 2,.mov (.t 34),none⟩])
 (.ret)))))))),
 [.tmp 2]⟩
def xKM : ACode :=
 .seq (.region [⟨some 8,.bin .lss (.t 7) (.t 6),none⟩])
 (.seq (.cond (.t 8)
 (.skip)
 (.exit 0))
 (.seq (.block 1 (.seq (.region [⟨some 9,.iaddr 4 (.t 5) (.t 7),none⟩,
 ⟨some 10,.load true 4 (.t 9),none⟩,
 ⟨some 4,.box (.c (.agg [.int .i64 0,.int .i64 0,.int .u8 0,.int .u8 0])),none⟩,
 ⟨none,.store 4 (.t 4) (.t 10),none⟩])
 (.seq (.region [⟨some 11,.load false 1 (.t 1),none⟩,
 ⟨some 12,.faddr 0 (.t 4),none⟩,
 ⟨some 13,.load false 1 (.t 12),none⟩,
 ⟨some 14,.call 67 [(.t 11),(.t 13)],none⟩,
 ⟨some 15,.mov (.t 14),none⟩,
 ⟨some 16,.load false 1 (.t 1),some (15,true)⟩,
 ⟨some 17,.faddr 1 (.t 4),some (15,true)⟩,
 ⟨some 18,.load false 1 (.t 17),some (15,true)⟩,
 ⟨some 19,.call 67 [(.t 16),(.t 18)],some (15,true)⟩,
 ⟨some 20,.un .not (.t 19),some (15,true)⟩,
 ⟨some 21,.pick (.t 15) (.t 20) (.c (.bool false)),none⟩])
 (.cond (.t 21)
 (.region [⟨some 22,.load false 1 (.t 1),none⟩,
 ⟨some 23,.faddr 1 (.t 4),none⟩,
 ⟨some 24,.load false 1 (.t 23),none⟩,
 ⟨some 25,.call 68 [(.t 22),(.t 24)],none⟩,
 ⟨none,.store 1 (.t 1) (.t 25),none⟩,
 ⟨some 2,.mov (.c (.bool true)),none⟩])
 (.skip)))))
 (.region [⟨some 26,.bin .add (.t 7) (.c (.int .i64 1)),none⟩,
 ⟨some 7,.mov (.t 26),none⟩])))
def xUN : ACode := xKM
def xNk : List Nat := [0,3,4,8,9,10,11,12,13,14,15,16,17,18,19,20,21,22,23,24,25,26,27]
abbrev xNl (s1 s2 s5 s6 s7 : AV) : List AV := [.any,s1,s2,.any,.any,s5,s6,s7,.any,.any,.any,.any,.any,.any,.any,.any,.any,.any,.any,.any,.any,.any,.any,.any,.any,.any,.any,.any]
theorem xNm (s0 s1 s2 s3 s4 s5 s6 s7 s8 s9 s10 s11 s12 s13 s14 s15 s16 s17 s18 s19 s20 s21 s22 s23 s24 s25 s26 s27 : AV) : xBA xNk [s0,s1,s2,s3,s4,s5,s6,s7,s8,s9,s10,s11,s12,s13,s14,s15,s16,s17,s18,s19,s20,s21,s22,s23,s24,s25,s26,s27] = xNl s1 s2 s5 s6 s7 := by kernel_rfl
theorem xPP {prog : Nat → Option AFunc} (s1 s2 s5 s6 s7 : AV) (H : Heap) : (lim prog).loop xNk xUN ⟨xNl s1 s2 s5 s6 s7,H⟩ = xDn (lim prog) xNk xUN (run (lim prog) xKM ⟨xNl s1 s2 s5 s6 s7,H⟩) := xA5 _ _ _ _ (by kernel_rfl)
def a66 : AFunc := ⟨28,
 .seq (.region [⟨some 2,.mov (.c (.bool false)),none⟩])
 (.seq (.seq (.region [⟨some 5,.load false 1 (.t 0),none⟩,
 ⟨some 6,.len (.t 5),none⟩,
 ⟨some 7,.mov (.c (.int .i64 0)),none⟩])
 (.block 0 (.loop xNk xUN)))
 (.seq (.region [⟨some 27,.mov (.t 2),none⟩,
 ⟨some 2,.mov (.t 27),none⟩])
 (.ret))),
 [.tmp 2]⟩
def a67 : AFunc := ⟨9,
 .seq (.region [⟨some 4,.mov (.c (.bool false)),none⟩])
 (.seq (.region [⟨some 5,.mov (.t 0),none⟩,
 ⟨some 6,.mov (.t 1),none⟩,
 ⟨some 7,.call 79 [(.t 6)],none⟩,
 ⟨some 8,.call 53 [(.t 5),(.t 7)],none⟩,
 ⟨some 4,.mov (.t 8),none⟩])
 (.ret)),
 [.tmp 4]⟩
def a68 : AFunc := ⟨9,
 .seq (.region [⟨some 4,.mov (.c (.sl true 0 [])),none⟩])
 (.seq (.region [⟨some 5,.mov (.t 0),none⟩,
 ⟨some 6,.mov (.t 1),none⟩,
 ⟨some 7,.call 79 [(.t 6)],none⟩,
 ⟨some 8,.call 77 [(.t 5),(.t 7)],none⟩,
 ⟨some 4,.mov (.t 8),none⟩])
 (.ret)),
 [.tmp 4]⟩
def a69 : AFunc := ⟨4,
 .seq (.region [⟨some 1,.box (.t 0),none⟩,
 ⟨some 2,.mov (.c (.nilf)),none⟩])
 (.seq (.region [⟨some 3,.mkfunc 80 [(.t 1)],none⟩,
 ⟨some 2,.mov (.t 3),none⟩])
 (.ret)),
 [.tmp 2]⟩
def xNn : ACode :=
 .seq (.region [⟨some 17,.bin .lss (.t 16) (.t 15),none⟩])
 (.seq (.cond (.t 17)
 (.skip)
 (.exit 0))
 (.seq (.block 1 (.seq (.region [⟨some 18,.mov (.t 16),none⟩,
 ⟨some 9,.mov (.t 18),none⟩])
 (.region [⟨some 19,.mov (.t 8),none⟩,
 ⟨some 20,.mov (.t 2),none⟩,
 ⟨some 21,.mov (.t 7),none⟩,
 ⟨some 22,.mov (.t 0),none⟩,
 ⟨some 23,.mov (.t 9),none⟩,
 ⟨some 24,.icall (.t 21) [(.t 22),(.t 23)],none⟩,
 ⟨some 25,.mov (.t 7),none⟩,
 ⟨some 26,.mov (.t 1),none⟩,
 ⟨some 27,.mov (.t 9),none⟩,
 ⟨some 28,.icall (.t 25) [(.t 26),(.t 27)],none⟩,
 ⟨some 29,.icall (.t 20) [(.t 24),(.t 28)],none⟩,
 ⟨some 30,.bslice true [.int .u64 0] 1 1 [(0,(.t 29))],none⟩,
 ⟨some 31,.append false 1 8 (.t 19) (.t 30),none⟩,
 ⟨some 8,.mov (.t 31),none⟩])))
 (.region [⟨some 32,.bin .add (.t 16) (.c (.int .i64 1)),none⟩,
 ⟨some 16,.mov (.t 32),none⟩])))
def xUO : ACode := xNn
def xNo : List Nat := [3,4,5,6,9,10,11,12,13,14,17,18,19,20,21,22,23,24,25,26,27,28,29,30,31,32,33,34,35,36,37,38,39,40,41,42,43,44,45,46,47,48,49,50,51]
abbrev xNp (s0 s1 s2 s7 s8 s15 s16 : AV) : List AV := [s0,s1,s2,.any,.any,.any,.any,s7,s8,.any,.any,.any,.any,.any,.any,s15,s16,.any,.any,.any,.any,.any,.any,.any,.any,.any,.any,.any,.any,.any,.any,.any,.any,.any,.any,.any,.any,.any,.any,.any,.any,.any,.any,.any,.any,.any,.any,.any,.any,.any,.any,.any]
theorem xNq (s0 s1 s2 s3 s4 s5 s6 s7 s8 s9 s10 s11 s12 s13 s14 s15 s16 s17 s18 s19 s20 s21 s22 s23 s24 s25 s26 s27 s28 s29 s30 s31 s32 s33 s34 s35 s36 s37 s38 s39 s40 s41 s42 s43 s44 s45 s46 s47 s48 s49 s50 s51 : AV) : xBA xNo [s0,s1,s2,s3,s4,s5,s6,s7,s8,s9,s10,s11,s12,s13,s14,s15,s16,s17,s18,s19,s20,s21,s22,s23,s24,s25,s26,s27,s28,s29,s30,s31,s32,s33,s34,s35,s36,s37,s38,s39,s40,s41,s42,s43,s44,s45,s46,s47,s48,s49,s50,s51] = xNp s0 s1 s2 s7 s8 s15 s16 := by kernel_rfl
theorem xSE {prog : Nat → Option AFunc} (s0 s1 s2 s7 s8 s15 s16 : AV) (H : Heap) : (lim prog).loop xNo xUO ⟨xNp s0 s1 s2 s7 s8 s15 s16,H⟩ = xDn (lim prog) xNo xUO (run (lim prog) xNn ⟨xNp s0 s1 s2 s7 s8 s15 s16,H⟩) := xA5 _ _ _ _ (by kernel_rfl)
def xKN : ACode :=
 .seq (.seq (.region [⟨some 33,.mov (.t 8),none⟩,
 ⟨some 34,.len (.t 33),none⟩,
 ⟨some 35,.bin .gtr (.t 34) (.c (.int .i64 0)),none⟩,
 ⟨some 36,.mov (.t 35),none⟩,
 ⟨some 37,.mov (.t 8),some (36,true)⟩,
 ⟨some 38,.mov (.t 8),some (36,true)⟩,
 ⟨some 39,.len (.t 38),some (36,true)⟩,
 ⟨some 40,.bin .sub (.t 39) (.c (.int .i64 1)),some (36,true)⟩,
 ⟨some 41,.iaddr 1 (.t 37) (.t 40),some (36,true)⟩,
 ⟨some 42,.load false 1 (.t 41),some (36,true)⟩,
 ⟨some 43,.bin .eql (.t 42) (.c (.int .u64 0)),some (36,true)⟩,
 ⟨some 44,.pick (.t 36) (.t 43) (.c (.bool false)),none⟩])
 (.cond (.t 44)
 (.skip)
 (.exit 2)))
 (.block 3 (.region [⟨some 45,.mov (.t 8),none⟩,
 ⟨some 46,.mov (.t 8),none⟩,
 ⟨some 47,.len (.t 46),none⟩,
 ⟨some 48,.bin .sub (.t 47) (.c (.int .i64 1)),none⟩,
 ⟨some 49,.slice 1 (.t 45) none (some (.t 48)) none,none⟩,
 ⟨some 8,.mov (.t 49),none⟩]))
def xSF : ACode := xKN
def xKO : List Nat := [0,1,2,3,4,5,6,7,9,10,11,12,13,14,15,16,17,18,19,20,21,22,23,24,25,26,27,28,29,30,31,32,33,34,35,36,37,38,39,40,41,42,43,44,45,46,47,48,49,50,51]
abbrev xI7 (s8 : AV) : List AV := [.any,.any,.any,.any,.any,.any,.any,.any,s8,.any,.any,.any,.any,.any,.any,.any,.any,.any,.any,.any,.any,.any,.any,.any,.any,.any,.any,.any,.any,.any,.any,.any,.any,.any,.any,.any,.any,.any,.any,.any,.any,.any,.any,.any,.any,.any,.any,.any,.any,.any,.any,.any]
theorem xKP (s0 s1 s2 s3 s4 s5 s6 s7 s8 s9 s10 s11 s12 s13 s14 s15 s16 s17 s18 s19 s20 s21 s22 s23 s24 s25 s26 s27 s28 s29 s30 s31 s32 s33 s34 s35 s36 s37 s38 s39 s40 s41 s42 s43 s44 s45 s46 s47 s48 s49 s50 s51 : AV) : xBA xKO [s0,s1,s2,s3,s4,s5,s6,s7,s8,s9,s10,s11,s12,s13,s14,s15,s16,s17,s18,s19,s20,s21,s22,s23,s24,s25,s26,s27,s28,s29,s30,s31,s32,s33,s34,s35,s36,s37,s38,s39,s40,s41,s42,s43,s44,s45,s46,s47,s48,s49,s50,s51] = xI7 s8 := by kernel_rfl
theorem xSG {prog : Nat → Option AFunc} (s8 : AV) (H : Heap) : (lim prog).loop xKO xSF ⟨xI7 s8,H⟩ = xDn (lim prog) xKO xSF (run (lim prog) xKN ⟨xI7 s8,H⟩) := xA5 _ _ _ _ (by kernel_rfl)
def a70 : AFunc := ⟨52,
 .seq (.region [⟨some 6,.mov (.c (.sl true 0 [])),none⟩])
 (.seq (.region [⟨some 7,.mov (.c (.func 82 [])),none⟩])
 (.seq (.region [⟨some 8,.mov (.c (.sl true 0 [])),none⟩])
 (.seq (.seq (.region [⟨some 10,.mov (.t 0),none⟩,
 ⟨some 11,.len (.t 10),none⟩,
 ⟨some 12,.mov (.t 1),none⟩,
 ⟨some 13,.len (.t 12),none⟩,
 ⟨some 14,.maxi (.t 11) (.t 13),none⟩,
 ⟨some 15,.mini (.t 14) (.c (.int .i64 64)),none⟩,
 ⟨some 16,.mov (.c (.int .i64 0)),none⟩])
 (.block 0 (.loop xNo xUO)))
 (.seq (.block 2 (.loop xKO xSF))
 (.seq (.region [⟨some 50,.mov (.t 8),none⟩,
 ⟨some 51,.call 83 [(.t 50)],none⟩,
 ⟨some 6,.mov (.t 51),none⟩])
 (.ret)))))),
 [.tmp 6]⟩
def a71 : AFunc := ⟨8,
 .seq (.region [⟨some 4,.mov (.c (.int .u64 0)),none⟩])
 (.seq (.region [⟨some 5,.mov (.t 0),none⟩,
 ⟨some 6,.mov (.t 1),none⟩,
 ⟨some 7,.bin .and (.t 5) (.t 6),none⟩,
 ⟨some 4,.mov (.t 7),none⟩])
 (.ret)),
 [.tmp 4]⟩
def a72 : AFunc := ⟨17,
 .seq (.region [⟨some 4,.mov (.c (.bool false)),none⟩])
 (.seq (.region [⟨some 5,.mov (.t 0),none⟩,
 ⟨some 6,.call 84 [(.t 5)],none⟩,
 ⟨some 7,.mov (.t 6),none⟩,
 ⟨some 8,.mov (.t 1),some (7,true)⟩,
 ⟨some 9,.call 84 [(.t 8)],some (7,true)⟩,
 ⟨some 10,.un .not (.t 9),some (7,true)⟩,
 ⟨some 11,.pick (.t 7) (.t 10) (.c (.bool false)),none⟩,
 ⟨some 12,.mov (.t 11),none⟩,
 ⟨some 13,.mov (.t 0),some (12,false)⟩,
 ⟨some 14,.mov (.t 1),some (12,false)⟩,
 ⟨some 15,.bin .lss (.t 13) (.t 14),some (12,false)⟩,
 ⟨some 16,.pick (.t 12) (.c (.bool true)) (.t 15),none⟩,
 ⟨some 4,.mov (.t 16),none⟩])
 (.ret)),
 [.tmp 4]⟩
def a73 : AFunc := ⟨6,
 .seq (.region [⟨some 2,.mov (.c (.bool false)),none⟩])
 (.seq (.region [⟨some 3,.mov (.t 0),none⟩,
 ⟨some 4,.mov (.t 0),none⟩,
 ⟨some 5,.bin .neq (.t 3) (.t 4),none⟩,
 ⟨some 2,.mov (.t 5),none⟩])
 (.ret)),
 [.tmp 2]⟩
def a74 : AFunc := ⟨9,
 .seq (.region [⟨some 4,.mov (.c (.bool false)),none⟩])
 (.seq (.region [⟨some 5,.mov (.t 0),none⟩,
 ⟨some 6,.mov (.t 1),none⟩,
 ⟨some 7,.icall (.c (.func 85 [])) [(.t 5),(.t 6)],none⟩,
 ⟨some 8,.bin .geq (.t 7) (.c (.int .i64 0)),none⟩,
 ⟨some 4,.mov (.t 8),none⟩])
 (.ret)),
 [.tmp 4]⟩
def a75 : AFunc := ⟨10,
 .seq (.region [⟨some 3,.mov (.c (.bool false)),none⟩])
 (.seq (.region [⟨some 4,.mov (.t 0),none⟩,
 ⟨some 5,.conv .i64 (.t 4),none⟩,
 ⟨some 6,.faddr 0 (.t 1),none⟩,
 ⟨some 7,.load false 1 (.t 6),none⟩,
 ⟨some 8,.bin .shl (.c (.int .i64 1)) (.t 7),none⟩,
 ⟨some 9,.bin .geq (.t 5) (.t 8),none⟩,
 ⟨some 3,.mov (.t 9),none⟩])
 (.ret)),
 [.tmp 3]⟩
def a76 : AFunc := ⟨6,
 .seq (.region [⟨some 2,.box (.t 0),none⟩,
 ⟨some 3,.box (.t 1),none⟩,
 ⟨some 4,.mov (.c (.nilf)),none⟩])
 (.seq (.region [⟨some 5,.mkfunc 86 [(.t 2),(.t 3)],none⟩,
 ⟨some 4,.mov (.t 5),none⟩])
 (.ret)),
 [.tmp 4]⟩
def a77 : AFunc := ⟨8,
 .seq (.region [⟨some 4,.mov (.c (.sl true 0 [])),none⟩])
 (.seq (.region [⟨some 5,.mov (.t 0),none⟩,
 ⟨some 6,.mov (.t 1),none⟩,
 ⟨some 7,.icall (.c (.func 70 [])) [(.t 5),(.t 6),(.c (.func 88 []))],none⟩,
 ⟨some 4,.mov (.t 7),none⟩])
 (.ret)),
 [.tmp 4]⟩
def a79 : AFunc := ⟨22,
 .seq (.region [⟨some 2,.mov (.c (.sl true 0 [])),none⟩])
 (.seq (.seq (.region [⟨some 4,.mov (.t 0),none⟩,
 ⟨some 5,.bin .lss (.t 4) (.c (.int .i64 0)),none⟩,
 ⟨some 6,.mov (.t 5),none⟩,
 ⟨some 7,.mov (.t 0),some (6,false)⟩,
 ⟨some 8,.bin .gtr (.t 7) (.c (.int .i64 4095)),some (6,false)⟩,
 ⟨some 9,.pick (.t 6) (.c (.bool true)) (.t 8),none⟩])
 (.cond (.t 9)
 (.seq (.region [⟨some 2,.mov (.c (.sl true 0 [])),none⟩])
 (.ret))
 (.skip)))
 (.seq (.region [⟨some 10,.mov (.t 0),none⟩,
 ⟨some 11,.bin .quo (.t 10) (.c (.int .i64 64)),none⟩,
 ⟨some 12,.bin .add (.t 11) (.c (.int .i64 1)),none⟩,
 ⟨some 13,.mkslice false [.int .u64 0] 8 (.t 12) (.t 12),none⟩,
 ⟨some 3,.mov (.t 13),none⟩])
 (.seq (.region [⟨some 14,.mov (.t 3),none⟩,
 ⟨some 15,.mov (.t 0),none⟩,
 ⟨some 16,.bin .quo (.t 15) (.c (.int .i64 64)),none⟩,
 ⟨some 17,.mov (.t 0),none⟩,
 ⟨some 18,.bin .rem (.t 17) (.c (.int .i64 64)),none⟩,
 ⟨some 19,.bin .shl (.c (.int .u64 1)) (.t 18),none⟩,
 ⟨some 20,.iaddr 1 (.t 14) (.t 16),none⟩,
 ⟨none,.store 1 (.t 20) (.t 19),none⟩])
 (.seq (.region [⟨some 21,.mov (.t 3),none⟩,
 ⟨some 2,.mov (.t 21),none⟩])
 (.ret))))),
 [.tmp 2]⟩
def xPQ : ACode :=
 .seq (.seq (.region [⟨some 16,.mov (.t 4),none⟩,
 ⟨some 17,.bin .neq (.t 16) (.c (.int .u64 0)),none⟩])
 (.cond (.t 17)
 (.skip)
 (.exit 2)))
 (.block 3 (.seq (.seq (.region [⟨some 18,.mov (.t 0),none⟩,
 ⟨some 19,.mov (.t 3),none⟩,
 ⟨some 20,.bin .mul (.c (.int .i64 64)) (.t 19),none⟩,
 ⟨some 21,.mov (.t 4),none⟩,
 ⟨some 22,.call 81 [(.t 21)],none⟩,
 ⟨some 23,.bin .add (.t 20) (.t 22),none⟩,
 ⟨some 24,.icall (.t 18) [(.t 23)],none⟩,
 ⟨some 25,.un .not (.t 24),none⟩])
 (.cond (.t 25)
 (.ret)
 (.skip)))
 (.region [⟨some 26,.mov (.t 4),none⟩,
 ⟨some 27,.mov (.t 4),none⟩,
 ⟨some 28,.bin .sub (.t 27) (.c (.int .u64 1)),none⟩,
 ⟨some 29,.bin .and (.t 26) (.t 28),none⟩,
 ⟨some 4,.mov (.t 29),none⟩])))
def xUP : ACode := xPQ
def xNr : List Nat := [1,2,5,6,7,8,12,13,14,15,16,17,18,19,20,21,22,23,24,25,26,27,28,29,30]
abbrev xNs (s0 s3 s4 s9 s10 s11 : AV) : List AV := [s0,.any,.any,s3,s4,.any,.any,.any,.any,s9,s10,s11,.any,.any,.any,.any,.any,.any,.any,.any,.any,.any,.any,.any,.any,.any,.any,.any,.any,.any,.any]
theorem xSH (s0 s1 s2 s3 s4 s5 s6 s7 s8 s9 s10 s11 s12 s13 s14 s15 s16 s17 s18 s19 s20 s21 s22 s23 s24 s25 s26 s27 s28 s29 s30 : AV) : xBA xNr [s0,s1,s2,s3,s4,s5,s6,s7,s8,s9,s10,s11,s12,s13,s14,s15,s16,s17,s18,s19,s20,s21,s22,s23,s24,s25,s26,s27,s28,s29,s30] = xNs s0 s3 s4 s9 s10 s11 := by kernel_rfl
theorem xVI {prog : Nat → Option AFunc} (s0 s3 s4 s9 s10 s11 : AV) (H : Heap) : (lim prog).loop xNr xUP ⟨xNs s0 s3 s4 s9 s10 s11,H⟩ = xDn (lim prog) xNr xUP (run (lim prog) xPQ ⟨xNs s0 s3 s4 s9 s10 s11,H⟩) := xA5 _ _ _ _ (by kernel_rfl)
def xPR : ACode :=
 .seq (.region [⟨some 12,.bin .lss (.t 11) (.t 10),none⟩])
 (.seq (.cond (.t 12)
 (.skip)
 (.exit 0))
 (.seq (.block 1 (.seq (.region [⟨some 13,.mov (.t 11),none⟩,
 ⟨some 14,.iaddr 1 (.t 9) (.t 11),none⟩,
 ⟨some 15,.load false 1 (.t 14),none⟩,
 ⟨some 3,.mov (.t 13),none⟩,
 ⟨some 4,.mov (.t 15),none⟩])
 (.block 2 (.loop xNr xUP))))
 (.region [⟨some 30,.bin .add (.t 11) (.c (.int .i64 1)),none⟩,
 ⟨some 11,.mov (.t 30),none⟩])))
def xUQ : ACode := xPR
def xNt : List Nat := [1,2,3,4,5,6,7,8,12,13,14,15,16,17,18,19,20,21,22,23,24,25,26,27,28,29,30]
abbrev xNu (s0 s9 s10 s11 : AV) : List AV := [s0,.any,.any,.any,.any,.any,.any,.any,.any,s9,s10,s11,.any,.any,.any,.any,.any,.any,.any,.any,.any,.any,.any,.any,.any,.any,.any,.any,.any,.any,.any]
theorem xPS (s0 s1 s2 s3 s4 s5 s6 s7 s8 s9 s10 s11 s12 s13 s14 s15 s16 s17 s18 s19 s20 s21 s22 s23 s24 s25 s26 s27 s28 s29 s30 : AV) : xBA xNt [s0,s1,s2,s3,s4,s5,s6,s7,s8,s9,s10,s11,s12,s13,s14,s15,s16,s17,s18,s19,s20,s21,s22,s23,s24,s25,s26,s27,s28,s29,s30] = xNu s0 s9 s10 s11 := by kernel_rfl
theorem xVJ {prog : Nat → Option AFunc} (s0 s9 s10 s11 : AV) (H : Heap) : (lim prog).loop xNt xUQ ⟨xNu s0 s9 s10 s11,H⟩ = xDn (lim prog) xNt xUQ (run (lim prog) xPR ⟨xNu s0 s9 s10 s11,H⟩) := xA5 _ _ _ _ (by kernel_rfl)
def a80 : AFunc := ⟨31,
 .seq (.region [⟨some 5,.load false 1 (.t 1),none⟩,
 ⟨some 6,.load false 1 (.t 1),none⟩,
 ⟨some 7,.len (.t 6),none⟩,
 ⟨some 8,.mini (.t 7) (.c (.int .i64 64)),none⟩,
 ⟨some 9,.slice 1 (.t 5) none (some (.t 8)) none,none⟩,
 ⟨some 10,.len (.t 9),none⟩,
 ⟨some 11,.mov (.c (.int .i64 0)),none⟩])
 (.block 0 (.loop xNt xUQ)),
 []⟩
def a81 : AFunc := ⟨14,
 .seq (.region [⟨some 2,.mov (.c (.int .i64 0)),none⟩])
 (.seq (.seq (.region [⟨some 3,.mov (.t 0),none⟩,
 ⟨some 4,.bin .eql (.t 3) (.c (.int .u64 0)),none⟩])
 (.cond (.t 4)
 (.seq (.region [⟨some 2,.mov (.c (.int .i64 64)),none⟩])
 (.ret))
 (.skip)))
 (.seq (.region [⟨some 5,.mov (.t 0),none⟩,
 ⟨some 6,.mov (.t 0),none⟩,
 ⟨some 7,.un .neg (.t 6),none⟩,
 ⟨some 8,.bin .and (.t 5) (.t 7),none⟩,
 ⟨some 9,.bin .mul (.t 8) (.c (.int .u64 285870213051353865)),none⟩,
 ⟨some 10,.bin .shr (.t 9) (.c (.int .u64 58)),none⟩,
 ⟨some 11,.garr 0 1 64 (.t 10),none⟩,
 ⟨some 12,.load false 1 (.t 11),none⟩,
 ⟨some 13,.conv .i64 (.t 12),none⟩,
 ⟨some 2,.mov (.t 13),none⟩])
 (.ret))),
 [.tmp 2]⟩
def a82 : AFunc := ⟨13,
 .seq (.region [⟨some 4,.mov (.c (.int .u64 0)),none⟩])
 (.seq (.seq (.region [⟨some 5,.mov (.t 1),none⟩,
 ⟨some 6,.mov (.t 0),none⟩,
 ⟨some 7,.len (.t 6),none⟩,
 ⟨some 8,.bin .lss (.t 5) (.t 7),none⟩])
 (.cond (.t 8)
 (.seq (.region [⟨some 9,.mov (.t 0),none⟩,
 ⟨some 10,.mov (.t 1),none⟩,
 ⟨some 11,.iaddr 1 (.t 9) (.t 10),none⟩,
 ⟨some 12,.load false 1 (.t 11),none⟩,
 ⟨some 4,.mov (.t 12),none⟩])
 (.ret))
 (.skip)))
 (.seq (.region [⟨some 4,.mov (.c (.int .u64 0)),none⟩])
 (.ret))),
 [.tmp 4]⟩
def a83 : AFunc := ⟨9,
 .seq (.region [⟨some 2,.mov (.c (.sl true 0 [])),none⟩])
 (.seq (.region [⟨some 3,.mov (.t 0),none⟩,
 ⟨some 4,.mov (.t 0),none⟩,
 ⟨some 5,.len (.t 4),none⟩,
 ⟨some 6,.mov (.t 0),none⟩,
 ⟨some 7,.len (.t 6),none⟩,
 ⟨some 8,.slice 1 (.t 3) none (some (.t 5)) (some (.t 7)),none⟩,
 ⟨some 2,.mov (.t 8),none⟩])
 (.ret)),
 [.tmp 2]⟩
def a84 : AFunc := ⟨6,
 .seq (.region [⟨some 2,.mov (.c (.bool false)),none⟩])
 (.seq (.region [⟨some 3,.mov (.t 0),none⟩,
 ⟨some 4,.mov (.t 0),none⟩,
 ⟨some 5,.bin .neq (.t 3) (.t 4),none⟩,
 ⟨some 2,.mov (.t 5),none⟩])
 (.ret)),
 [.tmp 2]⟩
def xKQ : ACode :=
 .seq (.region [⟨some 9,.bin .lss (.t 8) (.t 7),none⟩])
 (.seq (.cond (.t 9)
 (.skip)
 (.exit 0))
 (.seq (.block 1 (.seq (.region [⟨some 10,.mov (.t 8),none⟩,
 ⟨some 5,.mov (.t 10),none⟩])
 (.seq (.region [⟨some 11,.mov (.t 1),none⟩,
 ⟨some 12,.mov (.t 0),none⟩,
 ⟨some 13,.mov (.t 5),none⟩,
 ⟨some 14,.iaddr 1 (.t 12) (.t 13),none⟩,
 ⟨some 15,.load false 1 (.t 14),none⟩,
 ⟨some 16,.icall (.t 11) [(.t 15)],none⟩])
 (.cond (.t 16)
 (.seq (.region [⟨some 17,.mov (.t 5),none⟩,
 ⟨some 4,.mov (.t 17),none⟩])
 (.ret))
 (.skip)))))
 (.region [⟨some 18,.bin .add (.t 8) (.c (.int .i64 1)),none⟩,
 ⟨some 8,.mov (.t 18),none⟩])))
def xUR : ACode := xKQ
def xNv : List Nat := [2,3,5,6,9,10,11,12,13,14,15,16,17,18]
abbrev xKR (s0 s1 s4 s7 s8 : AV) : List AV := [s0,s1,.any,.any,s4,.any,.any,s7,s8,.any,.any,.any,.any,.any,.any,.any,.any,.any,.any]
theorem xKS (s0 s1 s2 s3 s4 s5 s6 s7 s8 s9 s10 s11 s12 s13 s14 s15 s16 s17 s18 : AV) : xBA xNv [s0,s1,s2,s3,s4,s5,s6,s7,s8,s9,s10,s11,s12,s13,s14,s15,s16,s17,s18] = xKR s0 s1 s4 s7 s8 := by kernel_rfl
theorem xSI {prog : Nat → Option AFunc} (s0 s1 s4 s7 s8 : AV) (H : Heap) : (lim prog).loop xNv xUR ⟨xKR s0 s1 s4 s7 s8,H⟩ = xDn (lim prog) xNv xUR (run (lim prog) xKQ ⟨xKR s0 s1 s4 s7 s8,H⟩) := xA5 _ _ _ _ (by kernel_rfl)
def a85 : AFunc := ⟨19,
 .seq (.region [⟨some 4,.mov (.c (.int .i64 0)),none⟩])
 (.seq (.seq (.region [⟨some 6,.mov (.t 0),none⟩,
 ⟨some 7,.len (.t 6),none⟩,
 ⟨some 8,.mov (.c (.int .i64 0)),none⟩])
 (.block 0 (.loop xNv xUR)))
 (.seq (.region [⟨some 4,.mov (.c (.int .i64 (-1))),none⟩])
 (.ret))),
 [.tmp 4]⟩
def xNw : ACode :=
 .seq (.region [⟨some 10,.bin .lss (.t 9) (.t 8),none⟩])
 (.seq (.cond (.t 10)
 (.skip)
 (.exit 0))
 (.seq (.block 1 (.seq (.region [⟨some 11,.iaddr 4 (.t 7) (.t 9),none⟩,
 ⟨some 12,.load true 4 (.t 11),none⟩,
 ⟨some 5,.box (.c (.agg [.int .i64 0,.int .i64 0,.int .u8 0,.int .u8 0])),none⟩,
 ⟨none,.store 4 (.t 5) (.t 12),none⟩])
 (.seq (.region [⟨some 13,.faddr 2 (.t 5),none⟩,
 ⟨some 14,.load false 1 (.t 13),none⟩,
 ⟨some 15,.faddr 3 (.t 5),none⟩,
 ⟨some 16,.load false 1 (.t 15),none⟩,
 ⟨some 17,.build [.int .u8 0,.int .u8 0] [(0,1,(.t 14)),(1,1,(.t 16))],none⟩,
 ⟨some 18,.load false 1 (.t 2),none⟩,
 ⟨some 19,.call 87 [(.t 17),(.t 18)],none⟩,
 ⟨some 20,.mov (.t 19),none⟩,
 ⟨some 21,.mov (.t 0),some (20,true)⟩,
 ⟨some 22,.load true 4 (.t 5),some (20,true)⟩,
 ⟨some 23,.icall (.t 21) [(.t 22)],some (20,true)⟩,
 ⟨some 24,.un .not (.t 23),some (20,true)⟩,
 ⟨some 25,.pick (.t 20) (.t 24) (.c (.bool false)),none⟩])
 (.cond (.t 25)
 (.ret)
 (.skip)))))
 (.region [⟨some 26,.bin .add (.t 9) (.c (.int .i64 1)),none⟩,
 ⟨some 9,.mov (.t 26),none⟩])))
def xSJ : ACode := xNw
def xKT : List Nat := [1,3,4,5,6,10,11,12,13,14,15,16,17,18,19,20,21,22,23,24,25,26]
abbrev xNx (s0 s2 s7 s8 s9 : AV) : List AV := [s0,.any,s2,.any,.any,.any,.any,s7,s8,s9,.any,.any,.any,.any,.any,.any,.any,.any,.any,.any,.any,.any,.any,.any,.any,.any,.any]
theorem xPT (s0 s1 s2 s3 s4 s5 s6 s7 s8 s9 s10 s11 s12 s13 s14 s15 s16 s17 s18 s19 s20 s21 s22 s23 s24 s25 s26 : AV) : xBA xKT [s0,s1,s2,s3,s4,s5,s6,s7,s8,s9,s10,s11,s12,s13,s14,s15,s16,s17,s18,s19,s20,s21,s22,s23,s24,s25,s26] = xNx s0 s2 s7 s8 s9 := by kernel_rfl
theorem xSK {prog : Nat → Option AFunc} (s0 s2 s7 s8 s9 : AV) (H : Heap) : (lim prog).loop xKT xSJ ⟨xNx s0 s2 s7 s8 s9,H⟩ = xDn (lim prog) xKT xSJ (run (lim prog) xNw ⟨xNx s0 s2 s7 s8 s9,H⟩) := xA5 _ _ _ _ (by kernel_rfl)
def a86 : AFunc := ⟨27,
 .seq (.region [⟨some 6,.faddr 4 (.t 1),none⟩,
 ⟨some 7,.load false 1 (.t 6),none⟩,
 ⟨some 8,.len (.t 7),none⟩,
 ⟨some 9,.mov (.c (.int .i64 0)),none⟩])
 (.block 0 (.loop xKT xSJ)),
 []⟩
def a87 : AFunc := ⟨19,
 .seq (.region [⟨some 2,.box (.t 0),none⟩,
 ⟨some 4,.mov (.c (.bool false)),none⟩])
 (.seq (.region [⟨some 5,.mov (.t 1),none⟩,
 ⟨some 6,.faddr 0 (.t 2),none⟩,
 ⟨some 7,.load false 1 (.t 6),none⟩,
 ⟨some 8,.bin .and (.t 5) (.t 7),none⟩,
 ⟨some 9,.faddr 0 (.t 2),none⟩,
 ⟨some 10,.load false 1 (.t 9),none⟩,
 ⟨some 11,.bin .eql (.t 8) (.t 10),none⟩,
 ⟨some 12,.mov (.t 11),none⟩,
 ⟨some 13,.mov (.t 1),some (12,true)⟩,
 ⟨some 14,.faddr 1 (.t 2),some (12,true)⟩,
 ⟨some 15,.load false 1 (.t 14),some (12,true)⟩,
 ⟨some 16,.bin .and (.t 13) (.t 15),some (12,true)⟩,
 ⟨some 17,.bin .eql (.t 16) (.c (.int .u8 0)),some (12,true)⟩,
 ⟨some 18,.pick (.t 12) (.t 17) (.c (.bool false)),none⟩,
 ⟨some 4,.mov (.t 18),none⟩])
 (.ret)),
 [.tmp 4]⟩
def a88 : AFunc := ⟨8,
 .seq (.region [⟨some 4,.mov (.c (.int .u64 0)),none⟩])
 (.seq (.region [⟨some 5,.mov (.t 0),none⟩,
 ⟨some 6,.mov (.t 1),none⟩,
 ⟨some 7,.bin .or (.t 5) (.t 6),none⟩,
 ⟨some 4,.mov (.t 7),none⟩])
 (.ret)),
 [.tmp 4]⟩
def xAV : Nat → Option AFunc
 | 4 => some a4
 | 5 => some a5
 | 6 => some a6
 | 7 => some a7
 | 15 => some a15
 | 16 => some a16
 | 17 => some a17
 | 18 => some a18
 | 19 => some a19
 | 20 => some a20
 | 22 => some a22
 | 25 => some a25
 | 26 => some a26
 | 27 => some a27
 | 28 => some a28
 | 29 => some a29
 | 30 => some a30
 | 31 => some a31
 | 42 => some a42
 | 43 => some a43
 | 44 => some a44
 | 45 => some a45
 | 46 => some a46
 | 47 => some a47
 | 48 => some a48
 | 49 => some a49
 | 50 => some a50
 | 53 => some a53
 | 54 => some a54
 | 55 => some a55
 | 56 => some a56
 | 57 => some a57
 | 58 => some a58
 | 59 => some a59
 | 60 => some a60
 | 61 => some a61
 | 62 => some a62
 | 63 => some a63
 | 66 => some a66
 | 67 => some a67
 | 68 => some a68
 | 69 => some a69
 | 70 => some a70
 | 71 => some a71
 | 72 => some a72
 | 73 => some a73
 | 74 => some a74
 | 75 => some a75
 | 76 => some a76
 | 77 => some a77
 | 79 => some a79
 | 80 => some a80
 | 81 => some a81
 | 82 => some a82
 | 83 => some a83
 | 84 => some a84
 | 85 => some a85
 | 86 => some a86
 | 87 => some a87
 | 88 => some a88
 | _ => none
theorem xZU (args : List AV) : (lim xAV).pcall 15 args = xBJ (lim xAV) a15 args := xAR rfl args
theorem xZV (args : List AV) : (lim xAV).pcall 16 args = xBJ (lim xAV) a16 args := xAR rfl args
theorem xZW (args : List AV) : (lim xAV).pcall 17 args = xBJ (lim xAV) a17 args := xAR rfl args
theorem xYY (args : List AV) : (lim xAV).pcall 18 args = xBJ (lim xAV) a18 args := xAR rfl args
theorem xYI (args : List AV) : (lim xAV).pcall 19 args = xBJ (lim xAV) a19 args := xAR rfl args
theorem xYZ (args : List AV) : (lim xAV).pcall 25 args = xBJ (lim xAV) a25 args := xAR rfl args
theorem xXL (args : List AV) : (lim xAV).pcall 26 args = xBJ (lim xAV) a26 args := xAR rfl args
theorem xY0 (args : List AV) : (lim xAV).pcall 30 args = xBJ (lim xAV) a30 args := xAR rfl args
theorem xZX (args : List AV) : (lim xAV).pcall 42 args = xBJ (lim xAV) a42 args := xAR rfl args
theorem xZY (args : List AV) : (lim xAV).pcall 43 args = xBJ (lim xAV) a43 args := xAR rfl args
theorem xZZ (args : List AV) : (lim xAV).pcall 44 args = xBJ (lim xAV) a44 args := xAR rfl args
theorem xZA (args : List AV) : (lim xAV).pcall 45 args = xBJ (lim xAV) a45 args := xAR rfl args
theorem xZ0 (caps args : List AV) (H : Heap) : (lim xAV).icall (.func 46 caps) args H = xCY (lim xAV) a46 (args ++ caps) H := xBf rfl caps args H
theorem xY1 (args : List AV) : (lim xAV).pcall 47 args = xBJ (lim xAV) a47 args := xAR rfl args
theorem xZ1 (args : List AV) : (lim xAV).pcall 48 args = xBJ (lim xAV) a48 args := xAR rfl args
theorem xZB (caps args : List AV) (H : Heap) : (lim xAV).icall (.func 48 caps) args H = xCY (lim xAV) a48 (args ++ caps) H := xBf rfl caps args H
theorem xZC (caps args : List AV) (H : Heap) : (lim xAV).icall (.func 49 caps) args H = xCY (lim xAV) a49 (args ++ caps) H := xBf rfl caps args H
theorem xZ2 (args : List AV) : (lim xAV).pcall 53 args = xBJ (lim xAV) a53 args := xAR rfl args
theorem xZ3 (caps args : List AV) (H : Heap) : (lim xAV).icall (.func 54 caps) args H = xCY (lim xAV) a54 (args ++ caps) H := xBf rfl caps args H
theorem xZ4 (caps args : List AV) (H : Heap) : (lim xAV).icall (.func 55 caps) args H = xCY (lim xAV) a55 (args ++ caps) H := xBf rfl caps args H
theorem xZ5 (caps args : List AV) (H : Heap) : (lim xAV).icall (.func 56 caps) args H = xCY (lim xAV) a56 (args ++ caps) H := xBf rfl caps args H
theorem xZ6 (caps args : List AV) (H : Heap) : (lim xAV).icall (.func 57 caps) args H = xCY (lim xAV) a57 (args ++ caps) H := xBf rfl caps args H
theorem xZ7 (args : List AV) : (lim xAV).pcall 58 args = xBJ (lim xAV) a58 args := xAR rfl args
theorem xZ8 (args : List AV) : (lim xAV).pcall 59 args = xBJ (lim xAV) a59 args := xAR rfl args
theorem xZ9 (args : List AV) : (lim xAV).pcall 60 args = xBJ (lim xAV) a60 args := xAR rfl args
theorem yAa (args : List AV) : (lim xAV).pcall 61 args = xBJ (lim xAV) a61 args := xAR rfl args
theorem yAb (caps args : List AV) (H : Heap) : (lim xAV).icall (.func 66 caps) args H = xCY (lim xAV) a66 (args ++ caps) H := xBf rfl caps args H
theorem yAc (args : List AV) : (lim xAV).pcall 67 args = xBJ (lim xAV) a67 args := xAR rfl args
theorem yAd (args : List AV) : (lim xAV).pcall 68 args = xBJ (lim xAV) a68 args := xAR rfl args
theorem xZD (caps args : List AV) (H : Heap) : (lim xAV).icall (.func 69 caps) args H = xCY (lim xAV) a69 (args ++ caps) H := xBf rfl caps args H
theorem xZE (caps args : List AV) (H : Heap) : (lim xAV).icall (.func 70 caps) args H = xCY (lim xAV) a70 (args ++ caps) H := xBf rfl caps args H
theorem yAe (caps args : List AV) (H : Heap) : (lim xAV).icall (.func 71 caps) args H = xCY (lim xAV) a71 (args ++ caps) H := xBf rfl caps args H
theorem yAf (args : List AV) : (lim xAV).pcall 72 args = xBJ (lim xAV) a72 args := xAR rfl args
theorem yAg (args : List AV) : (lim xAV).pcall 73 args = xBJ (lim xAV) a73 args := xAR rfl args
theorem xZF (caps args : List AV) (H : Heap) : (lim xAV).icall (.func 74 caps) args H = xCY (lim xAV) a74 (args ++ caps) H := xBf rfl caps args H
theorem yAh (caps args : List AV) (H : Heap) : (lim xAV).icall (.func 75 caps) args H = xCY (lim xAV) a75 (args ++ caps) H := xBf rfl caps args H
theorem yAi (caps args : List AV) (H : Heap) : (lim xAV).icall (.func 76 caps) args H = xCY (lim xAV) a76 (args ++ caps) H := xBf rfl caps args H
theorem yAj (args : List AV) : (lim xAV).pcall 77 args = xBJ (lim xAV) a77 args := xAR rfl args
theorem yAk (args : List AV) : (lim xAV).pcall 79 args = xBJ (lim xAV) a79 args := xAR rfl args
theorem xZG (caps args : List AV) (H : Heap) : (lim xAV).icall (.func 80 caps) args H = xCY (lim xAV) a80 (args ++ caps) H := xBf rfl caps args H
theorem yAl (args : List AV) : (lim xAV).pcall 81 args = xBJ (lim xAV) a81 args := xAR rfl args
theorem xZH (caps args : List AV) (H : Heap) : (lim xAV).icall (.func 82 caps) args H = xCY (lim xAV) a82 (args ++ caps) H := xBf rfl caps args H
theorem yAm (args : List AV) : (lim xAV).pcall 83 args = xBJ (lim xAV) a83 args := xAR rfl args
theorem yAn (args : List AV) : (lim xAV).pcall 84 args = xBJ (lim xAV) a84 args := xAR rfl args
theorem xZI (caps args : List AV) (H : Heap) : (lim xAV).icall (.func 85 caps) args H = xCY (lim xAV) a85 (args ++ caps) H := xBf rfl caps args H
theorem yAo (caps args : List AV) (H : Heap) : (lim xAV).icall (.func 86 caps) args H = xCY (lim xAV) a86 (args ++ caps) H := xBf rfl caps args H
theorem yAp (args : List AV) : (lim xAV).pcall 87 args = xBJ (lim xAV) a87 args := xAR rfl args
theorem yAq (caps args : List AV) (H : Heap) : (lim xAV).icall (.func 88 caps) args H = xCY (lim xAV) a88 (args ++ caps) H := xBf rfl caps args H
end Go.Abs.NfaD
