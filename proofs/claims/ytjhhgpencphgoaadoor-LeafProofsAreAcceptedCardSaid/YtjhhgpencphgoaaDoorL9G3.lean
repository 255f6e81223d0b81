/- Printed by a program: what the functions compute, and that they do (part 3). -/
import Derived.Test.YtjhhgpencphgoaaDoorL9G2
set_option linter.unusedSimpArgs false
set_option linter.unusedVariables false
set_option maxRecDepth 8000
set_option maxHeartbeats 1000000
namespace Go.Proofs.Tryd
open Go.Eng Go.RowKit
def f35g0 : List RO := [o_ 0 (.mv (.const (.bool .false)))]
def f35g1 : List RO := [o_ 31 (.call (.func 87) [(.const (.int .i64 5))]), o_ 32 (.call (.func 53) [(t_ 31)]), o_ 1 (.mv (t_ 32))]
def f35g2 : List RO := [o_ 34 (.mv (t_ 1)), o_ 35 (.call (.func 52) [(t_ 34)]), o_ 33 (.mv (t_ 35)), o_ 36 (.ext (t_ 33) 0), o_ 37 (.ext (t_ 33) 1), o_ 2 (.new [(.D (.I .i64 0)), (.D (.I .i64 0)), (.D (.I .i64 0)), (.D (.I .i64 0)), (.D (.I .i64 0)), (.D (.I .i64 0))]), n_ (.store 6 (t_ 2) (t_ 36)), o_ 3 (.mv (t_ 37))]
def f35g3 : List RO := [o_ 39 (.mv (t_ 1)), o_ 40 (.bin .add (t_ 39) (.const (.string ⟨#[0]⟩))), o_ 41 (.call (.func 52) [(t_ 40)]), o_ 38 (.mv (t_ 41)), o_ 42 (.ext (t_ 38) 0), o_ 43 (.ext (t_ 38) 1), o_ 4 (.new [(.D (.I .i64 0)), (.D (.I .i64 0)), (.D (.I .i64 0)), (.D (.I .i64 0)), (.D (.I .i64 0)), (.D (.I .i64 0))]), n_ (.store 6 (t_ 4) (t_ 42)), o_ 5 (.mv (t_ 43))]
def f35g4 : List RO := [o_ 45 (.mv (t_ 1)), o_ 46 (.call (.func 56) [(t_ 45)]), o_ 44 (.mv (t_ 46)), o_ 47 (.ext (t_ 44) 0), o_ 48 (.ext (t_ 44) 1), o_ 6 (.new [(.D (.I .i64 0)), (.D (.I .i64 0)), (.D (.I .i64 0)), (.D (.I .i64 0)), (.D (.I .i64 0)), (.fl [])]), n_ (.store 6 (t_ 6) (t_ 47)), o_ 7 (.mv (t_ 48))]
def f35g5 : List RO := [o_ 49 (.call (.func 87) [(.const (.int .i64 5))]), o_ 8 (.new [(.D (.I .i64 0)), (.D (.I .i64 0)), (.D (.I .i64 0)), (.D (.I .i64 0)), (.D (.I .i64 0)), (.D (.I .i64 0))]), n_ (.store 6 (t_ 8) (t_ 49))]
def f35g6 : List RO := [o_ 50 (.faddr 2 (t_ 8)), n_ (.store 1 (t_ 50) (.const (.int .i64 40000)))]
def f35g7 : List RO := [o_ 52 (.mv (t_ 1)), o_ 53 (.call (.func 42) [(t_ 52)]), o_ 51 (.mv (t_ 53)), o_ 54 (.ext (t_ 51) 0), o_ 55 (.ext (t_ 51) 1), o_ 56 (.ext (t_ 51) 2), o_ 9 (.mv (t_ 54)), o_ 10 (.mv (t_ 55)), o_ 11 (.mv (t_ 56))]
def f35g8 : List RO := [o_ 58 (.load (.some 6) (t_ 8)), o_ 59 (.call (.func 53) [(t_ 58)]), o_ 60 (.call (.func 42) [(t_ 59)]), o_ 57 (.mv (t_ 60)), o_ 61 (.ext (t_ 57) 0), o_ 62 (.ext (t_ 57) 1), o_ 63 (.ext (t_ 57) 2), o_ 12 (.mv (t_ 61)), o_ 13 (.mv (t_ 62)), o_ 14 (.mv (t_ 63))]
def f35g9 : List RO := [o_ 64 (.mv (t_ 1)), o_ 65 (.bin .neq (t_ 64) (.const (.string ⟨#[14, 2, 6, 10, 20, 28, 14, 4]⟩))), o_ 66 (.mv (t_ 65)), ⟨(.some 67), (.mv (t_ 3)), (.some (66, .false))⟩, ⟨(.some 68), (.bin .neq (t_ 67) (.const (.int .i64 0))), (.some (66, .false))⟩, o_ 69 (.pick (t_ 66) (.const (.bool .true)) (t_ 68)), o_ 70 (.mv (t_ 69)), ⟨(.some 71), (.load (.some 6) (t_ 2)), (.some (70, .false))⟩, ⟨(.some 72), (.call (.func 87) [(.const (.int .i64 5))]), (.some (70, .false))⟩, ⟨(.some 73), (.eqs .true [1, 1, 1, 1, 1, 1] (t_ 71) (t_ 72)), (.some (70, .false))⟩, o_ 74 (.pick (t_ 70) (.const (.bool .true)) (t_ 73)), o_ 75 (.mv (t_ 74)), ⟨(.some 76), (.mv (t_ 5)), (.some (75, .false))⟩, ⟨(.some 77), (.bin .neq (t_ 76) (.const (.int .i64 11))), (.some (75, .false))⟩, o_ 78 (.pick (t_ 75) (.const (.bool .true)) (t_ 77)), o_ 79 (.mv (t_ 78)), ⟨(.some 80), (.mv (t_ 7)), (.some (79, .false))⟩, ⟨(.some 81), (.bin .neq (t_ 80) (.const (.int .i64 11))), (.some (79, .false))⟩, o_ 82 (.pick (t_ 79) (.const (.bool .true)) (t_ 81)), o_ 83 (.mv (t_ 82)), ⟨(.some 84), (.mv (t_ 11)), (.some (83, .false))⟩, ⟨(.some 85), (.bin .neq (t_ 84) (.const (.int .i64 0))), (.some (83, .false))⟩, o_ 86 (.pick (t_ 83) (.const (.bool .true)) (t_ 85)), o_ 87 (.mv (t_ 86)), ⟨(.some 88), (.mv (t_ 14)), (.some (87, .false))⟩, ⟨(.some 89), (.bin .neq (t_ 88) (.const (.int .i64 0))), (.some (87, .false))⟩, o_ 90 (.pick (t_ 87) (.const (.bool .true)) (t_ 89)), o_ 91 (.mv (t_ 90)), ⟨(.some 92), (.mv (t_ 9)), (.some (91, .false))⟩, ⟨(.some 93), (.bin .neq (t_ 92) (.const (.int .i64 3))), (.some (91, .false))⟩, o_ 94 (.pick (t_ 91) (.const (.bool .true)) (t_ 93)), o_ 95 (.mv (t_ 94)), ⟨(.some 96), (.mv (t_ 10)), (.some (95, .false))⟩, ⟨(.some 97), (.bin .neq (t_ 96) (.const (.int .i64 2000))), (.some (95, .false))⟩, o_ 98 (.pick (t_ 95) (.const (.bool .true)) (t_ 97)), o_ 99 (.mv (t_ 98)), ⟨(.some 100), (.mv (t_ 12)), (.some (99, .false))⟩, ⟨(.some 101), (.bin .neq (t_ 100) (.const (.int .i64 3))), (.some (99, .false))⟩, o_ 102 (.pick (t_ 99) (.const (.bool .true)) (t_ 101)), o_ 103 (.mv (t_ 102)), ⟨(.some 104), (.mv (t_ 13)), (.some (103, .false))⟩, ⟨(.some 105), (.bin .neq (t_ 104) (.const (.int .i64 2001))), (.some (103, .false))⟩, o_ 106 (.pick (t_ 103) (.const (.bool .true)) (t_ 105))]
def f35g10 : List RO := [o_ 0 (.mv (.const (.bool .false)))]
def f35g11 : List RO := [o_ 107 (.mv (t_ 1)), o_ 108 (.call (.func 87) [(.const (.int .i64 6))]), o_ 109 (.call (.func 53) [(t_ 108)]), o_ 110 (.bslice 1 [(t_ 107), (t_ 109)]), o_ 111 (.build [(.D (.I .i64 0)), (.D (.I .i64 0)), (.fl [])] [(0, (1, (.const (.int .i64 3)))), (1, (1, (.const (.int .i64 2000)))), (2, (1, (t_ 110)))]), o_ 15 (.new [(.D (.I .i64 0)), (.D (.I .i64 0)), (.fl [])]), n_ (.store 3 (t_ 15) (t_ 111))]
def f35g12 : List RO := [o_ 112 (.loadS (.some 3) (t_ 15)), o_ 113 (.loadS (.some 3) (t_ 15)), o_ 16 (.new [(.D (.I .i64 0)), (.D (.I .i64 0)), (.fl [])]), o_ 17 (.new [(.D (.I .i64 0)), (.D (.I .i64 0)), (.fl [])]), n_ (.store 3 (t_ 16) (t_ 112)), n_ (.store 3 (t_ 17) (t_ 113))]
def f35g13 : List RO := [o_ 114 (.faddr 1 (t_ 16)), n_ (.store 1 (t_ 114) (.const (.int .i64 2001)))]
def f35g14 : List RO := [o_ 115 (.faddr 2 (t_ 15)), o_ 116 (.load .none (t_ 115)), o_ 117 (.iaddr 1 (t_ 116) (.const (.int .i64 1))), o_ 118 (.load .none (t_ 117)), o_ 119 (.faddr 2 (t_ 15)), o_ 120 (.load .none (t_ 119)), o_ 121 (.iaddr 1 (t_ 120) (.const (.int .i64 0))), o_ 122 (.load .none (t_ 121)), o_ 123 (.bslice 1 [(t_ 118), (t_ 122)]), o_ 124 (.faddr 2 (t_ 17)), n_ (.store 1 (t_ 124) (t_ 123))]
def f35g15 : List RO := [o_ 126 (.load (.some 3) (t_ 15)), o_ 127 (.call (.func 38) [(t_ 126)]), o_ 125 (.mv (t_ 127)), o_ 128 (.ext (t_ 125) 0), o_ 129 (.ext (t_ 125) 1), o_ 18 (.newR ((Arr.zero 16).l.map (aI .u8))), n_ (.store 16 (t_ 18) (t_ 128)), o_ 19 (.mv (t_ 129))]
def f35g16 : List RO := [o_ 131 (.load (.some 3) (t_ 15)), o_ 132 (.mv (t_ 1)), o_ 133 (.call (.func 39) [(t_ 131), (t_ 132)]), o_ 130 (.mv (t_ 133)), o_ 134 (.ext (t_ 130) 0), o_ 135 (.ext (t_ 130) 1), o_ 20 (.new ([(.D (.I .i64 0)), (.D (.I .i64 0))] ++ (((Arr.zero 16).l.map (aI .u8)) ++ [(.fl [])]))), n_ (.store 19 (t_ 20) (t_ 134)), o_ 21 (.mv (t_ 135))]
def f35g17 : List RO := [o_ 137 (.load (.some 3) (t_ 15)), o_ 138 (.call (.func 87) [(.const (.int .i64 7))]), o_ 139 (.call (.func 53) [(t_ 138)]), o_ 140 (.call (.func 39) [(t_ 137), (t_ 139)]), o_ 136 (.mv (t_ 140)), o_ 141 (.ext (t_ 136) 0), o_ 142 (.ext (t_ 136) 1), o_ 22 (.new ([(.D (.I .i64 0)), (.D (.I .i64 0))] ++ (((Arr.zero 16).l.map (aI .u8)) ++ [(.fl [])]))), n_ (.store 19 (t_ 22) (t_ 141)), o_ 23 (.mv (t_ 142))]
def f35g18 : List RO := [o_ 143 (.call (.func 87) [(.const (.int .i64 4))]), o_ 144 (.call (.func 53) [(t_ 143)]), o_ 24 (.mv (t_ 144))]
def f35g19 : List RO := [o_ 146 (.load (.some 3) (t_ 15)), o_ 147 (.mv (t_ 24)), o_ 148 (.call (.func 40) [(t_ 146), (t_ 147)]), o_ 145 (.mv (t_ 148)), o_ 149 (.ext (t_ 145) 0), o_ 150 (.ext (t_ 145) 1), o_ 25 (.new ([(.D (.I .i64 0)), (.D (.I .i64 0))] ++ (((Arr.zero 16).l.map (aI .u8)) ++ [(.D (.S [])), (.D (.S [])), (.fl []), (.fl [])]))), n_ (.store 22 (t_ 25) (t_ 149)), o_ 26 (.mv (t_ 150))]
def f35g20 : List RO := [o_ 152 (.load (.some 3) (t_ 15)), o_ 153 (.mv (t_ 1)), o_ 154 (.call (.func 40) [(t_ 152), (t_ 153)]), o_ 151 (.mv (t_ 154)), o_ 155 (.ext (t_ 151) 0), o_ 156 (.ext (t_ 151) 1), o_ 27 (.new ([(.D (.I .i64 0)), (.D (.I .i64 0))] ++ (((Arr.zero 16).l.map (aI .u8)) ++ [(.D (.S [])), (.D (.S [])), (.fl []), (.fl [])]))), n_ (.store 22 (t_ 27) (t_ 155)), o_ 28 (.mv (t_ 156))]
def f35g21 : List RO := [o_ 157 (.load (.some 3) (t_ 15)), o_ 158 (.call (.func 37) [(t_ 157)]), o_ 159 (.bin .eql (t_ 158) (.const (.int .i64 0))), o_ 160 (.mv (t_ 159)), ⟨(.some 161), (.load (.some 3) (t_ 16)), (.some (160, .true))⟩, ⟨(.some 162), (.call (.func 37) [(t_ 161)]), (.some (160, .true))⟩, ⟨(.some 163), (.bin .eql (t_ 162) (.const (.int .i64 1))), (.some (160, .true))⟩, o_ 164 (.pick (t_ 160) (t_ 163) (.const (.bool .false))), o_ 165 (.mv (t_ 164)), ⟨(.some 166), (.load (.some 3) (t_ 17)), (.some (165, .true))⟩, ⟨(.some 167), (.call (.func 37) [(t_ 166)]), (.some (165, .true))⟩, ⟨(.some 168), (.bin .eql (t_ 167) (.const (.int .i64 1))), (.some (165, .true))⟩, o_ 169 (.pick (t_ 165) (t_ 168) (.const (.bool .false))), o_ 170 (.mv (t_ 169)), ⟨(.some 171), (.mv (t_ 19)), (.some (170, .true))⟩, ⟨(.some 172), (.bin .eql (t_ 171) (.const (.int .i64 0))), (.some (170, .true))⟩, o_ 173 (.pick (t_ 170) (t_ 172) (.const (.bool .false))), o_ 174 (.mv (t_ 173)), ⟨(.some 175), (.mv (t_ 21)), (.some (174, .true))⟩, ⟨(.some 176), (.bin .eql (t_ 175) (.const (.int .i64 0))), (.some (174, .true))⟩, o_ 177 (.pick (t_ 174) (t_ 176) (.const (.bool .false))), o_ 178 (.mv (t_ 177)), ⟨(.some 179), (.mv (t_ 23)), (.some (178, .true))⟩, ⟨(.some 180), (.bin .eql (t_ 179) (.const (.int .i64 8))), (.some (178, .true))⟩, o_ 181 (.pick (t_ 178) (t_ 180) (.const (.bool .false))), o_ 182 (.mv (t_ 181)), ⟨(.some 183), (.mv (t_ 26)), (.some (182, .true))⟩, ⟨(.some 184), (.bin .eql (t_ 183) (.const (.int .i64 0))), (.some (182, .true))⟩, o_ 185 (.pick (t_ 182) (t_ 184) (.const (.bool .false))), o_ 186 (.mv (t_ 185)), ⟨(.some 187), (.mv (t_ 28)), (.some (186, .true))⟩, ⟨(.some 188), (.bin .eql (t_ 187) (.const (.int .i64 9))), (.some (186, .true))⟩, o_ 189 (.pick (t_ 186) (t_ 188) (.const (.bool .false))), o_ 29 (.mv (t_ 189))]
def f35g22 : List RO := [o_ 190 (.faddr 0 (t_ 20)), o_ 191 (.load .none (t_ 190)), o_ 192 (.bin .eql (t_ 191) (.const (.int .i64 0))), o_ 193 (.mv (t_ 192)), ⟨(.some 194), (.faddr 1 (t_ 20)), (.some (193, .true))⟩, ⟨(.some 195), (.load .none (t_ 194)), (.some (193, .true))⟩, ⟨(.some 196), (.bin .eql (t_ 195) (.const (.int .i64 2))), (.some (193, .true))⟩, o_ 197 (.pick (t_ 193) (t_ 196) (.const (.bool .false))), o_ 198 (.mv (t_ 197)), ⟨(.some 199), (.load (.some 16) (t_ 18)), (.some (198, .true))⟩, ⟨(.some 200), (.mv (t_ 1)), (.some (198, .true))⟩, ⟨(.some 201), (.load (.some 19) (t_ 20)), (.some (198, .true))⟩, ⟨(.some 202), (.call (.func 43) [(t_ 199), (.const (.int .i64 3)), (.const (.int .i64 2000)), (t_ 200), (t_ 201)]), (.some (198, .true))⟩, o_ 203 (.pick (t_ 198) (t_ 202) (.const (.bool .false))), o_ 204 (.mv (t_ 203)), ⟨(.some 205), (.load (.some 16) (t_ 18)), (.some (204, .true))⟩, ⟨(.some 206), (.call (.func 87) [(.const (.int .i64 7))]), (.some (204, .true))⟩, ⟨(.some 207), (.call (.func 53) [(t_ 206)]), (.some (204, .true))⟩, ⟨(.some 208), (.load (.some 19) (t_ 20)), (.some (204, .true))⟩, ⟨(.some 209), (.call (.func 43) [(t_ 205), (.const (.int .i64 3)), (.const (.int .i64 2000)), (t_ 207), (t_ 208)]), (.some (204, .true))⟩, ⟨(.some 210), (.un .not (t_ 209)), (.some (204, .true))⟩, o_ 211 (.pick (t_ 204) (t_ 210) (.const (.bool .false))), o_ 30 (.mv (t_ 211))]
def f35g23 : List RO := [o_ 212 (.mv (t_ 29)), o_ 213 (.mv (t_ 212)), ⟨(.some 214), (.mv (t_ 30)), (.some (213, .true))⟩, o_ 215 (.pick (t_ 213) (t_ 214) (.const (.bool .false))), o_ 216 (.mv (t_ 215)), ⟨(.some 217), (.faddr 0 (t_ 25)), (.some (216, .true))⟩, ⟨(.some 218), (.load .none (t_ 217)), (.some (216, .true))⟩, ⟨(.some 219), (.bin .eql (t_ 218) (.const (.int .i64 0))), (.some (216, .true))⟩, o_ 220 (.pick (t_ 216) (t_ 219) (.const (.bool .false))), o_ 221 (.mv (t_ 220)), ⟨(.some 222), (.faddr 1 (t_ 25)), (.some (221, .true))⟩, ⟨(.some 223), (.load .none (t_ 222)), (.some (221, .true))⟩, ⟨(.some 224), (.bin .eql (t_ 223) (.const (.int .i64 2))), (.some (221, .true))⟩, o_ 225 (.pick (t_ 221) (t_ 224) (.const (.bool .false))), o_ 226 (.mv (t_ 225)), ⟨(.some 227), (.faddr 19 (t_ 25)), (.some (226, .true))⟩, ⟨(.some 228), (.load .none (t_ 227)), (.some (226, .true))⟩, ⟨(.some 229), (.mv (t_ 1)), (.some (226, .true))⟩, ⟨(.some 230), (.bin .eql (t_ 228) (t_ 229)), (.some (226, .true))⟩, o_ 231 (.pick (t_ 226) (t_ 230) (.const (.bool .false))), o_ 232 (.mv (t_ 231)), ⟨(.some 233), (.load (.some 16) (t_ 18)), (.some (232, .true))⟩, ⟨(.some 234), (.mv (t_ 24)), (.some (232, .true))⟩, ⟨(.some 235), (.load (.some 22) (t_ 25)), (.some (232, .true))⟩, ⟨(.some 236), (.call (.func 44) [(t_ 233), (.const (.int .i64 3)), (.const (.int .i64 2000)), (t_ 234), (t_ 235)]), (.some (232, .true))⟩, o_ 237 (.pick (t_ 232) (t_ 236) (.const (.bool .false))), o_ 238 (.mv (t_ 237)), ⟨(.some 239), (.load (.some 16) (t_ 18)), (.some (238, .true))⟩, ⟨(.some 240), (.mv (t_ 1)), (.some (238, .true))⟩, ⟨(.some 241), (.load (.some 22) (t_ 25)), (.some (238, .true))⟩, ⟨(.some 242), (.call (.func 44) [(t_ 239), (.const (.int .i64 3)), (.const (.int .i64 2000)), (t_ 240), (t_ 241)]), (.some (238, .true))⟩, ⟨(.some 243), (.un .not (t_ 242)), (.some (238, .true))⟩, o_ 244 (.pick (t_ 238) (t_ 243) (.const (.bool .false))), o_ 0 (.mv (t_ 244))]
def f35c : RCode := (.seq (.reg .false f35g0) (.seq (.reg .false f35g1) (.seq (.reg .false f35g2) (.seq (.reg .false f35g3) (.seq (.reg .false f35g4) (.seq (.reg .false f35g5) (.seq (.reg .false f35g6) (.seq (.reg .false f35g7) (.seq (.reg .false f35g8) (.seq (.seq (.reg .true f35g9) (.cond (t_ 106) (.seq (.reg .false f35g10) .ret) .skip)) (.seq (.reg .false f35g11) (.seq (.regS f35g12) (.seq (.reg .false f35g13) (.seq (.reg .true f35g14) (.seq (.reg .false f35g15) (.seq (.reg .false f35g16) (.seq (.reg .true f35g17) (.seq (.reg .false f35g18) (.seq (.reg .false f35g19) (.seq (.reg .false f35g20) (.seq (.reg .false f35g21) (.seq (.reg .true f35g22) (.seq (.reg .false f35g23) .ret)))))))))))))))))))))))
def f35r : List RRes := [(.tmp 0)]
attribute [push_cast] f35g0 f35g1 f35g2 f35g3 f35g4 f35g5 f35g6 f35g7 f35g8 f35g9 f35g10 f35g11 f35g12 f35g13 f35g14 f35g15 f35g16 f35g17 f35g18 f35g19 f35g20 f35g21 f35g22 f35g23
def F_law23_sanity (N : Nat) : Option Bool := bd? (F_law23_reading N 5) fun v1 => bd? (F_leaf_Reading N v1) fun v2 => bd? (F_leaf_GetReading N v2) fun v3 => gd? (v2.length + ([0] : Str).length ≤ 9223372036854775807) (bd? (F_leaf_GetReading N (v2 ++ ([0] : Str))) fun v4 => bd? (F_leaf_GetBlock N v2) fun v5 => bd? (F_law23_reading N 5) fun v6 => bd? (F_leaf_Where N v2) fun v7 => bd? (F_leaf_Reading N (Reading.mk v6.Gauge v6.Seq 40000 v6.To v6.Stage v6.Known)) fun v8 => bd? (F_leaf_Where N v8) fun v9 => gd? (((v2 == ([14, 2, 6, 10, 20, 28, 14, 4] : Str))) = true) (gd? (((v3.2 != 0)) = false) (bd? (F_law23_reading N 5) fun v10 => gd? ((((v3.1.Gauge == v10.Gauge) && ((v3.1.Seq == v10.Seq) && ((v3.1.From == v10.From) && ((v3.1.To == v10.To) && ((v3.1.Stage == v10.Stage) && (v3.1.Known == v10.Known))))))) = true) (gd? (((v4.2 != 11)) = false) (gd? (((v5.2 != 11)) = false) (gd? (((v7.2.2 != 0)) = false) (gd? (((v9.2.2 != 0)) = false) (gd? (((v7.1 != 3)) = false) (gd? (((v7.2.1 != 2000)) = false) (gd? (((v9.1 != 3)) = false) (gd? (((v9.2.1 != 2001)) = false) (bd? (F_law23_reading N 6) fun v11 => bd? (F_leaf_Reading N v11) fun v12 => get? [v2, v12] (1) fun x13 => get? [v2, v12] (0) fun x14 => bd? (F_leaf_Root N (Folder.mk 3 2000 [v2, v12])) fun v15 => bd? (F_leaf_Prove N (Folder.mk 3 2000 [v2, v12]) v2) fun v16 => bd? (F_law23_reading N 7) fun v17 => bd? (F_leaf_Reading N v17) fun v18 => bd? (F_leaf_Prove N (Folder.mk 3 2000 [v2, v12]) v18) fun v19 => bd? (F_law23_reading N 4) fun v20 => bd? (F_leaf_Reading N v20) fun v21 => bd? (F_leaf_Deny N (Folder.mk 3 2000 [v2, v12]) v21) fun v22 => bd? (F_leaf_Deny N (Folder.mk 3 2000 [v2, v12]) v2) fun v23 => bd? (F_leaf_Check N (Folder.mk 3 2000 [v2, v12])) fun v24 => gd? (((v24 == 0)) = true) (bd? (F_leaf_Check N (Folder.mk 3 2001 [v2, v12])) fun v25 => gd? (((v25 == 1)) = true) (bd? (F_leaf_Check N (Folder.mk 3 2000 [x13, x14])) fun v26 => gd? (((v26 == 1)) = true) (gd? (((v15.2 == 0)) = true) (gd? (((v16.2 == 0)) = true) (gd? (((v19.2 == 8)) = true) (gd? (((v22.2 == 0)) = true) (gd? (((v16.1.At == 0)) = true) (gd? (((v16.1.Count == 2)) = true) (bd? (F_leaf_Accept N v15.1 3 2000 v2 v16.1) fun v27 => gd? ((v27) = true) (bd? (F_law23_reading N 7) fun v28 => bd? (F_leaf_Reading N v28) fun v29 => bd? (F_leaf_Accept N v15.1 3 2000 v29 v16.1) fun v30 => gd? (((v23.2 == 9)) = true) (gd? ((v30) = false) (gd? (((v22.1.At == 0)) = true) (gd? (((v22.1.Count == 2)) = true) (gd? (((v22.1.After == v2)) = true) (bd? (F_leaf_Denied N v15.1 3 2000 v21 v22.1) fun v31 => gd? ((v31) = true) (bd? (F_leaf_Denied N v15.1 3 2000 v2 v22.1) fun v32 => some (!(v32))))))))))))))))))))))))))))))
theorem c_law23_sanity (N : Nat) (r : Bool) (h : F_law23_sanity N = some r) : ACall Tryd.prog 35 [] [] (.D (.B r)) [] [] := by
 refine ACall.of_bodyW [112, 113, 9999999] (fn := Tryd.f35) (rc := f35c) (rs := f35r) Tryd.func35 rfl rfl (by kernel_rfl) (by kernel_rfl) (by kernel_rfl) (by rw [Tryd.ntmps35]; simp) ?_
 unfold F_law23_sanity at h
 unfold f35c f35r
 rw [entry_eq _ _]
 obtain ⟨v1, h1, h⟩ := F_bd h
 simp only[push_cast,seval]
 refine call_flat (by rfl) (c_law23_reading N _ _ h1) ?_ rfl ?_
 ·simp only[push_cast,seval] <;> rfl
 obtain ⟨v2, h2, h⟩ := F_bd h
 simp only[push_cast,seval]
 refine call_flat (by rfl) (c_leaf_Reading N _ _ h2) ?_ rfl ?_
 ·simp only[push_cast,seval] <;> rfl
 obtain ⟨v3, h3, h⟩ := F_bd h
 simp only[push_cast,seval]
 refine call_flat (by rfl) (c_leaf_GetReading N _ _ h3) ?_ rfl ?_
 ·simp only[push_cast,seval] <;> rfl
 obtain ⟨h4, h⟩ := F_gd h
 try simp only[push_cast,seval] at h4
 obtain ⟨v4, h5, h⟩ := F_bd h
 simp only[push_cast,seval,h4]
 refine call_flat (by rfl) (c_leaf_GetReading N _ _ h5) ?_ rfl ?_
 ·simp only[push_cast,seval,h4] <;> rfl
 obtain ⟨v5, h6, h⟩ := F_bd h
 simp only[push_cast,seval,h4]
 refine call_new (by rfl) (c_leaf_GetBlock N _ _ h6) ?_ rfl ?_
 ·simp only[push_cast,seval,h4] <;> rfl
 obtain ⟨v6, h7, h⟩ := F_bd h
 simp only[push_cast,seval,h4]
 refine call_flat (by rfl) (c_law23_reading N _ _ h7) ?_ rfl ?_
 ·simp only[push_cast,seval,h4] <;> rfl
 obtain ⟨v7, h8, h⟩ := F_bd h
 simp only[push_cast,seval,h4]
 refine call_flat (by rfl) (c_leaf_Where N _ _ h8) ?_ rfl ?_
 ·simp only[push_cast,seval,h4] <;> rfl
 obtain ⟨v8, h9, h⟩ := F_bd h
 simp only[push_cast,seval,h4]
 refine call_flat (by rfl) (c_leaf_Reading N _ _ h9) ?_ rfl ?_
 ·simp only[push_cast,seval,h4] <;> rfl
 obtain ⟨v9, h10, h⟩ := F_bd h
 simp only[push_cast,seval,h4]
 refine call_flat (by rfl) (c_leaf_Where N _ _ h10) ?_ rfl ?_
 ·simp only[push_cast,seval,h4] <;> rfl
 obtain ⟨h11, h⟩ := F_gd h
 try simp only[push_cast,seval] at h11
 obtain ⟨h12, h⟩ := F_gd h
 obtain ⟨v10, h13, h⟩ := F_bd h
 simp only[push_cast,seval,h4,h11,h12]
 refine call_flat (by rfl) (c_law23_reading N _ _ h13) ?_ rfl ?_
 ·simp only[push_cast,seval,h4,h11,h12] <;> rfl
 obtain ⟨h14, h⟩ := F_gd h
 obtain ⟨h15, h⟩ := F_gd h
 obtain ⟨h16, h⟩ := F_gd h
 obtain ⟨h17, h⟩ := F_gd h
 obtain ⟨h18, h⟩ := F_gd h
 obtain ⟨h19, h⟩ := F_gd h
 obtain ⟨h20, h⟩ := F_gd h
 obtain ⟨h21, h⟩ := F_gd h
 obtain ⟨h22, h⟩ := F_gd h
 obtain ⟨v11, h23, h⟩ := F_bd h
 simp only[push_cast,seval,h4,h11,h12,h14,h15,h16,h17,h18,h19,h20,h21,h22]
 refine call_flat (by rfl) (c_law23_reading N _ _ h23) ?_ rfl ?_
 ·simp only[push_cast,seval,h4,h11,h12,h14,h15,h16,h17,h18,h19,h20,h21,h22] <;> rfl
 obtain ⟨v12, h24, h⟩ := F_bd h
 simp only[push_cast,seval,h4,h11,h12,h14,h15,h16,h17,h18,h19,h20,h21,h22]
 refine call_flat (by rfl) (c_leaf_Reading N _ _ h24) ?_ rfl ?_
 ·simp only[push_cast,seval,h4,h11,h12,h14,h15,h16,h17,h18,h19,h20,h21,h22] <;> rfl
 simp only[push_cast,seval,h4,h11,h12,h14,h15,h16,h17,h18,h19,h20,h21,h22]
 refine regS_of true [.O 5] (by rfl) ?_
 obtain ⟨x13, h25, h26, h⟩ := F_get h
 have h27 := get_lt h25 h26
 have h28 := map_get rS h26
 try simp only[push_cast,seval] at h28 h25 h27
 obtain ⟨x14, h29, h30, h⟩ := F_get h
 have h31 := get_lt h29 h30
 have h32 := map_get rS h30
 try simp only[push_cast,seval] at h32 h29 h31
 obtain ⟨v15, h33, h⟩ := F_bd h
 simp only[push_cast,seval,h4,h11,h12,h14,h15,h16,h17,h18,h19,h20,h21,h22,h25,h28,h27,h29,h32,h31]
 refine call_flat (by rfl) (c_leaf_Root N _ _ h33) ?_ (by simp [AV.flat, AV.flatL, flatL_aI, flatL_app, DV.flat]) ?_
 ·simp only[push_cast,seval,h4,h11,h12,h14,h15,h16,h17,h18,h19,h20,h21,h22,h25,h28,h27,h29,h32,h31] <;> rfl
 obtain ⟨v16, h34, h⟩ := F_bd h
 simp only[push_cast,seval,h4,h11,h12,h14,h15,h16,h17,h18,h19,h20,h21,h22,h25,h28,h27,h29,h32,h31]
 refine call_new (by rfl) (c_leaf_Prove N _ _ _ h34) ?_ (by simp [AV.flat, AV.flatL, flatL_aI, flatL_app, DV.flat]) ?_
 ·simp only[push_cast,seval,h4,h11,h12,h14,h15,h16,h17,h18,h19,h20,h21,h22,h25,h28,h27,h29,h32,h31] <;> rfl
 obtain ⟨v17, h35, h⟩ := F_bd h
 simp only[push_cast,seval,h4,h11,h12,h14,h15,h16,h17,h18,h19,h20,h21,h22,h25,h28,h27,h29,h32,h31]
 refine call_flat (by rfl) (c_law23_reading N _ _ h35) ?_ rfl ?_
 ·simp only[push_cast,seval,h4,h11,h12,h14,h15,h16,h17,h18,h19,h20,h21,h22,h25,h28,h27,h29,h32,h31] <;> rfl
 obtain ⟨v18, h36, h⟩ := F_bd h
 simp only[push_cast,seval,h4,h11,h12,h14,h15,h16,h17,h18,h19,h20,h21,h22,h25,h28,h27,h29,h32,h31]
 refine call_flat (by rfl) (c_leaf_Reading N _ _ h36) ?_ rfl ?_
 ·simp only[push_cast,seval,h4,h11,h12,h14,h15,h16,h17,h18,h19,h20,h21,h22,h25,h28,h27,h29,h32,h31] <;> rfl
 obtain ⟨v19, h37, h⟩ := F_bd h
 simp only[push_cast,seval,h4,h11,h12,h14,h15,h16,h17,h18,h19,h20,h21,h22,h25,h28,h27,h29,h32,h31]
 refine call_new (by rfl) (c_leaf_Prove N _ _ _ h37) ?_ (by simp [AV.flat, AV.flatL, flatL_aI, flatL_app, DV.flat]) ?_
 ·simp only[push_cast,seval,h4,h11,h12,h14,h15,h16,h17,h18,h19,h20,h21,h22,h25,h28,h27,h29,h32,h31] <;> rfl
 obtain ⟨v20, h38, h⟩ := F_bd h
 simp only[push_cast,seval,h4,h11,h12,h14,h15,h16,h17,h18,h19,h20,h21,h22,h25,h28,h27,h29,h32,h31]
 refine call_flat (by rfl) (c_law23_reading N _ _ h38) ?_ rfl ?_
 ·simp only[push_cast,seval,h4,h11,h12,h14,h15,h16,h17,h18,h19,h20,h21,h22,h25,h28,h27,h29,h32,h31] <;> rfl
 obtain ⟨v21, h39, h⟩ := F_bd h
 simp only[push_cast,seval,h4,h11,h12,h14,h15,h16,h17,h18,h19,h20,h21,h22,h25,h28,h27,h29,h32,h31]
 refine call_flat (by rfl) (c_leaf_Reading N _ _ h39) ?_ rfl ?_
 ·simp only[push_cast,seval,h4,h11,h12,h14,h15,h16,h17,h18,h19,h20,h21,h22,h25,h28,h27,h29,h32,h31] <;> rfl
 obtain ⟨v22, h40, h⟩ := F_bd h
 simp only[push_cast,seval,h4,h11,h12,h14,h15,h16,h17,h18,h19,h20,h21,h22,h25,h28,h27,h29,h32,h31]
 refine call_new (by rfl) (c_leaf_Deny N _ _ _ h40) ?_ (by simp [AV.flat, AV.flatL, flatL_aI, flatL_app, DV.flat]) ?_
 ·simp only[push_cast,seval,h4,h11,h12,h14,h15,h16,h17,h18,h19,h20,h21,h22,h25,h28,h27,h29,h32,h31] <;> rfl
 obtain ⟨v23, h41, h⟩ := F_bd h
 simp only[push_cast,seval,h4,h11,h12,h14,h15,h16,h17,h18,h19,h20,h21,h22,h25,h28,h27,h29,h32,h31]
 refine call_new (by rfl) (c_leaf_Deny N _ _ _ h41) ?_ (by simp [AV.flat, AV.flatL, flatL_aI, flatL_app, DV.flat]) ?_
 ·simp only[push_cast,seval,h4,h11,h12,h14,h15,h16,h17,h18,h19,h20,h21,h22,h25,h28,h27,h29,h32,h31] <;> rfl
 obtain ⟨v24, h42, h⟩ := F_bd h
 simp only[push_cast,seval,h4,h11,h12,h14,h15,h16,h17,h18,h19,h20,h21,h22,h25,h28,h27,h29,h32,h31]
 refine call_flat (by rfl) (c_leaf_Check N _ _ h42) ?_ rfl ?_
 ·simp only[push_cast,seval,h4,h11,h12,h14,h15,h16,h17,h18,h19,h20,h21,h22,h25,h28,h27,h29,h32,h31] <;> rfl
 obtain ⟨h43, h⟩ := F_gd h
 obtain ⟨v25, h44, h⟩ := F_bd h
 simp only[push_cast,seval,h4,h11,h12,h14,h15,h16,h17,h18,h19,h20,h21,h22,h25,h28,h27,h29,h32,h31,h43]
 refine call_flat (by rfl) (c_leaf_Check N _ _ h44) ?_ rfl ?_
 ·simp only[push_cast,seval,h4,h11,h12,h14,h15,h16,h17,h18,h19,h20,h21,h22,h25,h28,h27,h29,h32,h31,h43] <;> rfl
 obtain ⟨h45, h⟩ := F_gd h
 obtain ⟨v26, h46, h⟩ := F_bd h
 simp only[push_cast,seval,h4,h11,h12,h14,h15,h16,h17,h18,h19,h20,h21,h22,h25,h28,h27,h29,h32,h31,h43,h45]
 refine call_flat (by rfl) (c_leaf_Check N _ _ h46) ?_ rfl ?_
 ·simp only[push_cast,seval,h4,h11,h12,h14,h15,h16,h17,h18,h19,h20,h21,h22,h25,h28,h27,h29,h32,h31,h43,h45] <;> rfl
 obtain ⟨h47, h⟩ := F_gd h
 obtain ⟨h48, h⟩ := F_gd h
 obtain ⟨h49, h⟩ := F_gd h
 obtain ⟨h50, h⟩ := F_gd h
 obtain ⟨h51, h⟩ := F_gd h
 obtain ⟨h52, h⟩ := F_gd h
 obtain ⟨h53, h⟩ := F_gd h
 obtain ⟨v27, h54, h⟩ := F_bd h
 simp only[push_cast,seval,h4,h11,h12,h14,h15,h16,h17,h18,h19,h20,h21,h22,h25,h28,h27,h29,h32,h31,h43,h45,h47,h48,h49,h50,h51,h52,h53]
 refine call_flat (by rfl) (c_leaf_Accept N _ _ _ _ _ _ h54) ?_ rfl ?_
 ·simp only[push_cast,seval,h4,h11,h12,h14,h15,h16,h17,h18,h19,h20,h21,h22,h25,h28,h27,h29,h32,h31,h43,h45,h47,h48,h49,h50,h51,h52,h53] <;> rfl
 obtain ⟨h55, h⟩ := F_gd h
 obtain ⟨v28, h56, h⟩ := F_bd h
 simp only[push_cast,seval,h4,h11,h12,h14,h15,h16,h17,h18,h19,h20,h21,h22,h25,h28,h27,h29,h32,h31,h43,h45,h47,h48,h49,h50,h51,h52,h53,h55]
 refine call_flat (by rfl) (c_law23_reading N _ _ h56) ?_ rfl ?_
 ·simp only[push_cast,seval,h4,h11,h12,h14,h15,h16,h17,h18,h19,h20,h21,h22,h25,h28,h27,h29,h32,h31,h43,h45,h47,h48,h49,h50,h51,h52,h53,h55] <;> rfl
 obtain ⟨v29, h57, h⟩ := F_bd h
 simp only[push_cast,seval,h4,h11,h12,h14,h15,h16,h17,h18,h19,h20,h21,h22,h25,h28,h27,h29,h32,h31,h43,h45,h47,h48,h49,h50,h51,h52,h53,h55]
 refine call_flat (by rfl) (c_leaf_Reading N _ _ h57) ?_ rfl ?_
 ·simp only[push_cast,seval,h4,h11,h12,h14,h15,h16,h17,h18,h19,h20,h21,h22,h25,h28,h27,h29,h32,h31,h43,h45,h47,h48,h49,h50,h51,h52,h53,h55] <;> rfl
 obtain ⟨v30, h58, h⟩ := F_bd h
 simp only[push_cast,seval,h4,h11,h12,h14,h15,h16,h17,h18,h19,h20,h21,h22,h25,h28,h27,h29,h32,h31,h43,h45,h47,h48,h49,h50,h51,h52,h53,h55]
 refine call_flat (by rfl) (c_leaf_Accept N _ _ _ _ _ _ h58) ?_ rfl ?_
 ·simp only[push_cast,seval,h4,h11,h12,h14,h15,h16,h17,h18,h19,h20,h21,h22,h25,h28,h27,h29,h32,h31,h43,h45,h47,h48,h49,h50,h51,h52,h53,h55] <;> rfl
 obtain ⟨h59, h⟩ := F_gd h
 obtain ⟨h60, h⟩ := F_gd h
 obtain ⟨h61, h⟩ := F_gd h
 obtain ⟨h62, h⟩ := F_gd h
 obtain ⟨h63, h⟩ := F_gd h
 obtain ⟨v31, h64, h⟩ := F_bd h
 simp only[push_cast,seval,h4,h11,h12,h14,h15,h16,h17,h18,h19,h20,h21,h22,h25,h28,h27,h29,h32,h31,h43,h45,h47,h48,h49,h50,h51,h52,h53,h55,h59,h60,h61,h62,h63]
 refine call_flat (by rfl) (c_leaf_Denied N _ _ _ _ _ _ h64) ?_ rfl ?_
 ·simp only[push_cast,seval,h4,h11,h12,h14,h15,h16,h17,h18,h19,h20,h21,h22,h25,h28,h27,h29,h32,h31,h43,h45,h47,h48,h49,h50,h51,h52,h53,h55,h59,h60,h61,h62,h63] <;> rfl
 obtain ⟨h65, h⟩ := F_gd h
 obtain ⟨v32, h66, h⟩ := F_bd h
 simp only[push_cast,seval,h4,h11,h12,h14,h15,h16,h17,h18,h19,h20,h21,h22,h25,h28,h27,h29,h32,h31,h43,h45,h47,h48,h49,h50,h51,h52,h53,h55,h59,h60,h61,h62,h63,h65]
 refine call_flat (by rfl) (c_leaf_Denied N _ _ _ _ _ _ h66) ?_ rfl ?_
 ·simp only[push_cast,seval,h4,h11,h12,h14,h15,h16,h17,h18,h19,h20,h21,h22,h25,h28,h27,h29,h32,h31,h43,h45,h47,h48,h49,h50,h51,h52,h53,h55,h59,h60,h61,h62,h63,h65] <;> rfl
 obtain rfl := Option.some.inj h
 simp only[push_cast,seval,h4,h11,h12,h14,h15,h16,h17,h18,h19,h20,h21,h22,h25,h28,h27,h29,h32,h31,h43,h45,h47,h48,h49,h50,h51,h52,h53,h55,h59,h60,h61,h62,h63,h65]
 refine e_ret (.inr rfl) ?_
 simp only[push_cast,seval,aret,aresults,aresult,h4,h11,h12,h14,h15,h16,h17,h18,h19,h20,h21,h22,h25,h28,h27,h29,h32,h31,h43,h45,h47,h48,h49,h50,h51,h52,h53,h55,h59,h60,h61,h62,h63,h65]
 refine ⟨_, rfl, ?_⟩
 first | (simp only[push_cast,seval,h4,h11,h12,h14,h15,h16,h17,h18,h19,h20,h21,h22,h25,h28,h27,h29,h32,h31,h43,h45,h47,h48,h49,h50,h51,h52,h53,h55,h59,h60,h61,h62,h63,h65] <;> rfl) | rfl

def f36g0 : List RO := [o_ 2 (.box (t_ 0)), o_ 4 (.mv (.const (.bool .false)))]
def f36g1 : List RO := [o_ 6 (.faddr 2 (t_ 2)), o_ 7 (.load .none (t_ 6)), o_ 8 (.len .false (t_ 7)), o_ 9 (.mv (t_ 1)), o_ 10 (.bin .gtr (t_ 8) (t_ 9)), o_ 11 (.mv (t_ 10)), ⟨(.some 12), (.faddr 2 (t_ 2)), (.some (11, .true))⟩, ⟨(.some 13), (.load .none (t_ 12)), (.some (11, .true))⟩, ⟨(.some 14), (.len .false (t_ 13)), (.some (11, .true))⟩, ⟨(.some 15), (.bin .leq (t_ 14) (.const (.int .i64 1000))), (.some (11, .true))⟩, o_ 16 (.pick (t_ 11) (t_ 15) (.const (.bool .false))), o_ 17 (.mv (t_ 16)), ⟨(.some 18), (.faddr 2 (t_ 2)), (.some (17, .false))⟩, ⟨(.some 19), (.load .none (t_ 18)), (.some (17, .false))⟩, ⟨(.some 20), (.len .false (t_ 19)), (.some (17, .false))⟩, ⟨(.some 21), (.bin .gtr (t_ 20) (.const (.int .i64 1010))), (.some (17, .false))⟩, o_ 22 (.pick (t_ 17) (.const (.bool .true)) (t_ 21))]
def f36g2 : List RO := [o_ 4 (.mv (.const (.bool .false)))]
def f36g3 : List RO := [o_ 5 (.mv (.const (.int .i64 0)))]
def f36g4 : List RO := [o_ 23 (.mv (t_ 5)), o_ 24 (.faddr 2 (t_ 2)), o_ 25 (.load .none (t_ 24)), o_ 26 (.len .false (t_ 25)), o_ 27 (.bin .lss (t_ 23) (t_ 26))]
def f36g5 : List RO := [o_ 30 (.faddr 2 (t_ 2)), o_ 31 (.load .none (t_ 30)), o_ 32 (.mv (t_ 5)), o_ 33 (.iaddr 1 (t_ 31) (t_ 32)), o_ 34 (.load .none (t_ 33)), o_ 35 (.len .true (t_ 34)), o_ 36 (.bin .gtr (t_ 35) (.const (.int .i64 400)))]
def f36g6 : List RO := [o_ 4 (.mv (.const (.bool .false)))]
def f36g7 : List RO := [o_ 28 (.mv (t_ 5)), o_ 29 (.bin .add (t_ 28) (.const (.int .i64 1))), o_ 5 (.mv (t_ 29))]
def f36b8 : RCode := (.seq (.seq (.reg .false f36g4) (.cond (t_ 27) .skip (.exit 0))) (.seq (.block 1 (.seq (.reg .false f36g5) (.cond (t_ 36) (.seq (.reg .false f36g6) .ret) .skip))) (.reg .false f36g7)))
def f36g9 : List RO := [o_ 4 (.mv (.const (.bool .true)))]
def f36c : RCode := (.seq (.reg .false f36g0) (.seq (.seq (.reg .false f36g1) (.cond (t_ 22) (.seq (.reg .false f36g2) .ret) .skip)) (.seq (.seq (.reg .false f36g3) (.block 0 (.loop f36b8))) (.seq (.reg .false f36g9) .ret))))
def f36r : List RRes := [(.tmp 4)]
attribute [push_cast] f36g0 f36g1 f36g2 f36g3 f36g4 f36g5 f36g6 f36g7 f36g9
def L_ref23_Few_0 (N : Nat) (p0 : Folder) : Nat → Int → Option Bool
  | 0, _ => none
  | m1+1, a1 => if? (decide (a1 < (p0.Items.length : Int))) (get? p0.Items (a1) fun x2 => if? (decide ((x2.length : Int) > 400)) (some (false)) (ck .i64 (a1 + 1) (L_ref23_Few_0 N p0 m1 (a1 + 1)))) (some (true))
def I_ref23_Few_0 (N : Nat) (p0 : Folder) (r : Bool) (n : Nat) (s : AState) : Prop := ∃ (a1 : Int), L_ref23_Few_0 N p0 n a1 = some r ∧ s = ⟨envL [(2, .ptr (.O 0) 0), (5, .D (.I .i64 a1))], ownL [], ownL [some (.box ([.D (.I .i64 p0.Gauge), .D (.I .i64 p0.Year), .D (.L (p0.Items.map rS))]))], 1⟩
def F_ref23_Few (N : Nat) (p0 : Folder) (p1 : Int) : Option Bool := if? (decide ((p0.Items.length : Int) > p1)) (if? (decide ((p0.Items.length : Int) ≤ 1000)) (some (false)) (if? (decide ((p0.Items.length : Int) > 1010)) (some (false)) (L_ref23_Few_0 N p0 N 0))) (if? (decide ((p0.Items.length : Int) > 1010)) (some (false)) (L_ref23_Few_0 N p0 N 0))
theorem c_ref23_Few (N : Nat) (p0 : Folder) (p1 : Int) (r : Bool) (h : F_ref23_Few N p0 p1 = some r) : ACall Tryd.prog 36 [.agg [.D (.I .i64 p0.Gauge), .D (.I .i64 p0.Year), .D (.L (p0.Items.map rS))], .D (.I .i64 p1)] [] (.D (.B r)) [] [] := by
 refine ACall.of_bodyW [] (fn := Tryd.f36) (rc := f36c) (rs := f36r) Tryd.func36 rfl rfl (by kernel_rfl) (by kernel_rfl) (by kernel_rfl) (by rw [Tryd.ntmps36]; simp) ?_
 unfold F_ref23_Few at h
 unfold f36c f36r
 rw [entry_eq _ _]
 rcases F_if h with ⟨h1, h⟩ | ⟨h1, h⟩
 rotate_left
 ·rcases F_if h with ⟨h2, h⟩ | ⟨h2, h⟩
  ·obtain rfl := Option.some.inj h
   simp only[push_cast,seval,h1,h2]
   refine e_ret (.inr rfl) ?_
   simp only[push_cast,seval,aret,aresults,aresult,h1,h2]
   refine ⟨_, rfl, ?_⟩
   first | (simp only[push_cast,seval,h1,h2] <;> rfl) | rfl
  simp only[push_cast,seval,h1,h2]
  refine loop_of (I_ref23_Few_0 N p0 _) N [2, 5] [0] (by decide) ⟨0, h, ?_⟩ ?_
  ·rw [wk_mk]
   simp only[push_cast,seval,h1,h2] <;> rfl
  rintro n s ⟨a3, h, rfl⟩
  rcases n with _ | m1
  ·exact absurd h (by simp [L_ref23_Few_0])
  rw [L_ref23_Few_0] at h
  unfold f36b8
  rcases F_if h with ⟨h3, h⟩ | ⟨h3, h⟩
  rotate_left
  ·obtain rfl := Option.some.inj h
   simp only[push_cast,seval,h1,h2,h3]
   refine e_ret (.inr rfl) ?_
   simp only[push_cast,seval,aret,aresults,aresult,h1,h2,h3]
   refine ⟨_, rfl, ?_⟩
   first | (simp only[push_cast,seval,h1,h2,h3] <;> rfl) | rfl
  obtain ⟨x4, h4, h5, h⟩ := F_get h
  have h6 := get_lt h4 h5
  have h7 := map_get rS h5
  try simp only[push_cast,seval] at h7
  rcases F_if h with ⟨h8, h⟩ | ⟨h8, h⟩
  ·obtain rfl := Option.some.inj h
   simp only[push_cast,seval,h1,h2,h3,h4,h7,h6,h8]
   refine e_ret (.inr rfl) ?_
   simp only[push_cast,seval,aret,aresults,aresult,h1,h2,h3,h4,h7,h6,h8]
   refine ⟨_, rfl, ?_⟩
   first | (simp only[push_cast,seval,h1,h2,h3,h4,h7,h6,h8] <;> rfl) | rfl
  obtain ⟨h9, h⟩ := F_ck h
  try simp only[push_cast,seval] at h9
  simp only[push_cast,seval,h1,h2,h3,h4,h7,h6,h8,h9]
  refine lpK_of m1 [2, 5] [0] (by omega) (by decide) ⟨(a3 + 1), (by first | exact h | simpa only [*] using h), ?_⟩
  rw [wk_mk]
  simp only[push_cast,seval,h1,h2,h3,h4,h7,h6,h8,h9] <;> rfl
 rcases F_if h with ⟨h10, h⟩ | ⟨h10, h⟩
 ·obtain rfl := Option.some.inj h
  simp only[push_cast,seval,h1,h10]
  refine e_ret (.inr rfl) ?_
  simp only[push_cast,seval,aret,aresults,aresult,h1,h10]
  refine ⟨_, rfl, ?_⟩
  first | (simp only[push_cast,seval,h1,h10] <;> rfl) | rfl
 rcases F_if h with ⟨h11, h⟩ | ⟨h11, h⟩
 ·obtain rfl := Option.some.inj h
  simp only[push_cast,seval,h1,h10,h11]
  refine e_ret (.inr rfl) ?_
  simp only[push_cast,seval,aret,aresults,aresult,h1,h10,h11]
  refine ⟨_, rfl, ?_⟩
  first | (simp only[push_cast,seval,h1,h10,h11] <;> rfl) | rfl
 simp only[push_cast,seval,h1,h10,h11]
 refine loop_of (I_ref23_Few_0 N p0 _) N [2, 5] [0] (by decide) ⟨0, h, ?_⟩ ?_
 ·rw [wk_mk]
  simp only[push_cast,seval,h1,h10,h11] <;> rfl
 rintro n s ⟨a1, h, rfl⟩
 rcases n with _ | m1
 ·exact absurd h (by simp [L_ref23_Few_0])
 rw [L_ref23_Few_0] at h
 unfold f36b8
 rcases F_if h with ⟨h12, h⟩ | ⟨h12, h⟩
 rotate_left
 ·obtain rfl := Option.some.inj h
  simp only[push_cast,seval,h1,h10,h11,h12]
  refine e_ret (.inr rfl) ?_
  simp only[push_cast,seval,aret,aresults,aresult,h1,h10,h11,h12]
  refine ⟨_, rfl, ?_⟩
  first | (simp only[push_cast,seval,h1,h10,h11,h12] <;> rfl) | rfl
 obtain ⟨x2, h13, h14, h⟩ := F_get h
 have h15 := get_lt h13 h14
 have h16 := map_get rS h14
 try simp only[push_cast,seval] at h16
 rcases F_if h with ⟨h17, h⟩ | ⟨h17, h⟩
 ·obtain rfl := Option.some.inj h
  simp only[push_cast,seval,h1,h10,h11,h12,h13,h16,h15,h17]
  refine e_ret (.inr rfl) ?_
  simp only[push_cast,seval,aret,aresults,aresult,h1,h10,h11,h12,h13,h16,h15,h17]
  refine ⟨_, rfl, ?_⟩
  first | (simp only[push_cast,seval,h1,h10,h11,h12,h13,h16,h15,h17] <;> rfl) | rfl
 obtain ⟨h18, h⟩ := F_ck h
 try simp only[push_cast,seval] at h18
 simp only[push_cast,seval,h1,h10,h11,h12,h13,h16,h15,h17,h18]
 refine lpK_of m1 [2, 5] [0] (by omega) (by decide) ⟨(a1 + 1), (by first | exact h | simpa only [*] using h), ?_⟩
 rw [wk_mk]
 simp only[push_cast,seval,h1,h10,h11,h12,h13,h16,h15,h17,h18] <;> rfl

def f92g0 : List RO := [o_ 4 (.mv (.const (.int .i64 0)))]
def f92g1 : List RO := [o_ 6 (.mv (t_ 0)), o_ 7 (.len .false (t_ 6)), o_ 8 (.mv (.const (.int .i64 0)))]
def f92g2 : List RO := [o_ 9 (.bin .lss (t_ 8) (t_ 7))]
def f92g3 : List RO := [o_ 10 (.mv (t_ 8)), o_ 5 (.mv (t_ 10))]
def f92g4 : List RO := [o_ 11 (.mv (t_ 1)), o_ 12 (.mv (t_ 0)), o_ 13 (.mv (t_ 5)), o_ 14 (.iaddr 1 (t_ 12) (t_ 13)), o_ 15 (.load .none (t_ 14)), o_ 16 (.bin .eql (t_ 11) (t_ 15))]
def f92g5 : List RO := [o_ 17 (.mv (t_ 5)), o_ 4 (.mv (t_ 17))]
def f92g6 : List RO := [o_ 18 (.bin .add (t_ 8) (.const (.int .i64 1))), o_ 8 (.mv (t_ 18))]
def f92b7 : RCode := (.seq (.reg .false f92g2) (.seq (.cond (t_ 9) .skip (.exit 0)) (.seq (.block 1 (.seq (.reg .false f92g3) (.seq (.reg .false f92g4) (.cond (t_ 16) (.seq (.reg .false f92g5) .ret) .skip)))) (.reg .false f92g6))))
def f92g8 : List RO := [o_ 4 (.mv (.const (.int .i64 (-1))))]
def f92c : RCode := (.seq (.reg .false f92g0) (.seq (.seq (.reg .false f92g1) (.block 0 (.loop f92b7))) (.seq (.reg .false f92g8) .ret)))
def f92r : List RRes := [(.tmp 4)]
attribute [push_cast] f92g0 f92g1 f92g2 f92g3 f92g4 f92g5 f92g6 f92g8
def L_slices_Index_string_string_0 (N : Nat) (p0 : (List Str)) (p1 : Str) : Nat → Int → Option Int
  | 0, _ => none
  | m1+1, a1 => if? (decide (a1 < (p0.length : Int))) (get? p0 (a1) fun x2 => if? ((p1 == x2)) (some (a1)) (ck .i64 (a1 + 1) (L_slices_Index_string_string_0 N p0 p1 m1 (a1 + 1)))) (some ((-1)))
def I_slices_Index_string_string_0 (N : Nat) (p0 : (List Str)) (p1 : Str) (r : Int) (n : Nat) (s : AState) : Prop := ∃ (a1 : Int), L_slices_Index_string_string_0 N p0 p1 n a1 = some r ∧ s = ⟨envL [(0, .D (.L (p0.map rS))), (1, .D (.S p1)), (7, .D (.I .i64 (p0.length : Int))), (8, .D (.I .i64 a1))], ownL [], ownL [], 0⟩
def F_slices_Index_string_string (N : Nat) (p0 : (List Str)) (p1 : Str) : Option Int := L_slices_Index_string_string_0 N p0 p1 N 0
theorem c_slices_Index_string_string (N : Nat) (p0 : (List Str)) (p1 : Str) (r : Int) (h : F_slices_Index_string_string N p0 p1 = some r) : ACall Tryd.prog 92 [.D (.L (p0.map rS)), .D (.S p1)] [] (.D (.I .i64 r)) [] [] := by
 refine ACall.of_bodyW [] (fn := Tryd.f92) (rc := f92c) (rs := f92r) Tryd.func92 rfl rfl (by kernel_rfl) (by kernel_rfl) (by kernel_rfl) (by rw [Tryd.ntmps92]; simp) ?_
 unfold F_slices_Index_string_string at h
 unfold f92c f92r
 rw [entry_eq _ _]
 simp only[push_cast,seval]
 refine loop_of (I_slices_Index_string_string_0 N p0 p1 _) N [0, 1, 7, 8] [] (by decide) ⟨0, h, ?_⟩ ?_
 ·rw [wk_mk]
  simp only[push_cast,seval] <;> rfl
 rintro n s ⟨a1, h, rfl⟩
 rcases n with _ | m1
 ·exact absurd h (by simp [L_slices_Index_string_string_0])
 rw [L_slices_Index_string_string_0] at h
 unfold f92b7
 rcases F_if h with ⟨h1, h⟩ | ⟨h1, h⟩
 rotate_left
 ·obtain rfl := Option.some.inj h
  simp only[push_cast,seval,h1]
  refine e_ret (.inr rfl) ?_
  simp only[push_cast,seval,aret,aresults,aresult,h1]
  refine ⟨_, rfl, ?_⟩
  first | (simp only[push_cast,seval,h1] <;> rfl) | rfl
 obtain ⟨x2, h2, h3, h⟩ := F_get h
 have h4 := get_lt h2 h3
 have h5 := map_get rS h3
 try simp only[push_cast,seval] at h5
 rcases F_if h with ⟨h6, h⟩ | ⟨h6, h⟩
 ·obtain rfl := Option.some.inj h
  simp only[push_cast,seval,h1,h2,h5,h4,h6]
  refine e_ret (.inr rfl) ?_
  simp only[push_cast,seval,aret,aresults,aresult,h1,h2,h5,h4,h6]
  refine ⟨_, rfl, ?_⟩
  first | (simp only[push_cast,seval,h1,h2,h5,h4,h6] <;> rfl) | rfl
 obtain ⟨h7, h⟩ := F_ck h
 try simp only[push_cast,seval] at h7
 simp only[push_cast,seval,h1,h2,h5,h4,h6,h7]
 refine lpK_of m1 [0, 1, 7, 8] [] (by omega) (by decide) ⟨(a1 + 1), (by first | exact h | simpa only [*] using h), ?_⟩
 rw [wk_mk]
 simp only[push_cast,seval,h1,h2,h5,h4,h6,h7] <;> rfl

def f41g0 : List RO := [o_ 4 (.mv (.const (.bool .false)))]
def f41g1 : List RO := [o_ 5 (.mv (t_ 0)), o_ 6 (.mv (t_ 1)), o_ 7 (.call (.func 92) [(t_ 5), (t_ 6)]), o_ 8 (.bin .geq (t_ 7) (.const (.int .i64 0))), o_ 4 (.mv (t_ 8))]
def f41c : RCode := (.seq (.reg .false f41g0) (.seq (.reg .false f41g1) .ret))
def f41r : List RRes := [(.tmp 4)]
attribute [push_cast] f41g0 f41g1
def F_slices_Contains_string_string (N : Nat) (p0 : (List Str)) (p1 : Str) : Option Bool := bd? (F_slices_Index_string_string N p0 p1) fun v1 => some (decide (v1 ≥ 0))
theorem c_slices_Contains_string_string (N : Nat) (p0 : (List Str)) (p1 : Str) (r : Bool) (h : F_slices_Contains_string_string N p0 p1 = some r) : ACall Tryd.prog 41 [.D (.L (p0.map rS)), .D (.S p1)] [] (.D (.B r)) [] [] := by
 refine ACall.of_bodyW [] (fn := Tryd.f41) (rc := f41c) (rs := f41r) Tryd.func41 rfl rfl (by kernel_rfl) (by kernel_rfl) (by kernel_rfl) (by rw [Tryd.ntmps41]; simp) ?_
 unfold F_slices_Contains_string_string at h
 unfold f41c f41r
 rw [entry_eq _ _]
 obtain ⟨v1, h1, h⟩ := F_bd h
 simp only[push_cast,seval]
 refine call_flat (by rfl) (c_slices_Index_string_string N _ _ _ h1) ?_ rfl ?_
 ·simp only[push_cast,seval] <;> rfl
 obtain rfl := Option.some.inj h
 simp only[push_cast,seval]
 refine e_ret (.inr rfl) ?_
 simp only[push_cast,seval,aret,aresults,aresult]
 refine ⟨_, rfl, ?_⟩
 first | (simp only[push_cast,seval] <;> rfl) | rfl

def f9g0 : List RO := [o_ 3 (.box (t_ 0)), o_ 6 (.mv (.const (.bool .false)))]
def f9g1 : List RO := [o_ 19 (.call (.func 35) []), o_ 7 (.mv (t_ 19))]
def f9g2 : List RO := [o_ 20 (.mv (t_ 7)), o_ 21 (.un .not (t_ 20)), o_ 22 (.mv (t_ 21)), ⟨(.some 23), (.load (.some 3) (t_ 3)), (.some (22, .false))⟩, ⟨(.some 24), (.call (.func 36) [(t_ 23), (.const (.int .i64 40))]), (.some (22, .false))⟩, ⟨(.some 25), (.un .not (t_ 24)), (.some (22, .false))⟩, o_ 26 (.pick (t_ 22) (.const (.bool .true)) (t_ 25)), o_ 27 (.mv (t_ 26)), ⟨(.some 28), (.faddr 2 (t_ 3)), (.some (27, .false))⟩, ⟨(.some 29), (.load .none (t_ 28)), (.some (27, .false))⟩, ⟨(.some 30), (.len .false (t_ 29)), (.some (27, .false))⟩, ⟨(.some 31), (.bin .gtr (t_ 30) (.const (.int .i64 40))), (.some (27, .false))⟩, o_ 32 (.pick (t_ 27) (.const (.bool .true)) (t_ 31)), o_ 33 (.mv (t_ 32)), ⟨(.some 34), (.mv (t_ 1)), (.some (33, .false))⟩, ⟨(.some 35), (.len .true (t_ 34)), (.some (33, .false))⟩, ⟨(.some 36), (.bin .gtr (t_ 35) (.const (.int .i64 400))), (.some (33, .false))⟩, o_ 37 (.pick (t_ 33) (.const (.bool .true)) (t_ 36)), o_ 38 (.mv (t_ 37)), ⟨(.some 39), (.load (.some 3) (t_ 3)), (.some (38, .false))⟩, ⟨(.some 40), (.call (.func 37) [(t_ 39)]), (.some (38, .false))⟩, ⟨(.some 41), (.bin .neq (t_ 40) (.const (.int .i64 0))), (.some (38, .false))⟩, o_ 42 (.pick (t_ 38) (.const (.bool .true)) (t_ 41))]
def f9g3 : List RO := [o_ 43 (.mv (t_ 7)), o_ 6 (.mv (t_ 43))]
def f9g4 : List RO := [o_ 45 (.load (.some 3) (t_ 3)), o_ 46 (.call (.func 38) [(t_ 45)]), o_ 44 (.mv (t_ 46)), o_ 47 (.ext (t_ 44) 0), o_ 48 (.ext (t_ 44) 1), o_ 8 (.newR ((Arr.zero 16).l.map (aI .u8))), n_ (.store 16 (t_ 8) (t_ 47)), o_ 9 (.mv (t_ 48))]
def f9g5 : List RO := [o_ 50 (.load (.some 3) (t_ 3)), o_ 51 (.mv (t_ 1)), o_ 52 (.call (.func 39) [(t_ 50), (t_ 51)]), o_ 49 (.mv (t_ 52)), o_ 53 (.ext (t_ 49) 0), o_ 54 (.ext (t_ 49) 1), o_ 10 (.new ([(.D (.I .i64 0)), (.D (.I .i64 0))] ++ (((Arr.zero 16).l.map (aI .u8)) ++ [(.fl [])]))), n_ (.store 19 (t_ 10) (t_ 53)), o_ 11 (.mv (t_ 54))]
def f9g6 : List RO := [o_ 56 (.load (.some 3) (t_ 3)), o_ 57 (.mv (t_ 1)), o_ 58 (.call (.func 40) [(t_ 56), (t_ 57)]), o_ 55 (.mv (t_ 58)), o_ 59 (.ext (t_ 55) 0), o_ 60 (.ext (t_ 55) 1), o_ 12 (.new ([(.D (.I .i64 0)), (.D (.I .i64 0))] ++ (((Arr.zero 16).l.map (aI .u8)) ++ [(.D (.S [])), (.D (.S [])), (.fl []), (.fl [])]))), n_ (.store 22 (t_ 12) (t_ 59)), o_ 13 (.mv (t_ 60))]
def f9g7 : List RO := [o_ 61 (.faddr 2 (t_ 3)), o_ 62 (.load .none (t_ 61)), o_ 63 (.mv (t_ 1)), o_ 64 (.call (.func 41) [(t_ 62), (t_ 63)]), o_ 14 (.mv (t_ 64))]
def f9g8 : List RO := [o_ 65 (.mv (t_ 9)), o_ 66 (.bin .neq (t_ 65) (.const (.int .i64 0)))]
def f9g9 : List RO := [o_ 6 (.mv (.const (.bool .false)))]
def f9g10 : List RO := [o_ 68 (.mv (t_ 1)), o_ 69 (.call (.func 42) [(t_ 68)]), o_ 67 (.mv (t_ 69)), o_ 70 (.ext (t_ 67) 0), o_ 71 (.ext (t_ 67) 1), o_ 72 (.ext (t_ 67) 2), o_ 15 (.mv (t_ 70)), o_ 16 (.mv (t_ 71)), o_ 17 (.mv (t_ 72))]
def f9g11 : List RO := [o_ 73 (.mv (t_ 17)), o_ 74 (.bin .neq (t_ 73) (.const (.int .i64 0))), o_ 75 (.mv (t_ 74)), ⟨(.some 76), (.mv (t_ 15)), (.some (75, .false))⟩, ⟨(.some 77), (.faddr 0 (t_ 3)), (.some (75, .false))⟩, ⟨(.some 78), (.load .none (t_ 77)), (.some (75, .false))⟩, ⟨(.some 79), (.bin .neq (t_ 76) (t_ 78)), (.some (75, .false))⟩, o_ 80 (.pick (t_ 75) (.const (.bool .true)) (t_ 79)), o_ 81 (.mv (t_ 80)), ⟨(.some 82), (.mv (t_ 16)), (.some (81, .false))⟩, ⟨(.some 83), (.faddr 1 (t_ 3)), (.some (81, .false))⟩, ⟨(.some 84), (.load .none (t_ 83)), (.some (81, .false))⟩, ⟨(.some 85), (.bin .neq (t_ 82) (t_ 84)), (.some (81, .false))⟩, o_ 86 (.pick (t_ 81) (.const (.bool .true)) (t_ 85))]
def f9g12 : List RO := [o_ 87 (.mv (t_ 14)), o_ 88 (.un .not (t_ 87)), o_ 89 (.mv (t_ 88)), ⟨(.some 90), (.mv (t_ 11)), (.some (89, .true))⟩, ⟨(.some 91), (.bin .eql (t_ 90) (.const (.int .i64 8))), (.some (89, .true))⟩, o_ 92 (.pick (t_ 89) (t_ 91) (.const (.bool .false))), o_ 93 (.mv (t_ 92)), ⟨(.some 94), (.mv (t_ 13)), (.some (93, .true))⟩, ⟨(.some 95), (.bin .eql (t_ 94) (.const (.int .i64 1))), (.some (93, .true))⟩, o_ 96 (.pick (t_ 93) (t_ 95) (.const (.bool .false))), o_ 6 (.mv (t_ 96))]
def f9g13 : List RO := [o_ 97 (.load (.some 16) (t_ 8)), o_ 18 (.newR ((Arr.zero 16).l.map (aI .u8))), n_ (.store 16 (t_ 18) (t_ 97))]
def f9g14 : List RO := [o_ 98 (.mv (t_ 2)), o_ 99 (.bin .quo (t_ 98) (.const (.int .u8 8))), o_ 100 (.bin .rem (t_ 99) (.const (.int .u8 16))), o_ 101 (.iaddrA 16 1 (t_ 18) (t_ 100)), o_ 102 (.load .none (t_ 101)), o_ 103 (.mv (t_ 2)), o_ 104 (.bin .rem (t_ 103) (.const (.int .u8 8))), o_ 105 (.bin .shl (.const (.int .u8 1)) (t_ 104)), o_ 106 (.bin .xor (t_ 102) (t_ 105)), o_ 107 (.iaddrA 16 1 (t_ 18) (t_ 100)), n_ (.store 1 (t_ 107) (t_ 106))]
def f9g15 : List RO := [o_ 108 (.mv (t_ 14))]
def f9g16 : List RO := [o_ 109 (.mv (t_ 11)), o_ 110 (.bin .eql (t_ 109) (.const (.int .i64 0))), o_ 111 (.mv (t_ 110)), ⟨(.some 112), (.mv (t_ 13)), (.some (111, .true))⟩, ⟨(.some 113), (.bin .eql (t_ 112) (.const (.int .i64 9))), (.some (111, .true))⟩, o_ 114 (.pick (t_ 111) (t_ 113) (.const (.bool .false))), o_ 115 (.mv (t_ 114)), ⟨(.some 116), (.load (.some 16) (t_ 8)), (.some (115, .true))⟩, ⟨(.some 117), (.faddr 0 (t_ 3)), (.some (115, .true))⟩, ⟨(.some 118), (.load .none (t_ 117)), (.some (115, .true))⟩, ⟨(.some 119), (.faddr 1 (t_ 3)), (.some (115, .true))⟩, ⟨(.some 120), (.load .none (t_ 119)), (.some (115, .true))⟩, ⟨(.some 121), (.mv (t_ 1)), (.some (115, .true))⟩, ⟨(.some 122), (.load (.some 19) (t_ 10)), (.some (115, .true))⟩, ⟨(.some 123), (.call (.func 43) [(t_ 116), (t_ 118), (t_ 120), (t_ 121), (t_ 122)]), (.some (115, .true))⟩, o_ 124 (.pick (t_ 115) (t_ 123) (.const (.bool .false))), o_ 125 (.mv (t_ 124)), ⟨(.some 126), (.load (.some 16) (t_ 18)), (.some (125, .true))⟩, ⟨(.some 127), (.faddr 0 (t_ 3)), (.some (125, .true))⟩, ⟨(.some 128), (.load .none (t_ 127)), (.some (125, .true))⟩, ⟨(.some 129), (.faddr 1 (t_ 3)), (.some (125, .true))⟩, ⟨(.some 130), (.load .none (t_ 129)), (.some (125, .true))⟩, ⟨(.some 131), (.mv (t_ 1)), (.some (125, .true))⟩, ⟨(.some 132), (.load (.some 19) (t_ 10)), (.some (125, .true))⟩, ⟨(.some 133), (.call (.func 43) [(t_ 126), (t_ 128), (t_ 130), (t_ 131), (t_ 132)]), (.some (125, .true))⟩, ⟨(.some 134), (.un .not (t_ 133)), (.some (125, .true))⟩, o_ 135 (.pick (t_ 125) (t_ 134) (.const (.bool .false))), o_ 136 (.mv (t_ 135)), ⟨(.some 137), (.load (.some 16) (t_ 8)), (.some (136, .true))⟩, ⟨(.some 138), (.faddr 0 (t_ 3)), (.some (136, .true))⟩, ⟨(.some 139), (.load .none (t_ 138)), (.some (136, .true))⟩, ⟨(.some 140), (.faddr 1 (t_ 3)), (.some (136, .true))⟩, ⟨(.some 141), (.load .none (t_ 140)), (.some (136, .true))⟩, ⟨(.some 142), (.bin .add (t_ 141) (.const (.int .i64 1))), (.some (136, .true))⟩, ⟨(.some 143), (.mv (t_ 1)), (.some (136, .true))⟩, ⟨(.some 144), (.load (.some 19) (t_ 10)), (.some (136, .true))⟩, ⟨(.some 145), (.call (.func 43) [(t_ 137), (t_ 139), (t_ 142), (t_ 143), (t_ 144)]), (.some (136, .true))⟩, ⟨(.some 146), (.un .not (t_ 145)), (.some (136, .true))⟩, o_ 147 (.pick (t_ 136) (t_ 146) (.const (.bool .false))), o_ 6 (.mv (t_ 147))]
def f9g17 : List RO := [o_ 148 (.mv (t_ 11)), o_ 149 (.bin .eql (t_ 148) (.const (.int .i64 8))), o_ 150 (.mv (t_ 149)), ⟨(.some 151), (.mv (t_ 13)), (.some (150, .true))⟩, ⟨(.some 152), (.bin .eql (t_ 151) (.const (.int .i64 0))), (.some (150, .true))⟩, o_ 153 (.pick (t_ 150) (t_ 152) (.const (.bool .false))), o_ 154 (.mv (t_ 153)), ⟨(.some 155), (.load (.some 16) (t_ 8)), (.some (154, .true))⟩, ⟨(.some 156), (.faddr 0 (t_ 3)), (.some (154, .true))⟩, ⟨(.some 157), (.load .none (t_ 156)), (.some (154, .true))⟩, ⟨(.some 158), (.faddr 1 (t_ 3)), (.some (154, .true))⟩, ⟨(.some 159), (.load .none (t_ 158)), (.some (154, .true))⟩, ⟨(.some 160), (.mv (t_ 1)), (.some (154, .true))⟩, ⟨(.some 161), (.load (.some 22) (t_ 12)), (.some (154, .true))⟩, ⟨(.some 162), (.call (.func 44) [(t_ 155), (t_ 157), (t_ 159), (t_ 160), (t_ 161)]), (.some (154, .true))⟩, o_ 163 (.pick (t_ 154) (t_ 162) (.const (.bool .false))), o_ 164 (.mv (t_ 163)), ⟨(.some 165), (.load (.some 16) (t_ 18)), (.some (164, .true))⟩, ⟨(.some 166), (.faddr 0 (t_ 3)), (.some (164, .true))⟩, ⟨(.some 167), (.load .none (t_ 166)), (.some (164, .true))⟩, ⟨(.some 168), (.faddr 1 (t_ 3)), (.some (164, .true))⟩, ⟨(.some 169), (.load .none (t_ 168)), (.some (164, .true))⟩, ⟨(.some 170), (.mv (t_ 1)), (.some (164, .true))⟩, ⟨(.some 171), (.load (.some 22) (t_ 12)), (.some (164, .true))⟩, ⟨(.some 172), (.call (.func 44) [(t_ 165), (t_ 167), (t_ 169), (t_ 170), (t_ 171)]), (.some (164, .true))⟩, ⟨(.some 173), (.un .not (t_ 172)), (.some (164, .true))⟩, o_ 174 (.pick (t_ 164) (t_ 173) (.const (.bool .false))), o_ 175 (.mv (t_ 174)), ⟨(.some 176), (.load (.some 16) (t_ 8)), (.some (175, .true))⟩, ⟨(.some 177), (.faddr 0 (t_ 3)), (.some (175, .true))⟩, ⟨(.some 178), (.load .none (t_ 177)), (.some (175, .true))⟩, ⟨(.some 179), (.bin .add (t_ 178) (.const (.int .i64 1))), (.some (175, .true))⟩, ⟨(.some 180), (.faddr 1 (t_ 3)), (.some (175, .true))⟩, ⟨(.some 181), (.load .none (t_ 180)), (.some (175, .true))⟩, ⟨(.some 182), (.mv (t_ 1)), (.some (175, .true))⟩, ⟨(.some 183), (.load (.some 22) (t_ 12)), (.some (175, .true))⟩, ⟨(.some 184), (.call (.func 44) [(t_ 176), (t_ 179), (t_ 181), (t_ 182), (t_ 183)]), (.some (175, .true))⟩, ⟨(.some 185), (.un .not (t_ 184)), (.some (175, .true))⟩, o_ 186 (.pick (t_ 175) (t_ 185) (.const (.bool .false))), o_ 6 (.mv (t_ 186))]
def f9c : RCode := (.seq (.reg .false f9g0) (.seq (.reg .false f9g1) (.seq (.seq (.reg .false f9g2) (.cond (t_ 42) (.seq (.reg .false f9g3) .ret) .skip)) (.seq (.reg .false f9g4) (.seq (.reg .false f9g5) (.seq (.reg .false f9g6) (.seq (.reg .false f9g7) (.seq (.seq (.reg .false f9g8) (.cond (t_ 66) (.seq (.reg .false f9g9) .ret) .skip)) (.seq (.reg .false f9g10) (.seq (.seq (.reg .false f9g11) (.cond (t_ 86) (.seq (.reg .false f9g12) .ret) .skip)) (.seq (.reg .false f9g13) (.seq (.reg .false f9g14) (.seq (.seq (.reg .false f9g15) (.cond (t_ 108) (.seq (.reg .false f9g16) .ret) .skip)) (.seq (.reg .false f9g17) .ret))))))))))))))
def f9r : List RRes := [(.tmp 6)]
attribute [push_cast] f9g0 f9g1 f9g2 f9g3 f9g4 f9g5 f9g6 f9g7 f9g8 f9g9 f9g10 f9g11 f9g12 f9g13 f9g14 f9g15 f9g16 f9g17
def F_law23_LeafProofsAreAccepted (N : Nat) (p0 : Folder) (p1 : Str) (p2 : Int) : Option Bool := bd? (F_law23_sanity N ) fun v1 => if? (v1) (bd? (F_ref23_Few N p0 40) fun v2 => if? (v2) (if? (decide ((p0.Items.length : Int) > 40)) (some (v1)) (if? (decide ((p1.length : Int) > 400)) (some (v1)) (bd? (F_leaf_Check N p0) fun v3 => if? ((v3 != 0)) (some (v1)) (bd? (F_leaf_Root N p0) fun v4 => bd? (F_leaf_Prove N p0 p1) fun v5 => bd? (F_leaf_Deny N p0 p1) fun v6 => bd? (F_slices_Contains_string_string N p0.Items p1) fun v7 => if? ((v4.2 != 0)) (some (false)) (bd? (F_leaf_Where N p1) fun v8 => if? ((v8.2.2 != 0)) (if? (v7) (some (false)) (if? ((v5.2 == 8)) (some ((v6.2 == 1))) (some (false)))) (if? ((v8.1 != p0.Gauge)) (if? (v7) (some (false)) (if? ((v5.2 == 8)) (some ((v6.2 == 1))) (some (false)))) (if? ((v8.2.1 != p0.Year)) (if? (v7) (some (false)) (if? ((v5.2 == 8)) (some ((v6.2 == 1))) (some (false)))) (gd? (0 ≤ (Int.tmod (IntKind.wrap .u8 (Int.tdiv p2 8)) 16)) (gd? ((Int.tmod (IntKind.wrap .u8 (Int.tdiv p2 8)) 16) < 16) (get? v4.1.l ((Int.tmod (IntKind.wrap .u8 (Int.tdiv p2 8)) 16)) fun x9 => gd? (0 ≤ (Int.tmod p2 8)) (gd? ((Int.tmod p2 8) ≤ (IntKind.bits .u8 : Int)) (if? (v7) (if? ((v5.2 == 0)) (if? ((v6.2 == 9)) (bd? (F_leaf_Accept N v4.1 p0.Gauge p0.Year p1 v5.1) fun v10 => if? (v10) (bd? (F_leaf_Accept N (v4.1.set (Int.tmod (IntKind.wrap .u8 (Int.tdiv p2 8)) 16).toNat (bits .xor .u8 x9 (IntKind.wrap .u8 (1 * 2 ^ (Int.tmod p2 8).toNat)))) p0.Gauge p0.Year p1 v5.1) fun v11 => if? (v11) (some (false)) (ck .i64 (p0.Year + 1) (bd? (F_leaf_Accept N v4.1 p0.Gauge (p0.Year + 1) p1 v5.1) fun v12 => some (!(v12))))) (some (false))) (some (false))) (some (false))) (if? ((v5.2 == 8)) (if? ((v6.2 == 0)) (bd? (F_leaf_Denied N v4.1 p0.Gauge p0.Year p1 v6.1) fun v13 => if? (v13) (bd? (F_leaf_Denied N (v4.1.set (Int.tmod (IntKind.wrap .u8 (Int.tdiv p2 8)) 16).toNat (bits .xor .u8 x9 (IntKind.wrap .u8 (1 * 2 ^ (Int.tmod p2 8).toNat)))) p0.Gauge p0.Year p1 v6.1) fun v14 => if? (v14) (some (false)) (ck .i64 (p0.Gauge + 1) (bd? (F_leaf_Denied N v4.1 (p0.Gauge + 1) p0.Year p1 v6.1) fun v15 => some (!(v15))))) (some (false))) (some (false))) (some (false))))))))))))))) (some (v1))) (some (v1))
theorem c_law23_LeafProofsAreAccepted (N : Nat) (p0 : Folder) (p1 : Str) (p2 : Int) (r : Bool) (h : F_law23_LeafProofsAreAccepted N p0 p1 p2 = some r) : ACall Tryd.prog 9 [.agg [.D (.I .i64 p0.Gauge), .D (.I .i64 p0.Year), .D (.L (p0.Items.map rS))], .D (.S p1), .D (.I .u8 p2)] [] (.D (.B r)) [] [] := by
 refine ACall.of_bodyW [] (fn := Tryd.f9) (rc := f9c) (rs := f9r) Tryd.func9 rfl rfl (by kernel_rfl) (by kernel_rfl) (by kernel_rfl) (by rw [Tryd.ntmps9]; simp) ?_
 unfold F_law23_LeafProofsAreAccepted at h
 unfold f9c f9r
 rw [entry_eq _ _]
 obtain ⟨v1, h1, h⟩ := F_bd h
 simp (disch:=first|assumption|(simp;done)|omega|(simp;omega)) only[push_cast,seval]
 refine call_flat (by rfl) (c_law23_sanity N _ h1) ?_ rfl ?_
 ·simp (disch:=first|assumption|(simp;done)|omega|(simp;omega)) only[push_cast,seval] <;> rfl
 rcases F_if h with ⟨h2, h⟩ | ⟨h2, h⟩
 rotate_left
 ·obtain rfl := Option.some.inj h
  simp (disch:=first|assumption|(simp;done)|omega|(simp;omega)) only[push_cast,seval,h2]
  refine e_ret (.inr rfl) ?_
  simp (disch:=first|assumption|(simp;done)|omega|(simp;omega)) only[push_cast,seval,aret,aresults,aresult,h2]
  refine ⟨_, rfl, ?_⟩
  first | (simp (disch:=first|assumption|(simp;done)|omega|(simp;omega)) only[push_cast,seval,h2] <;> rfl) | rfl
 obtain ⟨v2, h3, h⟩ := F_bd h
 simp (disch:=first|assumption|(simp;done)|omega|(simp;omega)) only[push_cast,seval,h2]
 refine call_flat (by rfl) (c_ref23_Few N _ _ _ h3) ?_ rfl ?_
 ·simp (disch:=first|assumption|(simp;done)|omega|(simp;omega)) only[push_cast,seval,h2] <;> rfl
 rcases F_if h with ⟨h4, h⟩ | ⟨h4, h⟩
 rotate_left
 ·obtain rfl := Option.some.inj h
  simp (disch:=first|assumption|(simp;done)|omega|(simp;omega)) only[push_cast,seval,h2,h4]
  refine e_ret (.inr rfl) ?_
  simp (disch:=first|assumption|(simp;done)|omega|(simp;omega)) only[push_cast,seval,aret,aresults,aresult,h2,h4]
  refine ⟨_, rfl, ?_⟩
  first | (simp (disch:=first|assumption|(simp;done)|omega|(simp;omega)) only[push_cast,seval,h2,h4] <;> rfl) | rfl
 rcases F_if h with ⟨h5, h⟩ | ⟨h5, h⟩
 ·obtain rfl := Option.some.inj h
  simp (disch:=first|assumption|(simp;done)|omega|(simp;omega)) only[push_cast,seval,h2,h4,h5]
  refine e_ret (.inr rfl) ?_
  simp (disch:=first|assumption|(simp;done)|omega|(simp;omega)) only[push_cast,seval,aret,aresults,aresult,h2,h4,h5]
  refine ⟨_, rfl, ?_⟩
  first | (simp (disch:=first|assumption|(simp;done)|omega|(simp;omega)) only[push_cast,seval,h2,h4,h5] <;> rfl) | rfl
 rcases F_if h with ⟨h6, h⟩ | ⟨h6, h⟩
 ·obtain rfl := Option.some.inj h
  simp (disch:=first|assumption|(simp;done)|omega|(simp;omega)) only[push_cast,seval,h2,h4,h5,h6]
  refine e_ret (.inr rfl) ?_
  simp (disch:=first|assumption|(simp;done)|omega|(simp;omega)) only[push_cast,seval,aret,aresults,aresult,h2,h4,h5,h6]
  refine ⟨_, rfl, ?_⟩
  first | (simp (disch:=first|assumption|(simp;done)|omega|(simp;omega)) only[push_cast,seval,h2,h4,h5,h6] <;> rfl) | rfl
 obtain ⟨v3, h7, h⟩ := F_bd h
 simp (disch:=first|assumption|(simp;done)|omega|(simp;omega)) only[push_cast,seval,h2,h4,h5,h6]
 refine call_flat (by rfl) (c_leaf_Check N _ _ h7) ?_ rfl ?_
 ·simp (disch:=first|assumption|(simp;done)|omega|(simp;omega)) only[push_cast,seval,h2,h4,h5,h6] <;> rfl
 rcases F_if h with ⟨h8, h⟩ | ⟨h8, h⟩
 ·obtain rfl := Option.some.inj h
  simp (disch:=first|assumption|(simp;done)|omega|(simp;omega)) only[push_cast,seval,h2,h4,h5,h6,h8]
  refine e_ret (.inr rfl) ?_
  simp (disch:=first|assumption|(simp;done)|omega|(simp;omega)) only[push_cast,seval,aret,aresults,aresult,h2,h4,h5,h6,h8]
  refine ⟨_, rfl, ?_⟩
  first | (simp (disch:=first|assumption|(simp;done)|omega|(simp;omega)) only[push_cast,seval,h2,h4,h5,h6,h8] <;> rfl) | rfl
 obtain ⟨v4, h9, h⟩ := F_bd h
 simp (disch:=first|assumption|(simp;done)|omega|(simp;omega)) only[push_cast,seval,h2,h4,h5,h6,h8]
 refine call_flat (by rfl) (c_leaf_Root N _ _ h9) ?_ (by simp [AV.flat, AV.flatL, flatL_aI, flatL_app, DV.flat]) ?_
 ·simp (disch:=first|assumption|(simp;done)|omega|(simp;omega)) only[push_cast,seval,h2,h4,h5,h6,h8] <;> rfl
 obtain ⟨v5, h10, h⟩ := F_bd h
 simp (disch:=first|assumption|(simp;done)|omega|(simp;omega)) only[push_cast,seval,h2,h4,h5,h6,h8]
 refine call_new (by rfl) (c_leaf_Prove N _ _ _ h10) ?_ (by simp [AV.flat, AV.flatL, flatL_aI, flatL_app, DV.flat]) ?_
 ·simp (disch:=first|assumption|(simp;done)|omega|(simp;omega)) only[push_cast,seval,h2,h4,h5,h6,h8] <;> rfl
 obtain ⟨v6, h11, h⟩ := F_bd h
 simp (disch:=first|assumption|(simp;done)|omega|(simp;omega)) only[push_cast,seval,h2,h4,h5,h6,h8]
 refine call_new (by rfl) (c_leaf_Deny N _ _ _ h11) ?_ (by simp [AV.flat, AV.flatL, flatL_aI, flatL_app, DV.flat]) ?_
 ·simp (disch:=first|assumption|(simp;done)|omega|(simp;omega)) only[push_cast,seval,h2,h4,h5,h6,h8] <;> rfl
 obtain ⟨v7, h12, h⟩ := F_bd h
 simp (disch:=first|assumption|(simp;done)|omega|(simp;omega)) only[push_cast,seval,h2,h4,h5,h6,h8]
 refine call_flat (by rfl) (c_slices_Contains_string_string N _ _ _ h12) ?_ rfl ?_
 ·simp (disch:=first|assumption|(simp;done)|omega|(simp;omega)) only[push_cast,seval,h2,h4,h5,h6,h8] <;> rfl
 rcases F_if h with ⟨h13, h⟩ | ⟨h13, h⟩
 ·obtain rfl := Option.some.inj h
  simp (disch:=first|assumption|(simp;done)|omega|(simp;omega)) only[push_cast,seval,h2,h4,h5,h6,h8,h13]
  refine e_ret (.inr rfl) ?_
  simp (disch:=first|assumption|(simp;done)|omega|(simp;omega)) only[push_cast,seval,aret,aresults,aresult,h2,h4,h5,h6,h8,h13]
  refine ⟨_, rfl, ?_⟩
  first | (simp (disch:=first|assumption|(simp;done)|omega|(simp;omega)) only[push_cast,seval,h2,h4,h5,h6,h8,h13] <;> rfl) | rfl
 obtain ⟨v8, h14, h⟩ := F_bd h
 simp (disch:=first|assumption|(simp;done)|omega|(simp;omega)) only[push_cast,seval,h2,h4,h5,h6,h8,h13]
 refine call_flat (by rfl) (c_leaf_Where N _ _ h14) ?_ rfl ?_
 ·simp (disch:=first|assumption|(simp;done)|omega|(simp;omega)) only[push_cast,seval,h2,h4,h5,h6,h8,h13] <;> rfl
 rcases F_if h with ⟨h15, h⟩ | ⟨h15, h⟩
 ·rcases F_if h with ⟨h16, h⟩ | ⟨h16, h⟩
  ·obtain rfl := Option.some.inj h
   simp (disch:=first|assumption|(simp;done)|omega|(simp;omega)) only[push_cast,seval,h2,h4,h5,h6,h8,h13,h15,h16]
   refine e_ret (.inr rfl) ?_
   simp (disch:=first|assumption|(simp;done)|omega|(simp;omega)) only[push_cast,seval,aret,aresults,aresult,h2,h4,h5,h6,h8,h13,h15,h16]
   refine ⟨_, rfl, ?_⟩
   first | (simp (disch:=first|assumption|(simp;done)|omega|(simp;omega)) only[push_cast,seval,h2,h4,h5,h6,h8,h13,h15,h16] <;> rfl) | rfl
  rcases F_if h with ⟨h17, h⟩ | ⟨h17, h⟩
  ·obtain rfl := Option.some.inj h
   simp (disch:=first|assumption|(simp;done)|omega|(simp;omega)) only[push_cast,seval,h2,h4,h5,h6,h8,h13,h15,h16,h17]
   refine e_ret (.inr rfl) ?_
   simp (disch:=first|assumption|(simp;done)|omega|(simp;omega)) only[push_cast,seval,aret,aresults,aresult,h2,h4,h5,h6,h8,h13,h15,h16,h17]
   refine ⟨_, rfl, ?_⟩
   first | (simp (disch:=first|assumption|(simp;done)|omega|(simp;omega)) only[push_cast,seval,h2,h4,h5,h6,h8,h13,h15,h16,h17] <;> rfl) | rfl
  obtain rfl := Option.some.inj h
  simp (disch:=first|assumption|(simp;done)|omega|(simp;omega)) only[push_cast,seval,h2,h4,h5,h6,h8,h13,h15,h16,h17]
  refine e_ret (.inr rfl) ?_
  simp (disch:=first|assumption|(simp;done)|omega|(simp;omega)) only[push_cast,seval,aret,aresults,aresult,h2,h4,h5,h6,h8,h13,h15,h16,h17]
  refine ⟨_, rfl, ?_⟩
  first | (simp (disch:=first|assumption|(simp;done)|omega|(simp;omega)) only[push_cast,seval,h2,h4,h5,h6,h8,h13,h15,h16,h17] <;> rfl) | rfl
 rcases F_if h with ⟨h18, h⟩ | ⟨h18, h⟩
 ·rcases F_if h with ⟨h19, h⟩ | ⟨h19, h⟩
  ·obtain rfl := Option.some.inj h
   simp (disch:=first|assumption|(simp;done)|omega|(simp;omega)) only[push_cast,seval,h2,h4,h5,h6,h8,h13,h15,h18,h19]
   refine e_ret (.inr rfl) ?_
   simp (disch:=first|assumption|(simp;done)|omega|(simp;omega)) only[push_cast,seval,aret,aresults,aresult,h2,h4,h5,h6,h8,h13,h15,h18,h19]
   refine ⟨_, rfl, ?_⟩
   first | (simp (disch:=first|assumption|(simp;done)|omega|(simp;omega)) only[push_cast,seval,h2,h4,h5,h6,h8,h13,h15,h18,h19] <;> rfl) | rfl
  rcases F_if h with ⟨h20, h⟩ | ⟨h20, h⟩
  ·obtain rfl := Option.some.inj h
   simp (disch:=first|assumption|(simp;done)|omega|(simp;omega)) only[push_cast,seval,h2,h4,h5,h6,h8,h13,h15,h18,h19,h20]
   refine e_ret (.inr rfl) ?_
   simp (disch:=first|assumption|(simp;done)|omega|(simp;omega)) only[push_cast,seval,aret,aresults,aresult,h2,h4,h5,h6,h8,h13,h15,h18,h19,h20]
   refine ⟨_, rfl, ?_⟩
   first | (simp (disch:=first|assumption|(simp;done)|omega|(simp;omega)) only[push_cast,seval,h2,h4,h5,h6,h8,h13,h15,h18,h19,h20] <;> rfl) | rfl
  obtain rfl := Option.some.inj h
  simp (disch:=first|assumption|(simp;done)|omega|(simp;omega)) only[push_cast,seval,h2,h4,h5,h6,h8,h13,h15,h18,h19,h20]
  refine e_ret (.inr rfl) ?_
  simp (disch:=first|assumption|(simp;done)|omega|(simp;omega)) only[push_cast,seval,aret,aresults,aresult,h2,h4,h5,h6,h8,h13,h15,h18,h19,h20]
  refine ⟨_, rfl, ?_⟩
  first | (simp (disch:=first|assumption|(simp;done)|omega|(simp;omega)) only[push_cast,seval,h2,h4,h5,h6,h8,h13,h15,h18,h19,h20] <;> rfl) | rfl
 rcases F_if h with ⟨h21, h⟩ | ⟨h21, h⟩
 ·rcases F_if h with ⟨h22, h⟩ | ⟨h22, h⟩
  ·obtain rfl := Option.some.inj h
   simp (disch:=first|assumption|(simp;done)|omega|(simp;omega)) only[push_cast,seval,h2,h4,h5,h6,h8,h13,h15,h18,h21,h22]
   refine e_ret (.inr rfl) ?_
   simp (disch:=first|assumption|(simp;done)|omega|(simp;omega)) only[push_cast,seval,aret,aresults,aresult,h2,h4,h5,h6,h8,h13,h15,h18,h21,h22]
   refine ⟨_, rfl, ?_⟩
   first | (simp (disch:=first|assumption|(simp;done)|omega|(simp;omega)) only[push_cast,seval,h2,h4,h5,h6,h8,h13,h15,h18,h21,h22] <;> rfl) | rfl
  rcases F_if h with ⟨h23, h⟩ | ⟨h23, h⟩
  ·obtain rfl := Option.some.inj h
   simp (disch:=first|assumption|(simp;done)|omega|(simp;omega)) only[push_cast,seval,h2,h4,h5,h6,h8,h13,h15,h18,h21,h22,h23]
   refine e_ret (.inr rfl) ?_
   simp (disch:=first|assumption|(simp;done)|omega|(simp;omega)) only[push_cast,seval,aret,aresults,aresult,h2,h4,h5,h6,h8,h13,h15,h18,h21,h22,h23]
   refine ⟨_, rfl, ?_⟩
   first | (simp (disch:=first|assumption|(simp;done)|omega|(simp;omega)) only[push_cast,seval,h2,h4,h5,h6,h8,h13,h15,h18,h21,h22,h23] <;> rfl) | rfl
  obtain rfl := Option.some.inj h
  simp (disch:=first|assumption|(simp;done)|omega|(simp;omega)) only[push_cast,seval,h2,h4,h5,h6,h8,h13,h15,h18,h21,h22,h23]
  refine e_ret (.inr rfl) ?_
  simp (disch:=first|assumption|(simp;done)|omega|(simp;omega)) only[push_cast,seval,aret,aresults,aresult,h2,h4,h5,h6,h8,h13,h15,h18,h21,h22,h23]
  refine ⟨_, rfl, ?_⟩
  first | (simp (disch:=first|assumption|(simp;done)|omega|(simp;omega)) only[push_cast,seval,h2,h4,h5,h6,h8,h13,h15,h18,h21,h22,h23] <;> rfl) | rfl
 obtain ⟨h24, h⟩ := F_gd h
 try simp (disch:=first|assumption|(simp;done)|omega|(simp;omega)) only[push_cast,seval] at h24
 obtain ⟨h25, h⟩ := F_gd h
 try simp (disch:=first|assumption|(simp;done)|omega|(simp;omega)) only[push_cast,seval] at h25
 obtain ⟨x9, h26, h27, h⟩ := F_get h
 have h28 := get_lt h26 h27
 have h29 := map_getG (rI .u8) h27
 try simp (disch:=first|assumption|(simp;done)|omega|(simp;omega)) only[push_cast,seval] at h29 h26 h28
 obtain ⟨h30, h⟩ := F_gd h
 try simp (disch:=first|assumption|(simp;done)|omega|(simp;omega)) only[push_cast,seval] at h30
 obtain ⟨h31, h⟩ := F_gd h
 try simp (disch:=first|assumption|(simp;done)|omega|(simp;omega)) only[push_cast,seval] at h31
 have h32 := arr_get (rI .u8) v4.1 (i := (Int.tmod (IntKind.wrap .u8 (Int.tdiv p2 8)) 16).toNat) (by omega)
 try simp (disch:=first|assumption|(simp;done)|omega|(simp;omega)) only[push_cast,seval] at h32
 rcases F_if h with ⟨h33, h⟩ | ⟨h33, h⟩
 ·rcases F_if h with ⟨h34, h⟩ | ⟨h34, h⟩
  rotate_left
  ·obtain rfl := Option.some.inj h
   simp (disch:=first|assumption|(simp;done)|omega|(simp;omega)) only[push_cast,seval,h2,h4,h5,h6,h8,h13,h15,h18,h21,h24,h25,h26,h29,h28,h30,h31,h32,h33,h34]
   refine e_ret (.inr rfl) ?_
   simp (disch:=first|assumption|(simp;done)|omega|(simp;omega)) only[push_cast,seval,aret,aresults,aresult,h2,h4,h5,h6,h8,h13,h15,h18,h21,h24,h25,h26,h29,h28,h30,h31,h32,h33,h34]
   refine ⟨_, rfl, ?_⟩
   first | (simp (disch:=first|assumption|(simp;done)|omega|(simp;omega)) only[push_cast,seval,h2,h4,h5,h6,h8,h13,h15,h18,h21,h24,h25,h26,h29,h28,h30,h31,h32,h33,h34] <;> rfl) | rfl
  rcases F_if h with ⟨h35, h⟩ | ⟨h35, h⟩
  rotate_left
  ·obtain rfl := Option.some.inj h
   simp (disch:=first|assumption|(simp;done)|omega|(simp;omega)) only[push_cast,seval,h2,h4,h5,h6,h8,h13,h15,h18,h21,h24,h25,h26,h29,h28,h30,h31,h32,h33,h34,h35]
   refine e_ret (.inr rfl) ?_
   simp (disch:=first|assumption|(simp;done)|omega|(simp;omega)) only[push_cast,seval,aret,aresults,aresult,h2,h4,h5,h6,h8,h13,h15,h18,h21,h24,h25,h26,h29,h28,h30,h31,h32,h33,h34,h35]
   refine ⟨_, rfl, ?_⟩
   first | (simp (disch:=first|assumption|(simp;done)|omega|(simp;omega)) only[push_cast,seval,h2,h4,h5,h6,h8,h13,h15,h18,h21,h24,h25,h26,h29,h28,h30,h31,h32,h33,h34,h35] <;> rfl) | rfl
  obtain ⟨v10, h36, h⟩ := F_bd h
  simp (disch:=first|assumption|(simp;done)|omega|(simp;omega)) only[push_cast,seval,h2,h4,h5,h6,h8,h13,h15,h18,h21,h24,h25,h26,h29,h28,h30,h31,h32,h33,h34,h35]
  refine call_flat (by rfl) (c_leaf_Accept N _ _ _ _ _ _ h36) ?_ rfl ?_
  ·simp (disch:=first|assumption|(simp;done)|omega|(simp;omega)) only[push_cast,seval,h2,h4,h5,h6,h8,h13,h15,h18,h21,h24,h25,h26,h29,h28,h30,h31,h32,h33,h34,h35] <;> rfl
  rcases F_if h with ⟨h37, h⟩ | ⟨h37, h⟩
  rotate_left
  ·obtain rfl := Option.some.inj h
   simp (disch:=first|assumption|(simp;done)|omega|(simp;omega)) only[push_cast,seval,h2,h4,h5,h6,h8,h13,h15,h18,h21,h24,h25,h26,h29,h28,h30,h31,h32,h33,h34,h35,h37]
   refine e_ret (.inr rfl) ?_
   simp (disch:=first|assumption|(simp;done)|omega|(simp;omega)) only[push_cast,seval,aret,aresults,aresult,h2,h4,h5,h6,h8,h13,h15,h18,h21,h24,h25,h26,h29,h28,h30,h31,h32,h33,h34,h35,h37]
   refine ⟨_, rfl, ?_⟩
   first | (simp (disch:=first|assumption|(simp;done)|omega|(simp;omega)) only[push_cast,seval,h2,h4,h5,h6,h8,h13,h15,h18,h21,h24,h25,h26,h29,h28,h30,h31,h32,h33,h34,h35,h37] <;> rfl) | rfl
  obtain ⟨v11, h38, h⟩ := F_bd h
  simp (disch:=first|assumption|(simp;done)|omega|(simp;omega)) only[push_cast,seval,h2,h4,h5,h6,h8,h13,h15,h18,h21,h24,h25,h26,h29,h28,h30,h31,h32,h33,h34,h35,h37]
  refine call_flat (by rfl) (c_leaf_Accept N _ _ _ _ _ _ h38) ?_ rfl ?_
  ·simp (disch:=first|assumption|(simp;done)|omega|(simp;omega)) only[push_cast,seval,h2,h4,h5,h6,h8,h13,h15,h18,h21,h24,h25,h26,h29,h28,h30,h31,h32,h33,h34,h35,h37] <;> rfl
  rcases F_if h with ⟨h39, h⟩ | ⟨h39, h⟩
  ·obtain rfl := Option.some.inj h
   simp (disch:=first|assumption|(simp;done)|omega|(simp;omega)) only[push_cast,seval,h2,h4,h5,h6,h8,h13,h15,h18,h21,h24,h25,h26,h29,h28,h30,h31,h32,h33,h34,h35,h37,h39]
   refine e_ret (.inr rfl) ?_
   simp (disch:=first|assumption|(simp;done)|omega|(simp;omega)) only[push_cast,seval,aret,aresults,aresult,h2,h4,h5,h6,h8,h13,h15,h18,h21,h24,h25,h26,h29,h28,h30,h31,h32,h33,h34,h35,h37,h39]
   refine ⟨_, rfl, ?_⟩
   first | (simp (disch:=first|assumption|(simp;done)|omega|(simp;omega)) only[push_cast,seval,h2,h4,h5,h6,h8,h13,h15,h18,h21,h24,h25,h26,h29,h28,h30,h31,h32,h33,h34,h35,h37,h39] <;> rfl) | rfl
  obtain ⟨h40, h⟩ := F_ck h
  try simp (disch:=first|assumption|(simp;done)|omega|(simp;omega)) only[push_cast,seval] at h40
  obtain ⟨v12, h41, h⟩ := F_bd h
  simp (disch:=first|assumption|(simp;done)|omega|(simp;omega)) only[push_cast,seval,h2,h4,h5,h6,h8,h13,h15,h18,h21,h24,h25,h26,h29,h28,h30,h31,h32,h33,h34,h35,h37,h39,h40]
  refine call_flat (by rfl) (c_leaf_Accept N _ _ _ _ _ _ h41) ?_ rfl ?_
  ·simp (disch:=first|assumption|(simp;done)|omega|(simp;omega)) only[push_cast,seval,h2,h4,h5,h6,h8,h13,h15,h18,h21,h24,h25,h26,h29,h28,h30,h31,h32,h33,h34,h35,h37,h39,h40] <;> rfl
  obtain rfl := Option.some.inj h
  simp (disch:=first|assumption|(simp;done)|omega|(simp;omega)) only[push_cast,seval,h2,h4,h5,h6,h8,h13,h15,h18,h21,h24,h25,h26,h29,h28,h30,h31,h32,h33,h34,h35,h37,h39,h40]
  refine e_ret (.inr rfl) ?_
  simp (disch:=first|assumption|(simp;done)|omega|(simp;omega)) only[push_cast,seval,aret,aresults,aresult,h2,h4,h5,h6,h8,h13,h15,h18,h21,h24,h25,h26,h29,h28,h30,h31,h32,h33,h34,h35,h37,h39,h40]
  refine ⟨_, rfl, ?_⟩
  first | (simp (disch:=first|assumption|(simp;done)|omega|(simp;omega)) only[push_cast,seval,h2,h4,h5,h6,h8,h13,h15,h18,h21,h24,h25,h26,h29,h28,h30,h31,h32,h33,h34,h35,h37,h39,h40] <;> rfl) | rfl
 rcases F_if h with ⟨h42, h⟩ | ⟨h42, h⟩
 rotate_left
 ·obtain rfl := Option.some.inj h
  simp (disch:=first|assumption|(simp;done)|omega|(simp;omega)) only[push_cast,seval,h2,h4,h5,h6,h8,h13,h15,h18,h21,h24,h25,h26,h29,h28,h30,h31,h32,h33,h42]
  refine e_ret (.inr rfl) ?_
  simp (disch:=first|assumption|(simp;done)|omega|(simp;omega)) only[push_cast,seval,aret,aresults,aresult,h2,h4,h5,h6,h8,h13,h15,h18,h21,h24,h25,h26,h29,h28,h30,h31,h32,h33,h42]
  refine ⟨_, rfl, ?_⟩
  first | (simp (disch:=first|assumption|(simp;done)|omega|(simp;omega)) only[push_cast,seval,h2,h4,h5,h6,h8,h13,h15,h18,h21,h24,h25,h26,h29,h28,h30,h31,h32,h33,h42] <;> rfl) | rfl
 rcases F_if h with ⟨h43, h⟩ | ⟨h43, h⟩
 rotate_left
 ·obtain rfl := Option.some.inj h
  simp (disch:=first|assumption|(simp;done)|omega|(simp;omega)) only[push_cast,seval,h2,h4,h5,h6,h8,h13,h15,h18,h21,h24,h25,h26,h29,h28,h30,h31,h32,h33,h42,h43]
  refine e_ret (.inr rfl) ?_
  simp (disch:=first|assumption|(simp;done)|omega|(simp;omega)) only[push_cast,seval,aret,aresults,aresult,h2,h4,h5,h6,h8,h13,h15,h18,h21,h24,h25,h26,h29,h28,h30,h31,h32,h33,h42,h43]
  refine ⟨_, rfl, ?_⟩
  first | (simp (disch:=first|assumption|(simp;done)|omega|(simp;omega)) only[push_cast,seval,h2,h4,h5,h6,h8,h13,h15,h18,h21,h24,h25,h26,h29,h28,h30,h31,h32,h33,h42,h43] <;> rfl) | rfl
 obtain ⟨v13, h44, h⟩ := F_bd h
 simp (disch:=first|assumption|(simp;done)|omega|(simp;omega)) only[push_cast,seval,h2,h4,h5,h6,h8,h13,h15,h18,h21,h24,h25,h26,h29,h28,h30,h31,h32,h33,h42,h43]
 refine call_flat (by rfl) (c_leaf_Denied N _ _ _ _ _ _ h44) ?_ rfl ?_
 ·simp (disch:=first|assumption|(simp;done)|omega|(simp;omega)) only[push_cast,seval,h2,h4,h5,h6,h8,h13,h15,h18,h21,h24,h25,h26,h29,h28,h30,h31,h32,h33,h42,h43] <;> rfl
 rcases F_if h with ⟨h45, h⟩ | ⟨h45, h⟩
 rotate_left
 ·obtain rfl := Option.some.inj h
  simp (disch:=first|assumption|(simp;done)|omega|(simp;omega)) only[push_cast,seval,h2,h4,h5,h6,h8,h13,h15,h18,h21,h24,h25,h26,h29,h28,h30,h31,h32,h33,h42,h43,h45]
  refine e_ret (.inr rfl) ?_
  simp (disch:=first|assumption|(simp;done)|omega|(simp;omega)) only[push_cast,seval,aret,aresults,aresult,h2,h4,h5,h6,h8,h13,h15,h18,h21,h24,h25,h26,h29,h28,h30,h31,h32,h33,h42,h43,h45]
  refine ⟨_, rfl, ?_⟩
  first | (simp (disch:=first|assumption|(simp;done)|omega|(simp;omega)) only[push_cast,seval,h2,h4,h5,h6,h8,h13,h15,h18,h21,h24,h25,h26,h29,h28,h30,h31,h32,h33,h42,h43,h45] <;> rfl) | rfl
 obtain ⟨v14, h46, h⟩ := F_bd h
 simp (disch:=first|assumption|(simp;done)|omega|(simp;omega)) only[push_cast,seval,h2,h4,h5,h6,h8,h13,h15,h18,h21,h24,h25,h26,h29,h28,h30,h31,h32,h33,h42,h43,h45]
 refine call_flat (by rfl) (c_leaf_Denied N _ _ _ _ _ _ h46) ?_ rfl ?_
 ·simp (disch:=first|assumption|(simp;done)|omega|(simp;omega)) only[push_cast,seval,h2,h4,h5,h6,h8,h13,h15,h18,h21,h24,h25,h26,h29,h28,h30,h31,h32,h33,h42,h43,h45] <;> rfl
 rcases F_if h with ⟨h47, h⟩ | ⟨h47, h⟩
 ·obtain rfl := Option.some.inj h
  simp (disch:=first|assumption|(simp;done)|omega|(simp;omega)) only[push_cast,seval,h2,h4,h5,h6,h8,h13,h15,h18,h21,h24,h25,h26,h29,h28,h30,h31,h32,h33,h42,h43,h45,h47]
  refine e_ret (.inr rfl) ?_
  simp (disch:=first|assumption|(simp;done)|omega|(simp;omega)) only[push_cast,seval,aret,aresults,aresult,h2,h4,h5,h6,h8,h13,h15,h18,h21,h24,h25,h26,h29,h28,h30,h31,h32,h33,h42,h43,h45,h47]
  refine ⟨_, rfl, ?_⟩
  first | (simp (disch:=first|assumption|(simp;done)|omega|(simp;omega)) only[push_cast,seval,h2,h4,h5,h6,h8,h13,h15,h18,h21,h24,h25,h26,h29,h28,h30,h31,h32,h33,h42,h43,h45,h47] <;> rfl) | rfl
 obtain ⟨h48, h⟩ := F_ck h
 try simp (disch:=first|assumption|(simp;done)|omega|(simp;omega)) only[push_cast,seval] at h48
 obtain ⟨v15, h49, h⟩ := F_bd h
 simp (disch:=first|assumption|(simp;done)|omega|(simp;omega)) only[push_cast,seval,h2,h4,h5,h6,h8,h13,h15,h18,h21,h24,h25,h26,h29,h28,h30,h31,h32,h33,h42,h43,h45,h47,h48]
 refine call_flat (by rfl) (c_leaf_Denied N _ _ _ _ _ _ h49) ?_ rfl ?_
 ·simp (disch:=first|assumption|(simp;done)|omega|(simp;omega)) only[push_cast,seval,h2,h4,h5,h6,h8,h13,h15,h18,h21,h24,h25,h26,h29,h28,h30,h31,h32,h33,h42,h43,h45,h47,h48] <;> rfl
 obtain rfl := Option.some.inj h
 simp (disch:=first|assumption|(simp;done)|omega|(simp;omega)) only[push_cast,seval,h2,h4,h5,h6,h8,h13,h15,h18,h21,h24,h25,h26,h29,h28,h30,h31,h32,h33,h42,h43,h45,h47,h48]
 refine e_ret (.inr rfl) ?_
 simp (disch:=first|assumption|(simp;done)|omega|(simp;omega)) only[push_cast,seval,aret,aresults,aresult,h2,h4,h5,h6,h8,h13,h15,h18,h21,h24,h25,h26,h29,h28,h30,h31,h32,h33,h42,h43,h45,h47,h48]
 refine ⟨_, rfl, ?_⟩
 first | (simp (disch:=first|assumption|(simp;done)|omega|(simp;omega)) only[push_cast,seval,h2,h4,h5,h6,h8,h13,h15,h18,h21,h24,h25,h26,h29,h28,h30,h31,h32,h33,h42,h43,h45,h47,h48] <;> rfl) | rfl
end Go.Proofs.Tryd
