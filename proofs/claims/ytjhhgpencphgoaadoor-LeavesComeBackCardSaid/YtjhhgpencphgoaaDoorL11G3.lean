/- Printed by a program: what the functions compute, and that they do (part 3). -/
import Derived.Test.YtjhhgpencphgoaaDoorL11G2
set_option linter.unusedSimpArgs false
set_option linter.unusedVariables false
set_option maxRecDepth 8000
set_option maxHeartbeats 1000000
namespace Go.Proofs.Tryd
open Go.Eng Go.RowKit
def f35g0 : List RO := [o_ 0 (.mv (.const (.bool .false)))]
def f35g1 : List RO := [o_ 31 (.call (.func 87) [(.const (.int .i64 5))]), o_ 32 (.call (.func 53) [(t_ 31)]), o_ 1 (.mv (t_ 32))]
def f35g2 : List RO := [o_ 34 (.mv (t_ 1)), o_ 35 (.call (.func 52) [(t_ 34)]), o_ 33 (.mv (t_ 35)), o_ 36 (.ext (t_ 33) 0), o_ 37 (.ext (t_ 33) 1), o_ 2 (.new [(.D (.I .i64 0)), (.D (.I .i64 0)), (.D (.I .i64 0)), (.D (.I .i64 0)), (.D (.I .i64 0)), (.D (.I .i64 0))]), n_ (.store 6 (t_ 2) (t_ 36)), o_ 3 (.mv (t_ 37))]
def f35g3 : List RO := [o_ 39 (.mv (t_ 1)), o_ 40 (.bin .add (t_ 39) (.const (.string ⟨#[0]⟩))), o_ 41 (.call (.func 52) [(t_ 40)]), o_ 38 (.mv (t_ 41)), o_ 42 (.ext (t_ 38) 0), o_ 43 (.ext (t_ 38) 1), o_ 4 (.new [(.D (.I .i64 0)), (.D (.I .i64 0)), (.D (.I .i64 0)), (.D (.I .i64 0)), (.D (.I .i64 0)), (.D (.I .i64 0))]), n_ (.store 6 (t_ 4) (t_ 42)), o_ 5 (.mv (t_ 43))]
def f35g4 : List RO := [o_ 45 (.mv (t_ 1)), o_ 46 (.call (.func 56) [(t_ 45)]), o_ 44 (.mv (t_ 46)), o_ 47 (.ext (t_ 44) 0), o_ 48 (.ext (t_ 44) 1), o_ 6 (.new [(.D (.I .i64 0)), (.D (.I .i64 0)), (.D (.I .i64 0)), (.D (.I .i64 0)), (.D (.I .i64 0)), (.fl [])]), n_ (.store 6 (t_ 6) (t_ 47)), o_ 7 (.mv (t_ 48))]
def f35g5 : List RO := [o_ 49 (.call (.func 87) [(.const (.int .i64 5))]), o_ 8 (.new [(.D (.I .i64 0)), (.D (.I .i64 0)), (.D (.I .i64 0)), (.D (.I .i64 0)), (.D (.I .i64 0)), (.D (.I .i64 0))]), n_ (.store 6 (t_ 8) (t_ 49))]
def f35g6 : List RO := [o_ 50 (.faddr 2 (t_ 8)), n_ (.store 1 (t_ 50) (.const (.int .i64 40000)))]
def f35g7 : List RO := [o_ 52 (.mv (t_ 1)), o_ 53 (.call (.func 42) [(t_ 52)]), o_ 51 (.mv (t_ 53)), o_ 54 (.ext (t_ 51) 0), o_ 55 (.ext (t_ 51) 1), o_ 56 (.ext (t_ 51) 2), o_ 9 (.mv (t_ 54)), o_ 10 (.mv (t_ 55)), o_ 11 (.mv (t_ 56))]
def f35g8 : List RO := [o_ 58 (.load (.some 6) (t_ 8)), o_ 59 (.call (.func 53) [(t_ 58)]), o_ 60 (.call (.func 42) [(t_ 59)]), o_ 57 (.mv (t_ 60)), o_ 61 (.ext (t_ 57) 0), o_ 62 (.ext (t_ 57) 1), o_ 63 (.ext (t_ 57) 2), o_ 12 (.mv (t_ 61)), o_ 13 (.mv (t_ 62)), o_ 14 (.mv (t_ 63))]
def f35g9 : List RO := [o_ 64 (.mv (t_ 1)), o_ 65 (.bin .neq (t_ 64) (.const (.string ⟨#[14, 2, 6, 10, 20, 28, 14, 4]⟩))), o_ 66 (.mv (t_ 65)), ⟨(.some 67), (.mv (t_ 3)), (.some (66, .false))⟩, ⟨(.some 68), (.bin .neq (t_ 67) (.const (.int .i64 0))), (.some (66, .false))⟩, o_ 69 (.pick (t_ 66) (.const (.bool .true)) (t_ 68)), o_ 70 (.mv (t_ 69)), ⟨(.some 71), (.load (.some 6) (t_ 2)), (.some (70, .false))⟩, ⟨(.some 72), (.call (.func 87) [(.const (.int .i64 5))]), (.some (70, .false))⟩, ⟨(.some 73), (.eqs .true [1, 1, 1, 1, 1, 1] (t_ 71) (t_ 72)), (.some (70, .false))⟩, o_ 74 (.pick (t_ 70) (.const (.bool .true)) (t_ 73)), o_ 75 (.mv (t_ 74)), ⟨(.some 76), (.mv (t_ 5)), (.some (75, .false))⟩, ⟨(.some 77), (.bin .neq (t_ 76) (.const (.int .i64 11))), (.some (75, .false))⟩, o_ 78 (.pick (t_ 75) (.const (.bool .true)) (t_ 77)), o_ 79 (.mv (t_ 78)), ⟨(.some 80), (.mv (t_ 7)), (.some (79, .false))⟩, ⟨(.some 81), (.bin .neq (t_ 80) (.const (.int .i64 11))), (.some (79, .false))⟩, o_ 82 (.pick (t_ 79) (.const (.bool .true)) (t_ 81)), o_ 83 (.mv (t_ 82)), ⟨(.some 84), (.mv (t_ 11)), (.some (83, .false))⟩, ⟨(.some 85), (.bin .neq (t_ 84) (.const (.int .i64 0))), (.some (83, .false))⟩, o_ 86 (.pick (t_ 83) (.const (.bool .true)) (t_ 85)), o_ 87 (.mv (t_ 86)), ⟨(.some 88), (.mv (t_ 14)), (.some (87, .false))⟩, ⟨(.some 89), (.bin .neq (t_ 88) (.const (.int .i64 0))), (.some (87, .false))⟩, o_ 90 (.pick (t_ 87) (.const (.bool .true)) (t_ 89)), o_ 91 (.mv (t_ 90)), ⟨(.some 92), (.mv (t_ 9)), (.some (91, .false))⟩, ⟨(.some 93), (.bin .neq (t_ 92) (.const (.int .i64 3))), (.some (91, .false))⟩, o_ 94 (.pick (t_ 91) (.const (.bool .true)) (t_ 93)), o_ 95 (.mv (t_ 94)), ⟨(.some 96), (.mv (t_ 10)), (.some (95, .false))⟩, ⟨(.some 97), (.bin .neq (t_ 96) (.const (.int .i64 2000))), (.some (95, .false))⟩, o_ 98 (.pick (t_ 95) (.const (.bool .true)) (t_ 97)), o_ 99 (.mv (t_ 98)), ⟨(.some 100), (.mv (t_ 12)), (.some (99, .false))⟩, ⟨(.some 101), (.bin .neq (t_ 100) (.const (.int .i64 3))), (.some (99, .false))⟩, o_ 102 (.pick (t_ 99) (.const (.bool .true)) (t_ 101)), o_ 103 (.mv (t_ 102)), ⟨(.some 104), (.mv (t_ 13)), (.some (103, .false))⟩, ⟨(.some 105), (.bin .neq (t_ 104) (.const (.int .i64 2001))), (.some (103, .false))⟩, o_ 106 (.pick (t_ 103) (.const (.bool .true)) (t_ 105))]
def f35g10 : List RO := [o_ 0 (.mv (.const (.bool .false)))]
def f35g11 : List RO := [o_ 107 (.mv (t_ 1)), o_ 108 (.call (.func 87) [(.const (.int .i64 6))]), o_ 109 (.call (.func 53) [(t_ 108)]), o_ 110 (.bslice 1 [(t_ 107), (t_ 109)]), o_ 111 (.build [(.D (.I .i64 0)), (.D (.I .i64 0)), (.fl [])] [(0, (1, (.const (.int .i64 3)))), (1, (1, (.const (.int .i64 2000)))), (2, (1, (t_ 110)))]), o_ 15 (.new [(.D (.I .i64 0)), (.D (.I .i64 0)), (.fl [])]), n_ (.store 3 (t_ 15) (t_ 111))]
def f35g12 : List RO := [o_ 112 (.loadS (.some 3) (t_ 15)), o_ 113 (.loadS (.some 3) (t_ 15)), o_ 16 (.new [(.D (.I .i64 0)), (.D (.I .i64 0)), (.fl [])]), o_ 17 (.new [(.D (.I .i64 0)), (.D (.I .i64 0)), (.fl [])]), n_ (.store 3 (t_ 16) (t_ 112)), n_ (.store 3 (t_ 17) (t_ 113))]
def f35g13 : List RO := [o_ 114 (.faddr 1 (t_ 16)), n_ (.store 1 (t_ 114) (.const (.int .i64 2001)))]
def f35g14 : List RO := [o_ 115 (.faddr 2 (t_ 15)), o_ 116 (.load .none (t_ 115)), o_ 117 (.iaddr 1 (t_ 116) (.const (.int .i64 1))), o_ 118 (.load .none (t_ 117)), o_ 119 (.faddr 2 (t_ 15)), o_ 120 (.load .none (t_ 119)), o_ 121 (.iaddr 1 (t_ 120) (.const (.int .i64 0))), o_ 122 (.load .none (t_ 121)), o_ 123 (.bslice 1 [(t_ 118), (t_ 122)]), o_ 124 (.faddr 2 (t_ 17)), n_ (.store 1 (t_ 124) (t_ 123))]
def f35g15 : List RO := [o_ 126 (.load (.some 3) (t_ 15)), o_ 127 (.call (.func 38) [(t_ 126)]), o_ 125 (.mv (t_ 127)), o_ 128 (.ext (t_ 125) 0), o_ 129 (.ext (t_ 125) 1), o_ 18 (.newR ((Arr.zero 16).l.map (aI .u8))), n_ (.store 16 (t_ 18) (t_ 128)), o_ 19 (.mv (t_ 129))]
def f35g16 : List RO := [o_ 131 (.load (.some 3) (t_ 15)), o_ 132 (.mv (t_ 1)), o_ 133 (.call (.func 39) [(t_ 131), (t_ 132)]), o_ 130 (.mv (t_ 133)), o_ 134 (.ext (t_ 130) 0), o_ 135 (.ext (t_ 130) 1), o_ 20 (.new ([(.D (.I .i64 0)), (.D (.I .i64 0))] ++ (((Arr.zero 16).l.map (aI .u8)) ++ [(.fl [])]))), n_ (.store 19 (t_ 20) (t_ 134)), o_ 21 (.mv (t_ 135))]
def f35g17 : List RO := [o_ 137 (.load (.some 3) (t_ 15)), o_ 138 (.call (.func 87) [(.const (.int .i64 7))]), o_ 139 (.call (.func 53) [(t_ 138)]), o_ 140 (.call (.func 39) [(t_ 137), (t_ 139)]), o_ 136 (.mv (t_ 140)), o_ 141 (.ext (t_ 136) 0), o_ 142 (.ext (t_ 136) 1), o_ 22 (.new ([(.D (.I .i64 0)), (.D (.I .i64 0))] ++ (((Arr.zero 16).l.map (aI .u8)) ++ [(.fl [])]))), n_ (.store 19 (t_ 22) (t_ 141)), o_ 23 (.mv (t_ 142))]
def f35g18 : List RO := [o_ 143 (.call (.func 87) [(.const (.int .i64 4))]), o_ 144 (.call (.func 53) [(t_ 143)]), o_ 24 (.mv (t_ 144))]
def f35g19 : List RO := [o_ 146 (.load (.some 3) (t_ 15)), o_ 147 (.mv (t_ 24)), o_ 148 (.call (.func 40) [(t_ 146), (t_ 147)]), o_ 145 (.mv (t_ 148)), o_ 149 (.ext (t_ 145) 0), o_ 150 (.ext (t_ 145) 1), o_ 25 (.new ([(.D (.I .i64 0)), (.D (.I .i64 0))] ++ (((Arr.zero 16).l.map (aI .u8)) ++ [(.D (.S [])), (.D (.S [])), (.fl []), (.fl [])]))), n_ (.store 22 (t_ 25) (t_ 149)), o_ 26 (.mv (t_ 150))]
def f35g20 : List RO := [o_ 152 (.load (.some 3) (t_ 15)), o_ 153 (.mv (t_ 1)), o_ 154 (.call (.func 40) [(t_ 152), (t_ 153)]), o_ 151 (.mv (t_ 154)), o_ 155 (.ext (t_ 151) 0), o_ 156 (.ext (t_ 151) 1), o_ 27 (.new ([(.D (.I .i64 0)), (.D (.I .i64 0))] ++ (((Arr.zero 16).l.map (aI .u8)) ++ [(.D (.S [])), (.D (.S [])), (.fl []), (.fl [])]))), n_ (.store 22 (t_ 27) (t_ 155)), o_ 28 (.mv (t_ 156))]
def f35g21 : List RO := [o_ 157 (.load (.some 3) (t_ 15)), o_ 158 (.call (.func 37) [(t_ 157)]), o_ 159 (.bin .eql (t_ 158) (.const (.int .i64 0))), o_ 160 (.mv (t_ 159)), ⟨(.some 161), (.load (.some 3) (t_ 16)), (.some (160, .true))⟩, ⟨(.some 162), (.call (.func 37) [(t_ 161)]), (.some (160, .true))⟩, ⟨(.some 163), (.bin .eql (t_ 162) (.const (.int .i64 1))), (.some (160, .true))⟩, o_ 164 (.pick (t_ 160) (t_ 163) (.const (.bool .false))), o_ 165 (.mv (t_ 164)), ⟨(.some 166), (.load (.some 3) (t_ 17)), (.some (165, .true))⟩, ⟨(.some 167), (.call (.func 37) [(t_ 166)]), (.some (165, .true))⟩, ⟨(.some 168), (.bin .eql (t_ 167) (.const (.int .i64 1))), (.some (165, .true))⟩, o_ 169 (.pick (t_ 165) (t_ 168) (.const (.bool .false))), o_ 170 (.mv (t_ 169)), ⟨(.some 171), (.mv (t_ 19)), (.some (170, .true))⟩, ⟨(.some 172), (.bin .eql (t_ 171) (.const (.int .i64 0))), (.some (170, .true))⟩, o_ 173 (.pick (t_ 170) (t_ 172) (.const (.bool .false))), o_ 174 (.mv (t_ 173)), ⟨(.some 175), (.mv (t_ 21)), (.some (174, .true))⟩, ⟨(.some 176), (.bin .eql (t_ 175) (.const (.int .i64 0))), (.some (174, .true))⟩, o_ 177 (.pick (t_ 174) (t_ 176) (.const (.bool .false))), o_ 178 (.mv (t_ 177)), ⟨(.some 179), (.mv (t_ 23)), (.some (178, .true))⟩, ⟨(.some 180), (.bin .eql (t_ 179) (.const (.int .i64 8))), (.some (178, .true))⟩, o_ 181 (.pick (t_ 178) (t_ 180) (.const (.bool .false))), o_ 182 (.mv (t_ 181)), ⟨(.some 183), (.mv (t_ 26)), (.some (182, .true))⟩, ⟨(.some 184), (.bin .eql (t_ 183) (.const (.int .i64 0))), (.some (182, .true))⟩, o_ 185 (.pick (t_ 182) (t_ 184) (.const (.bool .false))), o_ 186 (.mv (t_ 185)), ⟨(.some 187), (.mv (t_ 28)), (.some (186, .true))⟩, ⟨(.some 188), (.bin .eql (t_ 187) (.const (.int .i64 9))), (.some (186, .true))⟩, o_ 189 (.pick (t_ 186) (t_ 188) (.const (.bool .false))), o_ 29 (.mv (t_ 189))]
def f35g22 : List RO := [o_ 190 (.faddr 0 (t_ 20)), o_ 191 (.load .none (t_ 190)), o_ 192 (.bin .eql (t_ 191) (.const (.int .i64 0))), o_ 193 (.mv (t_ 192)), ⟨(.some 194), (.faddr 1 (t_ 20)), (.some (193, .true))⟩, ⟨(.some 195), (.load .none (t_ 194)), (.some (193, .true))⟩, ⟨(.some 196), (.bin .eql (t_ 195) (.const (.int .i64 2))), (.some (193, .true))⟩, o_ 197 (.pick (t_ 193) (t_ 196) (.const (.bool .false))), o_ 198 (.mv (t_ 197)), ⟨(.some 199), (.load (.some 16) (t_ 18)), (.some (198, .true))⟩, ⟨(.some 200), (.mv (t_ 1)), (.some (198, .true))⟩, ⟨(.some 201), (.load (.some 19) (t_ 20)), (.some (198, .true))⟩, ⟨(.some 202), (.call (.func 43) [(t_ 199), (.const (.int .i64 3)), (.const (.int .i64 2000)), (t_ 200), (t_ 201)]), (.some (198, .true))⟩, o_ 203 (.pick (t_ 198) (t_ 202) (.const (.bool .false))), o_ 204 (.mv (t_ 203)), ⟨(.some 205), (.load (.some 16) (t_ 18)), (.some (204, .true))⟩, ⟨(.some 206), (.call (.func 87) [(.const (.int .i64 7))]), (.some (204, .true))⟩, ⟨(.some 207), (.call (.func 53) [(t_ 206)]), (.some (204, .true))⟩, ⟨(.some 208), (.load (.some 19) (t_ 20)), (.some (204, .true))⟩, ⟨(.some 209), (.call (.func 43) [(t_ 205), (.const (.int .i64 3)), (.const (.int .i64 2000)), (t_ 207), (t_ 208)]), (.some (204, .true))⟩, ⟨(.some 210), (.un .not (t_ 209)), (.some (204, .true))⟩, o_ 211 (.pick (t_ 204) (t_ 210) (.const (.bool .false))), o_ 30 (.mv (t_ 211))]
def f35g23 : List RO := [o_ 212 (.mv (t_ 29)), o_ 213 (.mv (t_ 212)), ⟨(.some 214), (.mv (t_ 30)), (.some (213, .true))⟩, o_ 215 (.pick (t_ 213) (t_ 214) (.const (.bool .false))), o_ 216 (.mv (t_ 215)), ⟨(.some 217), (.faddr 0 (t_ 25)), (.some (216, .true))⟩, ⟨(.some 218), (.load .none (t_ 217)), (.some (216, .true))⟩, ⟨(.some 219), (.bin .eql (t_ 218) (.const (.int .i64 0))), (.some (216, .true))⟩, o_ 220 (.pick (t_ 216) (t_ 219) (.const (.bool .false))), o_ 221 (.mv (t_ 220)), ⟨(.some 222), (.faddr 1 (t_ 25)), (.some (221, .true))⟩, ⟨(.some 223), (.load .none (t_ 222)), (.some (221, .true))⟩, ⟨(.some 224), (.bin .eql (t_ 223) (.const (.int .i64 2))), (.some (221, .true))⟩, o_ 225 (.pick (t_ 221) (t_ 224) (.const (.bool .false))), o_ 226 (.mv (t_ 225)), ⟨(.some 227), (.faddr 19 (t_ 25)), (.some (226, .true))⟩, ⟨(.some 228), (.load .none (t_ 227)), (.some (226, .true))⟩, ⟨(.some 229), (.mv (t_ 1)), (.some (226, .true))⟩, ⟨(.some 230), (.bin .eql (t_ 228) (t_ 229)), (.some (226, .true))⟩, o_ 231 (.pick (t_ 226) (t_ 230) (.const (.bool .false))), o_ 232 (.mv (t_ 231)), ⟨(.some 233), (.load (.some 16) (t_ 18)), (.some (232, .true))⟩, ⟨(.some 234), (.mv (t_ 24)), (.some (232, .true))⟩, ⟨(.some 235), (.load (.some 22) (t_ 25)), (.some (232, .true))⟩, ⟨(.some 236), (.call (.func 44) [(t_ 233), (.const (.int .i64 3)), (.const (.int .i64 2000)), (t_ 234), (t_ 235)]), (.some (232, .true))⟩, o_ 237 (.pick (t_ 232) (t_ 236) (.const (.bool .false))), o_ 238 (.mv (t_ 237)), ⟨(.some 239), (.load (.some 16) (t_ 18)), (.some (238, .true))⟩, ⟨(.some 240), (.mv (t_ 1)), (.some (238, .true))⟩, ⟨(.some 241), (.load (.some 22) (t_ 25)), (.some (238, .true))⟩, ⟨(.some 242), (.call (.func 44) [(t_ 239), (.const (.int .i64 3)), (.const (.int .i64 2000)), (t_ 240), (t_ 241)]), (.some (238, .true))⟩, ⟨(.some 243), (.un .not (t_ 242)), (.some (238, .true))⟩, o_ 244 (.pick (t_ 238) (t_ 243) (.const (.bool .false))), o_ 0 (.mv (t_ 244))]
def f35c : RCode := (.seq (.reg .false f35g0) (.seq (.reg .false f35g1) (.seq (.reg .false f35g2) (.seq (.reg .false f35g3) (.seq (.reg .false f35g4) (.seq (.reg .false f35g5) (.seq (.reg .false f35g6) (.seq (.reg .false f35g7) (.seq (.reg .false f35g8) (.seq (.seq (.reg .true f35g9) (.cond (t_ 106) (.seq (.reg .false f35g10) .ret) .skip)) (.seq (.reg .false f35g11) (.seq (.regS f35g12) (.seq (.reg .false f35g13) (.seq (.reg .true f35g14) (.seq (.reg .false f35g15) (.seq (.reg .false f35g16) (.seq (.reg .true f35g17) (.seq (.reg .false f35g18) (.seq (.reg .false f35g19) (.seq (.reg .false f35g20) (.seq (.reg .false f35g21) (.seq (.reg .true f35g22) (.seq (.reg .false f35g23) .ret)))))))))))))))))))))))
def f35r : List RRes := [(.tmp 0)]
attribute [push_cast] f35g0 f35g1 f35g2 f35g3 f35g4 f35g5 f35g6 f35g7 f35g8 f35g9 f35g10 f35g11 f35g12 f35g13 f35g14 f35g15 f35g16 f35g17 f35g18 f35g19 f35g20 f35g21 f35g22 f35g23
def F_law23_sanity (N : Nat) : Option Bool := bd? (F_law23_reading N 5) fun v1 => bd? (F_leaf_Reading N v1) fun v2 => bd? (F_leaf_GetReading N v2) fun v3 => gd? (v2.length + ([0] : Str).length ≤ 9223372036854775807) (bd? (F_leaf_GetReading N (v2 ++ ([0] : Str))) fun v4 => bd? (F_leaf_GetBlock N v2) fun v5 => bd? (F_law23_reading N 5) fun v6 => bd? (F_leaf_Where N v2) fun v7 => bd? (F_leaf_Reading N (Reading.mk v6.Gauge v6.Seq 40000 v6.To v6.Stage v6.Known)) fun v8 => bd? (F_leaf_Where N v8) fun v9 => gd? (((v2 == ([14, 2, 6, 10, 20, 28, 14, 4] : Str))) = true) (gd? (((v3.2 != 0)) = false) (bd? (F_law23_reading N 5) fun v10 => gd? ((((v3.1.Gauge == v10.Gauge) && ((v3.1.Seq == v10.Seq) && ((v3.1.From == v10.From) && ((v3.1.To == v10.To) && ((v3.1.Stage == v10.Stage) && (v3.1.Known == v10.Known))))))) = true) (gd? (((v4.2 != 11)) = false) (gd? (((v5.2 != 11)) = false) (gd? (((v7.2.2 != 0)) = false) (gd? (((v9.2.2 != 0)) = false) (gd? (((v7.1 != 3)) = false) (gd? (((v7.2.1 != 2000)) = false) (gd? (((v9.1 != 3)) = false) (gd? (((v9.2.1 != 2001)) = false) (bd? (F_law23_reading N 6) fun v11 => bd? (F_leaf_Reading N v11) fun v12 => get? [v2, v12] (1) fun x13 => get? [v2, v12] (0) fun x14 => bd? (F_leaf_Root N (Folder.mk 3 2000 [v2, v12])) fun v15 => bd? (F_leaf_Prove N (Folder.mk 3 2000 [v2, v12]) v2) fun v16 => bd? (F_law23_reading N 7) fun v17 => bd? (F_leaf_Reading N v17) fun v18 => bd? (F_leaf_Prove N (Folder.mk 3 2000 [v2, v12]) v18) fun v19 => bd? (F_law23_reading N 4) fun v20 => bd? (F_leaf_Reading N v20) fun v21 => bd? (F_leaf_Deny N (Folder.mk 3 2000 [v2, v12]) v21) fun v22 => bd? (F_leaf_Deny N (Folder.mk 3 2000 [v2, v12]) v2) fun v23 => bd? (F_leaf_Check N (Folder.mk 3 2000 [v2, v12])) fun v24 => gd? (((v24 == 0)) = true) (bd? (F_leaf_Check N (Folder.mk 3 2001 [v2, v12])) fun v25 => gd? (((v25 == 1)) = true) (bd? (F_leaf_Check N (Folder.mk 3 2000 [x13, x14])) fun v26 => gd? (((v26 == 1)) = true) (gd? (((v15.2 == 0)) = true) (gd? (((v16.2 == 0)) = true) (gd? (((v19.2 == 8)) = true) (gd? (((v22.2 == 0)) = true) (gd? (((v16.1.At == 0)) = true) (gd? (((v16.1.Count == 2)) = true) (bd? (F_leaf_Accept N v15.1 3 2000 v2 v16.1) fun v27 => gd? ((v27) = true) (bd? (F_law23_reading N 7) fun v28 => bd? (F_leaf_Reading N v28) fun v29 => bd? (F_leaf_Accept N v15.1 3 2000 v29 v16.1) fun v30 => gd? (((v23.2 == 9)) = true) (gd? ((v30) = false) (gd? (((v22.1.At == 0)) = true) (gd? (((v22.1.Count == 2)) = true) (gd? (((v22.1.After == v2)) = true) (bd? (F_leaf_Denied N v15.1 3 2000 v21 v22.1) fun v31 => gd? ((v31) = true) (bd? (F_leaf_Denied N v15.1 3 2000 v2 v22.1) fun v32 => some (!(v32))))))))))))))))))))))))))))))
theorem c_law23_sanity (N : Nat) (r : Bool) (h : F_law23_sanity N = some r) : ACall Tryd.prog 35 [] [] (.D (.B r)) [] [] := by
 refine ACall.of_bodyW [112, 113, 9999999] (fn := Tryd.f35) (rc := f35c) (rs := f35r) Tryd.func35 rfl rfl (by kernel_rfl) (by kernel_rfl) (by kernel_rfl) (by rw [Tryd.ntmps35]; simp) ?_
 unfold F_law23_sanity at h
 unfold f35c f35r
 rw [entry_eq _ _]
 obtain ⟨v1, h1, h⟩ := F_bd h
 simp only[push_cast,seval]
 refine call_flat (by rfl) (c_law23_reading N _ _ h1) ?_ rfl ?_
 ·simp only[push_cast,seval] <;> rfl
 obtain ⟨v2, h2, h⟩ := F_bd h
 simp only[push_cast,seval]
 refine call_flat (by rfl) (c_leaf_Reading N _ _ h2) ?_ rfl ?_
 ·simp only[push_cast,seval] <;> rfl
 obtain ⟨v3, h3, h⟩ := F_bd h
 simp only[push_cast,seval]
 refine call_flat (by rfl) (c_leaf_GetReading N _ _ h3) ?_ rfl ?_
 ·simp only[push_cast,seval] <;> rfl
 obtain ⟨h4, h⟩ := F_gd h
 try simp only[push_cast,seval] at h4
 obtain ⟨v4, h5, h⟩ := F_bd h
 simp only[push_cast,seval,h4]
 refine call_flat (by rfl) (c_leaf_GetReading N _ _ h5) ?_ rfl ?_
 ·simp only[push_cast,seval,h4] <;> rfl
 obtain ⟨v5, h6, h⟩ := F_bd h
 simp only[push_cast,seval,h4]
 refine call_new (by rfl) (c_leaf_GetBlock N _ _ h6) ?_ rfl ?_
 ·simp only[push_cast,seval,h4] <;> rfl
 obtain ⟨v6, h7, h⟩ := F_bd h
 simp only[push_cast,seval,h4]
 refine call_flat (by rfl) (c_law23_reading N _ _ h7) ?_ rfl ?_
 ·simp only[push_cast,seval,h4] <;> rfl
 obtain ⟨v7, h8, h⟩ := F_bd h
 simp only[push_cast,seval,h4]
 refine call_flat (by rfl) (c_leaf_Where N _ _ h8) ?_ rfl ?_
 ·simp only[push_cast,seval,h4] <;> rfl
 obtain ⟨v8, h9, h⟩ := F_bd h
 simp only[push_cast,seval,h4]
 refine call_flat (by rfl) (c_leaf_Reading N _ _ h9) ?_ rfl ?_
 ·simp only[push_cast,seval,h4] <;> rfl
 obtain ⟨v9, h10, h⟩ := F_bd h
 simp only[push_cast,seval,h4]
 refine call_flat (by rfl) (c_leaf_Where N _ _ h10) ?_ rfl ?_
 ·simp only[push_cast,seval,h4] <;> rfl
 obtain ⟨h11, h⟩ := F_gd h
 try simp only[push_cast,seval] at h11
 obtain ⟨h12, h⟩ := F_gd h
 obtain ⟨v10, h13, h⟩ := F_bd h
 simp only[push_cast,seval,h4,h11,h12]
 refine call_flat (by rfl) (c_law23_reading N _ _ h13) ?_ rfl ?_
 ·simp only[push_cast,seval,h4,h11,h12] <;> rfl
 obtain ⟨h14, h⟩ := F_gd h
 obtain ⟨h15, h⟩ := F_gd h
 obtain ⟨h16, h⟩ := F_gd h
 obtain ⟨h17, h⟩ := F_gd h
 obtain ⟨h18, h⟩ := F_gd h
 obtain ⟨h19, h⟩ := F_gd h
 obtain ⟨h20, h⟩ := F_gd h
 obtain ⟨h21, h⟩ := F_gd h
 obtain ⟨h22, h⟩ := F_gd h
 obtain ⟨v11, h23, h⟩ := F_bd h
 simp only[push_cast,seval,h4,h11,h12,h14,h15,h16,h17,h18,h19,h20,h21,h22]
 refine call_flat (by rfl) (c_law23_reading N _ _ h23) ?_ rfl ?_
 ·simp only[push_cast,seval,h4,h11,h12,h14,h15,h16,h17,h18,h19,h20,h21,h22] <;> rfl
 obtain ⟨v12, h24, h⟩ := F_bd h
 simp only[push_cast,seval,h4,h11,h12,h14,h15,h16,h17,h18,h19,h20,h21,h22]
 refine call_flat (by rfl) (c_leaf_Reading N _ _ h24) ?_ rfl ?_
 ·simp only[push_cast,seval,h4,h11,h12,h14,h15,h16,h17,h18,h19,h20,h21,h22] <;> rfl
 simp only[push_cast,seval,h4,h11,h12,h14,h15,h16,h17,h18,h19,h20,h21,h22]
 refine regS_of true [.O 5] (by rfl) ?_
 obtain ⟨x13, h25, h26, h⟩ := F_get h
 have h27 := get_lt h25 h26
 have h28 := map_get rS h26
 try simp only[push_cast,seval] at h28 h25 h27
 obtain ⟨x14, h29, h30, h⟩ := F_get h
 have h31 := get_lt h29 h30
 have h32 := map_get rS h30
 try simp only[push_cast,seval] at h32 h29 h31
 obtain ⟨v15, h33, h⟩ := F_bd h
 simp only[push_cast,seval,h4,h11,h12,h14,h15,h16,h17,h18,h19,h20,h21,h22,h25,h28,h27,h29,h32,h31]
 refine call_flat (by rfl) (c_leaf_Root N _ _ h33) ?_ (by simp [AV.flat, AV.flatL, flatL_aI, flatL_app, DV.flat]) ?_
 ·simp only[push_cast,seval,h4,h11,h12,h14,h15,h16,h17,h18,h19,h20,h21,h22,h25,h28,h27,h29,h32,h31] <;> rfl
 obtain ⟨v16, h34, h⟩ := F_bd h
 simp only[push_cast,seval,h4,h11,h12,h14,h15,h16,h17,h18,h19,h20,h21,h22,h25,h28,h27,h29,h32,h31]
 refine call_new (by rfl) (c_leaf_Prove N _ _ _ h34) ?_ (by simp [AV.flat, AV.flatL, flatL_aI, flatL_app, DV.flat]) ?_
 ·simp only[push_cast,seval,h4,h11,h12,h14,h15,h16,h17,h18,h19,h20,h21,h22,h25,h28,h27,h29,h32,h31] <;> rfl
 obtain ⟨v17, h35, h⟩ := F_bd h
 simp only[push_cast,seval,h4,h11,h12,h14,h15,h16,h17,h18,h19,h20,h21,h22,h25,h28,h27,h29,h32,h31]
 refine call_flat (by rfl) (c_law23_reading N _ _ h35) ?_ rfl ?_
 ·simp only[push_cast,seval,h4,h11,h12,h14,h15,h16,h17,h18,h19,h20,h21,h22,h25,h28,h27,h29,h32,h31] <;> rfl
 obtain ⟨v18, h36, h⟩ := F_bd h
 simp only[push_cast,seval,h4,h11,h12,h14,h15,h16,h17,h18,h19,h20,h21,h22,h25,h28,h27,h29,h32,h31]
 refine call_flat (by rfl) (c_leaf_Reading N _ _ h36) ?_ rfl ?_
 ·simp only[push_cast,seval,h4,h11,h12,h14,h15,h16,h17,h18,h19,h20,h21,h22,h25,h28,h27,h29,h32,h31] <;> rfl
 obtain ⟨v19, h37, h⟩ := F_bd h
 simp only[push_cast,seval,h4,h11,h12,h14,h15,h16,h17,h18,h19,h20,h21,h22,h25,h28,h27,h29,h32,h31]
 refine call_new (by rfl) (c_leaf_Prove N _ _ _ h37) ?_ (by simp [AV.flat, AV.flatL, flatL_aI, flatL_app, DV.flat]) ?_
 ·simp only[push_cast,seval,h4,h11,h12,h14,h15,h16,h17,h18,h19,h20,h21,h22,h25,h28,h27,h29,h32,h31] <;> rfl
 obtain ⟨v20, h38, h⟩ := F_bd h
 simp only[push_cast,seval,h4,h11,h12,h14,h15,h16,h17,h18,h19,h20,h21,h22,h25,h28,h27,h29,h32,h31]
 refine call_flat (by rfl) (c_law23_reading N _ _ h38) ?_ rfl ?_
 ·simp only[push_cast,seval,h4,h11,h12,h14,h15,h16,h17,h18,h19,h20,h21,h22,h25,h28,h27,h29,h32,h31] <;> rfl
 obtain ⟨v21, h39, h⟩ := F_bd h
 simp only[push_cast,seval,h4,h11,h12,h14,h15,h16,h17,h18,h19,h20,h21,h22,h25,h28,h27,h29,h32,h31]
 refine call_flat (by rfl) (c_leaf_Reading N _ _ h39) ?_ rfl ?_
 ·simp only[push_cast,seval,h4,h11,h12,h14,h15,h16,h17,h18,h19,h20,h21,h22,h25,h28,h27,h29,h32,h31] <;> rfl
 obtain ⟨v22, h40, h⟩ := F_bd h
 simp only[push_cast,seval,h4,h11,h12,h14,h15,h16,h17,h18,h19,h20,h21,h22,h25,h28,h27,h29,h32,h31]
 refine call_new (by rfl) (c_leaf_Deny N _ _ _ h40) ?_ (by simp [AV.flat, AV.flatL, flatL_aI, flatL_app, DV.flat]) ?_
 ·simp only[push_cast,seval,h4,h11,h12,h14,h15,h16,h17,h18,h19,h20,h21,h22,h25,h28,h27,h29,h32,h31] <;> rfl
 obtain ⟨v23, h41, h⟩ := F_bd h
 simp only[push_cast,seval,h4,h11,h12,h14,h15,h16,h17,h18,h19,h20,h21,h22,h25,h28,h27,h29,h32,h31]
 refine call_new (by rfl) (c_leaf_Deny N _ _ _ h41) ?_ (by simp [AV.flat, AV.flatL, flatL_aI, flatL_app, DV.flat]) ?_
 ·simp only[push_cast,seval,h4,h11,h12,h14,h15,h16,h17,h18,h19,h20,h21,h22,h25,h28,h27,h29,h32,h31] <;> rfl
 obtain ⟨v24, h42, h⟩ := F_bd h
 simp only[push_cast,seval,h4,h11,h12,h14,h15,h16,h17,h18,h19,h20,h21,h22,h25,h28,h27,h29,h32,h31]
 refine call_flat (by rfl) (c_leaf_Check N _ _ h42) ?_ rfl ?_
 ·simp only[push_cast,seval,h4,h11,h12,h14,h15,h16,h17,h18,h19,h20,h21,h22,h25,h28,h27,h29,h32,h31] <;> rfl
 obtain ⟨h43, h⟩ := F_gd h
 obtain ⟨v25, h44, h⟩ := F_bd h
 simp only[push_cast,seval,h4,h11,h12,h14,h15,h16,h17,h18,h19,h20,h21,h22,h25,h28,h27,h29,h32,h31,h43]
 refine call_flat (by rfl) (c_leaf_Check N _ _ h44) ?_ rfl ?_
 ·simp only[push_cast,seval,h4,h11,h12,h14,h15,h16,h17,h18,h19,h20,h21,h22,h25,h28,h27,h29,h32,h31,h43] <;> rfl
 obtain ⟨h45, h⟩ := F_gd h
 obtain ⟨v26, h46, h⟩ := F_bd h
 simp only[push_cast,seval,h4,h11,h12,h14,h15,h16,h17,h18,h19,h20,h21,h22,h25,h28,h27,h29,h32,h31,h43,h45]
 refine call_flat (by rfl) (c_leaf_Check N _ _ h46) ?_ rfl ?_
 ·simp only[push_cast,seval,h4,h11,h12,h14,h15,h16,h17,h18,h19,h20,h21,h22,h25,h28,h27,h29,h32,h31,h43,h45] <;> rfl
 obtain ⟨h47, h⟩ := F_gd h
 obtain ⟨h48, h⟩ := F_gd h
 obtain ⟨h49, h⟩ := F_gd h
 obtain ⟨h50, h⟩ := F_gd h
 obtain ⟨h51, h⟩ := F_gd h
 obtain ⟨h52, h⟩ := F_gd h
 obtain ⟨h53, h⟩ := F_gd h
 obtain ⟨v27, h54, h⟩ := F_bd h
 simp only[push_cast,seval,h4,h11,h12,h14,h15,h16,h17,h18,h19,h20,h21,h22,h25,h28,h27,h29,h32,h31,h43,h45,h47,h48,h49,h50,h51,h52,h53]
 refine call_flat (by rfl) (c_leaf_Accept N _ _ _ _ _ _ h54) ?_ rfl ?_
 ·simp only[push_cast,seval,h4,h11,h12,h14,h15,h16,h17,h18,h19,h20,h21,h22,h25,h28,h27,h29,h32,h31,h43,h45,h47,h48,h49,h50,h51,h52,h53] <;> rfl
 obtain ⟨h55, h⟩ := F_gd h
 obtain ⟨v28, h56, h⟩ := F_bd h
 simp only[push_cast,seval,h4,h11,h12,h14,h15,h16,h17,h18,h19,h20,h21,h22,h25,h28,h27,h29,h32,h31,h43,h45,h47,h48,h49,h50,h51,h52,h53,h55]
 refine call_flat (by rfl) (c_law23_reading N _ _ h56) ?_ rfl ?_
 ·simp only[push_cast,seval,h4,h11,h12,h14,h15,h16,h17,h18,h19,h20,h21,h22,h25,h28,h27,h29,h32,h31,h43,h45,h47,h48,h49,h50,h51,h52,h53,h55] <;> rfl
 obtain ⟨v29, h57, h⟩ := F_bd h
 simp only[push_cast,seval,h4,h11,h12,h14,h15,h16,h17,h18,h19,h20,h21,h22,h25,h28,h27,h29,h32,h31,h43,h45,h47,h48,h49,h50,h51,h52,h53,h55]
 refine call_flat (by rfl) (c_leaf_Reading N _ _ h57) ?_ rfl ?_
 ·simp only[push_cast,seval,h4,h11,h12,h14,h15,h16,h17,h18,h19,h20,h21,h22,h25,h28,h27,h29,h32,h31,h43,h45,h47,h48,h49,h50,h51,h52,h53,h55] <;> rfl
 obtain ⟨v30, h58, h⟩ := F_bd h
 simp only[push_cast,seval,h4,h11,h12,h14,h15,h16,h17,h18,h19,h20,h21,h22,h25,h28,h27,h29,h32,h31,h43,h45,h47,h48,h49,h50,h51,h52,h53,h55]
 refine call_flat (by rfl) (c_leaf_Accept N _ _ _ _ _ _ h58) ?_ rfl ?_
 ·simp only[push_cast,seval,h4,h11,h12,h14,h15,h16,h17,h18,h19,h20,h21,h22,h25,h28,h27,h29,h32,h31,h43,h45,h47,h48,h49,h50,h51,h52,h53,h55] <;> rfl
 obtain ⟨h59, h⟩ := F_gd h
 obtain ⟨h60, h⟩ := F_gd h
 obtain ⟨h61, h⟩ := F_gd h
 obtain ⟨h62, h⟩ := F_gd h
 obtain ⟨h63, h⟩ := F_gd h
 obtain ⟨v31, h64, h⟩ := F_bd h
 simp only[push_cast,seval,h4,h11,h12,h14,h15,h16,h17,h18,h19,h20,h21,h22,h25,h28,h27,h29,h32,h31,h43,h45,h47,h48,h49,h50,h51,h52,h53,h55,h59,h60,h61,h62,h63]
 refine call_flat (by rfl) (c_leaf_Denied N _ _ _ _ _ _ h64) ?_ rfl ?_
 ·simp only[push_cast,seval,h4,h11,h12,h14,h15,h16,h17,h18,h19,h20,h21,h22,h25,h28,h27,h29,h32,h31,h43,h45,h47,h48,h49,h50,h51,h52,h53,h55,h59,h60,h61,h62,h63] <;> rfl
 obtain ⟨h65, h⟩ := F_gd h
 obtain ⟨v32, h66, h⟩ := F_bd h
 simp only[push_cast,seval,h4,h11,h12,h14,h15,h16,h17,h18,h19,h20,h21,h22,h25,h28,h27,h29,h32,h31,h43,h45,h47,h48,h49,h50,h51,h52,h53,h55,h59,h60,h61,h62,h63,h65]
 refine call_flat (by rfl) (c_leaf_Denied N _ _ _ _ _ _ h66) ?_ rfl ?_
 ·simp only[push_cast,seval,h4,h11,h12,h14,h15,h16,h17,h18,h19,h20,h21,h22,h25,h28,h27,h29,h32,h31,h43,h45,h47,h48,h49,h50,h51,h52,h53,h55,h59,h60,h61,h62,h63,h65] <;> rfl
 obtain rfl := Option.some.inj h
 simp only[push_cast,seval,h4,h11,h12,h14,h15,h16,h17,h18,h19,h20,h21,h22,h25,h28,h27,h29,h32,h31,h43,h45,h47,h48,h49,h50,h51,h52,h53,h55,h59,h60,h61,h62,h63,h65]
 refine e_ret (.inr rfl) ?_
 simp only[push_cast,seval,aret,aresults,aresult,h4,h11,h12,h14,h15,h16,h17,h18,h19,h20,h21,h22,h25,h28,h27,h29,h32,h31,h43,h45,h47,h48,h49,h50,h51,h52,h53,h55,h59,h60,h61,h62,h63,h65]
 refine ⟨_, rfl, ?_⟩
 first | (simp only[push_cast,seval,h4,h11,h12,h14,h15,h16,h17,h18,h19,h20,h21,h22,h25,h28,h27,h29,h32,h31,h43,h45,h47,h48,h49,h50,h51,h52,h53,h55,h59,h60,h61,h62,h63,h65] <;> rfl) | rfl

def f100g0 : List RO := [o_ 1 (.box (t_ 0)), o_ 2 (.mv (.const (.bool .false)))]
def f100g1 : List RO := [o_ 4 (.faddr 0 (t_ 1)), o_ 5 (.load .none (t_ 4)), o_ 6 (.len .false (t_ 5)), o_ 7 (.bin .gtr (t_ 6) (.const (.int .i64 20)))]
def f100g2 : List RO := [o_ 2 (.mv (.const (.bool .false)))]
def f100g3 : List RO := [o_ 3 (.mv (.const (.int .i64 0)))]
def f100g4 : List RO := [o_ 8 (.mv (t_ 3)), o_ 9 (.faddr 0 (t_ 1)), o_ 10 (.load .none (t_ 9)), o_ 11 (.len .false (t_ 10)), o_ 12 (.bin .lss (t_ 8) (t_ 11))]
def f100g5 : List RO := [o_ 15 (.faddr 0 (t_ 1)), o_ 16 (.load .none (t_ 15)), o_ 17 (.mv (t_ 3)), o_ 18 (.iaddr 4 (t_ 16) (t_ 17)), o_ 19 (.faddr 1 (t_ 18)), o_ 20 (.faddr 1 (t_ 19)), o_ 21 (.load .none (t_ 20)), o_ 22 (.len .true (t_ 21)), o_ 23 (.bin .gtr (t_ 22) (.const (.int .i64 12))), o_ 24 (.mv (t_ 23)), ⟨(.some 25), (.faddr 0 (t_ 1)), (.some (24, .false))⟩, ⟨(.some 26), (.load .none (t_ 25)), (.some (24, .false))⟩, ⟨(.some 27), (.mv (t_ 3)), (.some (24, .false))⟩, ⟨(.some 28), (.iaddr 4 (t_ 26) (t_ 27)), (.some (24, .false))⟩, ⟨(.some 29), (.faddr 1 (t_ 28)), (.some (24, .false))⟩, ⟨(.some 30), (.faddr 2 (t_ 29)), (.some (24, .false))⟩, ⟨(.some 31), (.load .none (t_ 30)), (.some (24, .false))⟩, ⟨(.some 32), (.len .true (t_ 31)), (.some (24, .false))⟩, ⟨(.some 33), (.bin .gtr (t_ 32) (.const (.int .i64 12))), (.some (24, .false))⟩, o_ 34 (.pick (t_ 24) (.const (.bool .true)) (t_ 33))]
def f100g6 : List RO := [o_ 2 (.mv (.const (.bool .false)))]
def f100g7 : List RO := [o_ 13 (.mv (t_ 3)), o_ 14 (.bin .add (t_ 13) (.const (.int .i64 1))), o_ 3 (.mv (t_ 14))]
def f100b8 : RCode := (.seq (.seq (.reg .false f100g4) (.cond (t_ 12) .skip (.exit 0))) (.seq (.block 1 (.seq (.reg .false f100g5) (.cond (t_ 34) (.seq (.reg .false f100g6) .ret) .skip))) (.reg .false f100g7)))
def f100g9 : List RO := [o_ 2 (.mv (.const (.bool .true)))]
def f100c : RCode := (.seq (.reg .false f100g0) (.seq (.seq (.reg .false f100g1) (.cond (t_ 7) (.seq (.reg .false f100g2) .ret) .skip)) (.seq (.seq (.reg .false f100g3) (.block 0 (.loop f100b8))) (.seq (.reg .false f100g9) .ret))))
def f100r : List RRes := [(.tmp 2)]
attribute [push_cast] f100g0 f100g1 f100g2 f100g3 f100g4 f100g5 f100g6 f100g7 f100g9
def L_ref14_FewPoints_0 (N : Nat) (p0 : Curve) : Nat → Int → Option Bool
  | 0, _ => none
  | m1+1, a1 => if? (decide (a1 < (p0.Points.length : Int))) (get? p0.Points (a1) fun x2 => if? (decide ((x2.Flow.Num.length : Int) > 12)) (some (false)) (if? (decide ((x2.Flow.Den.length : Int) > 12)) (some (false)) (ck .i64 (a1 + 1) (L_ref14_FewPoints_0 N p0 m1 (a1 + 1))))) (some (true))
def I_ref14_FewPoints_0 (N : Nat) (p0 : Curve) (r : Bool) (n : Nat) (s : AState) : Prop := ∃ (a1 : Int), L_ref14_FewPoints_0 N p0 n a1 = some r ∧ s = ⟨envL [(1, .ptr (.O 0) 0), (3, .D (.I .i64 a1))], ownL [], ownL [some (.box ([.D (.L (p0.Points.map Point.row))]))], 1⟩
def F_ref14_FewPoints (N : Nat) (p0 : Curve) : Option Bool := if? (decide ((p0.Points.length : Int) > 20)) (some (false)) (L_ref14_FewPoints_0 N p0 N 0)
theorem c_ref14_FewPoints (N : Nat) (p0 : Curve) (r : Bool) (h : F_ref14_FewPoints N p0 = some r) : ACall Tryd.prog 100 [.agg [.D (.L (p0.Points.map Point.row))]] [] (.D (.B r)) [] [] := by
 refine ACall.of_bodyW [] (fn := Tryd.f100) (rc := f100c) (rs := f100r) Tryd.func100 rfl rfl (by kernel_rfl) (by kernel_rfl) (by kernel_rfl) (by rw [Tryd.ntmps100]; simp) ?_
 unfold F_ref14_FewPoints at h
 unfold f100c f100r
 rw [entry_eq _ _]
 rcases F_if h with ⟨h1, h⟩ | ⟨h1, h⟩
 ·obtain rfl := Option.some.inj h
  simp only[push_cast,seval,h1]
  refine e_ret (.inr rfl) ?_
  simp only[push_cast,seval,aret,aresults,aresult,h1]
  refine ⟨_, rfl, ?_⟩
  first | (simp only[push_cast,seval,h1] <;> rfl) | rfl
 simp only[push_cast,seval,h1]
 refine loop_of (I_ref14_FewPoints_0 N p0 _) N [1, 3] [0] (by decide) ⟨0, h, ?_⟩ ?_
 ·rw [wk_mk]
  simp only[push_cast,seval,h1] <;> rfl
 rintro n s ⟨a1, h, rfl⟩
 rcases n with _ | m1
 ·exact absurd h (by simp [L_ref14_FewPoints_0])
 rw [L_ref14_FewPoints_0] at h
 unfold f100b8
 rcases F_if h with ⟨h2, h⟩ | ⟨h2, h⟩
 rotate_left
 ·obtain rfl := Option.some.inj h
  simp only[push_cast,seval,h1,h2]
  refine e_ret (.inr rfl) ?_
  simp only[push_cast,seval,aret,aresults,aresult,h1,h2]
  refine ⟨_, rfl, ?_⟩
  first | (simp only[push_cast,seval,h1,h2] <;> rfl) | rfl
 obtain ⟨x2, h3, h4, h⟩ := F_get h
 have h5 := get_lt h3 h4
 have h6 := map_get Point.row h4
 try simp only[push_cast,seval] at h6
 rcases F_if h with ⟨h7, h⟩ | ⟨h7, h⟩
 ·obtain rfl := Option.some.inj h
  simp only[push_cast,seval,h1,h2,h3,h6,h5,h7]
  refine e_ret (.inr rfl) ?_
  simp only[push_cast,seval,aret,aresults,aresult,h1,h2,h3,h6,h5,h7]
  refine ⟨_, rfl, ?_⟩
  first | (simp only[push_cast,seval,h1,h2,h3,h6,h5,h7] <;> rfl) | rfl
 rcases F_if h with ⟨h8, h⟩ | ⟨h8, h⟩
 ·obtain rfl := Option.some.inj h
  simp only[push_cast,seval,h1,h2,h3,h6,h5,h7,h8]
  refine e_ret (.inr rfl) ?_
  simp only[push_cast,seval,aret,aresults,aresult,h1,h2,h3,h6,h5,h7,h8]
  refine ⟨_, rfl, ?_⟩
  first | (simp only[push_cast,seval,h1,h2,h3,h6,h5,h7,h8] <;> rfl) | rfl
 obtain ⟨h9, h⟩ := F_ck h
 try simp only[push_cast,seval] at h9
 simp only[push_cast,seval,h1,h2,h3,h6,h5,h7,h8,h9]
 refine lpK_of m1 [1, 3] [0] (by omega) (by decide) ⟨(a1 + 1), (by first | exact h | simpa only [*] using h), ?_⟩
 rw [wk_mk]
 simp only[push_cast,seval,h1,h2,h3,h6,h5,h7,h8,h9] <;> rfl

def f101g0 : List RO := [o_ 1 (.box (t_ 0)), o_ 2 (.mv (.const (.bool .false)))]
def f101g1 : List RO := [o_ 4 (.faddr 5 (t_ 1)), o_ 5 (.load .none (t_ 4)), o_ 6 (.len .false (t_ 5)), o_ 7 (.bin .gtr (t_ 6) (.const (.int .i64 12)))]
def f101g2 : List RO := [o_ 2 (.mv (.const (.bool .false)))]
def f101g3 : List RO := [o_ 3 (.mv (.const (.int .i64 0)))]
def f101g4 : List RO := [o_ 8 (.mv (t_ 3)), o_ 9 (.faddr 5 (t_ 1)), o_ 10 (.load .none (t_ 9)), o_ 11 (.len .false (t_ 10)), o_ 12 (.bin .lss (t_ 8) (t_ 11))]
def f101g5 : List RO := [o_ 15 (.faddr 5 (t_ 1)), o_ 16 (.load .none (t_ 15)), o_ 17 (.mv (t_ 3)), o_ 18 (.iaddr 5 (t_ 16) (t_ 17)), o_ 19 (.faddr 2 (t_ 18)), o_ 20 (.load .none (t_ 19)), o_ 21 (.len .false (t_ 20)), o_ 22 (.bin .gtr (t_ 21) (.const (.int .i64 20)))]
def f101g6 : List RO := [o_ 2 (.mv (.const (.bool .false)))]
def f101g7 : List RO := [o_ 13 (.mv (t_ 3)), o_ 14 (.bin .add (t_ 13) (.const (.int .i64 1))), o_ 3 (.mv (t_ 14))]
def f101b8 : RCode := (.seq (.seq (.reg .false f101g4) (.cond (t_ 12) .skip (.exit 0))) (.seq (.block 1 (.seq (.reg .false f101g5) (.cond (t_ 22) (.seq (.reg .false f101g6) .ret) .skip))) (.reg .false f101g7)))
def f101g9 : List RO := [o_ 2 (.mv (.const (.bool .true)))]
def f101c : RCode := (.seq (.reg .false f101g0) (.seq (.seq (.reg .false f101g1) (.cond (t_ 7) (.seq (.reg .false f101g2) .ret) .skip)) (.seq (.seq (.reg .false f101g3) (.block 0 (.loop f101b8))) (.seq (.reg .false f101g9) .ret))))
def f101r : List RRes := [(.tmp 2)]
attribute [push_cast] f101g0 f101g1 f101g2 f101g3 f101g4 f101g5 f101g6 f101g7 f101g9
def L_ref23_FewBlock_0 (N : Nat) (p0 : Block) : Nat → Int → Option Bool
  | 0, _ => none
  | m1+1, a1 => if? (decide (a1 < (p0.Runs.length : Int))) (get? p0.Runs (a1) fun x2 => if? (decide ((x2.Table.length : Int) > 20)) (some (false)) (ck .i64 (a1 + 1) (L_ref23_FewBlock_0 N p0 m1 (a1 + 1)))) (some (true))
def I_ref23_FewBlock_0 (N : Nat) (p0 : Block) (r : Bool) (n : Nat) (s : AState) : Prop := ∃ (a1 : Int), L_ref23_FewBlock_0 N p0 n a1 = some r ∧ s = ⟨envL [(1, .ptr (.O 0) 0), (3, .D (.I .i64 a1))], ownL [], ownL [some (.box ([.D (.I .i64 p0.Gauge), .D (.I .i64 p0.Level), .D (.I .i64 p0.From), .D (.I .i64 p0.To), .D (.I .i64 p0.Known), .D (.L (p0.Runs.map Run.row))]))], 1⟩
def F_ref23_FewBlock (N : Nat) (p0 : Block) : Option Bool := if? (decide ((p0.Runs.length : Int) > 12)) (some (false)) (L_ref23_FewBlock_0 N p0 N 0)
theorem c_ref23_FewBlock (N : Nat) (p0 : Block) (r : Bool) (h : F_ref23_FewBlock N p0 = some r) : ACall Tryd.prog 101 [.agg [.D (.I .i64 p0.Gauge), .D (.I .i64 p0.Level), .D (.I .i64 p0.From), .D (.I .i64 p0.To), .D (.I .i64 p0.Known), .D (.L (p0.Runs.map Run.row))]] [] (.D (.B r)) [] [] := by
 refine ACall.of_bodyW [] (fn := Tryd.f101) (rc := f101c) (rs := f101r) Tryd.func101 rfl rfl (by kernel_rfl) (by kernel_rfl) (by kernel_rfl) (by rw [Tryd.ntmps101]; simp) ?_
 unfold F_ref23_FewBlock at h
 unfold f101c f101r
 rw [entry_eq _ _]
 rcases F_if h with ⟨h1, h⟩ | ⟨h1, h⟩
 ·obtain rfl := Option.some.inj h
  simp only[push_cast,seval,h1]
  refine e_ret (.inr rfl) ?_
  simp only[push_cast,seval,aret,aresults,aresult,h1]
  refine ⟨_, rfl, ?_⟩
  first | (simp only[push_cast,seval,h1] <;> rfl) | rfl
 simp only[push_cast,seval,h1]
 refine loop_of (I_ref23_FewBlock_0 N p0 _) N [1, 3] [0] (by decide) ⟨0, h, ?_⟩ ?_
 ·rw [wk_mk]
  simp only[push_cast,seval,h1] <;> rfl
 rintro n s ⟨a1, h, rfl⟩
 rcases n with _ | m1
 ·exact absurd h (by simp [L_ref23_FewBlock_0])
 rw [L_ref23_FewBlock_0] at h
 unfold f101b8
 rcases F_if h with ⟨h2, h⟩ | ⟨h2, h⟩
 rotate_left
 ·obtain rfl := Option.some.inj h
  simp only[push_cast,seval,h1,h2]
  refine e_ret (.inr rfl) ?_
  simp only[push_cast,seval,aret,aresults,aresult,h1,h2]
  refine ⟨_, rfl, ?_⟩
  first | (simp only[push_cast,seval,h1,h2] <;> rfl) | rfl
 obtain ⟨x2, h3, h4, h⟩ := F_get h
 have h5 := get_lt h3 h4
 have h6 := map_get Run.row h4
 try simp only[push_cast,seval] at h6
 rcases F_if h with ⟨h7, h⟩ | ⟨h7, h⟩
 ·obtain rfl := Option.some.inj h
  simp only[push_cast,seval,h1,h2,h3,h6,h5,h7]
  refine e_ret (.inr rfl) ?_
  simp only[push_cast,seval,aret,aresults,aresult,h1,h2,h3,h6,h5,h7]
  refine ⟨_, rfl, ?_⟩
  first | (simp only[push_cast,seval,h1,h2,h3,h6,h5,h7] <;> rfl) | rfl
 obtain ⟨h8, h⟩ := F_ck h
 try simp only[push_cast,seval] at h8
 simp only[push_cast,seval,h1,h2,h3,h6,h5,h7,h8]
 refine lpK_of m1 [1, 3] [0] (by omega) (by decide) ⟨(a1 + 1), (by first | exact h | simpa only [*] using h), ?_⟩
 rw [wk_mk]
 simp only[push_cast,seval,h1,h2,h3,h6,h5,h7,h8] <;> rfl

def f51g0 : List RO := [o_ 2 (.box (t_ 0)), o_ 3 (.box (t_ 1)), o_ 4 (.mv (.const (.bool .false)))]
def f51g1 : List RO := [o_ 5 (.faddr 7 (t_ 2)), o_ 6 (.load (.some 1) (t_ 5)), o_ 7 (.call (.func 100) [(t_ 6)]), o_ 8 (.mv (t_ 7)), ⟨(.some 9), (.load (.some 6) (t_ 3)), (.some (8, .true))⟩, ⟨(.some 10), (.call (.func 101) [(t_ 9)]), (.some (8, .true))⟩, o_ 11 (.pick (t_ 8) (t_ 10) (.const (.bool .false))), o_ 4 (.mv (t_ 11))]
def f51c : RCode := (.seq (.reg .false f51g0) (.seq (.reg .false f51g1) .ret))
def f51r : List RRes := [(.tmp 4)]
attribute [push_cast] f51g0 f51g1
def F_law23_small (N : Nat) (p0 : Version) (p1 : Block) : Option Bool := bd? (F_ref14_FewPoints N p0.Curve) fun v1 => if? (v1) (bd? (F_ref23_FewBlock N p1) fun v2 => some (v2)) (some (false))
theorem c_law23_small (N : Nat) (p0 : Version) (p1 : Block) (r : Bool) (h : F_law23_small N p0 p1 = some r) : ACall Tryd.prog 51 [.agg [.D (.I .i64 p0.Kind), .D (.I .i64 p0.Gauge), .D (.I .i64 p0.Seq), .D (.I .i64 p0.Known), .D (.I .i64 p0.From), .D (.I .i64 p0.To), .D (.I .i64 p0.Shift), .D (.L (p0.Curve.Points.map Point.row))], .agg [.D (.I .i64 p1.Gauge), .D (.I .i64 p1.Level), .D (.I .i64 p1.From), .D (.I .i64 p1.To), .D (.I .i64 p1.Known), .D (.L (p1.Runs.map Run.row))]] [] (.D (.B r)) [] [] := by
 refine ACall.of_bodyW [] (fn := Tryd.f51) (rc := f51c) (rs := f51r) Tryd.func51 rfl rfl (by kernel_rfl) (by kernel_rfl) (by kernel_rfl) (by rw [Tryd.ntmps51]; simp) ?_
 unfold F_law23_small at h
 unfold f51c f51r
 rw [entry_eq _ _]
 obtain ⟨v1, h1, h⟩ := F_bd h
 simp only[push_cast,seval]
 refine call_flat (by rfl) (c_ref14_FewPoints N _ _ h1) ?_ rfl ?_
 ·simp only[push_cast,seval] <;> rfl
 rcases F_if h with ⟨h2, h⟩ | ⟨h2, h⟩
 rotate_left
 ·obtain rfl := Option.some.inj h
  simp only[push_cast,seval,h2]
  refine e_ret (.inr rfl) ?_
  simp only[push_cast,seval,aret,aresults,aresult,h2]
  refine ⟨_, rfl, ?_⟩
  first | (simp only[push_cast,seval,h2] <;> rfl) | rfl
 obtain ⟨v2, h3, h⟩ := F_bd h
 simp only[push_cast,seval,h2]
 refine call_flat (by rfl) (c_ref23_FewBlock N _ _ h3) ?_ rfl ?_
 ·simp only[push_cast,seval,h2] <;> rfl
 obtain rfl := Option.some.inj h
 simp only[push_cast,seval,h2]
 refine e_ret (.inr rfl) ?_
 simp only[push_cast,seval,aret,aresults,aresult,h2]
 refine ⟨_, rfl, ?_⟩
 first | (simp only[push_cast,seval,h2] <;> rfl) | rfl

def f140g0 : List RO := [o_ 4 (.mv (.const (.slice .none 0 0)))]
def f140g1 : List RO := [o_ 8 (.mv (t_ 0)), o_ 9 (.len .false (t_ 8)), o_ 10 (.call (.func 107) [(t_ 9)]), o_ 5 (.mv (t_ 10))]
def f140g2 : List RO := [o_ 11 (.mv (t_ 0)), o_ 12 (.len .false (t_ 11)), o_ 13 (.mv (.const (.int .i64 0)))]
def f140g3 : List RO := [o_ 14 (.bin .lss (t_ 13) (t_ 12))]
def f140g4 : List RO := [o_ 15 (.iaddr 1 (t_ 11) (t_ 13)), o_ 16 (.load .none (t_ 15)), o_ 7 (.mv (t_ 16))]
def f140g5 : List RO := [o_ 17 (.mv (t_ 5)), o_ 18 (.mv (t_ 1)), o_ 19 (.mv (t_ 7)), o_ 20 (.call (t_ 18) [(t_ 19)]), o_ 21 (.appE 1 1 (t_ 17) (t_ 20)), o_ 5 (.mv (t_ 21))]
def f140g6 : List RO := [o_ 22 (.bin .add (t_ 13) (.const (.int .i64 1))), o_ 13 (.mv (t_ 22))]
def f140b7 : RCode := (.seq (.reg .false f140g3) (.seq (.cond (t_ 14) .skip (.exit 0)) (.seq (.block 1 (.seq (.reg .false f140g4) (.reg .false f140g5))) (.reg .false f140g6))))
def f140g8 : List RO := [o_ 23 (.mv (t_ 5)), o_ 4 (.mv (t_ 23))]
def f140c : RCode := (.seq (.reg .false f140g0) (.seq (.reg .false f140g1) (.seq (.seq (.reg .false f140g2) (.block 0 (.loop f140b7))) (.seq (.reg .false f140g8) .ret))))
def f140r : List RRes := [(.tmp 4)]
attribute [push_cast] f140g0 f140g1 f140g2 f140g3 f140g4 f140g5 f140g6 f140g8
def L_wire_list_string_0 (N : Nat) (p0 : (List Str)) : Nat → Int → (List Int) → Option (List Int)
  | 0, _, _ => none
  | m1+1, a2, a3 => if? (decide (a2 < (p0.length : Int))) (get? p0 (a2) fun x4 => bd? (F_wire_Bytes N x4) fun v5 => gd? ((a3.length + v5.length) * 1 ≤ 140737488355328) (ck .i64 (a2 + 1) (L_wire_list_string_0 N p0 m1 (a2 + 1) (a3 ++ v5)))) (some (a3))
def I_wire_list_string_0 (N : Nat) (p0 : (List Str)) (r : (List Int)) (n : Nat) (s : AState) : Prop := ∃ (a2 : Int) (a3 : (List Int)), L_wire_list_string_0 N p0 n a2 a3 = some r ∧ s = ⟨envL [(1, .clo 118 []), (5, .sl (.O 0) 1 0 a3.length), (11, .D (.L (p0.map rS))), (12, .D (.I .i64 (p0.length : Int))), (13, .D (.I .i64 a2))], ownL [], ownL [some (.row true 1 (a3.map (rI .u8)))], 1⟩
def F_wire_list_string (N : Nat) (p0 : (List Str)) : Option (List Int) := bd? (F_wire_Int N (p0.length : Int)) fun v1 => L_wire_list_string_0 N p0 N 0 v1
theorem c_wire_list_string (N : Nat) (p0 : (List Str)) (r : (List Int)) (h : F_wire_list_string N p0 = some r) : ACall Tryd.prog 140 [.D (.L (p0.map rS)), .clo 118 []] [] (.sl (.O 0) 1 0 r.length) [] [.row true 1 (r.map (rI .u8))] := by
 refine ACall.of_bodyW [21] (fn := Tryd.f140) (rc := f140c) (rs := f140r) Tryd.func140 rfl rfl (by kernel_rfl) (by kernel_rfl) (by kernel_rfl) (by rw [Tryd.ntmps140]; simp) ?_
 unfold F_wire_list_string at h
 unfold f140c f140r
 rw [entry_eq _ _]
 obtain ⟨v1, h1, h⟩ := F_bd h
 simp only[push_cast,seval]
 refine call_new (by rfl) (c_wire_Int N _ _ h1) ?_ rfl ?_
 ·simp only[push_cast,seval] <;> rfl
 simp only[push_cast,seval]
 refine loop_of (I_wire_list_string_0 N p0 _) N [1, 5, 11, 12, 13] [0] (by decide) ⟨0, v1, h, ?_⟩ ?_
 ·rw [wk_mk]
  simp only[push_cast,seval] <;> rfl
 rintro n s ⟨a2, a3, h, rfl⟩
 rcases n with _ | m1
 ·exact absurd h (by simp [L_wire_list_string_0])
 rw [L_wire_list_string_0] at h
 unfold f140b7
 rcases F_if h with ⟨h2, h⟩ | ⟨h2, h⟩
 rotate_left
 ·obtain rfl := Option.some.inj h
  simp only[push_cast,seval,h2]
  refine AEndW.of [0] (.inr rfl) (by decide) rfl ?_ rfl ?_
  ·simp only[push_cast,seval,h2] <;> rfl
  ·simp only[push_cast,seval,h2] <;> rfl
 obtain ⟨x4, h3, h4, h⟩ := F_get h
 have h5 := get_lt h3 h4
 have h6 := map_get rS h4
 try simp only[push_cast,seval] at h6
 obtain ⟨v5, h7, h⟩ := F_bd h
 simp only[push_cast,seval,h2,h3,h6,h5]
 refine call_new (by rfl) (c_wire_Bytes N _ _ h7) ?_ rfl ?_
 ·simp only[push_cast,seval,h2,h3,h6,h5] <;> rfl
 obtain ⟨h8, h⟩ := F_gd h
 try simp only[push_cast,seval] at h8
 obtain ⟨h9, h⟩ := F_ck h
 try simp only[push_cast,seval] at h9
 simp only[push_cast,seval,h2,h3,h6,h5,h8,h9]
 refine lpK_of m1 [1, 5, 11, 12, 13] [2] (by omega) (by decide) ⟨(a2 + 1), (a3 ++ v5), (by first | exact h | simpa only [*] using h), ?_⟩
 rw [wk_mk]
 simp only[push_cast,seval,h2,h3,h6,h5,h8,h9] <;> rfl

def f108g0 : List RO := [o_ 2 (.mv (.const (.slice .none 0 0)))]
def f108g1 : List RO := [o_ 3 (.mv (t_ 0)), o_ 4 (.call (.func 140) [(t_ 3), (.func 118)]), o_ 2 (.mv (t_ 4))]
def f108c : RCode := (.seq (.reg .false f108g0) (.seq (.reg .false f108g1) .ret))
def f108r : List RRes := [(.tmp 2)]
attribute [push_cast] f108g0 f108g1
def F_wire_Strings (N : Nat) (p0 : (List Str)) : Option (List Int) := bd? (F_wire_list_string N p0) fun v1 => some (v1)
theorem c_wire_Strings (N : Nat) (p0 : (List Str)) (r : (List Int)) (h : F_wire_Strings N p0 = some r) : ACall Tryd.prog 108 [.D (.L (p0.map rS))] [] (.sl (.O 0) 1 0 r.length) [] [.row true 1 (r.map (rI .u8))] := by
 refine ACall.of_bodyW [] (fn := Tryd.f108) (rc := f108c) (rs := f108r) Tryd.func108 rfl rfl (by kernel_rfl) (by kernel_rfl) (by kernel_rfl) (by rw [Tryd.ntmps108]; simp) ?_
 unfold F_wire_Strings at h
 unfold f108c f108r
 rw [entry_eq _ _]
 obtain ⟨v1, h1, h⟩ := F_bd h
 simp only[push_cast,seval]
 refine call_new (by rfl) (c_wire_list_string N _ _ h1) ?_ rfl ?_
 ·simp only[push_cast,seval] <;> rfl
 obtain rfl := Option.some.inj h
 simp only[push_cast,seval]
 refine AEndW.of [0] (.inr rfl) (by decide) rfl ?_ rfl ?_
 ·simp only[push_cast,seval] <;> rfl
 ·simp only[push_cast,seval] <;> rfl

def f55g0 : List RO := [o_ 1 (.box (t_ 0)), o_ 2 (.mv (.const (.string ⟨#[]⟩)))]
def f55g1 : List RO := [o_ 3 (.mv (.const (.slice .none 0 0)))]
def f55g2 : List RO := [o_ 7 (.faddr 7 (t_ 1)), o_ 8 (.faddr 0 (t_ 7)), o_ 9 (.load .none (t_ 8)), o_ 10 (.len .false (t_ 9)), o_ 11 (.mv (.const (.int .i64 0)))]
def f55g3 : List RO := [o_ 12 (.bin .lss (t_ 11) (t_ 10))]
def f55g4 : List RO := [o_ 13 (.iaddr 4 (t_ 9) (t_ 11)), o_ 14 (.load (.some 4) (t_ 13)), o_ 5 (.new [(.D (.I .i64 0)), (.D (.B .false)), (.D (.S [])), (.D (.S []))]), n_ (.store 4 (t_ 5) (t_ 14))]
def f55g5 : List RO := [o_ 6 (.mv (.const (.int .i64 0)))]
def f55g6 : List RO := [o_ 15 (.faddr 1 (t_ 5)), o_ 16 (.faddr 0 (t_ 15)), o_ 17 (.load .none (t_ 16))]
def f55g7 : List RO := [o_ 6 (.mv (.const (.int .i64 1)))]
def f55g8 : List RO := [o_ 18 (.mv (t_ 3)), o_ 19 (.faddr 0 (t_ 5)), o_ 20 (.load .none (t_ 19)), o_ 21 (.call (.func 107) [(t_ 20)]), o_ 22 (.cvS (t_ 21)), o_ 23 (.mv (t_ 6)), o_ 24 (.call (.func 107) [(t_ 23)]), o_ 25 (.cvS (t_ 24)), o_ 26 (.faddr 1 (t_ 5)), o_ 27 (.faddr 1 (t_ 26)), o_ 28 (.load .none (t_ 27)), o_ 29 (.faddr 1 (t_ 5)), o_ 30 (.faddr 2 (t_ 29)), o_ 31 (.load .none (t_ 30)), o_ 32 (.bslice 1 [(t_ 22), (t_ 25), (t_ 28), (t_ 31)]), o_ 33 (.appE 1 16 (t_ 18) (t_ 32)), o_ 3 (.mv (t_ 33))]
def f55g9 : List RO := [o_ 34 (.bin .add (t_ 11) (.const (.int .i64 1))), o_ 11 (.mv (t_ 34))]
def f55b10 : RCode := (.seq (.reg .false f55g3) (.seq (.cond (t_ 12) .skip (.exit 0)) (.seq (.block 1 (.seq (.reg .false f55g4) (.seq (.reg .false f55g5) (.seq (.seq (.reg .false f55g6) (.cond (t_ 17) (.reg .false f55g7) .skip)) (.reg .true f55g8))))) (.reg .false f55g9))))
def f55g11 : List RO := [o_ 35 (.faddr 0 (t_ 1)), o_ 36 (.load .none (t_ 35)), o_ 37 (.faddr 1 (t_ 1)), o_ 38 (.load .none (t_ 37)), o_ 39 (.faddr 2 (t_ 1)), o_ 40 (.load .none (t_ 39)), o_ 41 (.faddr 3 (t_ 1)), o_ 42 (.load .none (t_ 41)), o_ 43 (.faddr 4 (t_ 1)), o_ 44 (.load .none (t_ 43)), o_ 45 (.faddr 5 (t_ 1)), o_ 46 (.load .none (t_ 45)), o_ 47 (.faddr 6 (t_ 1)), o_ 48 (.load .none (t_ 47)), o_ 49 (.bslice 1 [(.const (.int .i64 2)), (t_ 36), (t_ 38), (t_ 40), (t_ 42), (t_ 44), (t_ 46), (t_ 48)]), o_ 50 (.call (.func 104) [(t_ 49)]), o_ 51 (.mv (t_ 3)), o_ 52 (.call (.func 108) [(t_ 51)]), o_ 53 (.cvS (t_ 52)), o_ 54 (.bin .add (t_ 50) (t_ 53)), o_ 2 (.mv (t_ 54))]
def f55c : RCode := (.seq (.reg .false f55g0) (.seq (.reg .false f55g1) (.seq (.seq (.reg .false f55g2) (.block 0 (.loop f55b10))) (.seq (.reg .false f55g11) .ret))))
def f55r : List RRes := [(.tmp 2)]
attribute [push_cast] f55g0 f55g1 f55g2 f55g3 f55g4 f55g5 f55g6 f55g7 f55g8 f55g9 f55g11
def L_leaf_Version_0 (N : Nat) (p0 : Version) : Nat → Int → (List Str) → Option Str
  | 0, _, _ => none
  | m1+1, a1, a2 => if? (decide (a1 < (p0.Curve.Points.length : Int))) (get? p0.Curve.Points (a1) fun x3 => if? (x3.Flow.Neg) (bd? (F_wire_Int N x3.Stage) fun v4 => bd? (F_wire_Int N 1) fun v5 => gd? ((a2.length + [(bytesI v4), (bytesI v5), x3.Flow.Num, x3.Flow.Den].length) * 16 ≤ 140737488355328) (ck .i64 (a1 + 1) (L_leaf_Version_0 N p0 m1 (a1 + 1) (a2 ++ [(bytesI v4), (bytesI v5), x3.Flow.Num, x3.Flow.Den])))) (bd? (F_wire_Int N x3.Stage) fun v6 => bd? (F_wire_Int N 0) fun v7 => gd? ((a2.length + [(bytesI v6), (bytesI v7), x3.Flow.Num, x3.Flow.Den].length) * 16 ≤ 140737488355328) (ck .i64 (a1 + 1) (L_leaf_Version_0 N p0 m1 (a1 + 1) (a2 ++ [(bytesI v6), (bytesI v7), x3.Flow.Num, x3.Flow.Den]))))) (bd? (F_leaf_numbers N [2, p0.Kind, p0.Gauge, p0.Seq, p0.Known, p0.From, p0.To, p0.Shift]) fun v8 => bd? (F_wire_Strings N a2) fun v9 => gd? (v8.length + (bytesI v9).length ≤ 9223372036854775807) (some ((v8 ++ (bytesI v9)))))
def I_leaf_Version_0 (N : Nat) (p0 : Version) (r : Str) (n : Nat) (s : AState) : Prop := ∃ (a1 : Int) (a2 : (List Str)), L_leaf_Version_0 N p0 n a1 a2 = some r ∧ s = ⟨envL [(1, .ptr (.O 0) 0), (3, .sl (.O 1) 1 0 a2.length), (9, .D (.L (p0.Curve.Points.map Point.row))), (10, .D (.I .i64 (p0.Curve.Points.length : Int))), (11, .D (.I .i64 a1))], ownL [], ownL [some (.box ([.D (.I .i64 p0.Kind), .D (.I .i64 p0.Gauge), .D (.I .i64 p0.Seq), .D (.I .i64 p0.Known), .D (.I .i64 p0.From), .D (.I .i64 p0.To), .D (.I .i64 p0.Shift), .D (.L (p0.Curve.Points.map Point.row))])), some (.row true 1 (a2.map rS))], 2⟩
def F_leaf_Version (N : Nat) (p0 : Version) : Option Str := L_leaf_Version_0 N p0 N 0 []
theorem c_leaf_Version (N : Nat) (p0 : Version) (r : Str) (h : F_leaf_Version N p0 = some r) : ACall Tryd.prog 55 [.agg [.D (.I .i64 p0.Kind), .D (.I .i64 p0.Gauge), .D (.I .i64 p0.Seq), .D (.I .i64 p0.Known), .D (.I .i64 p0.From), .D (.I .i64 p0.To), .D (.I .i64 p0.Shift), .D (.L (p0.Curve.Points.map Point.row))]] [] (.D (.S r)) [] [] := by
 refine ACall.of_bodyW [33] (fn := Tryd.f55) (rc := f55c) (rs := f55r) Tryd.func55 rfl rfl (by kernel_rfl) (by kernel_rfl) (by kernel_rfl) (by rw [Tryd.ntmps55]; simp) ?_
 unfold F_leaf_Version at h
 unfold f55c f55r
 rw [entry_eq _ _]
 simp only[push_cast,seval]
 refine loop_own0 3 1 rfl ?_
 simp only[push_cast,seval]
 refine loop_of (I_leaf_Version_0 N p0 _) N [1, 3, 9, 10, 11] [0, 1] (by decide) ⟨0, [], h, ?_⟩ ?_
 ·rw [wk_mk]
  simp only[push_cast,seval] <;> rfl
 rintro n s ⟨a1, a2, h, rfl⟩
 rcases n with _ | m1
 ·exact absurd h (by simp [L_leaf_Version_0])
 rw [L_leaf_Version_0] at h
 unfold f55b10
 rcases F_if h with ⟨h1, h⟩ | ⟨h1, h⟩
 rotate_left
 ·obtain ⟨v8, h2, h⟩ := F_bd h
  simp only[push_cast,seval,h1]
  refine call_flat (by rfl) (c_leaf_numbers N _ _ h2) ?_ rfl ?_
  ·simp only[push_cast,seval,h1] <;> rfl
  obtain ⟨v9, h3, h⟩ := F_bd h
  simp only[push_cast,seval,h1]
  refine call_new (by rfl) (c_wire_Strings N _ _ h3) ?_ rfl ?_
  ·simp only[push_cast,seval,h1] <;> rfl
  obtain ⟨h4, h⟩ := F_gd h
  try simp only[push_cast,seval] at h4
  obtain rfl := Option.some.inj h
  simp only[push_cast,seval,h1,h4]
  refine e_ret (.inr rfl) ?_
  simp only[push_cast,seval,aret,aresults,aresult,h1,h4]
  refine ⟨_, rfl, ?_⟩
  first | (simp only[push_cast,seval,h1,h4] <;> rfl) | rfl
 obtain ⟨x3, h5, h6, h⟩ := F_get h
 have h7 := get_lt h5 h6
 have h8 := map_get Point.row h6
 try simp only[push_cast,seval] at h8
 rcases F_if h with ⟨h9, h⟩ | ⟨h9, h⟩
 ·obtain ⟨v4, h10, h⟩ := F_bd h
  simp only[push_cast,seval,h1,h5,h8,h7,h9]
  refine call_new (by rfl) (c_wire_Int N _ _ h10) ?_ rfl ?_
  ·simp only[push_cast,seval,h1,h5,h8,h7,h9] <;> rfl
  obtain ⟨v5, h11, h⟩ := F_bd h
  simp only[push_cast,seval,h1,h5,h8,h7,h9]
  refine call_new (by rfl) (c_wire_Int N _ _ h11) ?_ rfl ?_
  ·simp only[push_cast,seval,h1,h5,h8,h7,h9] <;> rfl
  obtain ⟨h12, h⟩ := F_gd h
  try simp only[push_cast,seval] at h12
  obtain ⟨h13, h⟩ := F_ck h
  try simp only[push_cast,seval] at h13
  simp only[push_cast,seval,h1,h5,h8,h7,h9,h12,h13]
  refine lpK_of m1 [1, 3, 9, 10, 11] [0, 6] (by omega) (by decide) ⟨(a1 + 1), (a2 ++ [(bytesI v4), (bytesI v5), x3.Flow.Num, x3.Flow.Den]), (by first | exact h | simpa only [*] using h), ?_⟩
  rw [wk_mk]
  simp only[push_cast,seval,h1,h5,h8,h7,h9,h12,h13] <;> rfl
 obtain ⟨v6, h14, h⟩ := F_bd h
 simp only[push_cast,seval,h1,h5,h8,h7,h9]
 refine call_new (by rfl) (c_wire_Int N _ _ h14) ?_ rfl ?_
 ·simp only[push_cast,seval,h1,h5,h8,h7,h9] <;> rfl
 obtain ⟨v7, h15, h⟩ := F_bd h
 simp only[push_cast,seval,h1,h5,h8,h7,h9]
 refine call_new (by rfl) (c_wire_Int N _ _ h15) ?_ rfl ?_
 ·simp only[push_cast,seval,h1,h5,h8,h7,h9] <;> rfl
 obtain ⟨h16, h⟩ := F_gd h
 try simp only[push_cast,seval] at h16
 obtain ⟨h17, h⟩ := F_ck h
 try simp only[push_cast,seval] at h17
 simp only[push_cast,seval,h1,h5,h8,h7,h9,h16,h17]
 refine lpK_of m1 [1, 3, 9, 10, 11] [0, 6] (by omega) (by decide) ⟨(a1 + 1), (a2 ++ [(bytesI v6), (bytesI v7), x3.Flow.Num, x3.Flow.Den]), (by first | exact h | simpa only [*] using h), ?_⟩
 rw [wk_mk]
 simp only[push_cast,seval,h1,h5,h8,h7,h9,h16,h17] <;> rfl

def f57g0 : List RO := [o_ 1 (.box (t_ 0)), o_ 2 (.mv (.const (.string ⟨#[]⟩)))]
def f57g1 : List RO := [o_ 3 (.mv (.const (.slice .none 0 0)))]
def f57g2 : List RO := [o_ 9 (.faddr 5 (t_ 1)), o_ 10 (.load .none (t_ 9)), o_ 11 (.len .false (t_ 10)), o_ 12 (.mv (.const (.int .i64 0)))]
def f57g3 : List RO := [o_ 13 (.bin .lss (t_ 12) (t_ 11))]
def f57g4 : List RO := [o_ 14 (.iaddr 5 (t_ 10) (t_ 12)), o_ 15 (.load (.some 5) (t_ 14)), o_ 5 (.new [(.D (.I .i64 0)), (.D (.I .i64 0)), (.fl []), (.D (.I .i64 0)), (.D (.I .i64 0))]), n_ (.store 5 (t_ 5) (t_ 15))]
def f57g5 : List RO := [o_ 16 (.faddr 0 (t_ 5)), o_ 17 (.load .none (t_ 16)), o_ 18 (.faddr 1 (t_ 5)), o_ 19 (.load .none (t_ 18)), o_ 20 (.faddr 3 (t_ 5)), o_ 21 (.load .none (t_ 20)), o_ 22 (.faddr 4 (t_ 5)), o_ 23 (.load .none (t_ 22)), o_ 24 (.bslice 1 [(t_ 17), (t_ 19), (t_ 21), (t_ 23)]), o_ 6 (.mv (t_ 24))]
def f57g6 : List RO := [o_ 25 (.faddr 2 (t_ 5)), o_ 26 (.load .none (t_ 25)), o_ 27 (.len .false (t_ 26)), o_ 28 (.mv (.const (.int .i64 0)))]
def f57g7 : List RO := [o_ 29 (.bin .lss (t_ 28) (t_ 27))]
def f57g8 : List RO := [o_ 30 (.iaddr 2 (t_ 26) (t_ 28)), o_ 31 (.load (.some 2) (t_ 30)), o_ 8 (.new [(.D (.I .i64 0)), (.D (.I .i64 0))]), n_ (.store 2 (t_ 8) (t_ 31))]
def f57g9 : List RO := [o_ 32 (.mv (t_ 6)), o_ 33 (.faddr 0 (t_ 8)), o_ 34 (.load .none (t_ 33)), o_ 35 (.faddr 1 (t_ 8)), o_ 36 (.load .none (t_ 35)), o_ 37 (.bslice 1 [(t_ 34), (t_ 36)]), o_ 38 (.appE 1 8 (t_ 32) (t_ 37)), o_ 6 (.mv (t_ 38))]
def f57g10 : List RO := [o_ 39 (.bin .add (t_ 28) (.const (.int .i64 1))), o_ 28 (.mv (t_ 39))]
def f57b11 : RCode := (.seq (.reg .false f57g7) (.seq (.cond (t_ 29) .skip (.exit 2)) (.seq (.block 3 (.seq (.reg .false f57g8) (.reg .false f57g9))) (.reg .false f57g10))))
def f57g12 : List RO := [o_ 40 (.mv (t_ 3)), o_ 41 (.mv (t_ 6)), o_ 42 (.call (.func 104) [(t_ 41)]), o_ 43 (.bslice 1 [(t_ 42)]), o_ 44 (.appE 1 16 (t_ 40) (t_ 43)), o_ 3 (.mv (t_ 44))]
def f57g13 : List RO := [o_ 45 (.bin .add (t_ 12) (.const (.int .i64 1))), o_ 12 (.mv (t_ 45))]
def f57b14 : RCode := (.seq (.reg .false f57g3) (.seq (.cond (t_ 13) .skip (.exit 0)) (.seq (.block 1 (.seq (.reg .false f57g4) (.seq (.reg .false f57g5) (.seq (.seq (.reg .false f57g6) (.block 2 (.loop f57b11))) (.reg .false f57g12))))) (.reg .false f57g13))))
def f57g15 : List RO := [o_ 46 (.faddr 0 (t_ 1)), o_ 47 (.load .none (t_ 46)), o_ 48 (.faddr 1 (t_ 1)), o_ 49 (.load .none (t_ 48)), o_ 50 (.faddr 2 (t_ 1)), o_ 51 (.load .none (t_ 50)), o_ 52 (.faddr 3 (t_ 1)), o_ 53 (.load .none (t_ 52)), o_ 54 (.faddr 4 (t_ 1)), o_ 55 (.load .none (t_ 54)), o_ 56 (.bslice 1 [(.const (.int .i64 3)), (t_ 47), (t_ 49), (t_ 51), (t_ 53), (t_ 55)]), o_ 57 (.call (.func 104) [(t_ 56)]), o_ 58 (.mv (t_ 3)), o_ 59 (.call (.func 108) [(t_ 58)]), o_ 60 (.cvS (t_ 59)), o_ 61 (.bin .add (t_ 57) (t_ 60)), o_ 2 (.mv (t_ 61))]
def f57c : RCode := (.seq (.reg .false f57g0) (.seq (.reg .false f57g1) (.seq (.seq (.reg .false f57g2) (.block 0 (.loop f57b14))) (.seq (.reg .false f57g15) .ret))))
def f57r : List RRes := [(.tmp 2)]
attribute [push_cast] f57g0 f57g1 f57g2 f57g3 f57g4 f57g5 f57g6 f57g7 f57g8 f57g9 f57g10 f57g12 f57g13 f57g15
def L_leaf_Block_1 (N : Nat) (k0 : Int → Int → Int → Int → Int → Int → (List Run) → (List Str) → Option Str) (a1 : Int) (a2 : Int) (a3 : Int) (a4 : Int) (a5 : Int) (a6 : Int) (a7 : (List Run)) (a8 : (List Str)) (x9 : Run) : Nat → Int → (List Int) → Option Str
  | 0, _, _ => none
  | m2+1, a10, a11 => if? (decide (a10 < (x9.Table.length : Int))) (get? x9.Table (a10) fun x12 => gd? ((a11.length + [x12.Stage, x12.Ticks].length) * 8 ≤ 140737488355328) (ck .i64 (a10 + 1) (L_leaf_Block_1 N k0 a1 a2 a3 a4 a5 a6 a7 a8 x9 m2 (a10 + 1) (a11 ++ [x12.Stage, x12.Ticks])))) (bd? (F_leaf_numbers N a11) fun v13 => gd? ((a8.length + [v13].length) * 16 ≤ 140737488355328) (ck .i64 (a1 + 1) (k0 (a1 + 1) a2 a3 a4 a5 a6 a7 (a8 ++ [v13]))))
def I_leaf_Block_1 (N : Nat) (k0 : Int → Int → Int → Int → Int → Int → (List Run) → (List Str) → Option Str) (p0 : Block) (a1 : Int) (a2 : Int) (a3 : Int) (a4 : Int) (a5 : Int) (a6 : Int) (a7 : (List Run)) (a8 : (List Str)) (x9 : Run) (r : Str) (n : Nat) (s : AState) : Prop := ∃ (a10 : Int) (a11 : (List Int)), L_leaf_Block_1 N k0 a1 a2 a3 a4 a5 a6 a7 a8 x9 n a10 a11 = some r ∧ s = ⟨envL [(1, .ptr (.O 0) 0), (3, .sl (.O 1) 1 0 a8.length), (6, .sl (.O 2) 1 0 a11.length), (10, .D (.L (p0.Runs.map Run.row))), (11, .D (.I .i64 (p0.Runs.length : Int))), (12, .D (.I .i64 a1)), (26, .D (.L (x9.Table.map Hold.row))), (27, .D (.I .i64 (x9.Table.length : Int))), (28, .D (.I .i64 a10))], ownL [], ownL [some (.box ([.D (.I .i64 a2), .D (.I .i64 a3), .D (.I .i64 a4), .D (.I .i64 a5), .D (.I .i64 a6), .D (.L (a7.map Run.row))])), some (.row true 1 (a8.map rS)), some (.row true 1 (a11.map (rI .i64)))], 3⟩
def L_leaf_Block_0 (N : Nat) (p0 : Block) : Nat → Int → Int → Int → Int → Int → Int → (List Run) → (List Str) → Option Str
  | 0, _, _, _, _, _, _, _, _ => none
  | m1+1, a1, a2, a3, a4, a5, a6, a7, a8 => if? (decide (a1 < (p0.Runs.length : Int))) (get? p0.Runs (a1) fun x9 => L_leaf_Block_1 N (L_leaf_Block_0 N p0 m1) a1 a2 a3 a4 a5 a6 a7 a8 x9 N 0 [x9.From, x9.To, x9.Lo, x9.Hi]) (bd? (F_leaf_numbers N [3, a2, a3, a4, a5, a6]) fun v14 => bd? (F_wire_Strings N a8) fun v15 => gd? (v14.length + (bytesI v15).length ≤ 9223372036854775807) (some ((v14 ++ (bytesI v15)))))
def I_leaf_Block_0 (N : Nat) (p0 : Block) (r : Str) (n : Nat) (s : AState) : Prop := ∃ (a1 : Int) (a2 : Int) (a3 : Int) (a4 : Int) (a5 : Int) (a6 : Int) (a7 : (List Run)) (a8 : (List Str)), L_leaf_Block_0 N p0 n a1 a2 a3 a4 a5 a6 a7 a8 = some r ∧ s = ⟨envL [(1, .ptr (.O 0) 0), (3, .sl (.O 1) 1 0 a8.length), (10, .D (.L (p0.Runs.map Run.row))), (11, .D (.I .i64 (p0.Runs.length : Int))), (12, .D (.I .i64 a1))], ownL [], ownL [some (.box ([.D (.I .i64 a2), .D (.I .i64 a3), .D (.I .i64 a4), .D (.I .i64 a5), .D (.I .i64 a6), .D (.L (a7.map Run.row))])), some (.row true 1 (a8.map rS))], 2⟩
def F_leaf_Block (N : Nat) (p0 : Block) : Option Str := L_leaf_Block_0 N p0 N 0 p0.Gauge p0.Level p0.From p0.To p0.Known p0.Runs []
theorem c_leaf_Block (N : Nat) (p0 : Block) (r : Str) (h : F_leaf_Block N p0 = some r) : ACall Tryd.prog 57 [.agg [.D (.I .i64 p0.Gauge), .D (.I .i64 p0.Level), .D (.I .i64 p0.From), .D (.I .i64 p0.To), .D (.I .i64 p0.Known), .D (.L (p0.Runs.map Run.row))]] [] (.D (.S r)) [] [] := by
 refine ACall.of_bodyW [38, 44] (fn := Tryd.f57) (rc := f57c) (rs := f57r) Tryd.func57 rfl rfl (by kernel_rfl) (by kernel_rfl) (by kernel_rfl) (by rw [Tryd.ntmps57]; simp) ?_
 unfold F_leaf_Block at h
 unfold f57c f57r
 rw [entry_eq _ _]
 simp only[push_cast,seval]
 refine loop_own0 3 1 rfl ?_
 simp only[push_cast,seval]
 refine loop_of (I_leaf_Block_0 N p0 _) N [1, 3, 10, 11, 12] [0, 1] (by decide) ⟨0, p0.Gauge, p0.Level, p0.From, p0.To, p0.Known, p0.Runs, [], h, ?_⟩ ?_
 ·rw [wk_mk]
  simp only[push_cast,seval] <;> rfl
 rintro n s ⟨a1, a2, a3, a4, a5, a6, a7, a8, h, rfl⟩
 rcases n with _ | m1
 ·exact absurd h (by simp [L_leaf_Block_0])
 rw [L_leaf_Block_0] at h
 unfold f57b14
 rcases F_if h with ⟨h1, h⟩ | ⟨h1, h⟩
 rotate_left
 ·obtain ⟨v14, h2, h⟩ := F_bd h
  simp only[push_cast,seval,h1]
  refine call_flat (by rfl) (c_leaf_numbers N _ _ h2) ?_ rfl ?_
  ·simp only[push_cast,seval,h1] <;> rfl
  obtain ⟨v15, h3, h⟩ := F_bd h
  simp only[push_cast,seval,h1]
  refine call_new (by rfl) (c_wire_Strings N _ _ h3) ?_ rfl ?_
  ·simp only[push_cast,seval,h1] <;> rfl
  obtain ⟨h4, h⟩ := F_gd h
  try simp only[push_cast,seval] at h4
  obtain rfl := Option.some.inj h
  simp only[push_cast,seval,h1,h4]
  refine e_ret (.inr rfl) ?_
  simp only[push_cast,seval,aret,aresults,aresult,h1,h4]
  refine ⟨_, rfl, ?_⟩
  first | (simp only[push_cast,seval,h1,h4] <;> rfl) | rfl
 obtain ⟨x9, h5, h6, h⟩ := F_get h
 have h7 := get_lt h5 h6
 have h8 := map_get Run.row h6
 try simp only[push_cast,seval] at h8
 simp only[push_cast,seval,h1,h5,h8,h7]
 refine loop_of (I_leaf_Block_1 N (L_leaf_Block_0 N p0 m1) p0 a1 a2 a3 a4 a5 a6 a7 a8 x9 _) N [1, 3, 6, 10, 11, 12, 26, 27, 28] [0, 1, 3] (by decide) ⟨0, [x9.From, x9.To, x9.Lo, x9.Hi], h, ?_⟩ ?_
 ·rw [wk_mk]
  simp only[push_cast,seval,h1,h5,h8,h7] <;> rfl
 rintro n s ⟨a10, a11, h, rfl⟩
 rcases n with _ | m2
 ·exact absurd h (by simp [L_leaf_Block_1])
 rw [L_leaf_Block_1] at h
 unfold f57b11
 rcases F_if h with ⟨h9, h⟩ | ⟨h9, h⟩
 ·obtain ⟨x12, h10, h11, h⟩ := F_get h
  have h12 := get_lt h10 h11
  have h13 := map_get Hold.row h11
  try simp only[push_cast,seval] at h13
  obtain ⟨h14, h⟩ := F_gd h
  try simp only[push_cast,seval] at h14
  obtain ⟨h15, h⟩ := F_ck h
  try simp only[push_cast,seval] at h15
  simp only[push_cast,seval,h1,h5,h8,h7,h9,h10,h13,h12,h14,h15]
  refine lpK_of m2 [1, 3, 6, 10, 11, 12, 26, 27, 28] [0, 1, 5] (by omega) (by decide) ⟨(a10 + 1), (a11 ++ [x12.Stage, x12.Ticks]), (by first | exact h | simpa only [*] using h), ?_⟩
  rw [wk_mk]
  simp only[push_cast,seval,h1,h5,h8,h7,h9,h10,h13,h12,h14,h15] <;> rfl
 obtain ⟨v13, h16, h⟩ := F_bd h
 simp only[push_cast,seval,h1,h5,h8,h7,h9]
 refine call_flat (by rfl) (c_leaf_numbers N _ _ h16) ?_ rfl ?_
 ·simp only[push_cast,seval,h1,h5,h8,h7,h9] <;> rfl
 obtain ⟨h17, h⟩ := F_gd h
 try simp only[push_cast,seval] at h17
 obtain ⟨h18, h⟩ := F_ck h
 try simp only[push_cast,seval] at h18
 simp only[push_cast,seval,h1,h5,h8,h7,h9,h17,h18]
 refine lpK_of m1 [1, 3, 10, 11, 12] [0, 4] (by omega) (by decide) ⟨(a1 + 1), a2, a3, a4, a5, a6, a7, (a8 ++ [v13]), (by first | exact h | simpa only [*] using h), ?_⟩
 rw [wk_mk]
 simp only[push_cast,seval,h1,h5,h8,h7,h9,h17,h18] <;> rfl

def f110g0 : List RO := [o_ 2 (.box (t_ 0)), o_ 3 (.box (t_ 1)), o_ 4 (.mv (.const (.bool .false)))]
def f110g1 : List RO := [o_ 6 (.faddr 0 (t_ 2)), o_ 7 (.load .none (t_ 6)), o_ 8 (.len .false (t_ 7)), o_ 9 (.faddr 0 (t_ 3)), o_ 10 (.load .none (t_ 9)), o_ 11 (.len .false (t_ 10)), o_ 12 (.bin .neq (t_ 8) (t_ 11))]
def f110g2 : List RO := [o_ 4 (.mv (.const (.bool .false)))]
def f110g3 : List RO := [o_ 5 (.mv (.const (.int .i64 0)))]
def f110g4 : List RO := [o_ 13 (.mv (t_ 5)), o_ 14 (.faddr 0 (t_ 2)), o_ 15 (.load .none (t_ 14)), o_ 16 (.len .false (t_ 15)), o_ 17 (.bin .lss (t_ 13) (t_ 16))]
def f110g5 : List RO := [o_ 20 (.faddr 0 (t_ 2)), o_ 21 (.load .none (t_ 20)), o_ 22 (.mv (t_ 5)), o_ 23 (.iaddr 4 (t_ 21) (t_ 22)), o_ 24 (.load (.some 4) (t_ 23)), o_ 25 (.faddr 0 (t_ 3)), o_ 26 (.load .none (t_ 25)), o_ 27 (.mv (t_ 5)), o_ 28 (.iaddr 4 (t_ 26) (t_ 27)), o_ 29 (.load (.some 4) (t_ 28)), o_ 30 (.eqg .true [(.s 1), (.s 0), (.s 2), (.s 2)] (t_ 24) (t_ 29))]
def f110g6 : List RO := [o_ 4 (.mv (.const (.bool .false)))]
def f110g7 : List RO := [o_ 18 (.mv (t_ 5)), o_ 19 (.bin .add (t_ 18) (.const (.int .i64 1))), o_ 5 (.mv (t_ 19))]
def f110b8 : RCode := (.seq (.seq (.reg .false f110g4) (.cond (t_ 17) .skip (.exit 0))) (.seq (.block 1 (.seq (.reg .true f110g5) (.cond (t_ 30) (.seq (.reg .false f110g6) .ret) .skip))) (.reg .false f110g7)))
def f110g9 : List RO := [o_ 4 (.mv (.const (.bool .true)))]
def f110c : RCode := (.seq (.reg .false f110g0) (.seq (.seq (.reg .false f110g1) (.cond (t_ 12) (.seq (.reg .false f110g2) .ret) .skip)) (.seq (.seq (.reg .false f110g3) (.block 0 (.loop f110b8))) (.seq (.reg .false f110g9) .ret))))
def f110r : List RRes := [(.tmp 4)]
attribute [push_cast] f110g0 f110g1 f110g2 f110g3 f110g4 f110g5 f110g6 f110g7 f110g9
def L_ref14_SameCurve_0 (N : Nat) (p0 : Curve) (p1 : Curve) : Nat → Int → Option Bool
  | 0, _ => none
  | m1+1, a1 => if? (decide (a1 < (p0.Points.length : Int))) (get? p0.Points (a1) fun x2 => get? p1.Points (a1) fun x3 => if? (((x2.Stage == x3.Stage) && ((x2.Flow.Neg == x3.Flow.Neg) && ((x2.Flow.Num == x3.Flow.Num) && (x2.Flow.Den == x3.Flow.Den))))) (ck .i64 (a1 + 1) (L_ref14_SameCurve_0 N p0 p1 m1 (a1 + 1))) (some (false))) (some (true))
def I_ref14_SameCurve_0 (N : Nat) (p0 : Curve) (p1 : Curve) (r : Bool) (n : Nat) (s : AState) : Prop := ∃ (a1 : Int), L_ref14_SameCurve_0 N p0 p1 n a1 = some r ∧ s = ⟨envL [(2, .ptr (.O 0) 0), (3, .ptr (.O 1) 0), (5, .D (.I .i64 a1))], ownL [], ownL [some (.box ([.D (.L (p0.Points.map Point.row))])), some (.box ([.D (.L (p1.Points.map Point.row))]))], 2⟩
def F_ref14_SameCurve (N : Nat) (p0 : Curve) (p1 : Curve) : Option Bool := if? (((p0.Points.length : Int) != (p1.Points.length : Int))) (some (false)) (L_ref14_SameCurve_0 N p0 p1 N 0)
theorem c_ref14_SameCurve (N : Nat) (p0 : Curve) (p1 : Curve) (r : Bool) (h : F_ref14_SameCurve N p0 p1 = some r) : ACall Tryd.prog 110 [.agg [.D (.L (p0.Points.map Point.row))], .agg [.D (.L (p1.Points.map Point.row))]] [] (.D (.B r)) [] [] := by
 refine ACall.of_bodyW [] (fn := Tryd.f110) (rc := f110c) (rs := f110r) Tryd.func110 rfl rfl (by kernel_rfl) (by kernel_rfl) (by kernel_rfl) (by rw [Tryd.ntmps110]; simp) ?_
 unfold F_ref14_SameCurve at h
 unfold f110c f110r
 rw [entry_eq _ _]
 rcases F_if h with ⟨h1, h⟩ | ⟨h1, h⟩
 ·obtain rfl := Option.some.inj h
  simp only[push_cast,seval,h1]
  refine e_ret (.inr rfl) ?_
  simp only[push_cast,seval,aret,aresults,aresult,h1]
  refine ⟨_, rfl, ?_⟩
  first | (simp only[push_cast,seval,h1] <;> rfl) | rfl
 simp only[push_cast,seval,h1]
 refine loop_of (I_ref14_SameCurve_0 N p0 p1 _) N [2, 3, 5] [0, 1] (by decide) ⟨0, h, ?_⟩ ?_
 ·rw [wk_mk]
  simp only[push_cast,seval,h1] <;> rfl
 rintro n s ⟨a1, h, rfl⟩
 rcases n with _ | m1
 ·exact absurd h (by simp [L_ref14_SameCurve_0])
 rw [L_ref14_SameCurve_0] at h
 unfold f110b8
 rcases F_if h with ⟨h2, h⟩ | ⟨h2, h⟩
 rotate_left
 ·obtain rfl := Option.some.inj h
  simp only[push_cast,seval,h1,h2]
  refine e_ret (.inr rfl) ?_
  simp only[push_cast,seval,aret,aresults,aresult,h1,h2]
  refine ⟨_, rfl, ?_⟩
  first | (simp only[push_cast,seval,h1,h2] <;> rfl) | rfl
 obtain ⟨x2, h3, h4, h⟩ := F_get h
 have h5 := get_lt h3 h4
 have h6 := map_get Point.row h4
 try simp only[push_cast,seval] at h6
 obtain ⟨x3, h7, h8, h⟩ := F_get h
 have h9 := get_lt h7 h8
 have h10 := map_get Point.row h8
 try simp only[push_cast,seval] at h10
 rcases F_if h with ⟨h11, h⟩ | ⟨h11, h⟩
 ·obtain ⟨h12, h⟩ := F_ck h
  try simp only[push_cast,seval] at h12
  simp only[push_cast,seval,h1,h2,h3,h6,h5,h7,h10,h9,h11,h12]
  refine lpK_of m1 [2, 3, 5] [0, 1] (by omega) (by decide) ⟨(a1 + 1), (by first | exact h | simpa only [*] using h), ?_⟩
  rw [wk_mk]
  simp only[push_cast,seval,h1,h2,h3,h6,h5,h7,h10,h9,h11,h12] <;> rfl
 obtain rfl := Option.some.inj h
 simp only[push_cast,seval,h1,h2,h3,h6,h5,h7,h10,h9,h11]
 refine e_ret (.inr rfl) ?_
 simp only[push_cast,seval,aret,aresults,aresult,h1,h2,h3,h6,h5,h7,h10,h9,h11]
 refine ⟨_, rfl, ?_⟩
 first | (simp only[push_cast,seval,h1,h2,h3,h6,h5,h7,h10,h9,h11] <;> rfl) | rfl

def f58g0 : List RO := [o_ 2 (.box (t_ 0)), o_ 3 (.box (t_ 1)), o_ 4 (.mv (.const (.bool .false)))]
def f58g1 : List RO := [o_ 6 (.faddr 7 (t_ 2)), o_ 7 (.load (.some 1) (t_ 6)), o_ 8 (.faddr 7 (t_ 3)), o_ 9 (.load (.some 1) (t_ 8)), o_ 10 (.call (.func 110) [(t_ 7), (t_ 9)]), o_ 5 (.mv (t_ 10))]
def f58g2 : List RO := [o_ 11 (.mv (t_ 5)), o_ 12 (.mv (t_ 11)), ⟨(.some 13), (.faddr 0 (t_ 2)), (.some (12, .true))⟩, ⟨(.some 14), (.load .none (t_ 13)), (.some (12, .true))⟩, ⟨(.some 15), (.faddr 0 (t_ 3)), (.some (12, .true))⟩, ⟨(.some 16), (.load .none (t_ 15)), (.some (12, .true))⟩, ⟨(.some 17), (.bin .eql (t_ 14) (t_ 16)), (.some (12, .true))⟩, o_ 18 (.pick (t_ 12) (t_ 17) (.const (.bool .false))), o_ 19 (.mv (t_ 18)), ⟨(.some 20), (.faddr 1 (t_ 2)), (.some (19, .true))⟩, ⟨(.some 21), (.load .none (t_ 20)), (.some (19, .true))⟩, ⟨(.some 22), (.faddr 1 (t_ 3)), (.some (19, .true))⟩, ⟨(.some 23), (.load .none (t_ 22)), (.some (19, .true))⟩, ⟨(.some 24), (.bin .eql (t_ 21) (t_ 23)), (.some (19, .true))⟩, o_ 25 (.pick (t_ 19) (t_ 24) (.const (.bool .false))), o_ 26 (.mv (t_ 25)), ⟨(.some 27), (.faddr 2 (t_ 2)), (.some (26, .true))⟩, ⟨(.some 28), (.load .none (t_ 27)), (.some (26, .true))⟩, ⟨(.some 29), (.faddr 2 (t_ 3)), (.some (26, .true))⟩, ⟨(.some 30), (.load .none (t_ 29)), (.some (26, .true))⟩, ⟨(.some 31), (.bin .eql (t_ 28) (t_ 30)), (.some (26, .true))⟩, o_ 32 (.pick (t_ 26) (t_ 31) (.const (.bool .false))), o_ 33 (.mv (t_ 32)), ⟨(.some 34), (.faddr 3 (t_ 2)), (.some (33, .true))⟩, ⟨(.some 35), (.load .none (t_ 34)), (.some (33, .true))⟩, ⟨(.some 36), (.faddr 3 (t_ 3)), (.some (33, .true))⟩, ⟨(.some 37), (.load .none (t_ 36)), (.some (33, .true))⟩, ⟨(.some 38), (.bin .eql (t_ 35) (t_ 37)), (.some (33, .true))⟩, o_ 39 (.pick (t_ 33) (t_ 38) (.const (.bool .false))), o_ 40 (.mv (t_ 39)), ⟨(.some 41), (.faddr 4 (t_ 2)), (.some (40, .true))⟩, ⟨(.some 42), (.load .none (t_ 41)), (.some (40, .true))⟩, ⟨(.some 43), (.faddr 4 (t_ 3)), (.some (40, .true))⟩, ⟨(.some 44), (.load .none (t_ 43)), (.some (40, .true))⟩, ⟨(.some 45), (.bin .eql (t_ 42) (t_ 44)), (.some (40, .true))⟩, o_ 46 (.pick (t_ 40) (t_ 45) (.const (.bool .false))), o_ 47 (.mv (t_ 46)), ⟨(.some 48), (.faddr 5 (t_ 2)), (.some (47, .true))⟩, ⟨(.some 49), (.load .none (t_ 48)), (.some (47, .true))⟩, ⟨(.some 50), (.faddr 5 (t_ 3)), (.some (47, .true))⟩, ⟨(.some 51), (.load .none (t_ 50)), (.some (47, .true))⟩, ⟨(.some 52), (.bin .eql (t_ 49) (t_ 51)), (.some (47, .true))⟩, o_ 53 (.pick (t_ 47) (t_ 52) (.const (.bool .false))), o_ 54 (.mv (t_ 53)), ⟨(.some 55), (.faddr 6 (t_ 2)), (.some (54, .true))⟩, ⟨(.some 56), (.load .none (t_ 55)), (.some (54, .true))⟩, ⟨(.some 57), (.faddr 6 (t_ 3)), (.some (54, .true))⟩, ⟨(.some 58), (.load .none (t_ 57)), (.some (54, .true))⟩, ⟨(.some 59), (.bin .eql (t_ 56) (t_ 58)), (.some (54, .true))⟩, o_ 60 (.pick (t_ 54) (t_ 59) (.const (.bool .false))), o_ 4 (.mv (t_ 60))]
def f58c : RCode := (.seq (.reg .false f58g0) (.seq (.reg .false f58g1) (.seq (.reg .false f58g2) .ret)))
def f58r : List RRes := [(.tmp 4)]
attribute [push_cast] f58g0 f58g1 f58g2
def F_ref14_Same (N : Nat) (p0 : Version) (p1 : Version) : Option Bool := bd? (F_ref14_SameCurve N p0.Curve p1.Curve) fun v1 => if? (v1) (if? ((p0.Kind == p1.Kind)) (if? ((p0.Gauge == p1.Gauge)) (if? ((p0.Seq == p1.Seq)) (if? ((p0.Known == p1.Known)) (if? ((p0.From == p1.From)) (if? ((p0.To == p1.To)) (some ((p0.Shift == p1.Shift))) (some (false))) (some (false))) (some (false))) (some (false))) (some (false))) (some (false))) (some (false))
theorem c_ref14_Same (N : Nat) (p0 : Version) (p1 : Version) (r : Bool) (h : F_ref14_Same N p0 p1 = some r) : ACall Tryd.prog 58 [.agg [.D (.I .i64 p0.Kind), .D (.I .i64 p0.Gauge), .D (.I .i64 p0.Seq), .D (.I .i64 p0.Known), .D (.I .i64 p0.From), .D (.I .i64 p0.To), .D (.I .i64 p0.Shift), .D (.L (p0.Curve.Points.map Point.row))], .agg [.D (.I .i64 p1.Kind), .D (.I .i64 p1.Gauge), .D (.I .i64 p1.Seq), .D (.I .i64 p1.Known), .D (.I .i64 p1.From), .D (.I .i64 p1.To), .D (.I .i64 p1.Shift), .D (.L (p1.Curve.Points.map Point.row))]] [] (.D (.B r)) [] [] := by
 refine ACall.of_bodyW [] (fn := Tryd.f58) (rc := f58c) (rs := f58r) Tryd.func58 rfl rfl (by kernel_rfl) (by kernel_rfl) (by kernel_rfl) (by rw [Tryd.ntmps58]; simp) ?_
 unfold F_ref14_Same at h
 unfold f58c f58r
 rw [entry_eq _ _]
 obtain ⟨v1, h1, h⟩ := F_bd h
 simp only[push_cast,seval]
 refine call_flat (by rfl) (c_ref14_SameCurve N _ _ _ h1) ?_ rfl ?_
 ·simp only[push_cast,seval] <;> rfl
 rcases F_if h with ⟨h2, h⟩ | ⟨h2, h⟩
 rotate_left
 ·obtain rfl := Option.some.inj h
  simp only[push_cast,seval,h2]
  refine e_ret (.inr rfl) ?_
  simp only[push_cast,seval,aret,aresults,aresult,h2]
  refine ⟨_, rfl, ?_⟩
  first | (simp only[push_cast,seval,h2] <;> rfl) | rfl
 rcases F_if h with ⟨h3, h⟩ | ⟨h3, h⟩
 rotate_left
 ·obtain rfl := Option.some.inj h
  simp only[push_cast,seval,h2,h3]
  refine e_ret (.inr rfl) ?_
  simp only[push_cast,seval,aret,aresults,aresult,h2,h3]
  refine ⟨_, rfl, ?_⟩
  first | (simp only[push_cast,seval,h2,h3] <;> rfl) | rfl
 rcases F_if h with ⟨h4, h⟩ | ⟨h4, h⟩
 rotate_left
 ·obtain rfl := Option.some.inj h
  simp only[push_cast,seval,h2,h3,h4]
  refine e_ret (.inr rfl) ?_
  simp only[push_cast,seval,aret,aresults,aresult,h2,h3,h4]
  refine ⟨_, rfl, ?_⟩
  first | (simp only[push_cast,seval,h2,h3,h4] <;> rfl) | rfl
 rcases F_if h with ⟨h5, h⟩ | ⟨h5, h⟩
 rotate_left
 ·obtain rfl := Option.some.inj h
  simp only[push_cast,seval,h2,h3,h4,h5]
  refine e_ret (.inr rfl) ?_
  simp only[push_cast,seval,aret,aresults,aresult,h2,h3,h4,h5]
  refine ⟨_, rfl, ?_⟩
  first | (simp only[push_cast,seval,h2,h3,h4,h5] <;> rfl) | rfl
 rcases F_if h with ⟨h6, h⟩ | ⟨h6, h⟩
 rotate_left
 ·obtain rfl := Option.some.inj h
  simp only[push_cast,seval,h2,h3,h4,h5,h6]
  refine e_ret (.inr rfl) ?_
  simp only[push_cast,seval,aret,aresults,aresult,h2,h3,h4,h5,h6]
  refine ⟨_, rfl, ?_⟩
  first | (simp only[push_cast,seval,h2,h3,h4,h5,h6] <;> rfl) | rfl
 rcases F_if h with ⟨h7, h⟩ | ⟨h7, h⟩
 rotate_left
 ·obtain rfl := Option.some.inj h
  simp only[push_cast,seval,h2,h3,h4,h5,h6,h7]
  refine e_ret (.inr rfl) ?_
  simp only[push_cast,seval,aret,aresults,aresult,h2,h3,h4,h5,h6,h7]
  refine ⟨_, rfl, ?_⟩
  first | (simp only[push_cast,seval,h2,h3,h4,h5,h6,h7] <;> rfl) | rfl
 rcases F_if h with ⟨h8, h⟩ | ⟨h8, h⟩
 ·obtain rfl := Option.some.inj h
  simp only[push_cast,seval,h2,h3,h4,h5,h6,h7,h8]
  refine e_ret (.inr rfl) ?_
  simp only[push_cast,seval,aret,aresults,aresult,h2,h3,h4,h5,h6,h7,h8]
  refine ⟨_, rfl, ?_⟩
  first | (simp only[push_cast,seval,h2,h3,h4,h5,h6,h7,h8] <;> rfl) | rfl
 obtain rfl := Option.some.inj h
 simp only[push_cast,seval,h2,h3,h4,h5,h6,h7,h8]
 refine e_ret (.inr rfl) ?_
 simp only[push_cast,seval,aret,aresults,aresult,h2,h3,h4,h5,h6,h7,h8]
 refine ⟨_, rfl, ?_⟩
 first | (simp only[push_cast,seval,h2,h3,h4,h5,h6,h7,h8] <;> rfl) | rfl

def f113g0 : List RO := [o_ 4 (.mv (.const (.bool .false)))]
def f113g1 : List RO := [o_ 6 (.mv (t_ 0)), o_ 7 (.len .false (t_ 6)), o_ 8 (.mv (t_ 1)), o_ 9 (.len .false (t_ 8)), o_ 10 (.bin .neq (t_ 7) (t_ 9))]
def f113g2 : List RO := [o_ 4 (.mv (.const (.bool .false)))]
def f113g3 : List RO := [o_ 11 (.mv (t_ 0)), o_ 12 (.len .false (t_ 11)), o_ 13 (.mv (.const (.int .i64 0)))]
def f113g4 : List RO := [o_ 14 (.bin .lss (t_ 13) (t_ 12))]
def f113g5 : List RO := [o_ 15 (.mv (t_ 13)), o_ 5 (.mv (t_ 15))]
def f113g6 : List RO := [o_ 16 (.mv (t_ 0)), o_ 17 (.mv (t_ 5)), o_ 18 (.iaddr 2 (t_ 16) (t_ 17)), o_ 19 (.load (.some 2) (t_ 18)), o_ 20 (.mv (t_ 1)), o_ 21 (.mv (t_ 5)), o_ 22 (.iaddr 2 (t_ 20) (t_ 21)), o_ 23 (.load (.some 2) (t_ 22)), o_ 24 (.eqs .true [1, 1] (t_ 19) (t_ 23))]
def f113g7 : List RO := [o_ 4 (.mv (.const (.bool .false)))]
def f113g8 : List RO := [o_ 25 (.bin .add (t_ 13) (.const (.int .i64 1))), o_ 13 (.mv (t_ 25))]
def f113b9 : RCode := (.seq (.reg .false f113g4) (.seq (.cond (t_ 14) .skip (.exit 0)) (.seq (.block 1 (.seq (.reg .false f113g5) (.seq (.reg .true f113g6) (.cond (t_ 24) (.seq (.reg .false f113g7) .ret) .skip)))) (.reg .false f113g8))))
def f113g10 : List RO := [o_ 4 (.mv (.const (.bool .true)))]
def f113c : RCode := (.seq (.reg .false f113g0) (.seq (.seq (.reg .false f113g1) (.cond (t_ 10) (.seq (.reg .false f113g2) .ret) .skip)) (.seq (.seq (.reg .false f113g3) (.block 0 (.loop f113b9))) (.seq (.reg .false f113g10) .ret))))
def f113r : List RRes := [(.tmp 4)]
attribute [push_cast] f113g0 f113g1 f113g2 f113g3 f113g4 f113g5 f113g6 f113g7 f113g8 f113g10
def L_slices_Equal_Hold_Hold_0 (N : Nat) (p0 : (List Hold)) (p1 : (List Hold)) : Nat → Int → Option Bool
  | 0, _ => none
  | m1+1, a1 => if? (decide (a1 < (p0.length : Int))) (get? p0 (a1) fun x2 => get? p1 (a1) fun x3 => if? (((x2.Stage == x3.Stage) && (x2.Ticks == x3.Ticks))) (ck .i64 (a1 + 1) (L_slices_Equal_Hold_Hold_0 N p0 p1 m1 (a1 + 1))) (some (false))) (some (true))
def I_slices_Equal_Hold_Hold_0 (N : Nat) (p0 : (List Hold)) (p1 : (List Hold)) (r : Bool) (n : Nat) (s : AState) : Prop := ∃ (a1 : Int), L_slices_Equal_Hold_Hold_0 N p0 p1 n a1 = some r ∧ s = ⟨envL [(0, .D (.L (p0.map Hold.row))), (1, .D (.L (p1.map Hold.row))), (12, .D (.I .i64 (p0.length : Int))), (13, .D (.I .i64 a1))], ownL [], ownL [], 0⟩
def F_slices_Equal_Hold_Hold (N : Nat) (p0 : (List Hold)) (p1 : (List Hold)) : Option Bool := if? (((p0.length : Int) != (p1.length : Int))) (some (false)) (L_slices_Equal_Hold_Hold_0 N p0 p1 N 0)
theorem c_slices_Equal_Hold_Hold (N : Nat) (p0 : (List Hold)) (p1 : (List Hold)) (r : Bool) (h : F_slices_Equal_Hold_Hold N p0 p1 = some r) : ACall Tryd.prog 113 [.D (.L (p0.map Hold.row)), .D (.L (p1.map Hold.row))] [] (.D (.B r)) [] [] := by
 refine ACall.of_bodyW [] (fn := Tryd.f113) (rc := f113c) (rs := f113r) Tryd.func113 rfl rfl (by kernel_rfl) (by kernel_rfl) (by kernel_rfl) (by rw [Tryd.ntmps113]; simp) ?_
 unfold F_slices_Equal_Hold_Hold at h
 unfold f113c f113r
 rw [entry_eq _ _]
 rcases F_if h with ⟨h1, h⟩ | ⟨h1, h⟩
 ·obtain rfl := Option.some.inj h
  simp only[push_cast,seval,h1]
  refine e_ret (.inr rfl) ?_
  simp only[push_cast,seval,aret,aresults,aresult,h1]
  refine ⟨_, rfl, ?_⟩
  first | (simp only[push_cast,seval,h1] <;> rfl) | rfl
 simp only[push_cast,seval,h1]
 refine loop_of (I_slices_Equal_Hold_Hold_0 N p0 p1 _) N [0, 1, 12, 13] [] (by decide) ⟨0, h, ?_⟩ ?_
 ·rw [wk_mk]
  simp only[push_cast,seval,h1] <;> rfl
 rintro n s ⟨a1, h, rfl⟩
 rcases n with _ | m1
 ·exact absurd h (by simp [L_slices_Equal_Hold_Hold_0])
 rw [L_slices_Equal_Hold_Hold_0] at h
 unfold f113b9
 rcases F_if h with ⟨h2, h⟩ | ⟨h2, h⟩
 rotate_left
 ·obtain rfl := Option.some.inj h
  simp only[push_cast,seval,h1,h2]
  refine e_ret (.inr rfl) ?_
  simp only[push_cast,seval,aret,aresults,aresult,h1,h2]
  refine ⟨_, rfl, ?_⟩
  first | (simp only[push_cast,seval,h1,h2] <;> rfl) | rfl
 obtain ⟨x2, h3, h4, h⟩ := F_get h
 have h5 := get_lt h3 h4
 have h6 := map_get Hold.row h4
 try simp only[push_cast,seval] at h6
 obtain ⟨x3, h7, h8, h⟩ := F_get h
 have h9 := get_lt h7 h8
 have h10 := map_get Hold.row h8
 try simp only[push_cast,seval] at h10
 rcases F_if h with ⟨h11, h⟩ | ⟨h11, h⟩
 ·obtain ⟨h12, h⟩ := F_ck h
  try simp only[push_cast,seval] at h12
  simp only[push_cast,seval,h1,h2,h3,h6,h5,h7,h10,h9,h11,h12]
  refine lpK_of m1 [0, 1, 12, 13] [] (by omega) (by decide) ⟨(a1 + 1), (by first | exact h | simpa only [*] using h), ?_⟩
  rw [wk_mk]
  simp only[push_cast,seval,h1,h2,h3,h6,h5,h7,h10,h9,h11,h12] <;> rfl
 obtain rfl := Option.some.inj h
 simp only[push_cast,seval,h1,h2,h3,h6,h5,h7,h10,h9,h11]
 refine e_ret (.inr rfl) ?_
 simp only[push_cast,seval,aret,aresults,aresult,h1,h2,h3,h6,h5,h7,h10,h9,h11]
 refine ⟨_, rfl, ?_⟩
 first | (simp only[push_cast,seval,h1,h2,h3,h6,h5,h7,h10,h9,h11] <;> rfl) | rfl

def f112g0 : List RO := [o_ 2 (.box (t_ 0)), o_ 3 (.box (t_ 1)), o_ 4 (.mv (.const (.bool .false)))]
def f112g1 : List RO := [o_ 5 (.faddr 0 (t_ 2)), o_ 6 (.load .none (t_ 5)), o_ 7 (.faddr 0 (t_ 3)), o_ 8 (.load .none (t_ 7)), o_ 9 (.bin .eql (t_ 6) (t_ 8)), o_ 10 (.mv (t_ 9)), ⟨(.some 11), (.faddr 1 (t_ 2)), (.some (10, .true))⟩, ⟨(.some 12), (.load .none (t_ 11)), (.some (10, .true))⟩, ⟨(.some 13), (.faddr 1 (t_ 3)), (.some (10, .true))⟩, ⟨(.some 14), (.load .none (t_ 13)), (.some (10, .true))⟩, ⟨(.some 15), (.bin .eql (t_ 12) (t_ 14)), (.some (10, .true))⟩, o_ 16 (.pick (t_ 10) (t_ 15) (.const (.bool .false))), o_ 17 (.mv (t_ 16)), ⟨(.some 18), (.faddr 3 (t_ 2)), (.some (17, .true))⟩, ⟨(.some 19), (.load .none (t_ 18)), (.some (17, .true))⟩, ⟨(.some 20), (.faddr 3 (t_ 3)), (.some (17, .true))⟩, ⟨(.some 21), (.load .none (t_ 20)), (.some (17, .true))⟩, ⟨(.some 22), (.bin .eql (t_ 19) (t_ 21)), (.some (17, .true))⟩, o_ 23 (.pick (t_ 17) (t_ 22) (.const (.bool .false))), o_ 24 (.mv (t_ 23)), ⟨(.some 25), (.faddr 4 (t_ 2)), (.some (24, .true))⟩, ⟨(.some 26), (.load .none (t_ 25)), (.some (24, .true))⟩, ⟨(.some 27), (.faddr 4 (t_ 3)), (.some (24, .true))⟩, ⟨(.some 28), (.load .none (t_ 27)), (.some (24, .true))⟩, ⟨(.some 29), (.bin .eql (t_ 26) (t_ 28)), (.some (24, .true))⟩, o_ 30 (.pick (t_ 24) (t_ 29) (.const (.bool .false))), o_ 31 (.mv (t_ 30)), ⟨(.some 32), (.faddr 2 (t_ 2)), (.some (31, .true))⟩, ⟨(.some 33), (.load .none (t_ 32)), (.some (31, .true))⟩, ⟨(.some 34), (.faddr 2 (t_ 3)), (.some (31, .true))⟩, ⟨(.some 35), (.load .none (t_ 34)), (.some (31, .true))⟩, ⟨(.some 36), (.call (.func 113) [(t_ 33), (t_ 35)]), (.some (31, .true))⟩, o_ 37 (.pick (t_ 31) (t_ 36) (.const (.bool .false))), o_ 4 (.mv (t_ 37))]
def f112c : RCode := (.seq (.reg .false f112g0) (.seq (.reg .false f112g1) .ret))
def f112r : List RRes := [(.tmp 4)]
attribute [push_cast] f112g0 f112g1
def F_law23_same_1 (N : Nat) (p0 : Run) (p1 : Run) : Option Bool := if? ((p0.From == p1.From)) (if? ((p0.To == p1.To)) (if? ((p0.Lo == p1.Lo)) (if? ((p0.Hi == p1.Hi)) (bd? (F_slices_Equal_Hold_Hold N p0.Table p1.Table) fun v1 => some (v1)) (some (false))) (some (false))) (some (false))) (some (false))
theorem c_law23_same_1 (N : Nat) (p0 : Run) (p1 : Run) (r : Bool) (h : F_law23_same_1 N p0 p1 = some r) : ACall Tryd.prog 112 [.agg [.D (.I .i64 p0.From), .D (.I .i64 p0.To), .D (.L (p0.Table.map Hold.row)), .D (.I .i64 p0.Lo), .D (.I .i64 p0.Hi)], .agg [.D (.I .i64 p1.From), .D (.I .i64 p1.To), .D (.L (p1.Table.map Hold.row)), .D (.I .i64 p1.Lo), .D (.I .i64 p1.Hi)]] [] (.D (.B r)) [] [] := by
 refine ACall.of_bodyW [] (fn := Tryd.f112) (rc := f112c) (rs := f112r) Tryd.func112 rfl rfl (by kernel_rfl) (by kernel_rfl) (by kernel_rfl) (by rw [Tryd.ntmps112]; simp) ?_
 unfold F_law23_same_1 at h
 unfold f112c f112r
 rw [entry_eq _ _]
 rcases F_if h with ⟨h1, h⟩ | ⟨h1, h⟩
 rotate_left
 ·obtain rfl := Option.some.inj h
  simp only[push_cast,seval,h1]
  refine e_ret (.inr rfl) ?_
  simp only[push_cast,seval,aret,aresults,aresult,h1]
  refine ⟨_, rfl, ?_⟩
  first | (simp only[push_cast,seval,h1] <;> rfl) | rfl
 rcases F_if h with ⟨h2, h⟩ | ⟨h2, h⟩
 rotate_left
 ·obtain rfl := Option.some.inj h
  simp only[push_cast,seval,h1,h2]
  refine e_ret (.inr rfl) ?_
  simp only[push_cast,seval,aret,aresults,aresult,h1,h2]
  refine ⟨_, rfl, ?_⟩
  first | (simp only[push_cast,seval,h1,h2] <;> rfl) | rfl
 rcases F_if h with ⟨h3, h⟩ | ⟨h3, h⟩
 rotate_left
 ·obtain rfl := Option.some.inj h
  simp only[push_cast,seval,h1,h2,h3]
  refine e_ret (.inr rfl) ?_
  simp only[push_cast,seval,aret,aresults,aresult,h1,h2,h3]
  refine ⟨_, rfl, ?_⟩
  first | (simp only[push_cast,seval,h1,h2,h3] <;> rfl) | rfl
 rcases F_if h with ⟨h4, h⟩ | ⟨h4, h⟩
 rotate_left
 ·obtain rfl := Option.some.inj h
  simp only[push_cast,seval,h1,h2,h3,h4]
  refine e_ret (.inr rfl) ?_
  simp only[push_cast,seval,aret,aresults,aresult,h1,h2,h3,h4]
  refine ⟨_, rfl, ?_⟩
  first | (simp only[push_cast,seval,h1,h2,h3,h4] <;> rfl) | rfl
 obtain ⟨v1, h5, h⟩ := F_bd h
 simp only[push_cast,seval,h1,h2,h3,h4]
 refine call_flat (by rfl) (c_slices_Equal_Hold_Hold N _ _ _ h5) ?_ rfl ?_
 ·simp only[push_cast,seval,h1,h2,h3,h4] <;> rfl
 obtain rfl := Option.some.inj h
 simp only[push_cast,seval,h1,h2,h3,h4]
 refine e_ret (.inr rfl) ?_
 simp only[push_cast,seval,aret,aresults,aresult,h1,h2,h3,h4]
 refine ⟨_, rfl, ?_⟩
 first | (simp only[push_cast,seval,h1,h2,h3,h4] <;> rfl) | rfl

def f111g0 : List RO := [o_ 6 (.mv (.const (.bool .false)))]
def f111g1 : List RO := [o_ 10 (.mv (t_ 0)), o_ 11 (.len .false (t_ 10)), o_ 12 (.mv (t_ 1)), o_ 13 (.len .false (t_ 12)), o_ 14 (.bin .neq (t_ 11) (t_ 13))]
def f111g2 : List RO := [o_ 6 (.mv (.const (.bool .false)))]
def f111g3 : List RO := [o_ 15 (.mv (t_ 0)), o_ 16 (.len .false (t_ 15)), o_ 17 (.mv (.const (.int .i64 0)))]
def f111g4 : List RO := [o_ 18 (.bin .lss (t_ 17) (t_ 16))]
def f111g5 : List RO := [o_ 19 (.mv (t_ 17)), o_ 20 (.iaddr 5 (t_ 15) (t_ 17)), o_ 21 (.load (.some 5) (t_ 20)), o_ 8 (.new [(.D (.I .i64 0)), (.D (.I .i64 0)), (.fl []), (.D (.I .i64 0)), (.D (.I .i64 0))]), o_ 7 (.mv (t_ 19)), n_ (.store 5 (t_ 8) (t_ 21))]
def f111g6 : List RO := [o_ 22 (.mv (t_ 1)), o_ 23 (.mv (t_ 7)), o_ 24 (.iaddr 5 (t_ 22) (t_ 23)), o_ 25 (.load (.some 5) (t_ 24)), o_ 9 (.new [(.D (.I .i64 0)), (.D (.I .i64 0)), (.fl []), (.D (.I .i64 0)), (.D (.I .i64 0))]), n_ (.store 5 (t_ 9) (t_ 25))]
def f111g7 : List RO := [o_ 26 (.mv (t_ 2)), o_ 27 (.load (.some 5) (t_ 8)), o_ 28 (.load (.some 5) (t_ 9)), o_ 29 (.call (t_ 26) [(t_ 27), (t_ 28)]), o_ 30 (.un .not (t_ 29))]
def f111g8 : List RO := [o_ 6 (.mv (.const (.bool .false)))]
def f111g9 : List RO := [o_ 31 (.bin .add (t_ 17) (.const (.int .i64 1))), o_ 17 (.mv (t_ 31))]
def f111b10 : RCode := (.seq (.reg .false f111g4) (.seq (.cond (t_ 18) .skip (.exit 0)) (.seq (.block 1 (.seq (.reg .false f111g5) (.seq (.reg .false f111g6) (.seq (.reg .false f111g7) (.cond (t_ 30) (.seq (.reg .false f111g8) .ret) .skip))))) (.reg .false f111g9))))
def f111g11 : List RO := [o_ 6 (.mv (.const (.bool .true)))]
def f111c : RCode := (.seq (.reg .false f111g0) (.seq (.seq (.reg .false f111g1) (.cond (t_ 14) (.seq (.reg .false f111g2) .ret) .skip)) (.seq (.seq (.reg .false f111g3) (.block 0 (.loop f111b10))) (.seq (.reg .false f111g11) .ret))))
def f111r : List RRes := [(.tmp 6)]
attribute [push_cast] f111g0 f111g1 f111g2 f111g3 f111g4 f111g5 f111g6 f111g7 f111g8 f111g9 f111g11
def L_slices_EqualFunc_Run_Run_0 (N : Nat) (p0 : (List Run)) (p1 : (List Run)) : Nat → Int → Option Bool
  | 0, _ => none
  | m1+1, a1 => if? (decide (a1 < (p0.length : Int))) (get? p0 (a1) fun x2 => get? p1 (a1) fun x3 => bd? (F_law23_same_1 N x2 x3) fun v4 => if? (v4) (ck .i64 (a1 + 1) (L_slices_EqualFunc_Run_Run_0 N p0 p1 m1 (a1 + 1))) (some (false))) (some (true))
def I_slices_EqualFunc_Run_Run_0 (N : Nat) (p0 : (List Run)) (p1 : (List Run)) (r : Bool) (n : Nat) (s : AState) : Prop := ∃ (a1 : Int), L_slices_EqualFunc_Run_Run_0 N p0 p1 n a1 = some r ∧ s = ⟨envL [(1, .D (.L (p1.map Run.row))), (2, .clo 112 []), (15, .D (.L (p0.map Run.row))), (16, .D (.I .i64 (p0.length : Int))), (17, .D (.I .i64 a1))], ownL [], ownL [], 0⟩
def F_slices_EqualFunc_Run_Run (N : Nat) (p0 : (List Run)) (p1 : (List Run)) : Option Bool := if? (((p0.length : Int) != (p1.length : Int))) (some (false)) (L_slices_EqualFunc_Run_Run_0 N p0 p1 N 0)
theorem c_slices_EqualFunc_Run_Run (N : Nat) (p0 : (List Run)) (p1 : (List Run)) (r : Bool) (h : F_slices_EqualFunc_Run_Run N p0 p1 = some r) : ACall Tryd.prog 111 [.D (.L (p0.map Run.row)), .D (.L (p1.map Run.row)), .clo 112 []] [] (.D (.B r)) [] [] := by
 refine ACall.of_bodyW [] (fn := Tryd.f111) (rc := f111c) (rs := f111r) Tryd.func111 rfl rfl (by kernel_rfl) (by kernel_rfl) (by kernel_rfl) (by rw [Tryd.ntmps111]; simp) ?_
 unfold F_slices_EqualFunc_Run_Run at h
 unfold f111c f111r
 rw [entry_eq _ _]
 rcases F_if h with ⟨h1, h⟩ | ⟨h1, h⟩
 ·obtain rfl := Option.some.inj h
  simp only[push_cast,seval,h1]
  refine e_ret (.inr rfl) ?_
  simp only[push_cast,seval,aret,aresults,aresult,h1]
  refine ⟨_, rfl, ?_⟩
  first | (simp only[push_cast,seval,h1] <;> rfl) | rfl
 simp only[push_cast,seval,h1]
 refine loop_of (I_slices_EqualFunc_Run_Run_0 N p0 p1 _) N [1, 2, 15, 16, 17] [] (by decide) ⟨0, h, ?_⟩ ?_
 ·rw [wk_mk]
  simp only[push_cast,seval,h1] <;> rfl
 rintro n s ⟨a1, h, rfl⟩
 rcases n with _ | m1
 ·exact absurd h (by simp [L_slices_EqualFunc_Run_Run_0])
 rw [L_slices_EqualFunc_Run_Run_0] at h
 unfold f111b10
 rcases F_if h with ⟨h2, h⟩ | ⟨h2, h⟩
 rotate_left
 ·obtain rfl := Option.some.inj h
  simp only[push_cast,seval,h1,h2]
  refine e_ret (.inr rfl) ?_
  simp only[push_cast,seval,aret,aresults,aresult,h1,h2]
  refine ⟨_, rfl, ?_⟩
  first | (simp only[push_cast,seval,h1,h2] <;> rfl) | rfl
 obtain ⟨x2, h3, h4, h⟩ := F_get h
 have h5 := get_lt h3 h4
 have h6 := map_get Run.row h4
 try simp only[push_cast,seval] at h6
 obtain ⟨x3, h7, h8, h⟩ := F_get h
 have h9 := get_lt h7 h8
 have h10 := map_get Run.row h8
 try simp only[push_cast,seval] at h10
 obtain ⟨v4, h11, h⟩ := F_bd h
 simp only[push_cast,seval,h1,h2,h3,h6,h5,h7,h10,h9]
 refine call_flat (by rfl) (c_law23_same_1 N _ _ _ h11) ?_ rfl ?_
 ·simp only[push_cast,seval,h1,h2,h3,h6,h5,h7,h10,h9] <;> rfl
 rcases F_if h with ⟨h12, h⟩ | ⟨h12, h⟩
 ·obtain ⟨h13, h⟩ := F_ck h
  try simp only[push_cast,seval] at h13
  simp only[push_cast,seval,h1,h2,h3,h6,h5,h7,h10,h9,h12,h13]
  refine lpK_of m1 [1, 2, 15, 16, 17] [] (by omega) (by decide) ⟨(a1 + 1), (by first | exact h | simpa only [*] using h), ?_⟩
  rw [wk_mk]
  simp only[push_cast,seval,h1,h2,h3,h6,h5,h7,h10,h9,h12,h13] <;> rfl
 obtain rfl := Option.some.inj h
 simp only[push_cast,seval,h1,h2,h3,h6,h5,h7,h10,h9,h12]
 refine e_ret (.inr rfl) ?_
 simp only[push_cast,seval,aret,aresults,aresult,h1,h2,h3,h6,h5,h7,h10,h9,h12]
 refine ⟨_, rfl, ?_⟩
 first | (simp only[push_cast,seval,h1,h2,h3,h6,h5,h7,h10,h9,h12] <;> rfl) | rfl

def f59g0 : List RO := [o_ 2 (.box (t_ 0)), o_ 3 (.box (t_ 1)), o_ 4 (.mv (.const (.bool .false)))]
def f59g1 : List RO := [o_ 5 (.faddr 0 (t_ 2)), o_ 6 (.load .none (t_ 5)), o_ 7 (.faddr 0 (t_ 3)), o_ 8 (.load .none (t_ 7)), o_ 9 (.bin .neq (t_ 6) (t_ 8)), o_ 10 (.mv (t_ 9)), ⟨(.some 11), (.faddr 1 (t_ 2)), (.some (10, .false))⟩, ⟨(.some 12), (.load .none (t_ 11)), (.some (10, .false))⟩, ⟨(.some 13), (.faddr 1 (t_ 3)), (.some (10, .false))⟩, ⟨(.some 14), (.load .none (t_ 13)), (.some (10, .false))⟩, ⟨(.some 15), (.bin .neq (t_ 12) (t_ 14)), (.some (10, .false))⟩, o_ 16 (.pick (t_ 10) (.const (.bool .true)) (t_ 15)), o_ 17 (.mv (t_ 16)), ⟨(.some 18), (.faddr 2 (t_ 2)), (.some (17, .false))⟩, ⟨(.some 19), (.load .none (t_ 18)), (.some (17, .false))⟩, ⟨(.some 20), (.faddr 2 (t_ 3)), (.some (17, .false))⟩, ⟨(.some 21), (.load .none (t_ 20)), (.some (17, .false))⟩, ⟨(.some 22), (.bin .neq (t_ 19) (t_ 21)), (.some (17, .false))⟩, o_ 23 (.pick (t_ 17) (.const (.bool .true)) (t_ 22)), o_ 24 (.mv (t_ 23)), ⟨(.some 25), (.faddr 3 (t_ 2)), (.some (24, .false))⟩, ⟨(.some 26), (.load .none (t_ 25)), (.some (24, .false))⟩, ⟨(.some 27), (.faddr 3 (t_ 3)), (.some (24, .false))⟩, ⟨(.some 28), (.load .none (t_ 27)), (.some (24, .false))⟩, ⟨(.some 29), (.bin .neq (t_ 26) (t_ 28)), (.some (24, .false))⟩, o_ 30 (.pick (t_ 24) (.const (.bool .true)) (t_ 29)), o_ 31 (.mv (t_ 30)), ⟨(.some 32), (.faddr 4 (t_ 2)), (.some (31, .false))⟩, ⟨(.some 33), (.load .none (t_ 32)), (.some (31, .false))⟩, ⟨(.some 34), (.faddr 4 (t_ 3)), (.some (31, .false))⟩, ⟨(.some 35), (.load .none (t_ 34)), (.some (31, .false))⟩, ⟨(.some 36), (.bin .neq (t_ 33) (t_ 35)), (.some (31, .false))⟩, o_ 37 (.pick (t_ 31) (.const (.bool .true)) (t_ 36))]
def f59g2 : List RO := [o_ 4 (.mv (.const (.bool .false)))]
def f59g3 : List RO := [o_ 38 (.faddr 5 (t_ 2)), o_ 39 (.load .none (t_ 38)), o_ 40 (.faddr 5 (t_ 3)), o_ 41 (.load .none (t_ 40)), o_ 42 (.call (.func 111) [(t_ 39), (t_ 41), (.func 112)]), o_ 4 (.mv (t_ 42))]
def f59c : RCode := (.seq (.reg .false f59g0) (.seq (.seq (.reg .false f59g1) (.cond (t_ 37) (.seq (.reg .false f59g2) .ret) .skip)) (.seq (.reg .false f59g3) .ret)))
def f59r : List RRes := [(.tmp 4)]
attribute [push_cast] f59g0 f59g1 f59g2 f59g3
def F_law23_same (N : Nat) (p0 : Block) (p1 : Block) : Option Bool := if? ((p0.Gauge != p1.Gauge)) (some (false)) (if? ((p0.Level != p1.Level)) (some (false)) (if? ((p0.From != p1.From)) (some (false)) (if? ((p0.To != p1.To)) (some (false)) (if? ((p0.Known != p1.Known)) (some (false)) (bd? (F_slices_EqualFunc_Run_Run N p0.Runs p1.Runs) fun v1 => some (v1))))))
theorem c_law23_same (N : Nat) (p0 : Block) (p1 : Block) (r : Bool) (h : F_law23_same N p0 p1 = some r) : ACall Tryd.prog 59 [.agg [.D (.I .i64 p0.Gauge), .D (.I .i64 p0.Level), .D (.I .i64 p0.From), .D (.I .i64 p0.To), .D (.I .i64 p0.Known), .D (.L (p0.Runs.map Run.row))], .agg [.D (.I .i64 p1.Gauge), .D (.I .i64 p1.Level), .D (.I .i64 p1.From), .D (.I .i64 p1.To), .D (.I .i64 p1.Known), .D (.L (p1.Runs.map Run.row))]] [] (.D (.B r)) [] [] := by
 refine ACall.of_bodyW [] (fn := Tryd.f59) (rc := f59c) (rs := f59r) Tryd.func59 rfl rfl (by kernel_rfl) (by kernel_rfl) (by kernel_rfl) (by rw [Tryd.ntmps59]; simp) ?_
 unfold F_law23_same at h
 unfold f59c f59r
 rw [entry_eq _ _]
 rcases F_if h with ⟨h1, h⟩ | ⟨h1, h⟩
 ·obtain rfl := Option.some.inj h
  simp only[push_cast,seval,h1]
  refine e_ret (.inr rfl) ?_
  simp only[push_cast,seval,aret,aresults,aresult,h1]
  refine ⟨_, rfl, ?_⟩
  first | (simp only[push_cast,seval,h1] <;> rfl) | rfl
 rcases F_if h with ⟨h2, h⟩ | ⟨h2, h⟩
 ·obtain rfl := Option.some.inj h
  simp only[push_cast,seval,h1,h2]
  refine e_ret (.inr rfl) ?_
  simp only[push_cast,seval,aret,aresults,aresult,h1,h2]
  refine ⟨_, rfl, ?_⟩
  first | (simp only[push_cast,seval,h1,h2] <;> rfl) | rfl
 rcases F_if h with ⟨h3, h⟩ | ⟨h3, h⟩
 ·obtain rfl := Option.some.inj h
  simp only[push_cast,seval,h1,h2,h3]
  refine e_ret (.inr rfl) ?_
  simp only[push_cast,seval,aret,aresults,aresult,h1,h2,h3]
  refine ⟨_, rfl, ?_⟩
  first | (simp only[push_cast,seval,h1,h2,h3] <;> rfl) | rfl
 rcases F_if h with ⟨h4, h⟩ | ⟨h4, h⟩
 ·obtain rfl := Option.some.inj h
  simp only[push_cast,seval,h1,h2,h3,h4]
  refine e_ret (.inr rfl) ?_
  simp only[push_cast,seval,aret,aresults,aresult,h1,h2,h3,h4]
  refine ⟨_, rfl, ?_⟩
  first | (simp only[push_cast,seval,h1,h2,h3,h4] <;> rfl) | rfl
 rcases F_if h with ⟨h5, h⟩ | ⟨h5, h⟩
 ·obtain rfl := Option.some.inj h
  simp only[push_cast,seval,h1,h2,h3,h4,h5]
  refine e_ret (.inr rfl) ?_
  simp only[push_cast,seval,aret,aresults,aresult,h1,h2,h3,h4,h5]
  refine ⟨_, rfl, ?_⟩
  first | (simp only[push_cast,seval,h1,h2,h3,h4,h5] <;> rfl) | rfl
 obtain ⟨v1, h6, h⟩ := F_bd h
 simp only[push_cast,seval,h1,h2,h3,h4,h5]
 refine call_flat (by rfl) (c_slices_EqualFunc_Run_Run N _ _ _ h6) ?_ rfl ?_
 ·simp only[push_cast,seval,h1,h2,h3,h4,h5] <;> rfl
 obtain rfl := Option.some.inj h
 simp only[push_cast,seval,h1,h2,h3,h4,h5]
 refine e_ret (.inr rfl) ?_
 simp only[push_cast,seval,aret,aresults,aresult,h1,h2,h3,h4,h5]
 refine ⟨_, rfl, ?_⟩
 first | (simp only[push_cast,seval,h1,h2,h3,h4,h5] <;> rfl) | rfl

def f11g0 : List RO := [o_ 2 (.box (t_ 0)), o_ 3 (.box (t_ 1)), o_ 4 (.mv (.const (.bool .false)))]
def f11g1 : List RO := [o_ 19 (.call (.func 35) []), o_ 5 (.mv (t_ 19))]
def f11g2 : List RO := [o_ 20 (.mv (t_ 5)), o_ 21 (.un .not (t_ 20)), o_ 22 (.mv (t_ 21)), ⟨(.some 23), (.faddr 6 (t_ 2)), (.some (22, .false))⟩, ⟨(.some 24), (.load (.some 8) (t_ 23)), (.some (22, .false))⟩, ⟨(.some 25), (.faddr 14 (t_ 2)), (.some (22, .false))⟩, ⟨(.some 26), (.load (.some 6) (t_ 25)), (.some (22, .false))⟩, ⟨(.some 27), (.call (.func 51) [(t_ 24), (t_ 26)]), (.some (22, .false))⟩, ⟨(.some 28), (.un .not (t_ 27)), (.some (22, .false))⟩, o_ 29 (.pick (t_ 22) (.const (.bool .true)) (t_ 28)), o_ 30 (.mv (t_ 29)), ⟨(.some 31), (.faddr 6 (t_ 3)), (.some (30, .false))⟩, ⟨(.some 32), (.load (.some 8) (t_ 31)), (.some (30, .false))⟩, ⟨(.some 33), (.faddr 14 (t_ 3)), (.some (30, .false))⟩, ⟨(.some 34), (.load (.some 6) (t_ 33)), (.some (30, .false))⟩, ⟨(.some 35), (.call (.func 51) [(t_ 32), (t_ 34)]), (.some (30, .false))⟩, ⟨(.some 36), (.un .not (t_ 35)), (.some (30, .false))⟩, o_ 37 (.pick (t_ 30) (.const (.bool .true)) (t_ 36))]
def f11g3 : List RO := [o_ 38 (.mv (t_ 5)), o_ 4 (.mv (t_ 38))]
def f11g4 : List RO := [o_ 40 (.faddr 0 (t_ 2)), o_ 41 (.load (.some 6) (t_ 40)), o_ 42 (.call (.func 53) [(t_ 41)]), o_ 43 (.call (.func 52) [(t_ 42)]), o_ 39 (.mv (t_ 43)), o_ 44 (.ext (t_ 39) 0), o_ 45 (.ext (t_ 39) 1), o_ 6 (.new [(.D (.I .i64 0)), (.D (.I .i64 0)), (.D (.I .i64 0)), (.D (.I .i64 0)), (.D (.I .i64 0)), (.D (.I .i64 0))]), n_ (.store 6 (t_ 6) (t_ 44)), o_ 7 (.mv (t_ 45))]
def f11g5 : List RO := [o_ 47 (.faddr 6 (t_ 2)), o_ 48 (.load (.some 8) (t_ 47)), o_ 49 (.call (.func 55) [(t_ 48)]), o_ 50 (.call (.func 54) [(t_ 49)]), o_ 46 (.mv (t_ 50)), o_ 51 (.ext (t_ 46) 0), o_ 52 (.ext (t_ 46) 1), o_ 8 (.new [(.D (.I .i64 0)), (.D (.I .i64 0)), (.D (.I .i64 0)), (.D (.I .i64 0)), (.D (.I .i64 0)), (.D (.I .i64 0)), (.D (.I .i64 0)), (.fl [])]), n_ (.store 8 (t_ 8) (t_ 51)), o_ 9 (.mv (t_ 52))]
def f11g6 : List RO := [o_ 54 (.faddr 14 (t_ 2)), o_ 55 (.load (.some 6) (t_ 54)), o_ 56 (.call (.func 57) [(t_ 55)]), o_ 57 (.call (.func 56) [(t_ 56)]), o_ 53 (.mv (t_ 57)), o_ 58 (.ext (t_ 53) 0), o_ 59 (.ext (t_ 53) 1), o_ 10 (.new [(.D (.I .i64 0)), (.D (.I .i64 0)), (.D (.I .i64 0)), (.D (.I .i64 0)), (.D (.I .i64 0)), (.fl [])]), n_ (.store 6 (t_ 10) (t_ 58)), o_ 11 (.mv (t_ 59))]
def f11g7 : List RO := [o_ 60 (.mv (t_ 7)), o_ 61 (.bin .neq (t_ 60) (.const (.int .i64 0))), o_ 62 (.mv (t_ 61)), ⟨(.some 63), (.mv (t_ 9)), (.some (62, .false))⟩, ⟨(.some 64), (.bin .neq (t_ 63) (.const (.int .i64 0))), (.some (62, .false))⟩, o_ 65 (.pick (t_ 62) (.const (.bool .true)) (t_ 64)), o_ 66 (.mv (t_ 65)), ⟨(.some 67), (.mv (t_ 11)), (.some (66, .false))⟩, ⟨(.some 68), (.bin .neq (t_ 67) (.const (.int .i64 0))), (.some (66, .false))⟩, o_ 69 (.pick (t_ 66) (.const (.bool .true)) (t_ 68)), o_ 70 (.mv (t_ 69)), ⟨(.some 71), (.load (.some 6) (t_ 6)), (.some (70, .false))⟩, ⟨(.some 72), (.faddr 0 (t_ 2)), (.some (70, .false))⟩, ⟨(.some 73), (.load (.some 6) (t_ 72)), (.some (70, .false))⟩, ⟨(.some 74), (.eqs .true [1, 1, 1, 1, 1, 1] (t_ 71) (t_ 73)), (.some (70, .false))⟩, o_ 75 (.pick (t_ 70) (.const (.bool .true)) (t_ 74)), o_ 76 (.mv (t_ 75)), ⟨(.some 77), (.load (.some 8) (t_ 8)), (.some (76, .false))⟩, ⟨(.some 78), (.faddr 6 (t_ 2)), (.some (76, .false))⟩, ⟨(.some 79), (.load (.some 8) (t_ 78)), (.some (76, .false))⟩, ⟨(.some 80), (.call (.func 58) [(t_ 77), (t_ 79)]), (.some (76, .false))⟩, ⟨(.some 81), (.un .not (t_ 80)), (.some (76, .false))⟩, o_ 82 (.pick (t_ 76) (.const (.bool .true)) (t_ 81)), o_ 83 (.mv (t_ 82)), ⟨(.some 84), (.load (.some 6) (t_ 10)), (.some (83, .false))⟩, ⟨(.some 85), (.faddr 14 (t_ 2)), (.some (83, .false))⟩, ⟨(.some 86), (.load (.some 6) (t_ 85)), (.some (83, .false))⟩, ⟨(.some 87), (.call (.func 59) [(t_ 84), (t_ 86)]), (.some (83, .false))⟩, ⟨(.some 88), (.un .not (t_ 87)), (.some (83, .false))⟩, o_ 89 (.pick (t_ 83) (.const (.bool .true)) (t_ 88))]
def f11g8 : List RO := [o_ 4 (.mv (.const (.bool .false)))]
def f11g9 : List RO := [o_ 91 (.faddr 14 (t_ 2)), o_ 92 (.load (.some 6) (t_ 91)), o_ 93 (.call (.func 57) [(t_ 92)]), o_ 94 (.call (.func 52) [(t_ 93)]), o_ 90 (.mv (t_ 94)), o_ 95 (.ext (t_ 90) 0), o_ 96 (.ext (t_ 90) 1), o_ 12 (.new [(.D (.I .i64 0)), (.D (.I .i64 0)), (.D (.I .i64 0)), (.D (.I .i64 0)), (.D (.I .i64 0)), (.D (.I .i64 0))]), n_ (.store 6 (t_ 12) (t_ 95)), o_ 13 (.mv (t_ 96))]
def f11g10 : List RO := [o_ 98 (.faddr 6 (t_ 2)), o_ 99 (.load (.some 8) (t_ 98)), o_ 100 (.call (.func 55) [(t_ 99)]), o_ 101 (.call (.func 56) [(t_ 100)]), o_ 97 (.mv (t_ 101)), o_ 102 (.ext (t_ 97) 0), o_ 103 (.ext (t_ 97) 1), o_ 14 (.new [(.D (.I .i64 0)), (.D (.I .i64 0)), (.D (.I .i64 0)), (.D (.I .i64 0)), (.D (.I .i64 0)), (.fl [])]), n_ (.store 6 (t_ 14) (t_ 102)), o_ 15 (.mv (t_ 103))]
def f11g11 : List RO := [o_ 105 (.faddr 0 (t_ 2)), o_ 106 (.load (.some 6) (t_ 105)), o_ 107 (.call (.func 53) [(t_ 106)]), o_ 108 (.call (.func 54) [(t_ 107)]), o_ 104 (.mv (t_ 108)), o_ 109 (.ext (t_ 104) 0), o_ 110 (.ext (t_ 104) 1), o_ 16 (.new [(.D (.I .i64 0)), (.D (.I .i64 0)), (.D (.I .i64 0)), (.D (.I .i64 0)), (.D (.I .i64 0)), (.D (.I .i64 0)), (.D (.I .i64 0)), (.fl [])]), n_ (.store 8 (t_ 16) (t_ 109)), o_ 17 (.mv (t_ 110))]
def f11g12 : List RO := [o_ 111 (.mv (t_ 13)), o_ 112 (.bin .eql (t_ 111) (.const (.int .i64 11))), o_ 113 (.mv (t_ 112)), ⟨(.some 114), (.mv (t_ 15)), (.some (113, .true))⟩, ⟨(.some 115), (.bin .eql (t_ 114) (.const (.int .i64 11))), (.some (113, .true))⟩, o_ 116 (.pick (t_ 113) (t_ 115) (.const (.bool .false))), o_ 117 (.mv (t_ 116)), ⟨(.some 118), (.mv (t_ 17)), (.some (117, .true))⟩, ⟨(.some 119), (.bin .eql (t_ 118) (.const (.int .i64 11))), (.some (117, .true))⟩, o_ 120 (.pick (t_ 117) (t_ 119) (.const (.bool .false))), o_ 18 (.mv (t_ 120))]
def f11g13 : List RO := [o_ 121 (.mv (t_ 18)), o_ 122 (.mv (t_ 121)), ⟨(.some 123), (.faddr 0 (t_ 2)), (.some (122, .true))⟩, ⟨(.some 124), (.load (.some 6) (t_ 123)), (.some (122, .true))⟩, ⟨(.some 125), (.call (.func 53) [(t_ 124)]), (.some (122, .true))⟩, ⟨(.some 126), (.faddr 0 (t_ 3)), (.some (122, .true))⟩, ⟨(.some 127), (.load (.some 6) (t_ 126)), (.some (122, .true))⟩, ⟨(.some 128), (.call (.func 53) [(t_ 127)]), (.some (122, .true))⟩, ⟨(.some 129), (.bin .eql (t_ 125) (t_ 128)), (.some (122, .true))⟩, ⟨(.some 130), (.faddr 0 (t_ 2)), (.some (122, .true))⟩, ⟨(.some 131), (.load (.some 6) (t_ 130)), (.some (122, .true))⟩, ⟨(.some 132), (.faddr 0 (t_ 3)), (.some (122, .true))⟩, ⟨(.some 133), (.load (.some 6) (t_ 132)), (.some (122, .true))⟩, ⟨(.some 134), (.eqs .false [1, 1, 1, 1, 1, 1] (t_ 131) (t_ 133)), (.some (122, .true))⟩, ⟨(.some 135), (.beq .false (t_ 129) (t_ 134)), (.some (122, .true))⟩, o_ 136 (.pick (t_ 122) (t_ 135) (.const (.bool .false))), o_ 137 (.mv (t_ 136)), ⟨(.some 138), (.faddr 6 (t_ 2)), (.some (137, .true))⟩, ⟨(.some 139), (.load (.some 8) (t_ 138)), (.some (137, .true))⟩, ⟨(.some 140), (.call (.func 55) [(t_ 139)]), (.some (137, .true))⟩, ⟨(.some 141), (.faddr 6 (t_ 3)), (.some (137, .true))⟩, ⟨(.some 142), (.load (.some 8) (t_ 141)), (.some (137, .true))⟩, ⟨(.some 143), (.call (.func 55) [(t_ 142)]), (.some (137, .true))⟩, ⟨(.some 144), (.bin .eql (t_ 140) (t_ 143)), (.some (137, .true))⟩, ⟨(.some 145), (.faddr 6 (t_ 2)), (.some (137, .true))⟩, ⟨(.some 146), (.load (.some 8) (t_ 145)), (.some (137, .true))⟩, ⟨(.some 147), (.faddr 6 (t_ 3)), (.some (137, .true))⟩, ⟨(.some 148), (.load (.some 8) (t_ 147)), (.some (137, .true))⟩, ⟨(.some 149), (.call (.func 58) [(t_ 146), (t_ 148)]), (.some (137, .true))⟩, ⟨(.some 150), (.beq .false (t_ 144) (t_ 149)), (.some (137, .true))⟩, o_ 151 (.pick (t_ 137) (t_ 150) (.const (.bool .false))), o_ 152 (.mv (t_ 151)), ⟨(.some 153), (.faddr 14 (t_ 2)), (.some (152, .true))⟩, ⟨(.some 154), (.load (.some 6) (t_ 153)), (.some (152, .true))⟩, ⟨(.some 155), (.call (.func 57) [(t_ 154)]), (.some (152, .true))⟩, ⟨(.some 156), (.faddr 14 (t_ 3)), (.some (152, .true))⟩, ⟨(.some 157), (.load (.some 6) (t_ 156)), (.some (152, .true))⟩, ⟨(.some 158), (.call (.func 57) [(t_ 157)]), (.some (152, .true))⟩, ⟨(.some 159), (.bin .eql (t_ 155) (t_ 158)), (.some (152, .true))⟩, ⟨(.some 160), (.faddr 14 (t_ 2)), (.some (152, .true))⟩, ⟨(.some 161), (.load (.some 6) (t_ 160)), (.some (152, .true))⟩, ⟨(.some 162), (.faddr 14 (t_ 3)), (.some (152, .true))⟩, ⟨(.some 163), (.load (.some 6) (t_ 162)), (.some (152, .true))⟩, ⟨(.some 164), (.call (.func 59) [(t_ 161), (t_ 163)]), (.some (152, .true))⟩, ⟨(.some 165), (.beq .false (t_ 159) (t_ 164)), (.some (152, .true))⟩, o_ 166 (.pick (t_ 152) (t_ 165) (.const (.bool .false))), o_ 4 (.mv (t_ 166))]
def f11c : RCode := (.seq (.reg .false f11g0) (.seq (.reg .false f11g1) (.seq (.seq (.reg .false f11g2) (.cond (t_ 37) (.seq (.reg .false f11g3) .ret) .skip)) (.seq (.reg .false f11g4) (.seq (.reg .false f11g5) (.seq (.reg .false f11g6) (.seq (.seq (.reg .false f11g7) (.cond (t_ 89) (.seq (.reg .false f11g8) .ret) .skip)) (.seq (.reg .false f11g9) (.seq (.reg .false f11g10) (.seq (.reg .false f11g11) (.seq (.reg .false f11g12) (.seq (.reg .true f11g13) .ret))))))))))))
def f11r : List RRes := [(.tmp 4)]
attribute [push_cast] f11g0 f11g1 f11g2 f11g3 f11g4 f11g5 f11g6 f11g7 f11g8 f11g9 f11g10 f11g11 f11g12 f11g13
def F_law23_LeavesComeBack (N : Nat) (p0 : WThree) (p1 : WThree) : Option Bool := bd? (F_law23_sanity N ) fun v1 => if? (v1) (bd? (F_law23_small N p0.V p0.B) fun v2 => if? (v2) (bd? (F_law23_small N p1.V p1.B) fun v3 => if? (v3) (bd? (F_leaf_Reading N p0.R) fun v4 => bd? (F_leaf_GetReading N v4) fun v5 => bd? (F_leaf_Version N p0.V) fun v6 => bd? (F_leaf_GetVersion N v6) fun v7 => bd? (F_leaf_Block N p0.B) fun v8 => bd? (F_leaf_GetBlock N v8) fun v9 => if? ((v5.2 != 0)) (some (false)) (if? ((v7.2 != 0)) (some (false)) (if? ((v9.2 != 0)) (some (false)) (if? (((v5.1.Gauge == p0.R.Gauge) && ((v5.1.Seq == p0.R.Seq) && ((v5.1.From == p0.R.From) && ((v5.1.To == p0.R.To) && ((v5.1.Stage == p0.R.Stage) && (v5.1.Known == p0.R.Known))))))) (bd? (F_ref14_Same N v7.1 p0.V) fun v10 => if? (v10) (bd? (F_law23_same N v9.1 p0.B) fun v11 => if? (v11) (bd? (F_leaf_Block N p0.B) fun v12 => bd? (F_leaf_GetReading N v12) fun v13 => bd? (F_leaf_Version N p0.V) fun v14 => bd? (F_leaf_GetBlock N v14) fun v15 => bd? (F_leaf_Reading N p0.R) fun v16 => bd? (F_leaf_GetVersion N v16) fun v17 => if? ((v13.2 == 11)) (if? ((v15.2 == 11)) (if? ((v17.2 == 11)) (bd? (F_leaf_Reading N p0.R) fun v18 => bd? (F_leaf_Reading N p1.R) fun v19 => if? (((v18 == v19) == ((p0.R.Gauge == p1.R.Gauge) && ((p0.R.Seq == p1.R.Seq) && ((p0.R.From == p1.R.From) && ((p0.R.To == p1.R.To) && ((p0.R.Stage == p1.R.Stage) && (p0.R.Known == p1.R.Known)))))))) (bd? (F_leaf_Version N p0.V) fun v20 => bd? (F_leaf_Version N p1.V) fun v21 => bd? (F_ref14_Same N p0.V p1.V) fun v22 => if? (((v20 == v21) == v22)) (bd? (F_leaf_Block N p0.B) fun v23 => bd? (F_leaf_Block N p1.B) fun v24 => bd? (F_law23_same N p0.B p1.B) fun v25 => some (((v23 == v24) == v25))) (some (false))) (some (false))) (some (false))) (some (false))) (some (false))) (some (false))) (some (false))) (some (false)))))) (some (v1))) (some (v1))) (some (v1))
theorem c_law23_LeavesComeBack (N : Nat) (p0 : WThree) (p1 : WThree) (r : Bool) (h : F_law23_LeavesComeBack N p0 p1 = some r) : ACall Tryd.prog 11 [.agg [.D (.I .i64 p0.R.Gauge), .D (.I .i64 p0.R.Seq), .D (.I .i64 p0.R.From), .D (.I .i64 p0.R.To), .D (.I .i64 p0.R.Stage), .D (.I .i64 p0.R.Known), .D (.I .i64 p0.V.Kind), .D (.I .i64 p0.V.Gauge), .D (.I .i64 p0.V.Seq), .D (.I .i64 p0.V.Known), .D (.I .i64 p0.V.From), .D (.I .i64 p0.V.To), .D (.I .i64 p0.V.Shift), .D (.L (p0.V.Curve.Points.map Point.row)), .D (.I .i64 p0.B.Gauge), .D (.I .i64 p0.B.Level), .D (.I .i64 p0.B.From), .D (.I .i64 p0.B.To), .D (.I .i64 p0.B.Known), .D (.L (p0.B.Runs.map Run.row))], .agg [.D (.I .i64 p1.R.Gauge), .D (.I .i64 p1.R.Seq), .D (.I .i64 p1.R.From), .D (.I .i64 p1.R.To), .D (.I .i64 p1.R.Stage), .D (.I .i64 p1.R.Known), .D (.I .i64 p1.V.Kind), .D (.I .i64 p1.V.Gauge), .D (.I .i64 p1.V.Seq), .D (.I .i64 p1.V.Known), .D (.I .i64 p1.V.From), .D (.I .i64 p1.V.To), .D (.I .i64 p1.V.Shift), .D (.L (p1.V.Curve.Points.map Point.row)), .D (.I .i64 p1.B.Gauge), .D (.I .i64 p1.B.Level), .D (.I .i64 p1.B.From), .D (.I .i64 p1.B.To), .D (.I .i64 p1.B.Known), .D (.L (p1.B.Runs.map Run.row))]] [] (.D (.B r)) [] [] := by
 refine ACall.of_bodyW [] (fn := Tryd.f11) (rc := f11c) (rs := f11r) Tryd.func11 rfl rfl (by kernel_rfl) (by kernel_rfl) (by kernel_rfl) (by rw [Tryd.ntmps11]; simp) ?_
 unfold F_law23_LeavesComeBack at h
 unfold f11c f11r
 rw [entry_eq _ _]
 obtain ⟨v1, h1, h⟩ := F_bd h
 simp only[push_cast,seval]
 refine call_flat (by rfl) (c_law23_sanity N _ h1) ?_ rfl ?_
 ·simp only[push_cast,seval] <;> rfl
 rcases F_if h with ⟨h2, h⟩ | ⟨h2, h⟩
 rotate_left
 ·obtain rfl := Option.some.inj h
  simp only[push_cast,seval,h2]
  refine e_ret (.inr rfl) ?_
  simp only[push_cast,seval,aret,aresults,aresult,h2]
  refine ⟨_, rfl, ?_⟩
  first | (simp only[push_cast,seval,h2] <;> rfl) | rfl
 obtain ⟨v2, h3, h⟩ := F_bd h
 simp only[push_cast,seval,h2]
 refine call_flat (by rfl) (c_law23_small N _ _ _ h3) ?_ rfl ?_
 ·simp only[push_cast,seval,h2] <;> rfl
 rcases F_if h with ⟨h4, h⟩ | ⟨h4, h⟩
 rotate_left
 ·obtain rfl := Option.some.inj h
  simp only[push_cast,seval,h2,h4]
  refine e_ret (.inr rfl) ?_
  simp only[push_cast,seval,aret,aresults,aresult,h2,h4]
  refine ⟨_, rfl, ?_⟩
  first | (simp only[push_cast,seval,h2,h4] <;> rfl) | rfl
 obtain ⟨v3, h5, h⟩ := F_bd h
 simp only[push_cast,seval,h2,h4]
 refine call_flat (by rfl) (c_law23_small N _ _ _ h5) ?_ rfl ?_
 ·simp only[push_cast,seval,h2,h4] <;> rfl
 rcases F_if h with ⟨h6, h⟩ | ⟨h6, h⟩
 rotate_left
 ·obtain rfl := Option.some.inj h
  simp only[push_cast,seval,h2,h4,h6]
  refine e_ret (.inr rfl) ?_
  simp only[push_cast,seval,aret,aresults,aresult,h2,h4,h6]
  refine ⟨_, rfl, ?_⟩
  first | (simp only[push_cast,seval,h2,h4,h6] <;> rfl) | rfl
 obtain ⟨v4, h7, h⟩ := F_bd h
 simp only[push_cast,seval,h2,h4,h6]
 refine call_flat (by rfl) (c_leaf_Reading N _ _ h7) ?_ rfl ?_
 ·simp only[push_cast,seval,h2,h4,h6] <;> rfl
 obtain ⟨v5, h8, h⟩ := F_bd h
 simp only[push_cast,seval,h2,h4,h6]
 refine call_flat (by rfl) (c_leaf_GetReading N _ _ h8) ?_ rfl ?_
 ·simp only[push_cast,seval,h2,h4,h6] <;> rfl
 obtain ⟨v6, h9, h⟩ := F_bd h
 simp only[push_cast,seval,h2,h4,h6]
 refine call_flat (by rfl) (c_leaf_Version N _ _ h9) ?_ rfl ?_
 ·simp only[push_cast,seval,h2,h4,h6] <;> rfl
 obtain ⟨v7, h10, h⟩ := F_bd h
 simp only[push_cast,seval,h2,h4,h6]
 refine call_new (by rfl) (c_leaf_GetVersion N _ _ h10) ?_ rfl ?_
 ·simp only[push_cast,seval,h2,h4,h6] <;> rfl
 obtain ⟨v8, h11, h⟩ := F_bd h
 simp only[push_cast,seval,h2,h4,h6]
 refine call_flat (by rfl) (c_leaf_Block N _ _ h11) ?_ rfl ?_
 ·simp only[push_cast,seval,h2,h4,h6] <;> rfl
 obtain ⟨v9, h12, h⟩ := F_bd h
 simp only[push_cast,seval,h2,h4,h6]
 refine call_new (by rfl) (c_leaf_GetBlock N _ _ h12) ?_ rfl ?_
 ·simp only[push_cast,seval,h2,h4,h6] <;> rfl
 rcases F_if h with ⟨h13, h⟩ | ⟨h13, h⟩
 ·obtain rfl := Option.some.inj h
  simp only[push_cast,seval,h2,h4,h6,h13]
  refine e_ret (.inr rfl) ?_
  simp only[push_cast,seval,aret,aresults,aresult,h2,h4,h6,h13]
  refine ⟨_, rfl, ?_⟩
  first | (simp only[push_cast,seval,h2,h4,h6,h13] <;> rfl) | rfl
 rcases F_if h with ⟨h14, h⟩ | ⟨h14, h⟩
 ·obtain rfl := Option.some.inj h
  simp only[push_cast,seval,h2,h4,h6,h13,h14]
  refine e_ret (.inr rfl) ?_
  simp only[push_cast,seval,aret,aresults,aresult,h2,h4,h6,h13,h14]
  refine ⟨_, rfl, ?_⟩
  first | (simp only[push_cast,seval,h2,h4,h6,h13,h14] <;> rfl) | rfl
 rcases F_if h with ⟨h15, h⟩ | ⟨h15, h⟩
 ·obtain rfl := Option.some.inj h
  simp only[push_cast,seval,h2,h4,h6,h13,h14,h15]
  refine e_ret (.inr rfl) ?_
  simp only[push_cast,seval,aret,aresults,aresult,h2,h4,h6,h13,h14,h15]
  refine ⟨_, rfl, ?_⟩
  first | (simp only[push_cast,seval,h2,h4,h6,h13,h14,h15] <;> rfl) | rfl
 rcases F_if h with ⟨h16, h⟩ | ⟨h16, h⟩
 rotate_left
 ·obtain rfl := Option.some.inj h
  simp only[push_cast,seval,h2,h4,h6,h13,h14,h15,h16]
  refine e_ret (.inr rfl) ?_
  simp only[push_cast,seval,aret,aresults,aresult,h2,h4,h6,h13,h14,h15,h16]
  refine ⟨_, rfl, ?_⟩
  first | (simp only[push_cast,seval,h2,h4,h6,h13,h14,h15,h16] <;> rfl) | rfl
 obtain ⟨v10, h17, h⟩ := F_bd h
 simp only[push_cast,seval,h2,h4,h6,h13,h14,h15,h16]
 refine call_flat (by rfl) (c_ref14_Same N _ _ _ h17) ?_ rfl ?_
 ·simp only[push_cast,seval,h2,h4,h6,h13,h14,h15,h16] <;> rfl
 rcases F_if h with ⟨h18, h⟩ | ⟨h18, h⟩
 rotate_left
 ·obtain rfl := Option.some.inj h
  simp only[push_cast,seval,h2,h4,h6,h13,h14,h15,h16,h18]
  refine e_ret (.inr rfl) ?_
  simp only[push_cast,seval,aret,aresults,aresult,h2,h4,h6,h13,h14,h15,h16,h18]
  refine ⟨_, rfl, ?_⟩
  first | (simp only[push_cast,seval,h2,h4,h6,h13,h14,h15,h16,h18] <;> rfl) | rfl
 obtain ⟨v11, h19, h⟩ := F_bd h
 simp only[push_cast,seval,h2,h4,h6,h13,h14,h15,h16,h18]
 refine call_flat (by rfl) (c_law23_same N _ _ _ h19) ?_ rfl ?_
 ·simp only[push_cast,seval,h2,h4,h6,h13,h14,h15,h16,h18] <;> rfl
 rcases F_if h with ⟨h20, h⟩ | ⟨h20, h⟩
 rotate_left
 ·obtain rfl := Option.some.inj h
  simp only[push_cast,seval,h2,h4,h6,h13,h14,h15,h16,h18,h20]
  refine e_ret (.inr rfl) ?_
  simp only[push_cast,seval,aret,aresults,aresult,h2,h4,h6,h13,h14,h15,h16,h18,h20]
  refine ⟨_, rfl, ?_⟩
  first | (simp only[push_cast,seval,h2,h4,h6,h13,h14,h15,h16,h18,h20] <;> rfl) | rfl
 obtain ⟨v12, h21, h⟩ := F_bd h
 simp only[push_cast,seval,h2,h4,h6,h13,h14,h15,h16,h18,h20]
 refine call_flat (by rfl) (c_leaf_Block N _ _ h21) ?_ rfl ?_
 ·simp only[push_cast,seval,h2,h4,h6,h13,h14,h15,h16,h18,h20] <;> rfl
 obtain ⟨v13, h22, h⟩ := F_bd h
 simp only[push_cast,seval,h2,h4,h6,h13,h14,h15,h16,h18,h20]
 refine call_flat (by rfl) (c_leaf_GetReading N _ _ h22) ?_ rfl ?_
 ·simp only[push_cast,seval,h2,h4,h6,h13,h14,h15,h16,h18,h20] <;> rfl
 obtain ⟨v14, h23, h⟩ := F_bd h
 simp only[push_cast,seval,h2,h4,h6,h13,h14,h15,h16,h18,h20]
 refine call_flat (by rfl) (c_leaf_Version N _ _ h23) ?_ rfl ?_
 ·simp only[push_cast,seval,h2,h4,h6,h13,h14,h15,h16,h18,h20] <;> rfl
 obtain ⟨v15, h24, h⟩ := F_bd h
 simp only[push_cast,seval,h2,h4,h6,h13,h14,h15,h16,h18,h20]
 refine call_new (by rfl) (c_leaf_GetBlock N _ _ h24) ?_ rfl ?_
 ·simp only[push_cast,seval,h2,h4,h6,h13,h14,h15,h16,h18,h20] <;> rfl
 obtain ⟨v16, h25, h⟩ := F_bd h
 simp only[push_cast,seval,h2,h4,h6,h13,h14,h15,h16,h18,h20]
 refine call_flat (by rfl) (c_leaf_Reading N _ _ h25) ?_ rfl ?_
 ·simp only[push_cast,seval,h2,h4,h6,h13,h14,h15,h16,h18,h20] <;> rfl
 obtain ⟨v17, h26, h⟩ := F_bd h
 simp only[push_cast,seval,h2,h4,h6,h13,h14,h15,h16,h18,h20]
 refine call_new (by rfl) (c_leaf_GetVersion N _ _ h26) ?_ rfl ?_
 ·simp only[push_cast,seval,h2,h4,h6,h13,h14,h15,h16,h18,h20] <;> rfl
 rcases F_if h with ⟨h27, h⟩ | ⟨h27, h⟩
 rotate_left
 ·obtain rfl := Option.some.inj h
  simp only[push_cast,seval,h2,h4,h6,h13,h14,h15,h16,h18,h20,h27]
  refine e_ret (.inr rfl) ?_
  simp only[push_cast,seval,aret,aresults,aresult,h2,h4,h6,h13,h14,h15,h16,h18,h20,h27]
  refine ⟨_, rfl, ?_⟩
  first | (simp only[push_cast,seval,h2,h4,h6,h13,h14,h15,h16,h18,h20,h27] <;> rfl) | rfl
 rcases F_if h with ⟨h28, h⟩ | ⟨h28, h⟩
 rotate_left
 ·obtain rfl := Option.some.inj h
  simp only[push_cast,seval,h2,h4,h6,h13,h14,h15,h16,h18,h20,h27,h28]
  refine e_ret (.inr rfl) ?_
  simp only[push_cast,seval,aret,aresults,aresult,h2,h4,h6,h13,h14,h15,h16,h18,h20,h27,h28]
  refine ⟨_, rfl, ?_⟩
  first | (simp only[push_cast,seval,h2,h4,h6,h13,h14,h15,h16,h18,h20,h27,h28] <;> rfl) | rfl
 rcases F_if h with ⟨h29, h⟩ | ⟨h29, h⟩
 rotate_left
 ·obtain rfl := Option.some.inj h
  simp only[push_cast,seval,h2,h4,h6,h13,h14,h15,h16,h18,h20,h27,h28,h29]
  refine e_ret (.inr rfl) ?_
  simp only[push_cast,seval,aret,aresults,aresult,h2,h4,h6,h13,h14,h15,h16,h18,h20,h27,h28,h29]
  refine ⟨_, rfl, ?_⟩
  first | (simp only[push_cast,seval,h2,h4,h6,h13,h14,h15,h16,h18,h20,h27,h28,h29] <;> rfl) | rfl
 obtain ⟨v18, h30, h⟩ := F_bd h
 simp only[push_cast,seval,h2,h4,h6,h13,h14,h15,h16,h18,h20,h27,h28,h29]
 refine call_flat (by rfl) (c_leaf_Reading N _ _ h30) ?_ rfl ?_
 ·simp only[push_cast,seval,h2,h4,h6,h13,h14,h15,h16,h18,h20,h27,h28,h29] <;> rfl
 obtain ⟨v19, h31, h⟩ := F_bd h
 simp only[push_cast,seval,h2,h4,h6,h13,h14,h15,h16,h18,h20,h27,h28,h29]
 refine call_flat (by rfl) (c_leaf_Reading N _ _ h31) ?_ rfl ?_
 ·simp only[push_cast,seval,h2,h4,h6,h13,h14,h15,h16,h18,h20,h27,h28,h29] <;> rfl
 rcases F_if h with ⟨h32, h⟩ | ⟨h32, h⟩
 rotate_left
 ·obtain rfl := Option.some.inj h
  simp only[push_cast,seval,h2,h4,h6,h13,h14,h15,h16,h18,h20,h27,h28,h29,h32]
  refine e_ret (.inr rfl) ?_
  simp only[push_cast,seval,aret,aresults,aresult,h2,h4,h6,h13,h14,h15,h16,h18,h20,h27,h28,h29,h32]
  refine ⟨_, rfl, ?_⟩
  first | (simp only[push_cast,seval,h2,h4,h6,h13,h14,h15,h16,h18,h20,h27,h28,h29,h32] <;> rfl) | rfl
 obtain ⟨v20, h33, h⟩ := F_bd h
 simp only[push_cast,seval,h2,h4,h6,h13,h14,h15,h16,h18,h20,h27,h28,h29,h32]
 refine call_flat (by rfl) (c_leaf_Version N _ _ h33) ?_ rfl ?_
 ·simp only[push_cast,seval,h2,h4,h6,h13,h14,h15,h16,h18,h20,h27,h28,h29,h32] <;> rfl
 obtain ⟨v21, h34, h⟩ := F_bd h
 simp only[push_cast,seval,h2,h4,h6,h13,h14,h15,h16,h18,h20,h27,h28,h29,h32]
 refine call_flat (by rfl) (c_leaf_Version N _ _ h34) ?_ rfl ?_
 ·simp only[push_cast,seval,h2,h4,h6,h13,h14,h15,h16,h18,h20,h27,h28,h29,h32] <;> rfl
 obtain ⟨v22, h35, h⟩ := F_bd h
 simp only[push_cast,seval,h2,h4,h6,h13,h14,h15,h16,h18,h20,h27,h28,h29,h32]
 refine call_flat (by rfl) (c_ref14_Same N _ _ _ h35) ?_ rfl ?_
 ·simp only[push_cast,seval,h2,h4,h6,h13,h14,h15,h16,h18,h20,h27,h28,h29,h32] <;> rfl
 rcases F_if h with ⟨h36, h⟩ | ⟨h36, h⟩
 rotate_left
 ·obtain rfl := Option.some.inj h
  simp only[push_cast,seval,h2,h4,h6,h13,h14,h15,h16,h18,h20,h27,h28,h29,h32,h36]
  refine e_ret (.inr rfl) ?_
  simp only[push_cast,seval,aret,aresults,aresult,h2,h4,h6,h13,h14,h15,h16,h18,h20,h27,h28,h29,h32,h36]
  refine ⟨_, rfl, ?_⟩
  first | (simp only[push_cast,seval,h2,h4,h6,h13,h14,h15,h16,h18,h20,h27,h28,h29,h32,h36] <;> rfl) | rfl
 obtain ⟨v23, h37, h⟩ := F_bd h
 simp only[push_cast,seval,h2,h4,h6,h13,h14,h15,h16,h18,h20,h27,h28,h29,h32,h36]
 refine call_flat (by rfl) (c_leaf_Block N _ _ h37) ?_ rfl ?_
 ·simp only[push_cast,seval,h2,h4,h6,h13,h14,h15,h16,h18,h20,h27,h28,h29,h32,h36] <;> rfl
 obtain ⟨v24, h38, h⟩ := F_bd h
 simp only[push_cast,seval,h2,h4,h6,h13,h14,h15,h16,h18,h20,h27,h28,h29,h32,h36]
 refine call_flat (by rfl) (c_leaf_Block N _ _ h38) ?_ rfl ?_
 ·simp only[push_cast,seval,h2,h4,h6,h13,h14,h15,h16,h18,h20,h27,h28,h29,h32,h36] <;> rfl
 obtain ⟨v25, h39, h⟩ := F_bd h
 simp only[push_cast,seval,h2,h4,h6,h13,h14,h15,h16,h18,h20,h27,h28,h29,h32,h36]
 refine call_flat (by rfl) (c_law23_same N _ _ _ h39) ?_ rfl ?_
 ·simp only[push_cast,seval,h2,h4,h6,h13,h14,h15,h16,h18,h20,h27,h28,h29,h32,h36] <;> rfl
 obtain rfl := Option.some.inj h
 simp only[push_cast,seval,h2,h4,h6,h13,h14,h15,h16,h18,h20,h27,h28,h29,h32,h36]
 refine e_ret (.inr rfl) ?_
 simp only[push_cast,seval,aret,aresults,aresult,h2,h4,h6,h13,h14,h15,h16,h18,h20,h27,h28,h29,h32,h36]
 refine ⟨_, rfl, ?_⟩
 first | (simp only[push_cast,seval,h2,h4,h6,h13,h14,h15,h16,h18,h20,h27,h28,h29,h32,h36] <;> rfl) | rfl
end Go.Proofs.Tryd
