/- Texts of one proof, gathered: Tab Vm19 Vm20 Vm21 Vm22 Vm23 Flt. -/
import Derived.Test.YtipomdmlkkifcaaGreatDoorPart2
import Derived.Test.YtipomdmlkkifcaaGreatDoorProg
import Derived.KernelRfl
import Derived.Lib.DecodeN
import Derived.Lib.ItoaNum
import Derived.LoopN
import GoSem.Core.Float
import Derived.Laws.FloatArith
set_option linter.unusedSimpArgs false
set_option linter.unusedVariables false
set_option linter.unnecessarySimpa false
/- The table of types of this seat's program, by program. -/
namespace Go.Proofs.YtipomdmlkkifcaaGreatDoor.Vm
open Go Go.Proofs
/-- The package-level variables that are read: what they hold. -/
def gFirst : List T := (List.range 256).map fun c => .i .u8 (Lib.firstT c : Nat)
def gAccept : List T := (List.range 16).flatMap fun i => [.i .u8 (Lib.accLo i : Nat), .i .u8 (Lib.accHi i : Nat)]
def gPow10 : List T := Lib.pow10Tab.map fun x => .i .u64 x
def tab : Tab := .node 184 (.node 87 (.node 42 (.node 20 (.node 10 (.node 5 (.node 3 (.node 2 (.leaf 1 ⟨.func, 1, 8, false, [.nfn]⟩) (.leaf 2 ⟨.int .i64, 1, 8, false, [.i .i64 0]⟩)) (.node 4 (.leaf 3 ⟨.int .i64, 1, 8, false, [.i .i64 0]⟩) (.leaf 4 ⟨.bool, 1, 1, false, [.bl false]⟩))) (.node 7 (.node 6 (.leaf 5 ⟨.int .u8, 1, 1, false, [.i .u8 0]⟩) (.leaf 6 ⟨.int .u8, 1, 1, false, [.i .u8 0]⟩)) (.node 8 (.leaf 7 ⟨.struct [(0, 1, false), (1, 1, false), (2, 1, false), (3, 1, false)], 4, 24, true, [.i .i64 0, .i .i64 0, .bl false, .i .u8 0]⟩) (.node 9 (.leaf 8 ⟨.struct [(0, 1, false), (1, 1, false), (2, 1, false), (3, 1, false)], 4, 24, true, [.i .i64 0, .i .i64 0, .bl false, .i .u8 0]⟩) (.leaf 9 ⟨.str, 1, 16, false, [.s []]⟩))))) (.node 15 (.node 12 (.node 11 (.leaf 10 ⟨.str, 1, 16, false, [.s []]⟩) (.leaf 11 ⟨.str, 1, 16, false, [.s []]⟩)) (.node 13 (.leaf 12 ⟨.int .u64, 1, 8, false, [.i .u64 0]⟩) (.node 14 (.leaf 13 ⟨.struct [(0, 1, false), (1, 1, false)], 2, 24, true, [.s [], .i .u64 0]⟩) (.leaf 14 ⟨.struct [(0, 1, false), (1, 1, false)], 2, 24, true, [.s [], .i .u64 0]⟩)))) (.node 17 (.node 16 (.leaf 15 ⟨.ptr 345, 1, 8, false, [.np]⟩) (.leaf 16 ⟨.ptr 348, 1, 8, false, [.np]⟩)) (.node 18 (.leaf 17 ⟨.ptr 355, 1, 8, false, [.np]⟩) (.node 19 (.leaf 18 ⟨.struct [(0, 1, false)], 1, 8, true, [.np]⟩) (.leaf 19 ⟨.struct [(0, 1, false)], 1, 8, true, [.np]⟩)))))) (.node 30 (.node 24 (.node 22 (.node 21 (.leaf 20 ⟨.other, 1, 16, false, [.nif]⟩) (.leaf 21 ⟨.int .i32, 1, 4, false, [.i .i32 0]⟩)) (.node 23 (.leaf 22 ⟨.func, 1, 8, false, [.nfn]⟩) (.leaf 23 ⟨.slice 9, 1, 24, false, [.nsl]⟩))) (.node 27 (.node 26 (.leaf 24 ⟨.int .i64, 1, 8, false, [.i .i64 0]⟩) (.leaf 26 ⟨.func, 1, 8, false, [.nfn]⟩)) (.node 28 (.leaf 27 ⟨.func, 1, 8, false, [.nfn]⟩) (.node 29 (.leaf 28 ⟨.func, 1, 8, false, [.nfn]⟩) (.leaf 29 ⟨.slice 60, 1, 24, false, [.nsl]⟩))))) (.node 36 (.node 32 (.node 31 (.leaf 30 ⟨.struct [(0, 1, false), (1, 1, false), (2, 1, false), (3, 1, false)], 4, 64, true, [.s [], .s [], .s [], .s []]⟩) (.leaf 31 ⟨.struct [(0, 1, false), (1, 1, false), (2, 1, false), (3, 1, false)], 4, 64, true, [.s [], .s [], .s [], .s []]⟩)) (.node 33 (.leaf 32 ⟨.struct [(0, 1, false), (1, 1, false), (2, 1, false), (3, 4, true)], 7, 112, true, [.i .i64 0, .s [], .nsl, .s [], .s [], .s [], .s []]⟩) (.node 34 (.leaf 33 ⟨.struct [(0, 1, false), (1, 1, false), (2, 1, false), (3, 4, true)], 7, 112, true, [.i .i64 0, .s [], .nsl, .s [], .s [], .s [], .s []]⟩) (.leaf 34 ⟨.func, 1, 8, false, [.nfn]⟩)))) (.node 39 (.node 38 (.leaf 36 ⟨.func, 1, 8, false, [.nfn]⟩) (.leaf 38 ⟨.func, 1, 8, false, [.nfn]⟩)) (.node 40 (.leaf 39 ⟨.func, 1, 8, false, [.nfn]⟩) (.node 41 (.leaf 40 ⟨.func, 1, 8, false, [.nfn]⟩) (.leaf 41 ⟨.func, 1, 8, false, [.nfn]⟩))))))) (.node 64 (.node 52 (.node 46 (.node 44 (.node 43 (.leaf 42 ⟨.func, 1, 8, false, [.nfn]⟩) (.leaf 43 ⟨.func, 1, 8, false, [.nfn]⟩)) (.node 45 (.leaf 44 ⟨.func, 1, 8, false, [.nfn]⟩) (.leaf 45 ⟨.func, 1, 8, false, [.nfn]⟩))) (.node 48 (.node 47 (.leaf 46 ⟨.func, 1, 8, false, [.nfn]⟩) (.leaf 47 ⟨.func, 1, 8, false, [.nfn]⟩)) (.node 49 (.leaf 48 ⟨.struct [(0, 1, false), (1, 1, false)], 2, 16, true, [.i .i64 0, .i .i64 0]⟩) (.node 51 (.leaf 49 ⟨.struct [(0, 1, false), (1, 1, false)], 2, 16, true, [.i .i64 0, .i .i64 0]⟩) (.leaf 51 ⟨.func, 1, 8, false, [.nfn]⟩))))) (.node 58 (.node 54 (.node 53 (.leaf 52 ⟨.func, 1, 8, false, [.nfn]⟩) (.leaf 53 ⟨.struct [(0, 1, false), (1, 4, true), (5, 1, false), (6, 1, false), (7, 1, false), (8, 1, false)], 9, 152, true, [.s [], .s [], .s [], .s [], .s [], .nsl, .s [], .s [], .s []]⟩)) (.node 56 (.leaf 54 ⟨.struct [(0, 1, false), (1, 4, true), (5, 1, false), (6, 1, false), (7, 1, false), (8, 1, false)], 9, 152, true, [.s [], .s [], .s [], .s [], .s [], .nsl, .s [], .s [], .s []]⟩) (.node 57 (.leaf 56 ⟨.func, 1, 8, false, [.nfn]⟩) (.leaf 57 ⟨.func, 1, 8, false, [.nfn]⟩)))) (.node 60 (.node 59 (.leaf 58 ⟨.func, 1, 8, false, [.nfn]⟩) (.leaf 59 ⟨.struct [(0, 1, false), (1, 1, false)], 2, 24, true, [.i .i64 0, .s []]⟩)) (.node 61 (.leaf 60 ⟨.struct [(0, 1, false), (1, 1, false)], 2, 24, true, [.i .i64 0, .s []]⟩) (.node 62 (.leaf 61 ⟨.func, 1, 8, false, [.nfn]⟩) (.leaf 62 ⟨.struct [(0, 1, false), (1, 4, true), (5, 1, false), (6, 1, false), (7, 1, false), (8, 1, false)], 9, 152, true, [.s [], .s [], .s [], .s [], .s [], .nsl, .s [], .s [], .s []]⟩)))))) (.node 76 (.node 69 (.node 66 (.node 65 (.leaf 64 ⟨.func, 1, 8, false, [.nfn]⟩) (.leaf 65 ⟨.func, 1, 8, false, [.nfn]⟩)) (.node 67 (.leaf 66 ⟨.func, 1, 8, false, [.nfn]⟩) (.node 68 (.leaf 67 ⟨.func, 1, 8, false, [.nfn]⟩) (.leaf 68 ⟨.func, 1, 8, false, [.nfn]⟩)))) (.node 72 (.node 71 (.leaf 69 ⟨.func, 1, 8, false, [.nfn]⟩) (.leaf 71 ⟨.func, 1, 8, false, [.nfn]⟩)) (.node 73 (.leaf 72 ⟨.func, 1, 8, false, [.nfn]⟩) (.node 74 (.leaf 73 ⟨.func, 1, 8, false, [.nfn]⟩) (.leaf 74 ⟨.func, 1, 8, false, [.nfn]⟩))))) (.node 81 (.node 78 (.node 77 (.leaf 76 ⟨.func, 1, 8, false, [.nfn]⟩) (.leaf 77 ⟨.func, 1, 8, false, [.nfn]⟩)) (.node 79 (.leaf 78 ⟨.func, 1, 8, false, [.nfn]⟩) (.node 80 (.leaf 79 ⟨.func, 1, 8, false, [.nfn]⟩) (.leaf 80 ⟨.func, 1, 8, false, [.nfn]⟩)))) (.node 84 (.node 82 (.leaf 81 ⟨.slice 88, 1, 24, false, [.nsl]⟩) (.leaf 82 ⟨.slice 88, 1, 24, false, [.nsl]⟩)) (.node 85 (.leaf 84 ⟨.func, 1, 8, false, [.nfn]⟩) (.node 86 (.leaf 85 ⟨.func, 1, 8, false, [.nfn]⟩) (.leaf 86 ⟨.slice 3, 1, 24, false, [.nsl]⟩)))))))) (.node 137 (.node 109 (.node 98 (.node 92 (.node 89 (.node 88 (.leaf 87 ⟨.struct [(0, 1, false), (1, 1, false), (2, 1, false), (3, 1, false), (4, 1, false)], 5, 64, true, [.i .i64 0, .i .i64 0, .bl false, .s [], .nsl]⟩) (.leaf 88 ⟨.struct [(0, 1, false), (1, 1, false), (2, 1, false), (3, 1, false), (4, 1, false)], 5, 64, true, [.i .i64 0, .i .i64 0, .bl false, .s [], .nsl]⟩)) (.node 90 (.leaf 89 ⟨.func, 1, 8, false, [.nfn]⟩) (.leaf 90 ⟨.func, 1, 8, false, [.nfn]⟩))) (.node 94 (.node 93 (.leaf 92 ⟨.func, 1, 8, false, [.nfn]⟩) (.leaf 93 ⟨.ptr 88, 1, 8, false, [.np]⟩)) (.node 95 (.leaf 94 ⟨.func, 1, 8, false, [.nfn]⟩) (.node 96 (.leaf 95 ⟨.cx .f64, 1, 16, false, [.cx .f64 0 0]⟩) (.leaf 96 ⟨.arr 4 95, 4, 64, true, [.cx .f64 0 0, .cx .f64 0 0, .cx .f64 0 0, .cx .f64 0 0]⟩))))) (.node 103 (.node 100 (.node 99 (.leaf 98 ⟨.func, 1, 8, false, [.nfn]⟩) (.leaf 99 ⟨.ptr 102, 1, 8, false, [.np]⟩)) (.node 101 (.leaf 100 ⟨.slice 5, 1, 24, false, [.nsl]⟩) (.node 102 (.leaf 101 ⟨.struct [(0, 1, false), (1, 1, false)], 2, 32, true, [.np, .nsl]⟩) (.leaf 102 ⟨.struct [(0, 1, false), (1, 1, false)], 2, 32, true, [.np, .nsl]⟩)))) (.node 105 (.node 104 (.leaf 103 ⟨.func, 1, 8, false, [.nfn]⟩) (.leaf 104 ⟨.other, 1, 16, false, [.nif]⟩)) (.node 107 (.leaf 105 ⟨.other, 1, 16, false, [.nif]⟩) (.node 108 (.leaf 107 ⟨.func, 1, 8, false, [.nfn]⟩) (.leaf 108 ⟨.func, 1, 8, false, [.nfn]⟩)))))) (.node 123 (.node 116 (.node 111 (.node 110 (.leaf 109 ⟨.int .u64, 1, 8, false, [.i .u64 0]⟩) (.leaf 110 ⟨.struct [(0, 1, false), (1, 1, false), (2, 1, false), (3, 4, true)], 7, 96, true, [.i .i64 0, .s [], .i .i64 0, .s [], .s [], .s [], .s []]⟩)) (.node 113 (.leaf 111 ⟨.struct [(0, 1, false), (1, 1, false), (2, 1, false), (3, 4, true)], 7, 96, true, [.i .i64 0, .s [], .i .i64 0, .s [], .s [], .s [], .s []]⟩) (.node 114 (.leaf 113 ⟨.func, 1, 8, false, [.nfn]⟩) (.leaf 114 ⟨.slice 177, 1, 24, false, [.nsl]⟩)))) (.node 120 (.node 118 (.leaf 116 ⟨.func, 1, 8, false, [.nfn]⟩) (.leaf 118 ⟨.func, 1, 8, false, [.nfn]⟩)) (.node 121 (.leaf 120 ⟨.func, 1, 8, false, [.nfn]⟩) (.node 122 (.leaf 121 ⟨.func, 1, 8, false, [.nfn]⟩) (.leaf 122 ⟨.func, 1, 8, false, [.nfn]⟩))))) (.node 129 (.node 125 (.node 124 (.leaf 123 ⟨.int .u64, 1, 8, false, [.i .u64 0]⟩) (.leaf 124 ⟨.struct [(0, 1, false), (1, 1, false)], 2, 32, true, [.s [], .s []]⟩)) (.node 127 (.leaf 125 ⟨.struct [(0, 1, false), (1, 1, false)], 2, 32, true, [.s [], .s []]⟩) (.node 128 (.leaf 127 ⟨.func, 1, 8, false, [.nfn]⟩) (.leaf 128 ⟨.func, 1, 8, false, [.nfn]⟩)))) (.node 133 (.node 131 (.leaf 129 ⟨.func, 1, 8, false, [.nfn]⟩) (.leaf 131 ⟨.func, 1, 8, false, [.nfn]⟩)) (.node 134 (.leaf 133 ⟨.func, 1, 8, false, [.nfn]⟩) (.node 135 (.leaf 134 ⟨.func, 1, 8, false, [.nfn]⟩) (.leaf 135 ⟨.func, 1, 8, false, [.nfn]⟩))))))) (.node 160 (.node 148 (.node 143 (.node 141 (.node 139 (.leaf 137 ⟨.func, 1, 8, false, [.nfn]⟩) (.leaf 139 ⟨.func, 1, 8, false, [.nfn]⟩)) (.node 142 (.leaf 141 ⟨.func, 1, 8, false, [.nfn]⟩) (.leaf 142 ⟨.struct [(0, 1, false), (1, 1, false), (2, 1, false), (3, 1, false), (4, 1, false)], 5, 64, true, [.s [], .i .i64 0, .s [], .i .i64 0, .s []]⟩))) (.node 145 (.node 144 (.leaf 143 ⟨.struct [(0, 1, false), (1, 1, false), (2, 1, false), (3, 1, false), (4, 1, false)], 5, 64, true, [.s [], .i .i64 0, .s [], .i .i64 0, .s []]⟩) (.leaf 144 ⟨.func, 1, 8, false, [.nfn]⟩)) (.node 146 (.leaf 145 ⟨.func, 1, 8, false, [.nfn]⟩) (.node 147 (.leaf 146 ⟨.ptr 149, 1, 8, false, [.np]⟩) (.leaf 147 ⟨.slice 95, 1, 24, false, [.nsl]⟩))))) (.node 154 (.node 150 (.node 149 (.leaf 148 ⟨.struct [(0, 1, false), (1, 1, false), (2, 1, false), (3, 1, false)], 4, 88, true, [.s [], .nsl, .nsl, .nsl]⟩) (.leaf 149 ⟨.struct [(0, 1, false), (1, 1, false), (2, 1, false), (3, 1, false)], 4, 88, true, [.s [], .nsl, .nsl, .nsl]⟩)) (.node 152 (.leaf 150 ⟨.func, 1, 8, false, [.nfn]⟩) (.node 153 (.leaf 152 ⟨.func, 1, 8, false, [.nfn]⟩) (.leaf 153 ⟨.func, 1, 8, false, [.nfn]⟩)))) (.node 156 (.node 155 (.leaf 154 ⟨.func, 1, 8, false, [.nfn]⟩) (.leaf 155 ⟨.func, 1, 8, false, [.nfn]⟩)) (.node 157 (.leaf 156 ⟨.func, 1, 8, false, [.nfn]⟩) (.node 159 (.leaf 157 ⟨.func, 1, 8, false, [.nfn]⟩) (.leaf 159 ⟨.func, 1, 8, false, [.nfn]⟩)))))) (.node 172 (.node 165 (.node 162 (.node 161 (.leaf 160 ⟨.func, 1, 8, false, [.nfn]⟩) (.leaf 161 ⟨.fl .f64, 1, 8, false, [.fl .f64 0]⟩)) (.node 163 (.leaf 162 ⟨.struct [(0, 1, false), (1, 1, false), (2, 1, false), (3, 1, false)], 4, 32, true, [.i .i64 0, .i .i64 0, .bl false, .i .i64 0]⟩) (.node 164 (.leaf 163 ⟨.struct [(0, 1, false), (1, 1, false), (2, 1, false), (3, 1, false)], 4, 32, true, [.i .i64 0, .i .i64 0, .bl false, .i .i64 0]⟩) (.leaf 164 ⟨.struct [(0, 1, false), (1, 1, false), (2, 1, false), (3, 4, true)], 7, 96, true, [.i .i64 0, .s [], .i .i64 0, .s [], .s [], .s [], .s []]⟩)))) (.node 168 (.node 167 (.leaf 165 ⟨.slice 235, 1, 24, false, [.nsl]⟩) (.leaf 167 ⟨.func, 1, 8, false, [.nfn]⟩)) (.node 170 (.leaf 168 ⟨.func, 1, 8, false, [.nfn]⟩) (.node 171 (.leaf 170 ⟨.func, 1, 8, false, [.nfn]⟩) (.leaf 171 ⟨.func, 1, 8, false, [.nfn]⟩))))) (.node 177 (.node 174 (.node 173 (.leaf 172 ⟨.func, 1, 8, false, [.nfn]⟩) (.leaf 173 ⟨.func, 1, 8, false, [.nfn]⟩)) (.node 175 (.leaf 174 ⟨.func, 1, 8, false, [.nfn]⟩) (.node 176 (.leaf 175 ⟨.ptr 5, 1, 8, false, [.np]⟩) (.leaf 176 ⟨.struct [(0, 1, false), (1, 1, false)], 2, 32, true, [.s [], .s []]⟩)))) (.node 180 (.node 179 (.leaf 177 ⟨.struct [(0, 1, false), (1, 1, false)], 2, 32, true, [.s [], .s []]⟩) (.leaf 179 ⟨.func, 1, 8, false, [.nfn]⟩)) (.node 181 (.leaf 180 ⟨.func, 1, 8, false, [.nfn]⟩) (.node 183 (.leaf 181 ⟨.func, 1, 8, false, [.nfn]⟩) (.leaf 183 ⟨.func, 1, 8, false, [.nfn]⟩))))))))) (.node 270 (.node 230 (.node 207 (.node 195 (.node 189 (.node 186 (.node 185 (.leaf 184 ⟨.func, 1, 8, false, [.nfn]⟩) (.leaf 185 ⟨.func, 1, 8, false, [.nfn]⟩)) (.node 187 (.leaf 186 ⟨.arr 8 5, 8, 8, true, [.i .u8 0, .i .u8 0, .i .u8 0, .i .u8 0, .i .u8 0, .i .u8 0, .i .u8 0, .i .u8 0]⟩) (.leaf 187 ⟨.ptr 258, 1, 8, false, [.np]⟩))) (.node 192 (.node 191 (.leaf 189 ⟨.func, 1, 8, false, [.nfn]⟩) (.leaf 191 ⟨.func, 1, 8, false, [.nfn]⟩)) (.node 193 (.leaf 192 ⟨.func, 1, 8, false, [.nfn]⟩) (.node 194 (.leaf 193 ⟨.func, 1, 8, false, [.nfn]⟩) (.leaf 194 ⟨.func, 1, 8, false, [.nfn]⟩))))) (.node 200 (.node 197 (.node 196 (.leaf 195 ⟨.func, 1, 8, false, [.nfn]⟩) (.leaf 196 ⟨.func, 1, 8, false, [.nfn]⟩)) (.node 198 (.leaf 197 ⟨.func, 1, 8, false, [.nfn]⟩) (.node 199 (.leaf 198 ⟨.func, 1, 8, false, [.nfn]⟩) (.leaf 199 ⟨.func, 1, 8, false, [.nfn]⟩)))) (.node 204 (.node 202 (.leaf 200 ⟨.arr 2 9, 2, 32, true, [.s [], .s []]⟩) (.leaf 202 ⟨.func, 1, 8, false, [.nfn]⟩)) (.node 205 (.leaf 204 ⟨.func, 1, 8, false, [.nfn]⟩) (.node 206 (.leaf 205 ⟨.func, 1, 8, false, [.nfn]⟩) (.leaf 206 ⟨.func, 1, 8, false, [.nfn]⟩)))))) (.node 218 (.node 212 (.node 209 (.node 208 (.leaf 207 ⟨.func, 1, 8, false, [.nfn]⟩) (.leaf 208 ⟨.slice 143, 1, 24, false, [.nsl]⟩)) (.node 211 (.leaf 209 ⟨.func, 1, 8, false, [.nfn]⟩) (.leaf 211 ⟨.func, 1, 8, false, [.nfn]⟩))) (.node 214 (.node 213 (.leaf 212 ⟨.func, 1, 8, false, [.nfn]⟩) (.leaf 213 ⟨.func, 1, 8, false, [.nfn]⟩)) (.node 215 (.leaf 214 ⟨.func, 1, 8, false, [.nfn]⟩) (.node 216 (.leaf 215 ⟨.func, 1, 8, false, [.nfn]⟩) (.leaf 216 ⟨.int .u32, 1, 4, false, [.i .u32 0]⟩))))) (.node 225 (.node 221 (.node 220 (.leaf 218 ⟨.func, 1, 8, false, [.nfn]⟩) (.leaf 220 ⟨.func, 1, 8, false, [.nfn]⟩)) (.node 222 (.leaf 221 ⟨.func, 1, 8, false, [.nfn]⟩) (.node 223 (.leaf 222 ⟨.arr 256 4, 256, 256, true, (List.replicate 256 (.bl false))⟩) (.leaf 223 ⟨.arr 256 4, 256, 256, true, (List.replicate 256 (.bl false))⟩)))) (.node 227 (.node 226 (.leaf 225 ⟨.func, 1, 8, false, [.nfn]⟩) (.leaf 226 ⟨.func, 1, 8, false, [.nfn]⟩)) (.node 228 (.leaf 227 ⟨.ptr 223, 1, 8, false, [.np]⟩) (.node 229 (.leaf 228 ⟨.arr 2 3, 2, 16, true, [.i .i64 0, .i .i64 0]⟩) (.leaf 229 ⟨.func, 1, 8, false, [.nfn]⟩))))))) (.node 250 (.node 240 (.node 234 (.node 232 (.node 231 (.leaf 230 ⟨.func, 1, 8, false, [.nfn]⟩) (.leaf 231 ⟨.ptr 233, 1, 8, false, [.np]⟩)) (.node 233 (.leaf 232 ⟨.struct [(0, 1, false)], 1, 16, true, [.s []]⟩) (.leaf 233 ⟨.struct [(0, 1, false)], 1, 16, true, [.s []]⟩))) (.node 237 (.node 235 (.leaf 234 ⟨.func, 1, 8, false, [.nfn]⟩) (.leaf 235 ⟨.struct [(0, 1, false), (1, 1, false)], 2, 32, true, [.s [], .s []]⟩)) (.node 238 (.leaf 237 ⟨.func, 1, 8, false, [.nfn]⟩) (.node 239 (.leaf 238 ⟨.func, 1, 8, false, [.nfn]⟩) (.leaf 239 ⟨.other, 1, 8, false, [.np]⟩))))) (.node 245 (.node 242 (.node 241 (.leaf 240 ⟨.func, 1, 8, false, [.nfn]⟩) (.leaf 241 ⟨.func, 1, 8, false, [.nfn]⟩)) (.node 243 (.leaf 242 ⟨.func, 1, 8, false, [.nfn]⟩) (.node 244 (.leaf 243 ⟨.func, 1, 8, false, [.nfn]⟩) (.leaf 244 ⟨.struct [(0, 1, false), (1, 1, false), (2, 1, false)], 3, 48, true, [.s [], .s [], .s []]⟩)))) (.node 247 (.node 246 (.leaf 245 ⟨.struct [(0, 1, false), (1, 1, false), (2, 1, false)], 3, 48, true, [.s [], .s [], .s []]⟩) (.leaf 246 ⟨.func, 1, 8, false, [.nfn]⟩)) (.node 248 (.leaf 247 ⟨.func, 1, 8, false, [.nfn]⟩) (.node 249 (.leaf 248 ⟨.func, 1, 8, false, [.nfn]⟩) (.leaf 249 ⟨.func, 1, 8, false, [.nfn]⟩)))))) (.node 260 (.node 255 (.node 252 (.node 251 (.leaf 250 ⟨.func, 1, 8, false, [.nfn]⟩) (.leaf 251 ⟨.struct [(0, 1, false), (1, 1, false), (2, 1, false), (3, 1, false)], 4, 56, true, [.s [], .s [], .s [], .i .i64 0]⟩)) (.node 253 (.leaf 252 ⟨.struct [(0, 1, false), (1, 1, false), (2, 1, false), (3, 1, false)], 4, 56, true, [.s [], .s [], .s [], .i .i64 0]⟩) (.node 254 (.leaf 253 ⟨.func, 1, 8, false, [.nfn]⟩) (.leaf 254 ⟨.func, 1, 8, false, [.nfn]⟩)))) (.node 257 (.node 256 (.leaf 255 ⟨.ptr 265, 1, 8, false, [.np]⟩) (.leaf 256 ⟨.func, 1, 8, false, [.nfn]⟩)) (.node 258 (.leaf 257 ⟨.struct [(0, 1, false), (1, 1, false), (2, 1, false)], 3, 40, true, [.i .i64 0, .nsl, .np]⟩) (.node 259 (.leaf 258 ⟨.struct [(0, 1, false), (1, 1, false), (2, 1, false)], 3, 40, true, [.i .i64 0, .nsl, .np]⟩) (.leaf 259 ⟨.func, 1, 8, false, [.nfn]⟩))))) (.node 265 (.node 262 (.node 261 (.leaf 260 ⟨.arr 16 5, 16, 16, true, (List.replicate 16 (.i .u8 0))⟩) (.leaf 261 ⟨.func, 1, 8, false, [.nfn]⟩)) (.node 263 (.leaf 262 ⟨.ptr 260, 1, 8, false, [.np]⟩) (.node 264 (.leaf 263 ⟨.arr 256 5, 256, 256, true, (List.replicate 256 (.i .u8 0))⟩) (.leaf 264 ⟨.struct [(0, 256, true), (256, 256, true), (512, 256, true), (768, 256, true), (1024, 256, true), (1280, 256, true), (1536, 256, true)], 1792, 1792, true, (List.replicate 1792 (.i .u8 0))⟩)))) (.node 267 (.node 266 (.leaf 265 ⟨.struct [(0, 256, true), (256, 256, true), (512, 256, true), (768, 256, true), (1024, 256, true), (1280, 256, true), (1536, 256, true)], 1792, 1792, true, (List.replicate 1792 (.i .u8 0))⟩) (.leaf 266 ⟨.func, 1, 8, false, [.nfn]⟩)) (.node 268 (.leaf 267 ⟨.func, 1, 8, false, [.nfn]⟩) (.node 269 (.leaf 268 ⟨.func, 1, 8, false, [.nfn]⟩) (.leaf 269 ⟨.arr 2 5, 2, 2, true, [.i .u8 0, .i .u8 0]⟩)))))))) (.node 316 (.node 292 (.node 280 (.node 275 (.node 273 (.node 271 (.leaf 270 ⟨.func, 1, 8, false, [.nfn]⟩) (.leaf 271 ⟨.func, 1, 8, false, [.nfn]⟩)) (.node 274 (.leaf 273 ⟨.func, 1, 8, false, [.nfn]⟩) (.leaf 274 ⟨.func, 1, 8, false, [.nfn]⟩))) (.node 277 (.node 276 (.leaf 275 ⟨.func, 1, 8, false, [.nfn]⟩) (.leaf 276 ⟨.slice 279, 1, 24, false, [.nsl]⟩)) (.node 278 (.leaf 277 ⟨.func, 1, 8, false, [.nfn]⟩) (.node 279 (.leaf 278 ⟨.struct [(0, 1, false), (1, 1, false)], 2, 16, true, [.i .i64 0, .i .i64 0]⟩) (.leaf 279 ⟨.struct [(0, 1, false), (1, 1, false)], 2, 16, true, [.i .i64 0, .i .i64 0]⟩))))) (.node 286 (.node 283 (.node 282 (.leaf 280 ⟨.ptr 279, 1, 8, false, [.np]⟩) (.leaf 282 ⟨.func, 1, 8, false, [.nfn]⟩)) (.node 284 (.leaf 283 ⟨.func, 1, 8, false, [.nfn]⟩) (.node 285 (.leaf 284 ⟨.arr 24 5, 24, 24, true, (List.replicate 24 (.i .u8 0))⟩) (.leaf 285 ⟨.func, 1, 8, false, [.nfn]⟩)))) (.node 289 (.node 288 (.leaf 286 ⟨.func, 1, 8, false, [.nfn]⟩) (.leaf 288 ⟨.func, 1, 8, false, [.nfn]⟩)) (.node 290 (.leaf 289 ⟨.arr 10 245, 30, 480, true, (List.replicate 30 (.s []))⟩) (.node 291 (.leaf 290 ⟨.func, 1, 8, false, [.nfn]⟩) (.leaf 291 ⟨.func, 1, 8, false, [.nfn]⟩)))))) (.node 305 (.node 297 (.node 294 (.node 293 (.leaf 292 ⟨.arr 4 252, 16, 224, true, [.s [], .s [], .s [], .i .i64 0, .s [], .s [], .s [], .i .i64 0, .s [], .s [], .s [], .i .i64 0, .s [], .s [], .s [], .i .i64 0]⟩) (.leaf 293 ⟨.func, 1, 8, false, [.nfn]⟩)) (.node 295 (.leaf 294 ⟨.func, 1, 8, false, [.nfn]⟩) (.node 296 (.leaf 295 ⟨.func, 1, 8, false, [.nfn]⟩) (.leaf 296 ⟨.func, 1, 8, false, [.nfn]⟩)))) (.node 301 (.node 299 (.leaf 297 ⟨.arr 7 5, 7, 7, true, [.i .u8 0, .i .u8 0, .i .u8 0, .i .u8 0, .i .u8 0, .i .u8 0, .i .u8 0]⟩) (.leaf 299 ⟨.func, 1, 8, false, [.nfn]⟩)) (.node 303 (.leaf 301 ⟨.func, 1, 8, false, [.nfn]⟩) (.node 304 (.leaf 303 ⟨.func, 1, 8, false, [.nfn]⟩) (.leaf 304 ⟨.func, 1, 8, false, [.nfn]⟩))))) (.node 311 (.node 308 (.node 307 (.leaf 305 ⟨.int .i64, 1, 8, false, [.i .i64 0]⟩) (.leaf 307 ⟨.func, 1, 8, false, [.nfn]⟩)) (.node 309 (.leaf 308 ⟨.ptr 330, 1, 8, false, [.np]⟩) (.node 310 (.leaf 309 ⟨.func, 1, 8, false, [.nfn]⟩) (.leaf 310 ⟨.func, 1, 8, false, [.nfn]⟩)))) (.node 313 (.node 312 (.leaf 311 ⟨.func, 1, 8, false, [.nfn]⟩) (.leaf 312 ⟨.func, 1, 8, false, [.nfn]⟩)) (.node 314 (.leaf 313 ⟨.arr 20 123, 20, 160, true, (List.replicate 20 (.i .u64 0))⟩) (.node 315 (.leaf 314 ⟨.arr 65 5, 65, 65, true, (List.replicate 65 (.i .u8 0))⟩) (.leaf 315 ⟨.func, 1, 8, false, [.nfn]⟩))))))) (.node 336 (.node 325 (.node 320 (.node 318 (.node 317 (.leaf 316 ⟨.slice 216, 1, 24, false, [.nsl]⟩) (.leaf 317 ⟨.func, 1, 8, false, [.nfn]⟩)) (.node 319 (.leaf 318 ⟨.func, 1, 8, false, [.nfn]⟩) (.leaf 319 ⟨.func, 1, 8, false, [.nfn]⟩))) (.node 322 (.node 321 (.leaf 320 ⟨.func, 1, 8, false, [.nfn]⟩) (.leaf 321 ⟨.func, 1, 8, false, [.nfn]⟩)) (.node 323 (.leaf 322 ⟨.func, 1, 8, false, [.nfn]⟩) (.node 324 (.leaf 323 ⟨.struct [(0, 1, false), (1, 1, false)], 2, 2, true, [.i .u8 0, .i .u8 0]⟩) (.leaf 324 ⟨.struct [(0, 1, false), (1, 1, false)], 2, 2, true, [.i .u8 0, .i .u8 0]⟩))))) (.node 331 (.node 328 (.node 326 (.leaf 325 ⟨.arr 16 324, 32, 32, true, (List.replicate 32 (.i .u8 0))⟩) (.leaf 326 ⟨.func, 1, 8, false, [.nfn]⟩)) (.node 329 (.leaf 328 ⟨.func, 1, 8, false, [.nfn]⟩) (.node 330 (.leaf 329 ⟨.struct [(0, 1, false), (1, 1, false), (2, 1, false)], 3, 48, true, [.s [], .s [], .nif]⟩) (.leaf 330 ⟨.struct [(0, 1, false), (1, 1, false), (2, 1, false)], 3, 48, true, [.s [], .s [], .nif]⟩)))) (.node 333 (.node 332 (.leaf 331 ⟨.func, 1, 8, false, [.nfn]⟩) (.leaf 332 ⟨.func, 1, 8, false, [.nfn]⟩)) (.node 334 (.leaf 333 ⟨.func, 1, 8, false, [.nfn]⟩) (.node 335 (.leaf 334 ⟨.func, 1, 8, false, [.nfn]⟩) (.leaf 335 ⟨.func, 1, 8, false, [.nfn]⟩)))))) (.node 346 (.node 341 (.node 338 (.node 337 (.leaf 336 ⟨.func, 1, 8, false, [.nfn]⟩) (.leaf 337 ⟨.func, 1, 8, false, [.nfn]⟩)) (.node 339 (.leaf 338 ⟨.ptr 340, 1, 8, false, [.np]⟩) (.node 340 (.leaf 339 ⟨.struct [(0, 1, false)], 1, 16, true, [.s []]⟩) (.leaf 340 ⟨.struct [(0, 1, false)], 1, 16, true, [.s []]⟩)))) (.node 343 (.node 342 (.leaf 341 ⟨.arr 32 5, 32, 32, true, (List.replicate 32 (.i .u8 0))⟩) (.leaf 342 ⟨.arr 64 5, 64, 64, true, (List.replicate 64 (.i .u8 0))⟩)) (.node 344 (.leaf 343 ⟨.func, 1, 8, false, [.nfn]⟩) (.node 345 (.leaf 344 ⟨.struct [(0, 1, false), (1, 1, false), (2, 1, false), (3, 1, false)], 4, 40, true, [.np, .np, .np, .s []]⟩) (.leaf 345 ⟨.struct [(0, 1, false), (1, 1, false), (2, 1, false), (3, 1, false)], 4, 40, true, [.np, .np, .np, .s []]⟩))))) (.node 351 (.node 348 (.node 347 (.leaf 346 ⟨.arr 0 16, 0, 0, true, []⟩) (.leaf 347 ⟨.struct [(0, 0, true)], 0, 0, true, []⟩)) (.node 349 (.leaf 348 ⟨.struct [(0, 0, true)], 0, 0, true, []⟩) (.node 350 (.leaf 349 ⟨.int .u8, 1, 1, false, [.i .u8 0]⟩) (.leaf 350 ⟨.int .u8, 1, 1, false, [.i .u8 0]⟩)))) (.node 353 (.node 352 (.leaf 351 ⟨.func, 1, 8, false, [.nfn]⟩) (.leaf 352 ⟨.int .i32, 1, 4, false, [.i .i32 0]⟩)) (.node 354 (.leaf 353 ⟨.int .i32, 1, 4, false, [.i .i32 0]⟩) (.node 355 (.leaf 354 ⟨.struct [(0, 1, false), (1, 1, false), (2, 1, false), (3, 1, false), (4, 1, false), (5, 1, false), (6, 1, false), (7, 1, false), (8, 1, false), (9, 1, false), (10, 1, false)], 11, 48, true, [.i .u64 0, .i .u64 0, .i .u32 0, .i .u8 0, .i .u8 0, .i .u8 0, .i .u8 0, .nfn, .np, .i .i32 0, .i .i32 0]⟩) (.leaf 355 ⟨.struct [(0, 1, false), (1, 1, false), (2, 1, false), (3, 1, false), (4, 1, false), (5, 1, false), (6, 1, false), (7, 1, false), (8, 1, false), (9, 1, false), (10, 1, false)], 11, 48, true, [.i .u64 0, .i .u64 0, .i .u32 0, .i .u8 0, .i .u8 0, .i .u8 0, .i .u8 0, .nfn, .np, .i .i32 0, .i .i32 0]⟩)))))))))
/-- 'm': what internal/bytealg.MaxLen holds. -/
def C (m : Int) : Ctx := ⟨tab, [(0, .rp [.i .i64 m] 0), (2, .rp gFirst 0), (3, .rp gAccept 0), (1, .rp gPow10 0), (4, .rp [.ifc 338 (.rp [.s [105, 110, 118, 97, 108, 105, 100, 32, 115, 121, 110, 116, 97, 120]] 0)] 0), (5, .rp [.ifc 338 (.rp [.s [118, 97, 108, 117, 101, 32, 111, 117, 116, 32, 111, 102, 32, 114, 97, 110, 103, 101]] 0)] 0)]⟩
theorem tab_ok {m : Int} : TabOk Tryz.prog (C m) := tabOk_of (by kernel_rfl)
theorem mixed : Tryz.prog.follows .mixedOrders = true := by kernel_rfl
end Go.Proofs.YtipomdmlkkifcaaGreatDoor.Vm
/- The symbolic machine, part 19: small things for its use: ends, rounds, arithmetic. -/
namespace Go.Proofs.YtipomdmlkkifcaaGreatDoor.Vm
open Go Go.Proofs
noncomputable abbrev P : Program := Tryz.prog
section
variable {P : Program} {C : Ctx} {nt : Nat} {kp : List Nat} {Φ : APost} {rs : Array ResultVar} {r t : T} {hout h : Heap} {e : Env}
def isEnd : Exit → Bool
  | .ret => true | .normal => true | _ => false
theorem ret_of {x : Exit} (ht : resT C e h rs.toList = some t) (hl : tle h hout t r) (h1 : heapLE h hout hout) (h2 : keepLE h hout kp) (hx : isEnd x = true := by rfl) : RetP C rs kp r hout x e h [] := by
  refine ⟨?_, rfl, ?_, h1, h2⟩
  · cases x <;> simp_all [isEnd]
  · rw [ht]; exact hl
section
variable {α : Type} {emb : α → Env} {hp : α → Heap} {pre : α → Prop} {μ : α → Nat} {x : α} {k : List Item} {ds : Ds}
/-- A round that goes back to the head. -/
theorem rd_next (y : α) (h1 : pre y) (h2 : μ y < μ x) (h3 : envLE h (hp y) e (emb y)) (h4 : heapLE h (hp y) (hp y)) (h5 : keepLE h (hp y) kp) : Round P C nt kp Φ k emb hp pre μ x .normal e h [] := ⟨rfl, y, h1, h2, h3, h4, h5⟩
theorem rd_exit {id : Nat} {k' : List Item} (hu : unwind id k = some k') (g : G P C nt kp Φ k' e h ds) : Round P C nt kp Φ k emb hp pre μ x (.exit id) e h ds := by
  simp only [Round, KG, hu]; exact g
theorem rd_ret (g : Φ .ret e h ds) : Round P C nt kp Φ k emb hp pre μ x .ret e h ds := g
end
end
@[simp] theorem szOf_1 : szOf 1 = 1 := rfl
@[simp] theorem szOf_2 : szOf 2 = 2 := rfl
@[simp] theorem szOf_3 : szOf 3 = 3 := rfl
attribute [simp] szOf_tsz
@[simp] theorem szOf_row (n e : Nat) : szOf (.row n e) = n := rfl
@[simp] theorem szOf_sz (n : Nat) : szOf (.sz n) = n := rfl
@[simp] theorem szOf_cell (n : Nat) : szOf (.cell n) = 0 := rfl
@[simp] theorem wrap_i64 (x : Int) : IntKind.i64.wrap x = (x + 9223372036854775808) % 18446744073709551616 - 9223372036854775808 := by
  simp only [IntKind.wrap, IntKind.signed, IntKind.bits]; simp; try omega
@[simp] theorem wrap_i32 (x : Int) : IntKind.i32.wrap x = (x + 2147483648) % 4294967296 - 2147483648 := by
  simp only [IntKind.wrap, IntKind.signed, IntKind.bits]; simp; try omega
@[simp] theorem wrap_i16 (x : Int) : IntKind.i16.wrap x = (x + 32768) % 65536 - 32768 := by
  simp only [IntKind.wrap, IntKind.signed, IntKind.bits]; simp; try omega
@[simp] theorem wrap_i8 (x : Int) : IntKind.i8.wrap x = (x + 128) % 256 - 128 := by
  simp only [IntKind.wrap, IntKind.signed, IntKind.bits]; simp; try omega
@[simp] theorem wrap_u8 (x : Int) : IntKind.u8.wrap x = x % 256 := by
  simp only [IntKind.wrap, IntKind.signed, IntKind.bits]; simp; try omega
@[simp] theorem wrap_u16 (x : Int) : IntKind.u16.wrap x = x % 65536 := by
  simp only [IntKind.wrap, IntKind.signed, IntKind.bits]; simp; try omega
@[simp] theorem wrap_u32 (x : Int) : IntKind.u32.wrap x = x % 4294967296 := by
  simp only [IntKind.wrap, IntKind.signed, IntKind.bits]; simp; try omega
@[simp] theorem wrap_u64 (x : Int) : IntKind.u64.wrap x = x % 18446744073709551616 := by
  simp only [IntKind.wrap, IntKind.signed, IntKind.bits]; simp; try omega
@[simp] theorem bits_u64 : IntKind.u64.bits = 64 := rfl
@[simp] theorem bits_i64 : IntKind.i64.bits = 64 := rfl
@[simp] theorem bits_u32 : IntKind.u32.bits = 32 := rfl
@[simp] theorem bits_i32 : IntKind.i32.bits = 32 := rfl
@[simp] theorem bits_u16 : IntKind.u16.bits = 16 := rfl
@[simp] theorem bits_i16 : IntKind.i16.bits = 16 := rfl
@[simp] theorem bits_u8 : IntKind.u8.bits = 8 := rfl
@[simp] theorem bits_i8 : IntKind.i8.bits = 8 := rfl
theorem w64 {x : Int} (h : -9223372036854775808 ≤ x) (h' : x ≤ 9223372036854775807) : IntKind.i64.wrap x = x := by rw [wrap_i64]; omega
@[simp] theorem look_c (r : Nat) (v : T) (e : Env) (n : Nat) : look ((r, v) :: e) n = if r = n then v else look e n := by
  simp only [look]
  by_cases h : r = n
  · subst h; simp
  · rw [if_neg h]
    cases hb : Nat.beq r n with
    | true => exact absurd (Nat.eq_of_beq_eq_true hb) h
    | false => rfl
@[simp] theorem look_nil (n : Nat) : look [] n = .top := rfl
@[simp] theorem tmod_pos {a b : Int} (h : 0 ≤ a) : a.tmod b = a % b := Int.tmod_eq_emod_of_nonneg h
@[simp] theorem tdiv_pos {a b : Int} (h : 0 ≤ a) : a.tdiv b = a / b := Int.tdiv_eq_ediv_of_nonneg h
@[simp] theorem bt_lo (l : List UInt8) (n : Int) : 0 ≤ bt l n := by simp [bt]
theorem bt_hi (l : List UInt8) (n : Int) : bt l n < 256 := by
  have := (l.getD n.toNat 0).toNat_lt
  simp only [bt]; omega
theorem bt_nat (l : List UInt8) (n : Nat) : bt l n = ((l.getD n 0).toNat : Int) := rfl
/-- A number's low bits. -/
theorem bitsI_and (k : IntKind) (x y : Nat) (hx : x < 2 ^ k.bits) (hy : y < 2 ^ k.bits) : bitsI .and k x y = k.wrap ((x &&& y : Nat) : Int) := by
  simp [bitsI, Nat.mod_eq_of_lt hx, Nat.mod_eq_of_lt hy]
theorem bitsI_or (k : IntKind) (x y : Nat) (hx : x < 2 ^ k.bits) (hy : y < 2 ^ k.bits) : bitsI .or k x y = k.wrap ((x ||| y : Nat) : Int) := by
  simp [bitsI, Nat.mod_eq_of_lt hx, Nat.mod_eq_of_lt hy]
theorem bitsI_xor (k : IntKind) (x y : Nat) (hx : x < 2 ^ k.bits) (hy : y < 2 ^ k.bits) : bitsI .xor k x y = k.wrap ((x ^^^ y : Nat) : Int) := by
  simp [bitsI, Nat.mod_eq_of_lt hx, Nat.mod_eq_of_lt hy]
section
variable {ml : Int} {nt : Nat} {kp : List Nat} {Φ : APost} {k k' : List Item} {x : Exit} {e e' : Env} {h h' : Heap} {ds ds' : Ds} {obs : List Prop}
/-- The machine to the end ('gF'), or to where it stops ('gR'); its conditions by the tactic that all texts use. -/
theorem gF (ors : List Or) (hr : run P (C ml) nt 3000 k e h ds ors [] = .fin x e' h' ds' obs) (g : Φ x e' h' ds') (ho : AllR obs True := by (simp only [AllR]; (repeat' first | assumption | exact True.intro | (show (_ : Bool) = _; assumption) | omega | apply And.intro); all_goals first | (simp; done) | (simp; omega) | exact Nat.le_of_ble_eq_true rfl | kernel_rfl)) : G P (C ml) nt kp Φ k e h ds := g_fin tab_ok mixed 3000 ors hr ho g
theorem gR (ors : List Or) (hr : run P (C ml) nt 3000 k e h ds ors [] = .cut k' e' h' ds' obs) (g : G P (C ml) nt kp Φ k' e' h' ds') (ho : AllR obs True := by (simp only [AllR]; (repeat' first | assumption | exact True.intro | (show (_ : Bool) = _; assumption) | omega | apply And.intro); all_goals first | (simp; done) | (simp; omega) | exact Nat.le_of_ble_eq_true rfl | kernel_rfl)) : G P (C ml) nt kp Φ k e h ds := g_run tab_ok mixed 3000 ors hr ho g
theorem gFs (ors : List Or) (hr : run P (C ml) nt 3000 k e h ds ors [] = .fin x e' h' ds' obs) (g : Φ x e' h' ds') (ho : AllR obs True := by (simp only [AllR]; (repeat' first | assumption | exact True.intro | (show (_ : Bool) = _; assumption) | omega | apply And.intro); all_goals first | (simp; done) | (simp; omega) | (simp_all; done) | exact Nat.le_of_ble_eq_true rfl | kernel_rfl)) : G P (C ml) nt kp Φ k e h ds := g_fin tab_ok mixed 3000 ors hr ho g
theorem gRs (ors : List Or) (hr : run P (C ml) nt 3000 k e h ds ors [] = .cut k' e' h' ds' obs) (g : G P (C ml) nt kp Φ k' e' h' ds') (ho : AllR obs True := by (simp only [AllR]; (repeat' first | assumption | exact True.intro | (show (_ : Bool) = _; assumption) | omega | apply And.intro); all_goals first | (simp; done) | (simp; omega) | (simp_all; done) | exact Nat.le_of_ble_eq_true rfl | kernel_rfl)) : G P (C ml) nt kp Φ k e h ds := g_run tab_ok mixed 3000 ors hr ho g
theorem hR {f : FuncId} {fn : Func} {c : Code} {args : List T} {hin hout : Heap} {r : T} (hf : P.funcs[f]? = some fn) (g : G P (C ml) fn.ntmps (ids hin) (RetP (C ml) fn.results (ids hin) r hout) [.code c] (enumA args 0) hin [])
    (hb : fn.body = some c := by rfl) (hnm : (fn.name == "runtime.NumGoroutine") = false := by rfl) (hc : cOk c = true := by kernel_rfl) (hlen : Nat.ble args.length fn.ntmps = true := by rfl) : HRet P (C ml) f args hin r hout := hret_of tab_ok hf hb hnm hc hlen g
end
end Go.Proofs.YtipomdmlkkifcaaGreatDoor.Vm
/- The symbolic machine, part 20: contracts of the library's, told of worlds, become contracts of the machine's. -/
namespace Go.Proofs.YtipomdmlkkifcaaGreatDoor.Vm
open Go Go.Proofs Go.RowKit
variable {C : Ctx}
/-- A function that leaves all that was there as it was, and returns a value without references. -/
theorem ret_of_calls {f : FuncId} {args : List T} {r : T} (hc : Callable P f) (h : ∀ ρ I w vals, GlobOk C I → (∀ a v, I a = some v → w.cell? a = some v) → VRs ρ (hlook []) I args vals →
    Calls P f ⟨vals⟩ w fun e w' => ∃ v, e = .returned v ∧ PV I r v ∧ Below w.heap.size w w') : Ret P C f args r := by
  refine ⟨hc, fun ρ I w vals hg hs hv => (h ρ I w vals hg hs.mem hv).mono ?_⟩
  rintro e w' ⟨v, rfl, hp, hb⟩
  refine ⟨v, r, ρ, [], I, rfl, PV.vr _ _ hp, ⟨fun a v hv => ?_, fun id g o ho => by simp [hlook] at ho, fun id id' g o g' o' ho => by simp [hlook] at ho, fun a v id g o _ ho => by simp [hlook] at ho⟩,
    ⟨hb.os, hb.tape, hb.output, hb.size, fun b hlt _ => hb.block b hlt, fun a v h => h, fun a v h => .inl h, fun id g o ho => by simp [hlook] at ho⟩, HLe.refl _ _, rfl, rfl⟩
  have h1 := hs.mem a v hv
  have hlt : a.block < w.heap.size := by
    refine Nat.lt_of_not_le fun hge => ?_
    have : w.heap[a.block]? = none := Array.getElem?_eq_none hge
    simp [World.cell?, this] at h1
  have h2 : w'.heap[a.block]? = w.heap[a.block]? := hb.block _ hlt
  simp only [World.cell?, h2] at h1 ⊢; exact h1
theorem Ext.refl {ρ : Place} {hin : Heap} {I : Mem} {w : World} : Ext w (owned ρ (hlook hin)) I ρ (hlook hin) I w :=
  ⟨rfl, rfl, rfl, Nat.le_refl _, fun _ _ _ => rfl, fun _ _ h => h, fun _ _ h => .inl h, fun id g o h l => .inr ⟨id, g, o, h, l, rfl⟩⟩
theorem callable_of {f : FuncId} {fn : Func} (hf : P.funcs[f]? = some fn) (h1 : (fn.name == "runtime.NumGoroutine") = false) (h2 : fn.body.isNone = false) : Callable P f := ⟨fn, hf, h1, h2⟩
/-- A contract as the answer to a call. -/
abbrev cc {P : Program} {C : Ctx} {f : FuncId} {args : List T} {r : T} (_ : Ret P C f args r) : Or := .c r [] []
/-- What a comparison says. -/
abbrev sz {P : Program} {op : BinOp} {t : TypeId} {X Y : Operand} {x y : T} {z : Bool} (_ : Says P op t X Y x y z) : Or := .v [.b z]
/-- What lies where an answer loads; what bytes are. -/
abbrev ldv {cs ys : List T} {off n : Nat} (_ : (cs.drop off).take n = ys) : Or := .v ys
abbrev ld1 {cs : List T} {y : T} {off : Nat} (_ : cs[off]? = some y) : Or := .v [y]
abbrev ldb {cs : List T} {l : List UInt8} (_ : cs = bytesT l) : Or := .l l
abbrev ch {P : Program} {C : Ctx} {f : FuncId} {args : List T} {hin hout : Heap} {r : T} (_ : HRet P C f args hin r hout) : Or := .c r (ids hin) hout
end Go.Proofs.YtipomdmlkkifcaaGreatDoor.Vm
/- The symbolic machine, part 21: what a function's end may be made weaker by: an object frozen. -/
namespace Go.Proofs.YtipomdmlkkifcaaGreatDoor.Vm
open Go Go.Proofs
section
variable {P : Program} {C : Ctx} {nt : Nat} {kp : List Nat} {Φ Φ' : APost}
theorem KK_mono {Q Q' : Exit → Act → World → Prop} (h : ∀ x a w, Q x a w → Q' x a w) : ∀ {k : List Item} {x : Exit} {a : Act} {w : World}, KK P Q k x a w → KK P Q' k x a w
  | [], x, a, w, hk => h x a w hk
  | .code c :: k, x, a, w, hk => by
    unfold KK Exit.then at hk ⊢
    cases x with
    | normal => exact wp_mono hk fun x a w h' => KK_mono h h'
    | _ => exact KK_mono h hk
  | .blk id :: k, x, a, w, hk => by
    unfold KK Exit.inBlock at hk ⊢
    cases x with
    | exit id' =>
      simp only at hk ⊢
      split <;> (rename_i e; first | rw [if_pos e] at hk | rw [if_neg e] at hk | skip) <;> exact KK_mono h (by simpa [*] using hk)
    | _ => exact KK_mono h hk
/-- An end at which an object is frozen first. -/
def FrzP (id : Nat) (Φ : APost) : APost := fun x e h ds => ds = [] ∧ ∃ e' h', frz id e h = some (e', h') ∧ Φ x e' h' []
theorem g_end_frz (id : Nat) {k : List Item} {e : Env} {h : Heap} {ds : Ds} (g : G P C nt kp (FrzP id Φ) k e h ds) : G P C nt kp Φ k e h ds :=
  fun hk E ρ I a w hE hp sr => KK_mono (fun x a w hq => by
    obtain ⟨e1, h1, ds1, ρ1, I1, sr1, rfl, e2, h2, hz, hx⟩ := hq
    obtain ⟨I2, sr2⟩ := frz_sr hz sr1
    exact ⟨e2, h2, [], ρ1, I2, sr2, hx⟩) (g hk E ρ I a w hE hp sr)
end
end Go.Proofs.YtipomdmlkkifcaaGreatDoor.Vm
/- The symbolic machine, part 22: a contract under other names of its objects. -/
namespace Go.Proofs.YtipomdmlkkifcaaGreatDoor.Vm
open Go Go.Proofs
/-- Two names changed for one another. -/
def sw (a b x : Nat) : Nat := match Nat.beq x a with | true => b | false => match Nat.beq x b with | true => a | false => x
theorem sw_if (a b x : Nat) : sw a b x = if x = a then b else if x = b then a else x := by
  unfold sw
  cases h : Nat.beq x a with
  | true => rw [if_pos (Nat.eq_of_beq_eq_true h)]
  | false =>
    rw [if_neg (fun e => by subst e; simp at h)]
    cases h' : Nat.beq x b with
    | true => rw [if_pos (Nat.eq_of_beq_eq_true h')]
    | false => rw [if_neg (fun e => by subst e; simp at h')]
theorem sw_sw (a b x : Nat) : sw a b (sw a b x) = x := by
  simp only [sw_if]
  by_cases h1 : x = a <;> by_cases h2 : x = b <;> simp_all
theorem sw_inj {a b x y : Nat} (h : sw a b x = sw a b y) : x = y := by rw [← sw_sw a b x, h, sw_sw]
mutual
def renT (a b : Nat) : T → T
  | .ref id g off n => .ref (sw a b id) g off n
  | .p id g off => .p (sw a b id) g off
  | .agg cs => .agg (renL a b cs)
  | .tup cs => .tup (renL a b cs)
  | .fn f x c => .fn f (renL a b x) (renL a b c)
  | .ifc t v => .ifc t (renT a b v)
  | .sl n cs => .sl n cs
  | .rp cs o => .rp cs o
  | .top => .top | .b x => .b x | .bl x => .bl x | .i k n => .i k n | .fl k x => .fl k x | .cx k x y => .cx k x y | .s l => .s l | .nsl => .nsl | .np => .np | .nfn => .nfn | .nif => .nif
def renL (a b : Nat) : List T → List T
  | [] => []
  | t :: l => renT a b t :: renL a b l
end
def renO (a b : Nat) : Obj → Obj
  | .dead => .dead
  | .row pu esz cs => .row pu esz (renL a b cs)
  | .it l p => .it l p
def renH (a b : Nat) : Heap → Heap
  | [] => []
  | (id, g, o) :: h => (sw a b id, g, renO a b o) :: renH a b h
section
variable {a b : Nat} {I : Mem} {ρ : Place}
theorem hlook_ren (a b : Nat) : ∀ (h : Heap) (x : Nat), hlook (renH a b h) (sw a b x) = (hlook h x).map fun y => (y.1, renO a b y.2)
  | [], x => rfl
  | (id, g, o) :: h, x => by
    simp only [renH, hlook]
    cases e : Nat.beq id x with
    | true =>
      obtain rfl := Nat.eq_of_beq_eq_true e
      simp
    | false =>
      have : Nat.beq (sw a b id) (sw a b x) = false := by
        cases h' : Nat.beq (sw a b id) (sw a b x) with
        | false => rfl
        | true =>
          have := sw_inj (Nat.eq_of_beq_eq_true h')
          subst this
          simp at e
      rw [this]
      exact hlook_ren a b h x
theorem hlook_ren' (a b : Nat) (h : Heap) (x : Nat) : hlook (renH a b h) x = (hlook h (sw a b x)).map fun y => (y.1, renO a b y.2) := by
  have := hlook_ren a b h (sw a b x)
  rwa [sw_sw] at this
mutual
theorem PV_ren : ∀ (t : T) (v : Value), PV I (renT a b t) v ↔ PV I t v
  | .ref .., v => by simp only [renT, PV]
  | .p .., v => by simp only [renT, PV]
  | .agg cs, v => by simp only [renT, PV]; exact exists_congr fun vs => and_congr_right fun _ => PVs_ren cs vs
  | .tup cs, v => by simp only [renT, PV]; exact exists_congr fun vs => and_congr_right fun _ => PVs_ren cs vs
  | .fn f x c, v => by simp only [renT, PV]; exact exists_congr fun xs => exists_congr fun cs => and_congr_right fun _ => and_congr (PVs_ren x xs) (PVs_ren c cs)
  | .ifc t x, v => by simp only [renT, PV]; exact exists_congr fun y => and_congr_right fun _ => PV_ren x y
  | .sl .., v => Iff.rfl
  | .rp .., v => Iff.rfl
  | .top, v => Iff.rfl
  | .b _, v => Iff.rfl
  | .bl _, v => Iff.rfl
  | .i .., v => Iff.rfl
  | .fl .., v => Iff.rfl
  | .cx .., v => Iff.rfl
  | .s _, v => Iff.rfl
  | .nsl, v => Iff.rfl
  | .np, v => Iff.rfl
  | .nfn, v => Iff.rfl
  | .nif, v => Iff.rfl
theorem PVs_ren : ∀ (ts : List T) (vs : List Value), PVs I (renL a b ts) vs ↔ PVs I ts vs
  | [], vs => Iff.rfl
  | t :: ts, vs => by simp only [renL, PVs]; exact exists_congr fun v => exists_congr fun r => and_congr_right fun _ => and_congr (PV_ren t v) (PVs_ren ts r)
end
mutual
theorem VR_ren (h : Heap) : ∀ (t : T) (v : Value), VR ρ (hlook (renH a b h)) I (renT a b t) v ↔ VR (fun x => ρ (sw a b x)) (hlook h) I t v
  | .ref id g off n, v => by
    simp only [renT, VR, hlook_ren]
    refine and_congr_right fun _ => ?_
    constructor
    · rintro ⟨g', o, e, h1, h2⟩
      cases hh : hlook h id with
      | none => rw [hh] at e; cases e
      | some y =>
        rw [hh] at e
        simp only [Option.map_some, Option.some.injEq, Prod.mk.injEq] at e
        obtain ⟨rfl, rfl⟩ := e
        refine ⟨_, _, rfl, h1, fun hg pu esz cs ho => ?_⟩
        exact h2 hg pu esz (renL a b cs) (by rw [ho]; rfl)
    · rintro ⟨g', o, e, h1, h2⟩
      refine ⟨g', renO a b o, by rw [e]; rfl, h1, fun hg pu esz cs ho => ?_⟩
      cases o with
      | row pu' esz' cs' =>
        simp only [renO, Obj.row.injEq] at ho
        obtain ⟨rfl, rfl, rfl⟩ := ho
        exact h2 hg _ _ _ rfl
      | dead => cases ho
      | it => cases ho
  | .p id g off, v => by
    simp only [renT, VR, hlook_ren]
    refine and_congr_right fun _ => ?_
    constructor
    · rintro ⟨g', o, e, h1, h2⟩
      cases hh : hlook h id with
      | none => rw [hh] at e; cases e
      | some y =>
        rw [hh] at e
        simp only [Option.map_some, Option.some.injEq, Prod.mk.injEq] at e
        obtain ⟨rfl, rfl⟩ := e
        refine ⟨_, _, rfl, h1, fun hg ho => h2 hg ?_⟩
        intro e'
        apply ho
        cases hy : y.2 with
        | dead => rfl
        | row => rw [hy] at e'; cases e'
        | it => rw [hy] at e'; cases e'
    · rintro ⟨g', o, e, h1, h2⟩
      refine ⟨g', renO a b o, by rw [e]; rfl, h1, fun hg ho => h2 hg ?_⟩
      rintro rfl
      exact ho rfl
  | .agg cs, v => by simp only [renT, VR]; exact exists_congr fun vs => and_congr_right fun _ => VRs_ren h cs vs
  | .tup cs, v => by simp only [renT, VR]; exact exists_congr fun vs => and_congr_right fun _ => VRs_ren h cs vs
  | .fn f x c, v => by simp only [renT, VR]; exact exists_congr fun xs => exists_congr fun cs => and_congr_right fun _ => and_congr (VRs_ren h x xs) (VRs_ren h c cs)
  | .ifc t x, v => by simp only [renT, VR]; exact exists_congr fun y => and_congr_right fun _ => VR_ren h x y
  | .sl .., v => Iff.rfl
  | .rp .., v => Iff.rfl
  | .top, v => Iff.rfl
  | .b _, v => Iff.rfl
  | .bl _, v => Iff.rfl
  | .i .., v => Iff.rfl
  | .fl .., v => Iff.rfl
  | .cx .., v => Iff.rfl
  | .s _, v => Iff.rfl
  | .nsl, v => Iff.rfl
  | .np, v => Iff.rfl
  | .nfn, v => Iff.rfl
  | .nif, v => Iff.rfl
theorem VRs_ren (h : Heap) : ∀ (ts : List T) (vs : List Value), VRs ρ (hlook (renH a b h)) I (renL a b ts) vs ↔ VRs (fun x => ρ (sw a b x)) (hlook h) I ts vs
  | [], vs => Iff.rfl
  | t :: ts, vs => by simp only [renL, VRs]; exact exists_congr fun v => exists_congr fun r => and_congr_right fun _ => and_congr (VR_ren h t v) (VRs_ren h ts r)
end
theorem renL_len : ∀ l : List T, (renL a b l).length = l.length
  | [] => rfl
  | t :: l => by simp [renL, renL_len l]
theorem OR_ren (h : Heap) (w : World) (id : Nat) (o : Obj) : OR ρ (hlook (renH a b h)) I w (sw a b id) (renO a b o) ↔ OR (fun x => ρ (sw a b x)) (hlook h) I w id o := by
  cases o with
  | dead => exact Iff.rfl
  | it => exact Iff.rfl
  | row pu esz cs =>
    simp only [renO, OR, renL_len]
    refine exists_congr fun c => exists_congr fun e => exists_congr fun fz => and_congr_right fun _ => and_congr_right fun _ => and_congr_right fun _ => ?_
    cases pu with
    | true => simp only [if_true]; exact PVs_ren _ _
    | false => simp only [Bool.false_eq_true, if_false]; exact VRs_ren h _ _
theorem live_ren (o : Obj) : (renO a b o).live ↔ o.live := by cases o <;> exact Iff.rfl
theorem HS_ren (h : Heap) (w : World) : HS ρ (hlook (renH a b h)) I w ↔ HS (fun x => ρ (sw a b x)) (hlook h) I w := by
  constructor
  · intro hs
    refine ⟨hs.mem, fun id g o e => ?_, fun id id' g o g' o' e e' l l' hne => ?_, fun x v id g o hI e l => ?_⟩
    · exact (OR_ren h w id o).1 (hs.obj (sw a b id) g (renO a b o) (by rw [hlook_ren, e]; rfl))
    · exact hs.inj (sw a b id) (sw a b id') g (renO a b o) g' (renO a b o') (by rw [hlook_ren, e]; rfl) (by rw [hlook_ren, e']; rfl) ((live_ren o).2 l) ((live_ren o').2 l') fun e => hne (sw_inj e)
    · exact hs.dis x v (sw a b id) g (renO a b o) hI (by rw [hlook_ren, e]; rfl) ((live_ren o).2 l)
  · intro hs
    have back : ∀ id g o, hlook (renH a b h) id = some (g, o) → ∃ o0, hlook h (sw a b id) = some (g, o0) ∧ o = renO a b o0 := fun id g o e => by
      rw [hlook_ren'] at e
      cases hh : hlook h (sw a b id) with
      | none => rw [hh] at e; cases e
      | some y =>
        rw [hh] at e
        simp only [Option.map_some, Option.some.injEq, Prod.mk.injEq] at e
        obtain ⟨rfl, rfl⟩ := e
        exact ⟨_, rfl, rfl⟩
    refine ⟨hs.mem, fun id g o e => ?_, fun id id' g o g' o' e e' l l' hne => ?_, fun x v id g o hI e l => ?_⟩
    · obtain ⟨o0, e1, rfl⟩ := back _ _ _ e
      have := (OR_ren (ρ := ρ) (I := I) h w (sw a b id) o0).2 (hs.obj _ _ _ e1)
      rwa [sw_sw] at this
    · obtain ⟨o0, e1, rfl⟩ := back _ _ _ e
      obtain ⟨o1, e2, rfl⟩ := back _ _ _ e'
      have := hs.inj _ _ _ _ _ _ e1 e2 ((live_ren _).1 l) ((live_ren _).1 l') fun e => hne (sw_inj e)
      simpa only [sw_sw] using this
    · obtain ⟨o0, e1, rfl⟩ := back _ _ _ e
      have := hs.dis x v _ _ _ hI e1 ((live_ren _).1 l)
      simpa only [sw_sw] using this
/-- A CONTRACT UNDER OTHER NAMES. -/
theorem hret_ren {P : Program} {C : Ctx} {f : FuncId} {args : List T} {hin hout : Heap} {r : T} (a b : Nat) (h : HRet P C f args hin r hout) : HRet P C f (renL a b args) (renH a b hin) (renT a b r) (renH a b hout) := by
  refine ⟨h.1, fun ρ I w vals hg hs hv => ?_⟩
  refine (h.2 (fun x => ρ (sw a b x)) I w vals hg ((HS_ren hin w).1 hs) ((VRs_ren hin args vals).1 hv)).mono ?_
  rintro e w' ⟨v, r', ρ', hout', I', rfl, h1, h2, h3, h4, rfl, rfl⟩
  have e0 : (fun x => (fun y => ρ' (sw a b y)) (sw a b x)) = ρ' := by funext x; simp only [sw_sw]
  have ow : ∀ k, owned ρ (hlook (renH a b hin)) k ↔ owned (fun x => ρ (sw a b x)) (hlook hin) k := fun k => by
    constructor
    · rintro ⟨id, g, o, e, l, rfl⟩
      rw [hlook_ren'] at e
      cases hh : hlook hin (sw a b id) with
      | none => rw [hh] at e; cases e
      | some y =>
        rw [hh] at e
        simp only [Option.map_some, Option.some.injEq, Prod.mk.injEq] at e
        obtain ⟨rfl, rfl⟩ := e
        exact ⟨sw a b id, _, _, hh, (live_ren _).1 l, by simp only [sw_sw]⟩
    · rintro ⟨id, g, o, e, l, rfl⟩
      exact ⟨sw a b id, g, renO a b o, by rw [hlook_ren, e]; rfl, (live_ren _).2 l, rfl⟩
  refine ⟨v, _, fun x => ρ' (sw a b x), _, I', rfl, (VR_ren hout' r' v).2 (by rw [e0]; exact h1), (HS_ren hout' w').2 (by rw [e0]; exact h2), ?_, ?_, rfl, rfl⟩
  · refine ⟨h3.os, h3.tape, h3.output, h3.size, fun k hk hn => h3.blk k hk fun hx => hn ((ow k).2 hx), h3.sub, fun x v hx => ?_, fun id g o e l => ?_⟩
    · rcases h3.new x v hx with y | y | y
      · exact .inl y
      · exact .inr (.inl y)
      · exact .inr (.inr ((ow _).2 y))
    · rw [hlook_ren'] at e
      cases hh : hlook hout' (sw a b id) with
      | none => rw [hh] at e; cases e
      | some y =>
        rw [hh] at e
        simp only [Option.map_some, Option.some.injEq, Prod.mk.injEq] at e
        obtain ⟨rfl, rfl⟩ := e
        rcases h3.own _ _ _ hh ((live_ren _).1 l) with z | z
        · exact .inl z
        · exact .inr ((ow _).2 z)
  · intro id g o e
    rw [hlook_ren'] at e
    cases hh : hlook hin (sw a b id) with
    | none => rw [hh] at e; cases e
    | some y =>
      rw [hh] at e
      simp only [Option.map_some, Option.some.injEq, Prod.mk.injEq] at e
      obtain ⟨rfl, rfl⟩ := e
      obtain ⟨g', o', e1, e2, e3⟩ := h4 _ _ _ hh
      refine ⟨g', renO a b o', by rw [hlook_ren', e1]; rfl, e2, fun hg hd => ?_⟩
      obtain ⟨k1, k2, k3⟩ := e3 hg fun x => hd (by rw [x]; rfl)
      refine ⟨by simpa only [sw_sw] using k1, fun x => k2 ?_, fun pu esz cs hx => ?_⟩
      · cases hy : y.2 with
        | dead => rfl
        | row => rw [hy] at x; cases x
        | it => rw [hy] at x; cases x
      · cases ho : o' with
        | row pu' esz' cs' =>
          rw [ho] at hx
          simp only [renO, Obj.row.injEq] at hx
          obtain ⟨rfl, rfl, _⟩ := hx
          obtain ⟨pu2, s2, cs2, h5, h6⟩ := k3 _ _ _ ho
          exact ⟨pu2, s2, renL a b cs2, by rw [h5]; rfl, h6⟩
        | dead => rw [ho] at hx; cases hx
        | it => rw [ho] at hx; cases hx
end
end Go.Proofs.YtipomdmlkkifcaaGreatDoor.Vm
/- The symbolic machine, part 23: a loop, round by round (at most so many). -/
namespace Go.Proofs.YtipomdmlkkifcaaGreatDoor.Vm
open Go Go.Proofs
section
variable {P : Program} {C : Ctx} {nt : Nat} {kp : List Nat} {Φ : APost}
/-- What a round must come to, where at most 'n' more follow. -/
def UN (P : Program) (C : Ctx) (nt : Nat) (kp : List Nat) (Φ : APost) (k : List Item) (c : Code) : Nat → APost
  | 0, .normal, _, _, _ => False
  | n + 1, .normal, e, h, ds => ds = [] ∧ G P C nt kp (UN P C nt kp Φ k c n) [.code c] e h []
  | _, ex, e, h, ds => KG P C nt kp Φ k ex e h ds
/-- A LOOP, ROUND BY ROUND. -/
theorem g_rounds (n : Nat) {c : Code} {k : List Item} {e : Env} {h : Heap} (g : G P C nt kp (UN P C nt kp Φ k c n) [.code c] e h []) : G P C nt kp Φ (.code (.loop c) :: k) e h [] := by
  intro hk E ρ I a w hE hkp sr
  have hc : kOk [.code c] := fun d hd => by
    rcases List.mem_cons.1 hd with e | hd
    · cases e; exact hk.head
    · simp at hd
  have key : ∀ (n : Nat) (e : Env) (h : Heap) (ρ : Place) (I : Mem) (a : Act) (w : World), G P C nt kp (UN P C nt kp Φ k c n) [.code c] e h [] → SR C E (look e) (hlook h) [] ρ I a w → Code.rounds P c (KK P (Post C E Φ) k) (n + 1) a w := by
    intro n
    induction n with
    | zero =>
      intro e h ρ I a w g sr
      have := g hc E ρ I a w hE hkp sr
      refine wp_mono (show c.wp P (Exit.then (fun a w => Post C E (UN P C nt kp Φ k c 0) .normal a w) (Post C E (UN P C nt kp Φ k c 0))) a w from wp_mono this fun ex a w hq => by cases ex <;> exact hq) ?_
      intro ex a w hq
      have hother : ex ≠ .normal → Post C E (UN P C nt kp Φ k c 0) ex a w → KK P (Post C E Φ) k ex a w := by
        rintro hne ⟨e', h', ds', ρ', I', sr', hr⟩
        have hr' : KG P C nt kp Φ k ex e' h' ds' := by
          cases ex <;> first | exact absurd rfl hne | exact hr
        exact (KG_KK hk.tail hE hkp ⟨e', h', ds', ρ', I', sr', hr'⟩).2
      cases ex with
      | normal => obtain ⟨e', h', ds', ρ', I', sr', hr⟩ := hq; exact hr.elim
      | exit id => exact hother (by simp) hq
      | goto l => exact hother (by simp) hq
      | ret => exact hother (by simp) hq
      | panic ch => exact hother (by simp) hq
      | outgrown => exact hother (by simp) hq
    | succ n ih =>
      intro e h ρ I a w g sr
      have := g hc E ρ I a w hE hkp sr
      refine wp_mono (show c.wp P (Exit.then (fun a w => Post C E (UN P C nt kp Φ k c (n + 1)) .normal a w) (Post C E (UN P C nt kp Φ k c (n + 1)))) a w from wp_mono this fun ex a w hq => by cases ex <;> exact hq) ?_
      intro ex a w hq
      have hother : ex ≠ .normal → Post C E (UN P C nt kp Φ k c (n + 1)) ex a w → KK P (Post C E Φ) k ex a w := by
        rintro hne ⟨e', h', ds', ρ', I', sr', hr⟩
        have hr' : KG P C nt kp Φ k ex e' h' ds' := by
          cases ex <;> first | exact absurd rfl hne | exact hr
        exact (KG_KK hk.tail hE hkp ⟨e', h', ds', ρ', I', sr', hr'⟩).2
      cases ex with
      | normal =>
        obtain ⟨e', h', ds', ρ', I', sr', rfl, g'⟩ := hq
        exact ih e' h' ρ' I' a w g' sr'
      | exit id => exact hother (by simp) hq
      | goto l => exact hother (by simp) hq
      | ret => exact hother (by simp) hq
      | panic ch => exact hother (by simp) hq
      | outgrown => exact hother (by simp) hq
  exact wp_loop_rounds (n + 1) (key n e h ρ I a w g sr)
variable {k : List Item} {c : Code} {n : Nat} {e : Env} {h : Heap} {ds : Ds}
theorem un_next (g : G P C nt kp (UN P C nt kp Φ k c n) [.code c] e h []) : UN P C nt kp Φ k c (n + 1) .normal e h [] := ⟨rfl, g⟩
theorem un_exit {id : Nat} {k' : List Item} (hu : unwind id k = some k') (g : G P C nt kp Φ k' e h ds) : UN P C nt kp Φ k c n (.exit id) e h ds := by
  cases n <;> (simp only [UN, KG, hu]; exact g)
end
end Go.Proofs.YtipomdmlkkifcaaGreatDoor.Vm
/- The floats that hold a whole number: how they compare, add, and are made integers again. Plain Lean. -/
namespace Go.Proofs.YtipomdmlkkifcaaGreatDoor.Flt
open Go Ieee
/-- The word of a whole number. -/
abbrev nr (z : Int) : Nat := FloatKind.f64.nearest z
theorem shl_cut0 (n : Nat) (w : Toward) (s : Bool) : w.cut s n 0 = n := by
  unfold Toward.cut
  simp only [Nat.zero_min, Nat.shiftLeft_zero, Nat.div_one, Nat.mod_one]
  cases w <;> simp
/-- What is a multiple of the gap is cut exactly. -/
theorem cut_mul (n d : Nat) (w : Toward) (s : Bool) (hn : n ≠ 0) : w.cut s (n * 2 ^ d) d = n := by
  unfold Toward.cut
  have h0 : n * 2 ^ d ≠ 0 := Nat.mul_ne_zero hn (by simp)
  have hl : d ≤ (n * 2 ^ d).log2 := (Nat.le_log2 h0).2 (Nat.le_mul_of_pos_left _ (Nat.pos_of_ne_zero hn))
  have hm : min d ((n * 2 ^ d).log2 + 2) = d := by omega
  simp only [hm, Nat.one_shiftLeft, Nat.mul_mod_left, Nat.mul_div_cancel _ (Nat.two_pow_pos d)]
  have hp := Nat.two_pow_pos d
  have h1 : ¬ (2 ^ d < 2 * 0) := by omega
  have h2 : (2 ^ d == 2 * 0) = false := by simp
  cases w <;> simp
theorem log2_mul (n d : Nat) (hn : n ≠ 0) : (n * 2 ^ d).log2 = n.log2 + d := by
  have h0 : n * 2 ^ d ≠ 0 := Nat.mul_ne_zero hn (by simp)
  rw [Nat.log2_eq_iff h0]
  have := (Nat.log2_eq_iff hn).1 rfl
  refine ⟨?_, ?_⟩
  · rw [Nat.pow_add]; exact Nat.mul_le_mul_right _ this.1
  · rw [show n.log2 + d + 1 = (n.log2 + 1) + d by omega, Nat.pow_add]; exact Nat.mul_lt_mul_of_pos_right this.2 (Nat.two_pow_pos d)
/-- The rung of a whole number. -/
def rung (n : Nat) : Nat := (n.log2 + 1022) * 2 ^ 52 + n * 2 ^ (52 - n.log2)
theorem kept_bounds {n : Nat} (hn : n ≠ 0) (hb : n < 2 ^ 53) : n.log2 ≤ 52 ∧ 2 ^ 52 ≤ n * 2 ^ (52 - n.log2) ∧ n * 2 ^ (52 - n.log2) < 2 ^ 53 := by
  have h := (Nat.log2_eq_iff hn).1 rfl
  have hl : n.log2 < 53 := (Nat.log2_lt hn).2 hb
  refine ⟨by omega, ?_, ?_⟩
  · have : (2 : Nat) ^ 52 = 2 ^ n.log2 * 2 ^ (52 - n.log2) := by rw [← Nat.pow_add]; congr 1; omega
    rw [this]; exact Nat.mul_le_mul_right _ h.1
  · have : (2 : Nat) ^ 53 = 2 ^ (n.log2 + 1) * 2 ^ (52 - n.log2) := by rw [← Nat.pow_add]; congr 1; omega
    rw [this]; exact Nat.mul_lt_mul_of_pos_right h.2 (Nat.two_pow_pos _)
theorem arith (l k : Nat) (hl : l ≤ 52) (h1 : 4503599627370496 ≤ k) (h2 : k < 9007199254740992) : (l + 1022) * 4503599627370496 + k < 1076 * 4503599627370496 ∧ ((l + 1022) * 4503599627370496 + k) / 4503599627370496 = l + 1023 ∧ ((l + 1022) * 4503599627370496 + k) % 4503599627370496 + 4503599627370496 = k := by
  obtain ⟨c, rfl⟩ : ∃ c, k = 4503599627370496 + c := ⟨k - 4503599627370496, by omega⟩
  have hc : c < 4503599627370496 := by omega
  rw [show (l + 1022) * 4503599627370496 + (4503599627370496 + c) = c + (l + 1023) * 4503599627370496 by omega, Nat.add_mul_div_right _ _ (by decide), Nat.add_mul_mod_self_right, Nat.div_eq_of_lt hc, Nat.mod_eq_of_lt hc]
  refine ⟨?_, by omega, by omega⟩
  have : (l + 1023) * 4503599627370496 ≤ 1075 * 4503599627370496 := Nat.mul_le_mul_right _ (by omega)
  omega
theorem nearest_mul (s : Bool) (n M : Nat) (hn : n ≠ 0) (hb : n < 2 ^ 53) : Ieee.double.nearest s (n * 2 ^ M) (-(M : Int)) = Ieee.double.word s (rung n) := by
  obtain ⟨hl, h1, h2⟩ := kept_bounds hn hb
  have h0 : n * 2 ^ M ≠ 0 := Nat.mul_ne_zero hn (by simp)
  unfold Format.nearest
  rw [if_neg h0, log2_mul n M hn]
  have lp : Ieee.double.leastPlace = -1074 := rfl
  have fb : (Ieee.double.fractionBits : Int) = 52 := rfl
  have hmax : max (-(M : Int) + ((n.log2 + M : Nat) : Int) - (Ieee.double.fractionBits : Int)) Ieee.double.leastPlace = (n.log2 : Int) - 52 := by
    rw [lp, fb]; omega
  simp only [hmax]
  rw [lp]
  have hk : Toward.even.cut s ((n * 2 ^ M) <<< (-(M : Int) - ((n.log2 : Int) - 52)).toNat) (((n.log2 : Int) - 52) - -(M : Int)).toNat = n * 2 ^ (52 - n.log2) := by
    rcases Nat.le_total (n.log2 + M) 52 with h | h
    · have e1 : (-(M : Int) - ((n.log2 : Int) - 52)).toNat = 52 - n.log2 - M := by omega
      have e2 : (((n.log2 : Int) - 52) - -(M : Int)).toNat = 0 := by omega
      rw [e1, e2, shl_cut0, Nat.shiftLeft_eq, Nat.mul_assoc, ← Nat.pow_add]
      congr 2; omega
    · have e1 : (-(M : Int) - ((n.log2 : Int) - 52)).toNat = 0 := by omega
      have e2 : (((n.log2 : Int) - 52) - -(M : Int)).toNat = n.log2 + M - 52 := by omega
      rw [e1, e2, Nat.shiftLeft_zero]
      have e3 : n * 2 ^ M = (n * 2 ^ (52 - n.log2)) * 2 ^ (n.log2 + M - 52) := by rw [Nat.mul_assoc, ← Nat.pow_add]; congr 2; omega
      rw [e3, cut_mul _ _ _ _ (by omega)]
  rw [hk]
  have e4 : ((n.log2 : Int) - 52 - -1074).toNat = n.log2 + 1022 := by omega
  have e5 : Ieee.double.binade = 2 ^ 52 := rfl
  have e6 : Ieee.double.infRung = 2047 * 2 ^ 52 := by decide +kernel
  rw [e4, e5, e6]
  have e7 : (n.log2 + 1022) * 2 ^ 52 + n * 2 ^ (52 - n.log2) < 1076 * 4503599627370496 := (arith _ _ hl h1 h2).1
  rw [Nat.min_eq_left (Nat.le_trans (Nat.le_of_lt e7) (by decide))]
  rfl
theorem rung_lt {n : Nat} (hn : n ≠ 0) (hb : n < 2 ^ 53) : rung n < 1076 * 2 ^ 52 ∧ rung n / 2 ^ 52 = n.log2 + 1023 ∧ rung n % 2 ^ 52 + 2 ^ 52 = n * 2 ^ (52 - n.log2) := by
  obtain ⟨hl, h1, h2⟩ := kept_bounds hn hb
  exact arith _ _ hl h1 h2
theorem read_word (s : Bool) (n : Nat) (hn : n ≠ 0) (hb : n < 2 ^ 53) : Ieee.double.read (Ieee.double.word s (rung n)) = .number s (n * 2 ^ (52 - n.log2)) ((n.log2 : Int) - 52) := by
  obtain ⟨h1, h2, h3⟩ := rung_lt hn hb
  have sw : Ieee.double.signWeight = 2 ^ 63 := rfl
  have e5 : Ieee.double.binade = 2 ^ 52 := rfl
  have e6 : Ieee.double.infRung = 2047 * 2 ^ 52 := by decide +kernel
  have lp : Ieee.double.leastPlace = -1074 := rfl
  have hw : Ieee.double.word s (rung n) % Ieee.double.signWeight = rung n ∧ ((Ieee.double.word s (rung n) / Ieee.double.signWeight) % 2 == 1) = s := by
    unfold Format.word
    rw [sw]
    cases s
    · simp only [Bool.false_eq_true, if_false]
      have : rung n / 2 ^ 63 = 0 := by omega
      rw [this]; exact ⟨by omega, rfl⟩
    · simp only [if_true]
      have : (2 ^ 63 + rung n) / 2 ^ 63 = 1 := by omega
      rw [this]; exact ⟨by omega, rfl⟩
  unfold Format.read
  simp only [hw.1, hw.2]
  rw [if_neg (by rw [e5]; omega), if_pos (by rw [e6]; omega), e5, lp, h2]
  have : 2 ^ 52 + rung n % 2 ^ 52 = n * 2 ^ (52 - n.log2) := by omega
  rw [this]
  have e9 : (-1074 : Int) + ((n.log2 + 1023 - 1 : Nat) : Int) = (n.log2 : Int) - 52 := by omega
  rw [e9]
/-- What a datum stands for. -/
def Is (d : Datum) (z : Int) : Prop := ∃ (s : Bool) (m u : Nat), d = .number s m (-(u : Int)) ∧ signed s m 0 = z * 2 ^ u ∧ (z = 0 → s = false)
theorem signed_mul (s : Bool) (m k : Nat) : signed s m k = signed s m 0 * 2 ^ k := by
  unfold signed
  rw [Nat.shiftLeft_eq, Nat.shiftLeft_zero]
  cases s <;> simp [Int.natCast_mul, Int.neg_mul]
theorem nr_is {z : Int} (h : z.natAbs < 2 ^ 53) : Is (Ieee.double.read (nr z)) z := by
  by_cases hz : z = 0
  · subst hz; exact ⟨false, 0, 1074, rfl, by rw [Int.zero_mul]; rfl, fun _ => rfl⟩
  · have hn : z.natAbs ≠ 0 := by omega
    have e : nr z = Ieee.double.word (decide (z < 0)) (rung z.natAbs) := by
      have := nearest_mul (decide (z < 0)) z.natAbs 0 hn h
      simp only [Nat.pow_zero, Nat.mul_one] at this
      exact this
    rw [e, read_word _ _ hn h]
    obtain ⟨hl, -, -⟩ := kept_bounds hn h
    refine ⟨_, _, 52 - z.natAbs.log2, by congr 1; omega, ?_, fun h => absurd h hz⟩
    unfold signed
    rw [Nat.shiftLeft_zero]
    by_cases hs : z < 0
    · have hz2 : z = -(z.natAbs : Int) := by omega
      rw [if_pos (by simpa using hs)]
      conv => rhs; rw [hz2]
      simp [Int.natCast_mul, Int.neg_mul]
    · have hz2 : z = (z.natAbs : Int) := by omega
      rw [if_neg (by simpa using hs)]
      conv => rhs; rw [hz2]
      simp [Int.natCast_mul]
theorem align {s : Bool} {m u : Nat} {z : Int} (h : signed s m 0 = z * 2 ^ u) (M : Nat) (hu : u ≤ M) : signed s m (M - u) = z * 2 ^ M := by
  rw [signed_mul, h, Int.mul_assoc, ← Int.pow_add]
  congr 2; omega
theorem base_of (u v : Nat) : min (-(u : Int)) (-(v : Int)) = -((max u v : Nat) : Int) := by omega
theorem to_of (u M : Nat) (h : u ≤ M) : (-(u : Int) - -(M : Int)).toNat = M - u := by omega
theorem cmp_mul (a b : Int) (M : Nat) : compare (a * 2 ^ M) (b * 2 ^ M) = compare a b := by
  have hp : (0 : Int) < 2 ^ M := Int.pow_pos (by decide)
  simp only [compare, compareOfLessAndEq]
  have h1 : a * 2 ^ M < b * 2 ^ M ↔ a < b := Int.mul_lt_mul_right hp
  have h2 : a * 2 ^ M = b * 2 ^ M ↔ a = b := Int.mul_eq_mul_right_iff (Int.ne_of_gt hp)
  simp only [h1, h2]
theorem ord_is {d e : Datum} {a b : Int} (ha : Is d a) (hb : Is e b) : d.order e = some (compare a b) := by
  obtain ⟨s, m, u, rfl, h1, _⟩ := ha
  obtain ⟨t, n, v, rfl, h2, _⟩ := hb
  show some (compare _ _) = _
  simp only [base_of]
  rw [to_of _ _ (Nat.le_max_left u v), to_of _ _ (Nat.le_max_right u v), align h1 _ (Nat.le_max_left u v), align h2 _ (Nat.le_max_right u v), cmp_mul]
theorem write_is (s : Bool) (z : Int) (M : Nat) (h : z.natAbs < 2 ^ 53) (hs : z ≠ 0 → s = decide (z < 0)) (h0 : z = 0 → s = false) : Ieee.double.nearest s (z * 2 ^ M).natAbs (-(M : Int)) = nr z := by
  by_cases hz : z = 0
  · subst hz; rw [h0 rfl]; simp [Format.nearest]; rfl
  · have hn : z.natAbs ≠ 0 := by omega
    have e : nr z = Ieee.double.word (decide (z < 0)) (rung z.natAbs) := by
      have := nearest_mul (decide (z < 0)) z.natAbs 0 hn h
      simp only [Nat.pow_zero, Nat.mul_one] at this
      exact this
    rw [e, hs hz, Int.natAbs_mul]
    have : ((2 : Int) ^ M).natAbs = 2 ^ M := by rw [Int.natAbs_pow]; rfl
    rw [this]
    exact nearest_mul _ _ _ hn h
theorem sum_is {d e : Datum} {a b : Int} (ha : Is d a) (hb : Is e b) (h : (a + b).natAbs < 2 ^ 53) (hz : ∀ s m i t n j, d = .number s m i → e = .number t n j → a + b = 0 → (s && t) = false) : (d.sum e).map Ieee.double.write = some (nr (a + b)) := by
  obtain ⟨s, m, u, rfl, h1, h1'⟩ := ha
  obtain ⟨t, n, v, rfl, h2, h2'⟩ := hb
  have hz := hz _ _ _ _ _ _ rfl rfl
  simp only [Datum.sum, Option.map_some, Format.write, base_of]
  rw [to_of _ _ (Nat.le_max_left u v), to_of _ _ (Nat.le_max_right u v), align h1 _ (Nat.le_max_left u v), align h2 _ (Nat.le_max_right u v), ← Int.add_mul]
  generalize max u v = M
  have hp : (0 : Int) < 2 ^ M := Int.pow_pos (by decide)
  congr 1
  refine write_is _ _ M h ?_ ?_
  · intro hne
    rw [if_neg (by intro h; exact hne ((Int.mul_eq_zero.1 h).resolve_right (Int.ne_of_gt hp)))]
    by_cases hc : a + b < 0
    · have : (a + b) * 2 ^ M < 0 := Int.mul_neg_of_neg_of_pos hc hp
      simp [hc, this]
    · have : ¬ (a + b) * 2 ^ M < 0 := by have := Int.mul_nonneg (show 0 ≤ a + b by omega) (Int.le_of_lt hp); omega
      simp [hc, this]
  · intro h0; rw [h0, Int.zero_mul, if_pos rfl]; exact hz h0
/-! ### The four laws -/
theorem ord_nr {a b : Int} (ha : a.natAbs < 2 ^ 53) (hb : b.natAbs < 2 ^ 53) : FloatKind.f64.format.order (nr a) (nr b) = some (compare a b) := ord_is (nr_is ha) (nr_is hb)
theorem add_nr {a b : Int} (ha : a.natAbs < 2 ^ 53) (hb : b.natAbs < 2 ^ 53) (h : (a + b).natAbs < 2 ^ 53) : FloatKind.f64.format.add (nr a) (nr b) = some (nr (a + b)) := by
  refine sum_is (nr_is ha) (nr_is hb) h ?_
  intro s m i t n j h1 h2 h0
  obtain ⟨s', m', u', e1, f1, z1⟩ := nr_is ha
  obtain ⟨t', n', v', e2, f2, z2⟩ := nr_is hb
  change Ieee.double.read _ = _ at h1 h2
  rw [e1] at h1; rw [e2] at h2
  injection h1 with h1 _ _; injection h2 with h2 _ _; subst h1; subst h2
  by_cases h3 : a = 0
  · rw [z1 h3]; rfl
  · cases s' <;> cases t' <;> try rfl
    exfalso
    have hp := fun M : Nat => (Int.pow_pos (by decide) : (0 : Int) < 2 ^ M)
    have g1 : a ≤ 0 := by
      rcases Int.lt_or_le 0 a with h | h
      · have := Int.mul_pos h (hp u'); rw [← f1] at this; simp [signed] at this; omega
      · exact h
    have g2 : b ≤ 0 := by
      rcases Int.lt_or_le 0 b with h | h
      · have := Int.mul_pos h (hp v'); rw [← f2] at this; simp [signed] at this; omega
      · exact h
    omega
theorem int_nr {z : Int} (h : z.natAbs < 2 ^ 53) : floatToIntVal .f64 (nr z) .i64 = some z := by
  obtain ⟨s, m, u, e, f, z0⟩ := nr_is h
  unfold floatToIntVal
  have : FloatKind.f64.decode (nr z) = .number s m (-(u : Int)) := e
  rw [this]
  have hm : m = z.natAbs * 2 ^ u := by
    have := congrArg Int.natAbs f
    rw [Int.natAbs_mul, Int.natAbs_pow] at this
    unfold signed at this
    rw [Nat.shiftLeft_zero] at this
    cases s <;> simpa using this
  have hc : Toward.zero.cut s m u = z.natAbs := by
    by_cases hz : z = 0
    · subst hz; rw [hm]; simp [Toward.cut]
    · rw [hm]; exact cut_mul _ _ _ _ (by omega)
  have ht : (Datum.number s m (-(u : Int))).toInt .zero = some z := by
    show some (signed s (Toward.zero.cut s (m <<< (-(u : Int)).toNat) (-(-(u : Int))).toNat) 0) = some z
    have e1 : (-(u : Int)).toNat = 0 := by omega
    have e2 : (-(-(u : Int))).toNat = u := by omega
    rw [e1, e2, Nat.shiftLeft_zero, hc]
    congr 1
    unfold signed at f ⊢
    rw [Nat.shiftLeft_zero] at f ⊢
    have hp : (0 : Int) < 2 ^ u := Int.pow_pos (by decide)
    by_cases hz : z = 0
    · subst hz; simp
    · cases s
      · simp only [Bool.false_eq_true, if_false] at f ⊢
        have : 0 ≤ z := by
          rcases Int.lt_or_le z 0 with h | h
          · have := Int.mul_neg_of_neg_of_pos h hp; rw [← f] at this; omega
          · exact h
        omega
      · simp only [if_true] at f ⊢
        have : z ≤ 0 := by
          rcases Int.lt_or_le 0 z with h | h
          · have := Int.mul_pos h hp; rw [← f] at this; omega
          · exact h
        omega
  rw [ht]
  simp only
  rw [if_pos]
  have h1 : IntKind.i64.min = -9223372036854775808 := by decide
  have h2 : IntKind.i64.max = 9223372036854775807 := by decide
  rw [h1, h2]
  omega
end Go.Proofs.YtipomdmlkkifcaaGreatDoor.Flt
namespace Go.Proofs.YtipomdmlkkifcaaGreatDoor.Vm
open Go Go.Proofs.YtipomdmlkkifcaaGreatDoor.Flt
/-- What floats give, as the answer to an operation. -/
abbrev flo {o : Option Nat} {r : Nat} (_ : o = some r) : Or := .v [.fl .f64 r]
abbrev cxo {o p : Option Nat} {r s : Nat} (_ : o = some r ∧ p = some s) : Or := .v [.cx .f64 r s]
abbrev fio {o : Option Int} {n : Int} {p : Prop} (_ : o = some n ∧ p) : Or := .v [.i .i64 n]
theorem fti {z : Int} (h : z.natAbs < 2 ^ 53) : ((FloatKind.f64.decode (nr z)).toInt .zero = some z) ∧ IntKind.i64.min ≤ z ∧ z ≤ IntKind.i64.max := by
  have := int_nr h
  unfold floatToIntVal at this
  split at this
  · rename_i n e
    split at this
    · cases this; exact ⟨e, by assumption⟩
    · cases this
  · cases this
theorem fcmp {a b : Int} (ha : a.natAbs < 2 ^ 53) (hb : b.natAbs < 2 ^ 53) :
    ((FloatKind.f64.format.order (nr a) (nr b) == some .eq) = decide (a = b)) ∧ ((FloatKind.f64.format.order (nr a) (nr b) == some .lt) = decide (a < b)) ∧ ((FloatKind.f64.format.order (nr a) (nr b) == some .gt) = decide (b < a)) := by
  rw [ord_nr ha hb]
  simp only [compare, compareOfLessAndEq]
  refine ⟨?_, ?_, ?_⟩ <;> (by_cases h1 : a < b) <;> (by_cases h2 : a = b) <;> simp [h1, h2] <;> (first | omega | skip)
theorem nr0 : nr 0 = 0 := rfl
theorem nrBlob : nr 65552 = 4679241112349573120 := by decide +kernel
theorem add0 {a : Int} (ha : a.natAbs < 2 ^ 53) : FloatKind.f64.format.add (nr a) 0 = some (nr a) := by
  have := add_nr ha (show (0 : Int).natAbs < 2 ^ 53 by decide) (by simpa using ha)
  rw [nr0, Int.add_zero] at this; exact this
end Go.Proofs.YtipomdmlkkifcaaGreatDoor.Vm
