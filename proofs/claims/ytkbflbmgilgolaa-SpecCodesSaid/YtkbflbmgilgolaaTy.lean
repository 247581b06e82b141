/- A part of the proofs: what stands below it, told in lemmas. No condition. -/
import Derived.Test.YtkbflbmgilgolaaProg
import Derived.Test.YtkbflbmgilgolaaSz10
namespace Go.Proofs.Gong
open Go Go.Sx Go.Proofs
set_option maxRecDepth 100000
theorem mixed : Try.prog.follows .mixedOrders = true := by kernel_rfl

-- facts on types
theorem z2 : fZero Try.prog 2 = some (.int .i64 0) := by kernel_rfl
theorem z3 : fZero Try.prog 3 = some (.int .i64 0) := by kernel_rfl
theorem ub4 : Try.prog.underlying 4 = some .bool := by kernel_rfl
theorem z4 : fZero Try.prog 4 = some (.bool false) := by kernel_rfl
theorem z5 : fZero Try.prog 5 = some (.int .u8 0) := by kernel_rfl
theorem z6 : fZero Try.prog 6 = some (.int .u8 0) := by kernel_rfl
theorem z7 : fZero Try.prog 7 = some (.agg #[(.int .i64 0), (.int .i64 0), (.bool false), (.int .u8 0)]) := by kernel_rfl
theorem ss9 : isSS Try.prog 9 = true := by kernel_rfl
theorem z9 : fZero Try.prog 9 = some (.string ⟨#[]⟩) := by kernel_rfl
theorem ss10 : isSS Try.prog 10 = true := by kernel_rfl
theorem z10 : fZero Try.prog 10 = some (.string ⟨#[]⟩) := by kernel_rfl
theorem z12 : fZero Try.prog 12 = some (.int .u64 0) := by kernel_rfl
theorem z21 : fZero Try.prog 21 = some (.int .i32 0) := by kernel_rfl
theorem u22 : Try.prog.underlying 22 = some (.slice 3) := by kernel_rfl
theorem ss22 : isSS Try.prog 22 = true := by kernel_rfl
theorem sl22 : SlT Try.prog 22 3 1 8 := .of (by kernel_rfl) (by kernel_rfl) (by kernel_rfl) (by omega) (by omega)
theorem z22 : fZero Try.prog 22 = some (.slice none 0 0) := by kernel_rfl
theorem up23 : Try.prog.underlying 23 = some (.pointer 162) := by kernel_rfl
theorem z23 : fZero Try.prog 23 = some (.pointer none) := by kernel_rfl
theorem z24 : fZero Try.prog 24 = some (.int .i64 0) := by kernel_rfl
theorem u29 : Try.prog.underlying 29 = some (.slice 5) := by kernel_rfl
theorem ss29 : isSS Try.prog 29 = true := by kernel_rfl
theorem sl29 : SlT Try.prog 29 5 1 1 := .of (by kernel_rfl) (by kernel_rfl) (by kernel_rfl) (by omega) (by omega)
theorem z29 : fZero Try.prog 29 = some (.slice none 0 0) := by kernel_rfl
theorem z30 : fZero Try.prog 30 = some (.agg #[(.string ⟨#[]⟩), (.string ⟨#[]⟩), (.string ⟨#[]⟩), (.int .i64 0), (.string ⟨#[]⟩)]) := by kernel_rfl
theorem z31 : fZero Try.prog 31 = some (.agg #[(.string ⟨#[]⟩), (.string ⟨#[]⟩), (.string ⟨#[]⟩), (.int .i64 0), (.string ⟨#[]⟩)]) := by kernel_rfl
theorem z32 : fZero Try.prog 32 = some (.agg #[(.int .i64 0), (.string ⟨#[]⟩), (.string ⟨#[]⟩), (.string ⟨#[]⟩), (.int .i64 0), (.string ⟨#[]⟩), (.int .i64 0), (.int .i64 0), (.int .i64 0), (.bool false), (.string ⟨#[]⟩)]) := by kernel_rfl
theorem z33 : fZero Try.prog 33 = some (.agg #[(.int .i64 0), (.string ⟨#[]⟩), (.string ⟨#[]⟩), (.string ⟨#[]⟩), (.int .i64 0), (.string ⟨#[]⟩), (.int .i64 0), (.int .i64 0), (.int .i64 0), (.bool false), (.string ⟨#[]⟩)]) := by kernel_rfl
theorem u38 : Try.prog.underlying 38 = some (.slice 43) := by kernel_rfl
theorem ss38 : isSS Try.prog 38 = true := by kernel_rfl
theorem sl38 : SlT Try.prog 38 43 2 16 := .of (by kernel_rfl) (by kernel_rfl) (by kernel_rfl) (by omega) (by omega)
theorem z38 : fZero Try.prog 38 = some (.slice none 0 0) := by kernel_rfl
theorem up39 : Try.prog.underlying 39 = some (.pointer 171) := by kernel_rfl
theorem z39 : fZero Try.prog 39 = some (.pointer none) := by kernel_rfl
theorem um42 : Try.prog.underlying 42 = some (.map 3 3) := by kernel_rfl
theorem z42 : fZero Try.prog 42 = some (.map none) := by kernel_rfl
theorem z43 : fZero Try.prog 43 = some (.agg #[(.int .i64 0), (.int .i64 0)]) := by kernel_rfl
theorem u46 : Try.prog.underlying 46 = some (.slice 49) := by kernel_rfl
theorem ss46 : isSS Try.prog 46 = true := by kernel_rfl
theorem sl46 : SlT Try.prog 46 49 2 16 := .of (by kernel_rfl) (by kernel_rfl) (by kernel_rfl) (by omega) (by omega)
theorem z46 : fZero Try.prog 46 = some (.slice none 0 0) := by kernel_rfl
theorem z49 : fZero Try.prog 49 = some (.agg #[(.int .i64 0), (.int .i64 0)]) := by kernel_rfl
theorem z55 : fZero Try.prog 55 = some (.agg #[(.int .i64 0), (.int .i64 0), (.string ⟨#[]⟩), (.string ⟨#[]⟩), (.int .i64 0)]) := by kernel_rfl
theorem z63 : fZero Try.prog 63 = some (.agg #[(.int .i64 0), (.int .i64 0), (.string ⟨#[]⟩), (.string ⟨#[]⟩), (.int .i64 0), (.string ⟨#[]⟩), (.string ⟨#[]⟩), (.string ⟨#[]⟩), (.int .i64 0), (.string ⟨#[]⟩), (.slice none 0 0)]) := by kernel_rfl
theorem up67 : Try.prog.underlying 67 = some (.pointer 198) := by kernel_rfl
theorem z67 : fZero Try.prog 67 = some (.pointer none) := by kernel_rfl
theorem up89 : Try.prog.underlying 89 = some (.pointer 211) := by kernel_rfl
theorem z89 : fZero Try.prog 89 = some (.pointer none) := by kernel_rfl
theorem z93 : fZero Try.prog 93 = some (.agg #[(.int .i64 0), (.int .i64 0), (.int .i64 0)]) := by kernel_rfl
theorem u95 : Try.prog.underlying 95 = some (.slice 213) := by kernel_rfl
theorem ss95 : isSS Try.prog 95 = true := by kernel_rfl
theorem sl95 : SlT Try.prog 95 213 2 16 := .of (by kernel_rfl) (by kernel_rfl) (by kernel_rfl) (by omega) (by omega)
theorem z95 : fZero Try.prog 95 = some (.slice none 0 0) := by kernel_rfl
theorem z109 : fZero Try.prog 109 = some (.agg #[(.int .i64 0), (.int .i64 0), (.int .i64 0), (.string ⟨#[]⟩), (.string ⟨#[]⟩), (.string ⟨#[]⟩), (.int .i64 0), (.string ⟨#[]⟩), (.int .i64 0), (.int .i64 0), (.int .i64 0), (.bool false), (.string ⟨#[]⟩)]) := by kernel_rfl
theorem u111 : Try.prog.underlying 111 = some (.slice 116) := by kernel_rfl
theorem ss111 : isSS Try.prog 111 = true := by kernel_rfl
theorem sl111 : SlT Try.prog 111 116 6 88 := .of (by kernel_rfl) (by kernel_rfl) (by kernel_rfl) (by omega) (by omega)
theorem z111 : fZero Try.prog 111 = some (.slice none 0 0) := by kernel_rfl
theorem up112 : Try.prog.underlying 112 = some (.pointer 225) := by kernel_rfl
theorem z112 : fZero Try.prog 112 = some (.pointer none) := by kernel_rfl
theorem z115 : fZero Try.prog 115 = some (.agg #[(.int .i64 0), (.string ⟨#[]⟩), (.string ⟨#[]⟩), (.string ⟨#[]⟩), (.int .i64 0), (.slice none 0 0)]) := by kernel_rfl
theorem z116 : fZero Try.prog 116 = some (.agg #[(.int .i64 0), (.string ⟨#[]⟩), (.string ⟨#[]⟩), (.string ⟨#[]⟩), (.int .i64 0), (.slice none 0 0)]) := by kernel_rfl
theorem um120 : Try.prog.underlying 120 = some (.map 3 109) := by kernel_rfl
theorem z120 : fZero Try.prog 120 = some (.map none) := by kernel_rfl
theorem um123 : Try.prog.underlying 123 = some (.map 3 4) := by kernel_rfl
theorem z123 : fZero Try.prog 123 = some (.map none) := by kernel_rfl
theorem u127 : Try.prog.underlying 127 = some (.slice 33) := by kernel_rfl
theorem ss127 : isSS Try.prog 127 = true := by kernel_rfl
theorem sl127 : SlT Try.prog 127 33 11 128 := .of (by kernel_rfl) (by kernel_rfl) (by kernel_rfl) (by omega) (by omega)
theorem z127 : fZero Try.prog 127 = some (.slice none 0 0) := by kernel_rfl
theorem um130 : Try.prog.underlying 130 = some (.map 132 4) := by kernel_rfl
theorem z130 : fZero Try.prog 130 = some (.map none) := by kernel_rfl
theorem z132 : fZero Try.prog 132 = some (.agg #[(.string ⟨#[]⟩), (.string ⟨#[]⟩), (.string ⟨#[]⟩)]) := by kernel_rfl
theorem u138 : Try.prog.underlying 138 = some (.slice 143) := by kernel_rfl
theorem ss138 : isSS Try.prog 138 = true := by kernel_rfl
theorem sl138 : SlT Try.prog 138 143 11 144 := .of (by kernel_rfl) (by kernel_rfl) (by kernel_rfl) (by omega) (by omega)
theorem z138 : fZero Try.prog 138 = some (.slice none 0 0) := by kernel_rfl
theorem z143 : fZero Try.prog 143 = some (.agg #[(.int .i64 0), (.int .i64 0), (.int .i64 0), (.int .i64 0), (.string ⟨#[]⟩), (.string ⟨#[]⟩), (.string ⟨#[]⟩), (.int .i64 0), (.string ⟨#[]⟩), (.string ⟨#[]⟩), (.slice none 0 0)]) := by kernel_rfl
theorem u153 : Try.prog.underlying 153 = some (.slice 63) := by kernel_rfl
theorem ss153 : isSS Try.prog 153 = true := by kernel_rfl
theorem sl153 : SlT Try.prog 153 63 11 152 := .of (by kernel_rfl) (by kernel_rfl) (by kernel_rfl) (by omega) (by omega)
theorem z153 : fZero Try.prog 153 = some (.slice none 0 0) := by kernel_rfl
theorem um159 : Try.prog.underlying 159 = some (.map 3 33) := by kernel_rfl
theorem z159 : fZero Try.prog 159 = some (.map none) := by kernel_rfl
theorem um160 : Try.prog.underlying 160 = some (.map 165 3) := by kernel_rfl
theorem z160 : fZero Try.prog 160 = some (.map none) := by kernel_rfl
theorem z162 : fZero Try.prog 162 = some (.agg #[(.int .i64 0), (.int .i64 0), (.map none), (.map none)]) := by kernel_rfl
theorem z165 : fZero Try.prog 165 = some (.agg #[(.string ⟨#[]⟩), (.string ⟨#[]⟩), (.string ⟨#[]⟩)]) := by kernel_rfl
theorem z171 : fZero Try.prog 171 = some (.agg #[(.int .i64 0), (.slice none 0 0), (.map none)]) := by kernel_rfl
theorem z190 : fZero Try.prog 190 = some (.agg #[(.string ⟨#[]⟩), (.int .i64 0), (.int .i64 0)]) := by kernel_rfl
theorem z194 : fZero Try.prog 194 = some (.agg #[(.int .i64 0), (.string ⟨#[]⟩), (.string ⟨#[]⟩)]) := by kernel_rfl
theorem um196 : Try.prog.underlying 196 = some (.map 9 204) := by kernel_rfl
theorem z196 : fZero Try.prog 196 = some (.map none) := by kernel_rfl
theorem z198 : fZero Try.prog 198 = some (.agg #[(.int .i64 0), (.map none), (.bool false), (.int .i64 0)]) := by kernel_rfl
theorem z203 : fZero Try.prog 203 = some (.agg #[(.string ⟨#[]⟩), (.int .i64 0)]) := by kernel_rfl
theorem z204 : fZero Try.prog 204 = some (.agg #[(.string ⟨#[]⟩), (.int .i64 0)]) := by kernel_rfl
theorem z211 : fZero Try.prog 211 = some (.agg #[(.int .i64 0), (.slice none 0 0)]) := by kernel_rfl
theorem z213 : fZero Try.prog 213 = some (.agg #[(.int .i64 0), (.int .i64 0)]) := by kernel_rfl
theorem um216 : Try.prog.underlying 216 = some (.map 3 222) := by kernel_rfl
theorem z216 : fZero Try.prog 216 = some (.map none) := by kernel_rfl
theorem z217 : fZero Try.prog 217 = some (.agg #[(.int .i64 0), (.int .i64 0), (.int .i64 0), (.int .i64 0), (.int .i64 0), (.int .i64 0), (.map none)]) := by kernel_rfl
theorem z222 : fZero Try.prog 222 = some (.agg #[(.int .i64 0), (.int .i64 0), (.int .i64 0), (.string ⟨#[]⟩), (.string ⟨#[]⟩), (.string ⟨#[]⟩), (.int .i64 0), (.string ⟨#[]⟩), (.int .i64 0), (.int .i64 0), (.int .i64 0), (.bool false), (.string ⟨#[]⟩), (.int .i64 0), (.int .i64 0)]) := by kernel_rfl
theorem u223 : Try.prog.underlying 223 = some (.slice 228) := by kernel_rfl
theorem ss223 : isSS Try.prog 223 = true := by kernel_rfl
theorem sl223 : SlT Try.prog 223 228 3 40 := .of (by kernel_rfl) (by kernel_rfl) (by kernel_rfl) (by omega) (by omega)
theorem z223 : fZero Try.prog 223 = some (.slice none 0 0) := by kernel_rfl
theorem z225 : fZero Try.prog 225 = some (.agg #[(.int .i64 0), (.bool false), (.int .i64 0), (.slice none 0 0)]) := by kernel_rfl
theorem z228 : fZero Try.prog 228 = some (.agg #[(.string ⟨#[]⟩), (.string ⟨#[]⟩), (.int .i64 0)]) := by kernel_rfl
theorem z244 : fZero Try.prog 244 = some (.agg #[(.pointer none)]) := by kernel_rfl
theorem z245 : fZero Try.prog 245 = some (.agg #[(.pointer none)]) := by kernel_rfl
theorem um246 : Try.prog.underlying 246 = some (.map 3 63) := by kernel_rfl
theorem z246 : fZero Try.prog 246 = some (.map none) := by kernel_rfl
theorem um247 : Try.prog.underlying 247 = some (.map 194 3) := by kernel_rfl
theorem z247 : fZero Try.prog 247 = some (.map none) := by kernel_rfl
theorem z248 : fZero Try.prog 248 = some (.agg #[(.pointer none), (.int .i64 0), (.int .i64 0), (.map none), (.map none)]) := by kernel_rfl
theorem z249 : fZero Try.prog 249 = some (.agg #[(.pointer none), (.int .i64 0), (.int .i64 0), (.map none), (.map none)]) := by kernel_rfl
theorem z258 : fZero Try.prog 258 = some (.agg #[(.int .u8 0), (.int .u8 0), (.int .u8 0), (.int .u8 0), (.int .u8 0), (.int .u8 0), (.int .u8 0), (.int .u8 0)]) := by kernel_rfl
theorem z260 : fZero Try.prog 260 = some (.agg #[(.int .u8 0), (.int .u8 0), (.int .u8 0), (.int .u8 0), (.int .u8 0), (.int .u8 0), (.int .u8 0), (.int .u8 0), (.int .u8 0)]) := by kernel_rfl
theorem z262 : fZero Try.prog 262 = some (.agg #[(.string ⟨#[]⟩), (.int .i64 0)]) := by kernel_rfl
theorem z291 : fZero Try.prog 291 = some (.int .i64 0) := by kernel_rfl
theorem z298 : fZero Try.prog 298 = some (.int .u32 0) := by kernel_rfl
theorem z315 : fZero Try.prog 315 = some (.int .u64 0) := by kernel_rfl

theorem eqv33 (x y : Operand) (a0 b0 : Int) (a1 b1 : ByteArray) (a2 b2 : ByteArray) (a3 b3 : ByteArray) (a4 b4 : Int) (a5 b5 : ByteArray) (a6 b6 : Int) (a7 b7 : Int) (a8 b8 : Int) (a9 b9 : Bool) (a10 b10 : ByteArray) : bEqv Try.prog 33 x y (.agg #[.int .i64 a0, .string a1, .string a2, .string a3, .int .i64 a4, .string a5, .int .i64 a6, .int .i64 a7, .int .i64 a8, .bool a9, .string a10]) (.agg #[.int .i64 b0, .string b1, .string b2, .string b3, .int .i64 b4, .string b5, .int .i64 b6, .int .i64 b7, .int .i64 b8, .bool b9, .string b10]) = andO (some (a0 == b0)) (andO (andO (some (sEq a1 b1)) (andO (some (sEq a2 b2)) (andO (some (sEq a3 b3)) (andO (some (a4 == b4)) (andO (some (sEq a5 b5)) (some true)))))) (andO (some (a6 == b6)) (andO (some (a7 == b7)) (andO (some (a8 == b8)) (andO (some (a9 == b9)) (andO (some (sEq a10 b10)) (some true))))))) := by kernel_rfl
theorem eq33 (x y : Operand) (a0 b0 : Int) (a1 b1 : ByteArray) (a2 b2 : ByteArray) (a3 b3 : ByteArray) (a4 b4 : Int) (a5 b5 : ByteArray) (a6 b6 : Int) (a7 b7 : Int) (a8 b8 : Int) (a9 b9 : Bool) (a10 b10 : ByteArray) : bEq Try.prog 33 x y (.agg #[.int .i64 a0, .string a1, .string a2, .string a3, .int .i64 a4, .string a5, .int .i64 a6, .int .i64 a7, .int .i64 a8, .bool a9, .string a10]) (.agg #[.int .i64 b0, .string b1, .string b2, .string b3, .int .i64 b4, .string b5, .int .i64 b6, .int .i64 b7, .int .i64 b8, .bool b9, .string b10]) = some (.bool ((a0 == b0) && (((sEq a1 b1) && ((sEq a2 b2) && ((sEq a3 b3) && ((a4 == b4) && ((sEq a5 b5) && true))))) && ((a6 == b6) && ((a7 == b7) && ((a8 == b8) && ((a9 == b9) && ((sEq a10 b10) && true)))))))) := by simp only [bEq, eqv33, andO_some, Option.map_some]
theorem ne33 (x y : Operand) (a0 b0 : Int) (a1 b1 : ByteArray) (a2 b2 : ByteArray) (a3 b3 : ByteArray) (a4 b4 : Int) (a5 b5 : ByteArray) (a6 b6 : Int) (a7 b7 : Int) (a8 b8 : Int) (a9 b9 : Bool) (a10 b10 : ByteArray) : bNe Try.prog 33 x y (.agg #[.int .i64 a0, .string a1, .string a2, .string a3, .int .i64 a4, .string a5, .int .i64 a6, .int .i64 a7, .int .i64 a8, .bool a9, .string a10]) (.agg #[.int .i64 b0, .string b1, .string b2, .string b3, .int .i64 b4, .string b5, .int .i64 b6, .int .i64 b7, .int .i64 b8, .bool b9, .string b10]) = some (.bool (!((a0 == b0) && (((sEq a1 b1) && ((sEq a2 b2) && ((sEq a3 b3) && ((a4 == b4) && ((sEq a5 b5) && true))))) && ((a6 == b6) && ((a7 == b7) && ((a8 == b8) && ((a9 == b9) && ((sEq a10 b10) && true))))))))) := by simp only [bNe, eqv33, andO_some, Option.map_some]
theorem eqv49 (x y : Operand) (a0 b0 : Int) (a1 b1 : Int) : bEqv Try.prog 49 x y (.agg #[.int .i64 a0, .int .i64 a1]) (.agg #[.int .i64 b0, .int .i64 b1]) = andO (some (a0 == b0)) (andO (some (a1 == b1)) (some true)) := by kernel_rfl
theorem eq49 (x y : Operand) (a0 b0 : Int) (a1 b1 : Int) : bEq Try.prog 49 x y (.agg #[.int .i64 a0, .int .i64 a1]) (.agg #[.int .i64 b0, .int .i64 b1]) = some (.bool ((a0 == b0) && ((a1 == b1) && true))) := by simp only [bEq, eqv49, andO_some, Option.map_some]
theorem ne49 (x y : Operand) (a0 b0 : Int) (a1 b1 : Int) : bNe Try.prog 49 x y (.agg #[.int .i64 a0, .int .i64 a1]) (.agg #[.int .i64 b0, .int .i64 b1]) = some (.bool (!((a0 == b0) && ((a1 == b1) && true)))) := by simp only [bNe, eqv49, andO_some, Option.map_some]
theorem eqv55 (x y : Operand) (a0 b0 : Int) (a1 b1 : Int) (a2 b2 : ByteArray) (a3 b3 : ByteArray) (a4 b4 : Int) : bEqv Try.prog 55 x y (.agg #[.int .i64 a0, .int .i64 a1, .string a2, .string a3, .int .i64 a4]) (.agg #[.int .i64 b0, .int .i64 b1, .string b2, .string b3, .int .i64 b4]) = andO (some (a0 == b0)) (andO (some (a1 == b1)) (andO (some (sEq a2 b2)) (andO (some (sEq a3 b3)) (andO (some (a4 == b4)) (some true))))) := by kernel_rfl
theorem eq55 (x y : Operand) (a0 b0 : Int) (a1 b1 : Int) (a2 b2 : ByteArray) (a3 b3 : ByteArray) (a4 b4 : Int) : bEq Try.prog 55 x y (.agg #[.int .i64 a0, .int .i64 a1, .string a2, .string a3, .int .i64 a4]) (.agg #[.int .i64 b0, .int .i64 b1, .string b2, .string b3, .int .i64 b4]) = some (.bool ((a0 == b0) && ((a1 == b1) && ((sEq a2 b2) && ((sEq a3 b3) && ((a4 == b4) && true)))))) := by simp only [bEq, eqv55, andO_some, Option.map_some]
theorem ne55 (x y : Operand) (a0 b0 : Int) (a1 b1 : Int) (a2 b2 : ByteArray) (a3 b3 : ByteArray) (a4 b4 : Int) : bNe Try.prog 55 x y (.agg #[.int .i64 a0, .int .i64 a1, .string a2, .string a3, .int .i64 a4]) (.agg #[.int .i64 b0, .int .i64 b1, .string b2, .string b3, .int .i64 b4]) = some (.bool (!((a0 == b0) && ((a1 == b1) && ((sEq a2 b2) && ((sEq a3 b3) && ((a4 == b4) && true))))))) := by simp only [bNe, eqv55, andO_some, Option.map_some]
end Go.Proofs.Gong
