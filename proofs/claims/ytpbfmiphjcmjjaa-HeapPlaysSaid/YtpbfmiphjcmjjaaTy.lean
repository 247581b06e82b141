/- A part of the proofs: what stands below it, told in lemmas. No condition. -/
import Derived.Test.YtpbfmiphjcmjjaaProg
import Derived.Test.YtpbfmiphjcmjjaaSz11
set_option linter.all false
namespace Go.Proofs.Gong
open Go Go.Sx Go.Proofs
set_option maxRecDepth 100000
theorem mixed : Try.prog.follows .mixedOrders = true := by kernel_rfl

-- facts on types
theorem z2 : fZero Try.prog 2 = some (.int .i64 0) := by kernel_rfl
theorem z3 : fZero Try.prog 3 = some (.int .i64 0) := by kernel_rfl
theorem ub4 : Try.prog.underlying 4 = some .bool := by kernel_rfl
theorem z4 : fZero Try.prog 4 = some (.bool false) := by kernel_rfl
theorem z5 : fZero Try.prog 5 = some (.int .u8 0) := by kernel_rfl
theorem z6 : fZero Try.prog 6 = some (.int .u8 0) := by kernel_rfl
theorem z7 : fZero Try.prog 7 = some (.agg #[(.int .i64 0), (.int .i64 0), (.bool false), (.int .u8 0)]) := by kernel_rfl
theorem ss9 : isSS Try.prog 9 = true := by kernel_rfl
theorem z9 : fZero Try.prog 9 = some (.string ⟨#[]⟩) := by kernel_rfl
theorem z12 : fZero Try.prog 12 = some (.int .u64 0) := by kernel_rfl
theorem z13 : fZero Try.prog 13 = some (.agg #[(.string ⟨#[]⟩), (.int .u64 0)]) := by kernel_rfl
theorem z14 : fZero Try.prog 14 = some (.agg #[(.string ⟨#[]⟩), (.int .u64 0)]) := by kernel_rfl
theorem up15 : Try.prog.underlying 15 = some (.pointer 236) := by kernel_rfl
theorem z15 : fZero Try.prog 15 = some (.pointer none) := by kernel_rfl
theorem up16 : Try.prog.underlying 16 = some (.pointer 239) := by kernel_rfl
theorem z16 : fZero Try.prog 16 = some (.pointer none) := by kernel_rfl
theorem up17 : Try.prog.underlying 17 = some (.pointer 247) := by kernel_rfl
theorem z17 : fZero Try.prog 17 = some (.pointer none) := by kernel_rfl
theorem z18 : fZero Try.prog 18 = some (.agg #[(.pointer none)]) := by kernel_rfl
theorem z19 : fZero Try.prog 19 = some (.agg #[(.pointer none)]) := by kernel_rfl
theorem z20 : fZero Try.prog 20 = some .nilIface := by kernel_rfl
theorem z21 : fZero Try.prog 21 = some (.int .i32 0) := by kernel_rfl
theorem u22 : Try.prog.underlying 22 = some (.slice 3) := by kernel_rfl
theorem ss22 : isSS Try.prog 22 = true := by kernel_rfl
theorem sl22 : SlT Try.prog 22 3 1 8 := .of (by kernel_rfl) (by kernel_rfl) (by kernel_rfl) (by omega) (by omega)
theorem z22 : fZero Try.prog 22 = some (.slice none 0 0) := by kernel_rfl
theorem up23 : Try.prog.underlying 23 = some (.pointer 110) := by kernel_rfl
theorem z23 : fZero Try.prog 23 = some (.pointer none) := by kernel_rfl
theorem z24 : fZero Try.prog 24 = some (.int .i64 0) := by kernel_rfl
theorem u29 : Try.prog.underlying 29 = some (.slice 5) := by kernel_rfl
theorem ss29 : isSS Try.prog 29 = true := by kernel_rfl
theorem sl29 : SlT Try.prog 29 5 1 1 := .of (by kernel_rfl) (by kernel_rfl) (by kernel_rfl) (by omega) (by omega)
theorem z29 : fZero Try.prog 29 = some (.slice none 0 0) := by kernel_rfl
theorem z30 : fZero Try.prog 30 = some (.agg #[(.string ⟨#[]⟩), (.string ⟨#[]⟩), (.string ⟨#[]⟩), (.int .i64 0), (.string ⟨#[]⟩)]) := by kernel_rfl
theorem z31 : fZero Try.prog 31 = some (.agg #[(.string ⟨#[]⟩), (.string ⟨#[]⟩), (.string ⟨#[]⟩), (.int .i64 0), (.string ⟨#[]⟩)]) := by kernel_rfl
theorem z32 : fZero Try.prog 32 = some (.agg #[(.int .i64 0), (.string ⟨#[]⟩), (.string ⟨#[]⟩), (.string ⟨#[]⟩), (.int .i64 0), (.string ⟨#[]⟩), (.int .i64 0), (.int .i64 0), (.int .i64 0), (.bool false), (.string ⟨#[]⟩)]) := by kernel_rfl
theorem z33 : fZero Try.prog 33 = some (.agg #[(.int .i64 0), (.string ⟨#[]⟩), (.string ⟨#[]⟩), (.string ⟨#[]⟩), (.int .i64 0), (.string ⟨#[]⟩), (.int .i64 0), (.int .i64 0), (.int .i64 0), (.bool false), (.string ⟨#[]⟩)]) := by kernel_rfl
theorem z41 : fZero Try.prog 41 = some (.agg #[(.int .i64 0), (.int .i64 0), (.string ⟨#[]⟩), (.string ⟨#[]⟩), (.int .i64 0), (.string ⟨#[]⟩), (.string ⟨#[]⟩), (.string ⟨#[]⟩), (.int .i64 0), (.string ⟨#[]⟩), (.slice none 0 0)]) := by kernel_rfl
theorem up46 : Try.prog.underlying 46 = some (.pointer 126) := by kernel_rfl
theorem z46 : fZero Try.prog 46 = some (.pointer none) := by kernel_rfl
theorem z49 : fZero Try.prog 49 = some (.agg #[(.int .i64 0), (.int .i64 0)]) := by kernel_rfl
theorem u52 : Try.prog.underlying 52 = some (.slice 55) := by kernel_rfl
theorem ss52 : isSS Try.prog 52 = true := by kernel_rfl
theorem sl52 : SlT Try.prog 52 55 2 16 := .of (by kernel_rfl) (by kernel_rfl) (by kernel_rfl) (by omega) (by omega)
theorem z52 : fZero Try.prog 52 = some (.slice none 0 0) := by kernel_rfl
theorem z55 : fZero Try.prog 55 = some (.agg #[(.int .i64 0), (.int .i64 0)]) := by kernel_rfl
theorem up58 : Try.prog.underlying 58 = some (.pointer 133) := by kernel_rfl
theorem z58 : fZero Try.prog 58 = some (.pointer none) := by kernel_rfl
theorem z61 : fZero Try.prog 61 = some (.agg #[(.int .i64 0), (.int .i64 0), (.int .i64 0)]) := by kernel_rfl
theorem z62 : fZero Try.prog 62 = some (.agg #[(.int .i64 0), (.int .i64 0), (.int .i64 0)]) := by kernel_rfl
theorem u65 : Try.prog.underlying 65 = some (.slice 135) := by kernel_rfl
theorem ss65 : isSS Try.prog 65 = true := by kernel_rfl
theorem sl65 : SlT Try.prog 65 135 2 16 := .of (by kernel_rfl) (by kernel_rfl) (by kernel_rfl) (by omega) (by omega)
theorem z65 : fZero Try.prog 65 = some (.slice none 0 0) := by kernel_rfl
theorem um70 : Try.prog.underlying 70 = some (.map 3 4) := by kernel_rfl
theorem z70 : fZero Try.prog 70 = some (.map none) := by kernel_rfl
theorem u74 : Try.prog.underlying 74 = some (.slice 33) := by kernel_rfl
theorem ss74 : isSS Try.prog 74 = true := by kernel_rfl
theorem sl74 : SlT Try.prog 74 33 11 128 := .of (by kernel_rfl) (by kernel_rfl) (by kernel_rfl) (by omega) (by omega)
theorem z74 : fZero Try.prog 74 = some (.slice none 0 0) := by kernel_rfl
theorem um77 : Try.prog.underlying 77 = some (.map 79 4) := by kernel_rfl
theorem z77 : fZero Try.prog 77 = some (.map none) := by kernel_rfl
theorem z79 : fZero Try.prog 79 = some (.agg #[(.string ⟨#[]⟩), (.string ⟨#[]⟩), (.string ⟨#[]⟩)]) := by kernel_rfl
theorem u85 : Try.prog.underlying 85 = some (.slice 90) := by kernel_rfl
theorem ss85 : isSS Try.prog 85 = true := by kernel_rfl
theorem sl85 : SlT Try.prog 85 90 11 144 := .of (by kernel_rfl) (by kernel_rfl) (by kernel_rfl) (by omega) (by omega)
theorem z85 : fZero Try.prog 85 = some (.slice none 0 0) := by kernel_rfl
theorem up86 : Try.prog.underlying 86 = some (.pointer 149) := by kernel_rfl
theorem z86 : fZero Try.prog 86 = some (.pointer none) := by kernel_rfl
theorem z90 : fZero Try.prog 90 = some (.agg #[(.int .i64 0), (.int .i64 0), (.int .i64 0), (.int .i64 0), (.string ⟨#[]⟩), (.string ⟨#[]⟩), (.string ⟨#[]⟩), (.int .i64 0), (.string ⟨#[]⟩), (.string ⟨#[]⟩), (.slice none 0 0)]) := by kernel_rfl
theorem up93 : Try.prog.underlying 93 = some (.pointer 159) := by kernel_rfl
theorem z93 : fZero Try.prog 93 = some (.pointer none) := by kernel_rfl
theorem um107 : Try.prog.underlying 107 = some (.map 3 33) := by kernel_rfl
theorem z107 : fZero Try.prog 107 = some (.map none) := by kernel_rfl
theorem um108 : Try.prog.underlying 108 = some (.map 114 3) := by kernel_rfl
theorem z108 : fZero Try.prog 108 = some (.map none) := by kernel_rfl
theorem z110 : fZero Try.prog 110 = some (.agg #[(.int .i64 0), (.int .i64 0), (.map none), (.map none)]) := by kernel_rfl
theorem z113 : fZero Try.prog 113 = some (.agg #[(.string ⟨#[]⟩), (.string ⟨#[]⟩), (.string ⟨#[]⟩)]) := by kernel_rfl
theorem z114 : fZero Try.prog 114 = some (.agg #[(.string ⟨#[]⟩), (.string ⟨#[]⟩), (.string ⟨#[]⟩)]) := by kernel_rfl
theorem z120 : fZero Try.prog 120 = some (.agg #[(.int .i64 0), (.int .i64 0), (.int .i64 0)]) := by kernel_rfl
theorem z122 : fZero Try.prog 122 = some (.agg #[(.int .i64 0), (.string ⟨#[]⟩), (.string ⟨#[]⟩)]) := by kernel_rfl
theorem um124 : Try.prog.underlying 124 = some (.map 3 3) := by kernel_rfl
theorem z124 : fZero Try.prog 124 = some (.map none) := by kernel_rfl
theorem z126 : fZero Try.prog 126 = some (.agg #[(.int .i64 0), (.slice none 0 0), (.map none)]) := by kernel_rfl
theorem z133 : fZero Try.prog 133 = some (.agg #[(.int .i64 0), (.slice none 0 0)]) := by kernel_rfl
theorem z135 : fZero Try.prog 135 = some (.agg #[(.int .i64 0), (.int .i64 0)]) := by kernel_rfl
theorem z148 : fZero Try.prog 148 = some (.agg #[(.int .i64 0), (.int .i64 0), (.slice none 0 0)]) := by kernel_rfl
theorem z149 : fZero Try.prog 149 = some (.agg #[(.int .i64 0), (.int .i64 0), (.slice none 0 0)]) := by kernel_rfl
theorem z155 : fZero Try.prog 155 = some (.agg #[(.pointer none)]) := by kernel_rfl
theorem um156 : Try.prog.underlying 156 = some (.map 3 41) := by kernel_rfl
theorem z156 : fZero Try.prog 156 = some (.map none) := by kernel_rfl
theorem um157 : Try.prog.underlying 157 = some (.map 122 3) := by kernel_rfl
theorem z157 : fZero Try.prog 157 = some (.map none) := by kernel_rfl
theorem z159 : fZero Try.prog 159 = some (.agg #[(.pointer none), (.int .i64 0), (.int .i64 0), (.map none), (.map none)]) := by kernel_rfl
theorem z190 : fZero Try.prog 190 = some (.int .i64 0) := by kernel_rfl
theorem z197 : fZero Try.prog 197 = some (.int .u32 0) := by kernel_rfl
theorem z211 : fZero Try.prog 211 = some (.int .u64 0) := by kernel_rfl
theorem z236 : fZero Try.prog 236 = some (.agg #[(.pointer none), (.pointer none), (.pointer none), (.string ⟨#[]⟩)]) := by kernel_rfl
theorem z237 : fZero Try.prog 237 = some (.agg #[]) := by kernel_rfl
theorem z239 : fZero Try.prog 239 = some (.agg #[]) := by kernel_rfl
theorem z240 : fZero Try.prog 240 = some (.int .u8 0) := by kernel_rfl
theorem z241 : fZero Try.prog 241 = some (.int .u8 0) := by kernel_rfl
theorem up243 : Try.prog.underlying 243 = some (.pointer 5) := by kernel_rfl
theorem z243 : fZero Try.prog 243 = some (.pointer none) := by kernel_rfl
theorem z244 : fZero Try.prog 244 = some (.int .i32 0) := by kernel_rfl
theorem z245 : fZero Try.prog 245 = some (.int .i32 0) := by kernel_rfl
theorem z247 : fZero Try.prog 247 = some (.agg #[(.int .u64 0), (.int .u64 0), (.int .u32 0), (.int .u8 0), (.int .u8 0), (.int .u8 0), (.int .u8 0), .nilFunc, (.pointer none), (.int .i32 0), (.int .i32 0)]) := by kernel_rfl

theorem eqv31 (x y : Operand) (a0 b0 : ByteArray) (a1 b1 : ByteArray) (a2 b2 : ByteArray) (a3 b3 : Int) (a4 b4 : ByteArray) : bEqv Try.prog 31 x y (.agg #[.string a0, .string a1, .string a2, .int .i64 a3, .string a4]) (.agg #[.string b0, .string b1, .string b2, .int .i64 b3, .string b4]) = andO (some (sEq a0 b0)) (andO (some (sEq a1 b1)) (andO (some (sEq a2 b2)) (andO (some (a3 == b3)) (andO (some (sEq a4 b4)) (some true))))) := by kernel_rfl
theorem eq31 (x y : Operand) (a0 b0 : ByteArray) (a1 b1 : ByteArray) (a2 b2 : ByteArray) (a3 b3 : Int) (a4 b4 : ByteArray) : bEq Try.prog 31 x y (.agg #[.string a0, .string a1, .string a2, .int .i64 a3, .string a4]) (.agg #[.string b0, .string b1, .string b2, .int .i64 b3, .string b4]) = some (.bool ((sEq a0 b0) && ((sEq a1 b1) && ((sEq a2 b2) && ((a3 == b3) && ((sEq a4 b4) && true)))))) := by simp only [bEq, eqv31, andO_some, Option.map_some]
theorem ne31 (x y : Operand) (a0 b0 : ByteArray) (a1 b1 : ByteArray) (a2 b2 : ByteArray) (a3 b3 : Int) (a4 b4 : ByteArray) : bNe Try.prog 31 x y (.agg #[.string a0, .string a1, .string a2, .int .i64 a3, .string a4]) (.agg #[.string b0, .string b1, .string b2, .int .i64 b3, .string b4]) = some (.bool (!((sEq a0 b0) && ((sEq a1 b1) && ((sEq a2 b2) && ((a3 == b3) && ((sEq a4 b4) && true))))))) := by simp only [bNe, eqv31, andO_some, Option.map_some]
theorem eqv33 (x y : Operand) (a0 b0 : Int) (a1 b1 : ByteArray) (a2 b2 : ByteArray) (a3 b3 : ByteArray) (a4 b4 : Int) (a5 b5 : ByteArray) (a6 b6 : Int) (a7 b7 : Int) (a8 b8 : Int) (a9 b9 : Bool) (a10 b10 : ByteArray) : bEqv Try.prog 33 x y (.agg #[.int .i64 a0, .string a1, .string a2, .string a3, .int .i64 a4, .string a5, .int .i64 a6, .int .i64 a7, .int .i64 a8, .bool a9, .string a10]) (.agg #[.int .i64 b0, .string b1, .string b2, .string b3, .int .i64 b4, .string b5, .int .i64 b6, .int .i64 b7, .int .i64 b8, .bool b9, .string b10]) = andO (some (a0 == b0)) (andO (andO (some (sEq a1 b1)) (andO (some (sEq a2 b2)) (andO (some (sEq a3 b3)) (andO (some (a4 == b4)) (andO (some (sEq a5 b5)) (some true)))))) (andO (some (a6 == b6)) (andO (some (a7 == b7)) (andO (some (a8 == b8)) (andO (some (a9 == b9)) (andO (some (sEq a10 b10)) (some true))))))) := by kernel_rfl
theorem eq33 (x y : Operand) (a0 b0 : Int) (a1 b1 : ByteArray) (a2 b2 : ByteArray) (a3 b3 : ByteArray) (a4 b4 : Int) (a5 b5 : ByteArray) (a6 b6 : Int) (a7 b7 : Int) (a8 b8 : Int) (a9 b9 : Bool) (a10 b10 : ByteArray) : bEq Try.prog 33 x y (.agg #[.int .i64 a0, .string a1, .string a2, .string a3, .int .i64 a4, .string a5, .int .i64 a6, .int .i64 a7, .int .i64 a8, .bool a9, .string a10]) (.agg #[.int .i64 b0, .string b1, .string b2, .string b3, .int .i64 b4, .string b5, .int .i64 b6, .int .i64 b7, .int .i64 b8, .bool b9, .string b10]) = some (.bool ((a0 == b0) && (((sEq a1 b1) && ((sEq a2 b2) && ((sEq a3 b3) && ((a4 == b4) && ((sEq a5 b5) && true))))) && ((a6 == b6) && ((a7 == b7) && ((a8 == b8) && ((a9 == b9) && ((sEq a10 b10) && true)))))))) := by simp only [bEq, eqv33, andO_some, Option.map_some]
theorem ne33 (x y : Operand) (a0 b0 : Int) (a1 b1 : ByteArray) (a2 b2 : ByteArray) (a3 b3 : ByteArray) (a4 b4 : Int) (a5 b5 : ByteArray) (a6 b6 : Int) (a7 b7 : Int) (a8 b8 : Int) (a9 b9 : Bool) (a10 b10 : ByteArray) : bNe Try.prog 33 x y (.agg #[.int .i64 a0, .string a1, .string a2, .string a3, .int .i64 a4, .string a5, .int .i64 a6, .int .i64 a7, .int .i64 a8, .bool a9, .string a10]) (.agg #[.int .i64 b0, .string b1, .string b2, .string b3, .int .i64 b4, .string b5, .int .i64 b6, .int .i64 b7, .int .i64 b8, .bool b9, .string b10]) = some (.bool (!((a0 == b0) && (((sEq a1 b1) && ((sEq a2 b2) && ((sEq a3 b3) && ((a4 == b4) && ((sEq a5 b5) && true))))) && ((a6 == b6) && ((a7 == b7) && ((a8 == b8) && ((a9 == b9) && ((sEq a10 b10) && true))))))))) := by simp only [bNe, eqv33, andO_some, Option.map_some]
theorem eqv55 (x y : Operand) (a0 b0 : Int) (a1 b1 : Int) : bEqv Try.prog 55 x y (.agg #[.int .i64 a0, .int .i64 a1]) (.agg #[.int .i64 b0, .int .i64 b1]) = andO (some (a0 == b0)) (andO (some (a1 == b1)) (some true)) := by kernel_rfl
theorem eq55 (x y : Operand) (a0 b0 : Int) (a1 b1 : Int) : bEq Try.prog 55 x y (.agg #[.int .i64 a0, .int .i64 a1]) (.agg #[.int .i64 b0, .int .i64 b1]) = some (.bool ((a0 == b0) && ((a1 == b1) && true))) := by simp only [bEq, eqv55, andO_some, Option.map_some]
theorem ne55 (x y : Operand) (a0 b0 : Int) (a1 b1 : Int) : bNe Try.prog 55 x y (.agg #[.int .i64 a0, .int .i64 a1]) (.agg #[.int .i64 b0, .int .i64 b1]) = some (.bool (!((a0 == b0) && ((a1 == b1) && true)))) := by simp only [bNe, eqv55, andO_some, Option.map_some]
theorem eqv120 (x y : Operand) (a0 b0 : Int) (a1 b1 : Int) (a2 b2 : Int) : bEqv Try.prog 120 x y (.agg #[.int .i64 a0, .int .i64 a1, .int .i64 a2]) (.agg #[.int .i64 b0, .int .i64 b1, .int .i64 b2]) = andO (some (a0 == b0)) (andO (some (a1 == b1)) (andO (some (a2 == b2)) (some true))) := by kernel_rfl
theorem eq120 (x y : Operand) (a0 b0 : Int) (a1 b1 : Int) (a2 b2 : Int) : bEq Try.prog 120 x y (.agg #[.int .i64 a0, .int .i64 a1, .int .i64 a2]) (.agg #[.int .i64 b0, .int .i64 b1, .int .i64 b2]) = some (.bool ((a0 == b0) && ((a1 == b1) && ((a2 == b2) && true)))) := by simp only [bEq, eqv120, andO_some, Option.map_some]
theorem ne120 (x y : Operand) (a0 b0 : Int) (a1 b1 : Int) (a2 b2 : Int) : bNe Try.prog 120 x y (.agg #[.int .i64 a0, .int .i64 a1, .int .i64 a2]) (.agg #[.int .i64 b0, .int .i64 b1, .int .i64 b2]) = some (.bool (!((a0 == b0) && ((a1 == b1) && ((a2 == b2) && true))))) := by simp only [bNe, eqv120, andO_some, Option.map_some]
theorem eqv122 (x y : Operand) (a0 b0 : Int) (a1 b1 : ByteArray) (a2 b2 : ByteArray) : bEqv Try.prog 122 x y (.agg #[.int .i64 a0, .string a1, .string a2]) (.agg #[.int .i64 b0, .string b1, .string b2]) = andO (some (a0 == b0)) (andO (some (sEq a1 b1)) (andO (some (sEq a2 b2)) (some true))) := by kernel_rfl
theorem eq122 (x y : Operand) (a0 b0 : Int) (a1 b1 : ByteArray) (a2 b2 : ByteArray) : bEq Try.prog 122 x y (.agg #[.int .i64 a0, .string a1, .string a2]) (.agg #[.int .i64 b0, .string b1, .string b2]) = some (.bool ((a0 == b0) && ((sEq a1 b1) && ((sEq a2 b2) && true)))) := by simp only [bEq, eqv122, andO_some, Option.map_some]
theorem ne122 (x y : Operand) (a0 b0 : Int) (a1 b1 : ByteArray) (a2 b2 : ByteArray) : bNe Try.prog 122 x y (.agg #[.int .i64 a0, .string a1, .string a2]) (.agg #[.int .i64 b0, .string b1, .string b2]) = some (.bool (!((a0 == b0) && ((sEq a1 b1) && ((sEq a2 b2) && true))))) := by simp only [bNe, eqv122, andO_some, Option.map_some]
end Go.Proofs.Gong
