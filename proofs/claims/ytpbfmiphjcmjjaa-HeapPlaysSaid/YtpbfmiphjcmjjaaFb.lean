/- A part of the proofs: what stands below it, told in lemmas. No condition. -/
import Derived.Test.YtpbfmiphjcmjjaaTy
set_option linter.all false
namespace Go.Proofs.Gong
open Go Go.Sx Go.Proofs
set_option maxRecDepth 100000
theorem fb31  : fBuild Try.prog 31 [] = some (.agg #[(.string ⟨#[]⟩), (.string ⟨#[]⟩), (.string ⟨#[]⟩), (.int .i64 0), (.string ⟨#[]⟩)]) := by kernel_rfl
theorem fb31_0_1 (x0 : ByteArray) (x1 : ByteArray) : fBuild Try.prog 31 [(0, (.string x0)), (1, (.string x1))] = some (.agg #[.string x0, .string x1, (.string ⟨#[]⟩), (.int .i64 0), (.string ⟨#[]⟩)]) := by kernel_rfl
theorem fb31_0_1_2 (x0 : ByteArray) (x1 : ByteArray) (x2 : ByteArray) : fBuild Try.prog 31 [(0, (.string x0)), (1, (.string x1)), (2, (.string x2))] = some (.agg #[.string x0, .string x1, .string x2, (.int .i64 0), (.string ⟨#[]⟩)]) := by kernel_rfl
theorem fb31_0_1_2_3_4 (x0 : ByteArray) (x1 : ByteArray) (x2 : ByteArray) (x3 : Int) (x4 : ByteArray) : fBuild Try.prog 31 [(0, (.string x0)), (1, (.string x1)), (2, (.string x2)), (3, (.int .i64 x3)), (4, (.string x4))] = some (.agg #[.string x0, .string x1, .string x2, .int .i64 x3, .string x4]) := by kernel_rfl
theorem fb31_0_1_3 (x0 : ByteArray) (x1 : ByteArray) (x2 : Int) : fBuild Try.prog 31 [(0, (.string x0)), (1, (.string x1)), (3, (.int .i64 x2))] = some (.agg #[.string x0, .string x1, (.string ⟨#[]⟩), .int .i64 x2, (.string ⟨#[]⟩)]) := by kernel_rfl
theorem fb33  : fBuild Try.prog 33 [] = some (.agg #[(.int .i64 0), (.string ⟨#[]⟩), (.string ⟨#[]⟩), (.string ⟨#[]⟩), (.int .i64 0), (.string ⟨#[]⟩), (.int .i64 0), (.int .i64 0), (.int .i64 0), (.bool false), (.string ⟨#[]⟩)]) := by kernel_rfl
theorem fb33_0_1_2_3_4 (x0 : Int) (x2 : ByteArray) (x3 : ByteArray) (x4 : ByteArray) (x5 : Int) (x6 : ByteArray) (x7 : Int) (x8 : Int) (x9 : Int) : fBuild Try.prog 33 [(0, (.int .i64 x0)), (1, (.agg #[.string x2, .string x3, .string x4, .int .i64 x5, .string x6])), (2, (.int .i64 x7)), (3, (.int .i64 x8)), (4, (.int .i64 x9))] = some (.agg #[.int .i64 x0, .string x2, .string x3, .string x4, .int .i64 x5, .string x6, .int .i64 x7, .int .i64 x8, .int .i64 x9, (.bool false), (.string ⟨#[]⟩)]) := by kernel_rfl
theorem fb41_2 (x0 : ByteArray) : fBuild Try.prog 41 [(2, (.string x0))] = some (.agg #[(.int .i64 0), (.int .i64 0), .string x0, (.string ⟨#[]⟩), (.int .i64 0), (.string ⟨#[]⟩), (.string ⟨#[]⟩), (.string ⟨#[]⟩), (.int .i64 0), (.string ⟨#[]⟩), (.slice none 0 0)]) := by kernel_rfl
theorem fb55  : fBuild Try.prog 55 [] = some (.agg #[(.int .i64 0), (.int .i64 0)]) := by kernel_rfl
theorem fb55_0_1 (x0 : Int) (x1 : Int) : fBuild Try.prog 55 [(0, (.int .i64 x0)), (1, (.int .i64 x1))] = some (.agg #[.int .i64 x0, .int .i64 x1]) := by kernel_rfl
theorem fb110_0_1_2_3 (x0 : Int) (x1 : Int) (x2 : Option Nat) (x3 : Option Nat) : fBuild Try.prog 110 [(0, (.int .i64 x0)), (1, (.int .i64 x1)), (2, (.map x2)), (3, (.map x3))] = some (.agg #[.int .i64 x0, .int .i64 x1, .map x2, .map x3]) := by kernel_rfl
theorem fb114_0_1_2 (x0 : ByteArray) (x1 : ByteArray) (x2 : ByteArray) : fBuild Try.prog 114 [(0, (.string x0)), (1, (.string x1)), (2, (.string x2))] = some (.agg #[.string x0, .string x1, .string x2]) := by kernel_rfl
theorem fb120_0_1_2 (x0 : Int) (x1 : Int) (x2 : Int) : fBuild Try.prog 120 [(0, (.int .i64 x0)), (1, (.int .i64 x1)), (2, (.int .i64 x2))] = some (.agg #[.int .i64 x0, .int .i64 x1, .int .i64 x2]) := by kernel_rfl
theorem fb122_0_1_2 (x0 : Int) (x1 : ByteArray) (x2 : ByteArray) : fBuild Try.prog 122 [(0, (.int .i64 x0)), (1, (.string x1)), (2, (.string x2))] = some (.agg #[.int .i64 x0, .string x1, .string x2]) := by kernel_rfl
theorem fb126_0_1_2 (x0 : Int) (x1 : Option Addr) (n1 c1 : Nat) (x2 : Option Nat) : fBuild Try.prog 126 [(0, (.int .i64 x0)), (1, (.slice x1 n1 c1)), (2, (.map x2))] = some (.agg #[.int .i64 x0, .slice x1 n1 c1, .map x2]) := by kernel_rfl
theorem fb126_0_2 (x0 : Int) (x1 : Option Nat) : fBuild Try.prog 126 [(0, (.int .i64 x0)), (2, (.map x1))] = some (.agg #[.int .i64 x0, (.slice none 0 0), .map x1]) := by kernel_rfl
theorem fb133_0 (x0 : Int) : fBuild Try.prog 133 [(0, (.int .i64 x0))] = some (.agg #[.int .i64 x0, (.slice none 0 0)]) := by kernel_rfl
theorem fb135  : fBuild Try.prog 135 [] = some (.agg #[(.int .i64 0), (.int .i64 0)]) := by kernel_rfl
theorem fb135_0_1 (x0 : Int) (x1 : Int) : fBuild Try.prog 135 [(0, (.int .i64 x0)), (1, (.int .i64 x1))] = some (.agg #[.int .i64 x0, .int .i64 x1]) := by kernel_rfl
theorem fb155_0 (x0 : Option Addr) : fBuild Try.prog 155 [(0, (.pointer x0))] = some (.agg #[.pointer x0]) := by kernel_rfl
theorem fb159_0_1_2_3_4 (x1 : Option Addr) (x2 : Int) (x3 : Int) (x4 : Option Nat) (x5 : Option Nat) : fBuild Try.prog 159 [(0, (.agg #[.pointer x1])), (1, (.int .i64 x2)), (2, (.int .i64 x3)), (3, (.map x4)), (4, (.map x5))] = some (.agg #[.pointer x1, .int .i64 x2, .int .i64 x3, .map x4, .map x5]) := by kernel_rfl
end Go.Proofs.Gong
