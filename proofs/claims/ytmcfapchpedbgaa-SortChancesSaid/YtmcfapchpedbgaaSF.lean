import Derived.Test.YtmcfapchpedbgaaProg
import Derived.Test.YtmcfapchpedbgaaZB6
namespace Go.Abs
open Go
@[simp] theorem agg_0 : aggO Go.Proofs.Try.prog 0 = some false := by kernel_rfl
@[simp] theorem cells_0 : Program.cellsOf Go.Proofs.Try.prog 0 = 1 := by kernel_rfl
@[simp] theorem bytes_0 : Program.bytesOf Go.Proofs.Try.prog 0 = 0 := by kernel_rfl
theorem bytes1_0 : Program.bytesOf Go.Proofs.Try.prog 0 ≤ 1024 := by rw [bytes_0]; decide
theorem info_0 : ∃ i, (Go.Proofs.Try.prog : Program).info? 0 = some i := aggO_info agg_0
@[simp] theorem agg_1 : aggO Go.Proofs.Try.prog 1 = some false := by kernel_rfl
@[simp] theorem cells_1 : Program.cellsOf Go.Proofs.Try.prog 1 = 1 := by kernel_rfl
@[simp] theorem bytes_1 : Program.bytesOf Go.Proofs.Try.prog 1 = 8 := by kernel_rfl
theorem bytes1_1 : Program.bytesOf Go.Proofs.Try.prog 1 ≤ 1024 := by rw [bytes_1]; decide
theorem info_1 : ∃ i, (Go.Proofs.Try.prog : Program).info? 1 = some i := aggO_info agg_1
@[simp] theorem zv_1 : zvO Go.Proofs.Try.prog 1 = some (.nilFunc) := by kernel_rfl
@[simp] theorem zero_1 : zeroO Go.Proofs.Try.prog 1 = some ([.sc .nilFunc]) := by kernel_rfl
@[simp] theorem agg_2 : aggO Go.Proofs.Try.prog 2 = some false := by kernel_rfl
@[simp] theorem cells_2 : Program.cellsOf Go.Proofs.Try.prog 2 = 1 := by kernel_rfl
@[simp] theorem int_2 : intO Go.Proofs.Try.prog 2 = some .i64 := by kernel_rfl
@[simp] theorem unds_2 : (Program.underlying Go.Proofs.Try.prog 2).isSome = true := by kernel_rfl
@[simp] theorem bytes_2 : Program.bytesOf Go.Proofs.Try.prog 2 = 8 := by kernel_rfl
theorem bytes1_2 : Program.bytesOf Go.Proofs.Try.prog 2 ≤ 1024 := by rw [bytes_2]; decide
theorem info_2 : ∃ i, (Go.Proofs.Try.prog : Program).info? 2 = some i := aggO_info agg_2
@[simp] theorem zv_2 : zvO Go.Proofs.Try.prog 2 = some ((.int .i64 (0))) := by kernel_rfl
@[simp] theorem zero_2 : zeroO Go.Proofs.Try.prog 2 = some ([.sc (.int .i64 (0))]) := by kernel_rfl
@[simp] theorem agg_3 : aggO Go.Proofs.Try.prog 3 = some false := by kernel_rfl
@[simp] theorem cells_3 : Program.cellsOf Go.Proofs.Try.prog 3 = 1 := by kernel_rfl
@[simp] theorem int_3 : intO Go.Proofs.Try.prog 3 = some .i64 := by kernel_rfl
@[simp] theorem unds_3 : (Program.underlying Go.Proofs.Try.prog 3).isSome = true := by kernel_rfl
@[simp] theorem bytes_3 : Program.bytesOf Go.Proofs.Try.prog 3 = 8 := by kernel_rfl
theorem bytes1_3 : Program.bytesOf Go.Proofs.Try.prog 3 ≤ 1024 := by rw [bytes_3]; decide
theorem info_3 : ∃ i, (Go.Proofs.Try.prog : Program).info? 3 = some i := aggO_info agg_3
@[simp] theorem zv_3 : zvO Go.Proofs.Try.prog 3 = some ((.int .i64 (0))) := by kernel_rfl
@[simp] theorem zero_3 : zeroO Go.Proofs.Try.prog 3 = some ([.sc (.int .i64 (0))]) := by kernel_rfl
@[simp] theorem agg_4 : aggO Go.Proofs.Try.prog 4 = some false := by kernel_rfl
@[simp] theorem cells_4 : Program.cellsOf Go.Proofs.Try.prog 4 = 1 := by kernel_rfl
@[simp] theorem und_4 : Program.underlying Go.Proofs.Try.prog 4 = some .bool := by kernel_rfl
@[simp] theorem bytes_4 : Program.bytesOf Go.Proofs.Try.prog 4 = 1 := by kernel_rfl
theorem bytes1_4 : Program.bytesOf Go.Proofs.Try.prog 4 ≤ 1024 := by rw [bytes_4]; decide
theorem info_4 : ∃ i, (Go.Proofs.Try.prog : Program).info? 4 = some i := aggO_info agg_4
@[simp] theorem zv_4 : zvO Go.Proofs.Try.prog 4 = some ((.bool false)) := by kernel_rfl
@[simp] theorem zero_4 : zeroO Go.Proofs.Try.prog 4 = some ([.sc (.bool false)]) := by kernel_rfl
@[simp] theorem agg_5 : aggO Go.Proofs.Try.prog 5 = some false := by kernel_rfl
@[simp] theorem cells_5 : Program.cellsOf Go.Proofs.Try.prog 5 = 1 := by kernel_rfl
@[simp] theorem int_5 : intO Go.Proofs.Try.prog 5 = some .u8 := by kernel_rfl
@[simp] theorem unds_5 : (Program.underlying Go.Proofs.Try.prog 5).isSome = true := by kernel_rfl
@[simp] theorem bytes_5 : Program.bytesOf Go.Proofs.Try.prog 5 = 1 := by kernel_rfl
theorem bytes1_5 : Program.bytesOf Go.Proofs.Try.prog 5 ≤ 1024 := by rw [bytes_5]; decide
theorem info_5 : ∃ i, (Go.Proofs.Try.prog : Program).info? 5 = some i := aggO_info agg_5
@[simp] theorem zv_5 : zvO Go.Proofs.Try.prog 5 = some ((.int .u8 (0))) := by kernel_rfl
@[simp] theorem zero_5 : zeroO Go.Proofs.Try.prog 5 = some ([.sc (.int .u8 (0))]) := by kernel_rfl
@[simp] theorem agg_6 : aggO Go.Proofs.Try.prog 6 = some false := by kernel_rfl
@[simp] theorem cells_6 : Program.cellsOf Go.Proofs.Try.prog 6 = 1 := by kernel_rfl
@[simp] theorem int_6 : intO Go.Proofs.Try.prog 6 = some .u8 := by kernel_rfl
@[simp] theorem unds_6 : (Program.underlying Go.Proofs.Try.prog 6).isSome = true := by kernel_rfl
@[simp] theorem bytes_6 : Program.bytesOf Go.Proofs.Try.prog 6 = 1 := by kernel_rfl
theorem bytes1_6 : Program.bytesOf Go.Proofs.Try.prog 6 ≤ 1024 := by rw [bytes_6]; decide
theorem info_6 : ∃ i, (Go.Proofs.Try.prog : Program).info? 6 = some i := aggO_info agg_6
@[simp] theorem zv_6 : zvO Go.Proofs.Try.prog 6 = some ((.int .u8 (0))) := by kernel_rfl
@[simp] theorem zero_6 : zeroO Go.Proofs.Try.prog 6 = some ([.sc (.int .u8 (0))]) := by kernel_rfl
@[simp] theorem agg_7 : aggO Go.Proofs.Try.prog 7 = some true := by kernel_rfl
@[simp] theorem cells_7 : Program.cellsOf Go.Proofs.Try.prog 7 = 4 := by kernel_rfl
@[simp] theorem fld_7_0 : fldO Go.Proofs.Try.prog 7 0 = some (0, 2) := by kernel_rfl
@[simp] theorem fld_7_1 : fldO Go.Proofs.Try.prog 7 1 = some (1, 3) := by kernel_rfl
@[simp] theorem fld_7_2 : fldO Go.Proofs.Try.prog 7 2 = some (2, 4) := by kernel_rfl
@[simp] theorem fld_7_3 : fldO Go.Proofs.Try.prog 7 3 = some (3, 6) := by kernel_rfl
@[simp] theorem places_7 : placesO Go.Proofs.Try.prog 7 = some [(0, 1), (1, 1), (2, 1), (3, 1)] := by kernel_rfl
@[simp] theorem bytes_7 : Program.bytesOf Go.Proofs.Try.prog 7 = 24 := by kernel_rfl
theorem bytes1_7 : Program.bytesOf Go.Proofs.Try.prog 7 ≤ 1024 := by rw [bytes_7]; decide
theorem info_7 : ∃ i, (Go.Proofs.Try.prog : Program).info? 7 = some i := aggO_info agg_7
@[simp] theorem zero_7 : zeroO Go.Proofs.Try.prog 7 = some ([.sc (.int .i64 (0)), .sc (.int .i64 (0)), .sc (.bool false), .sc (.int .u8 (0))]) := by kernel_rfl
@[simp] theorem agg_8 : aggO Go.Proofs.Try.prog 8 = some true := by kernel_rfl
@[simp] theorem cells_8 : Program.cellsOf Go.Proofs.Try.prog 8 = 4 := by kernel_rfl
@[simp] theorem fld_8_0 : fldO Go.Proofs.Try.prog 8 0 = some (0, 2) := by kernel_rfl
@[simp] theorem fld_8_1 : fldO Go.Proofs.Try.prog 8 1 = some (1, 3) := by kernel_rfl
@[simp] theorem fld_8_2 : fldO Go.Proofs.Try.prog 8 2 = some (2, 4) := by kernel_rfl
@[simp] theorem fld_8_3 : fldO Go.Proofs.Try.prog 8 3 = some (3, 6) := by kernel_rfl
@[simp] theorem places_8 : placesO Go.Proofs.Try.prog 8 = some [(0, 1), (1, 1), (2, 1), (3, 1)] := by kernel_rfl
@[simp] theorem bytes_8 : Program.bytesOf Go.Proofs.Try.prog 8 = 24 := by kernel_rfl
theorem bytes1_8 : Program.bytesOf Go.Proofs.Try.prog 8 ≤ 1024 := by rw [bytes_8]; decide
theorem info_8 : ∃ i, (Go.Proofs.Try.prog : Program).info? 8 = some i := aggO_info agg_8
@[simp] theorem zero_8 : zeroO Go.Proofs.Try.prog 8 = some ([.sc (.int .i64 (0)), .sc (.int .i64 (0)), .sc (.bool false), .sc (.int .u8 (0))]) := by kernel_rfl
@[simp] theorem agg_9 : aggO Go.Proofs.Try.prog 9 = some false := by kernel_rfl
@[simp] theorem cells_9 : Program.cellsOf Go.Proofs.Try.prog 9 = 1 := by kernel_rfl
@[simp] theorem plain_9 : plainT Go.Proofs.Try.prog 9 = true := by kernel_rfl
@[simp] theorem und_9 : Program.underlying Go.Proofs.Try.prog 9 = some .string := by kernel_rfl
@[simp] theorem bytes_9 : Program.bytesOf Go.Proofs.Try.prog 9 = 16 := by kernel_rfl
theorem bytes1_9 : Program.bytesOf Go.Proofs.Try.prog 9 ≤ 1024 := by rw [bytes_9]; decide
theorem info_9 : ∃ i, (Go.Proofs.Try.prog : Program).info? 9 = some i := aggO_info agg_9
@[simp] theorem zv_9 : zvO Go.Proofs.Try.prog 9 = some ((.string ⟨#[]⟩)) := by kernel_rfl
@[simp] theorem zero_9 : zeroO Go.Proofs.Try.prog 9 = some ([.sc (.string ⟨#[]⟩)]) := by kernel_rfl
@[simp] theorem agg_10 : aggO Go.Proofs.Try.prog 10 = some false := by kernel_rfl
@[simp] theorem cells_10 : Program.cellsOf Go.Proofs.Try.prog 10 = 1 := by kernel_rfl
@[simp] theorem plain_10 : plainT Go.Proofs.Try.prog 10 = true := by kernel_rfl
@[simp] theorem und_10 : Program.underlying Go.Proofs.Try.prog 10 = some .string := by kernel_rfl
@[simp] theorem bytes_10 : Program.bytesOf Go.Proofs.Try.prog 10 = 16 := by kernel_rfl
theorem bytes1_10 : Program.bytesOf Go.Proofs.Try.prog 10 ≤ 1024 := by rw [bytes_10]; decide
theorem info_10 : ∃ i, (Go.Proofs.Try.prog : Program).info? 10 = some i := aggO_info agg_10
@[simp] theorem zv_10 : zvO Go.Proofs.Try.prog 10 = some ((.string ⟨#[]⟩)) := by kernel_rfl
@[simp] theorem zero_10 : zeroO Go.Proofs.Try.prog 10 = some ([.sc (.string ⟨#[]⟩)]) := by kernel_rfl
@[simp] theorem agg_11 : aggO Go.Proofs.Try.prog 11 = some false := by kernel_rfl
@[simp] theorem cells_11 : Program.cellsOf Go.Proofs.Try.prog 11 = 1 := by kernel_rfl
@[simp] theorem plain_11 : plainT Go.Proofs.Try.prog 11 = true := by kernel_rfl
@[simp] theorem und_11 : Program.underlying Go.Proofs.Try.prog 11 = some .string := by kernel_rfl
@[simp] theorem bytes_11 : Program.bytesOf Go.Proofs.Try.prog 11 = 16 := by kernel_rfl
theorem bytes1_11 : Program.bytesOf Go.Proofs.Try.prog 11 ≤ 1024 := by rw [bytes_11]; decide
theorem info_11 : ∃ i, (Go.Proofs.Try.prog : Program).info? 11 = some i := aggO_info agg_11
@[simp] theorem zv_11 : zvO Go.Proofs.Try.prog 11 = some ((.string ⟨#[]⟩)) := by kernel_rfl
@[simp] theorem zero_11 : zeroO Go.Proofs.Try.prog 11 = some ([.sc (.string ⟨#[]⟩)]) := by kernel_rfl
@[simp] theorem agg_12 : aggO Go.Proofs.Try.prog 12 = some false := by kernel_rfl
@[simp] theorem cells_12 : Program.cellsOf Go.Proofs.Try.prog 12 = 1 := by kernel_rfl
@[simp] theorem int_12 : intO Go.Proofs.Try.prog 12 = some .u64 := by kernel_rfl
@[simp] theorem unds_12 : (Program.underlying Go.Proofs.Try.prog 12).isSome = true := by kernel_rfl
@[simp] theorem bytes_12 : Program.bytesOf Go.Proofs.Try.prog 12 = 8 := by kernel_rfl
theorem bytes1_12 : Program.bytesOf Go.Proofs.Try.prog 12 ≤ 1024 := by rw [bytes_12]; decide
theorem info_12 : ∃ i, (Go.Proofs.Try.prog : Program).info? 12 = some i := aggO_info agg_12
@[simp] theorem zv_12 : zvO Go.Proofs.Try.prog 12 = some ((.int .u64 (0))) := by kernel_rfl
@[simp] theorem zero_12 : zeroO Go.Proofs.Try.prog 12 = some ([.sc (.int .u64 (0))]) := by kernel_rfl
@[simp] theorem agg_13 : aggO Go.Proofs.Try.prog 13 = some true := by kernel_rfl
@[simp] theorem cells_13 : Program.cellsOf Go.Proofs.Try.prog 13 = 2 := by kernel_rfl
@[simp] theorem fld_13_0 : fldO Go.Proofs.Try.prog 13 0 = some (0, 9) := by kernel_rfl
@[simp] theorem fld_13_1 : fldO Go.Proofs.Try.prog 13 1 = some (1, 12) := by kernel_rfl
@[simp] theorem places_13 : placesO Go.Proofs.Try.prog 13 = some [(0, 1), (1, 1)] := by kernel_rfl
@[simp] theorem bytes_13 : Program.bytesOf Go.Proofs.Try.prog 13 = 24 := by kernel_rfl
theorem bytes1_13 : Program.bytesOf Go.Proofs.Try.prog 13 ≤ 1024 := by rw [bytes_13]; decide
theorem info_13 : ∃ i, (Go.Proofs.Try.prog : Program).info? 13 = some i := aggO_info agg_13
@[simp] theorem zero_13 : zeroO Go.Proofs.Try.prog 13 = some ([.sc (.string ⟨#[]⟩), .sc (.int .u64 (0))]) := by kernel_rfl
@[simp] theorem agg_14 : aggO Go.Proofs.Try.prog 14 = some true := by kernel_rfl
@[simp] theorem cells_14 : Program.cellsOf Go.Proofs.Try.prog 14 = 2 := by kernel_rfl
@[simp] theorem fld_14_0 : fldO Go.Proofs.Try.prog 14 0 = some (0, 9) := by kernel_rfl
@[simp] theorem fld_14_1 : fldO Go.Proofs.Try.prog 14 1 = some (1, 12) := by kernel_rfl
@[simp] theorem places_14 : placesO Go.Proofs.Try.prog 14 = some [(0, 1), (1, 1)] := by kernel_rfl
@[simp] theorem bytes_14 : Program.bytesOf Go.Proofs.Try.prog 14 = 24 := by kernel_rfl
theorem bytes1_14 : Program.bytesOf Go.Proofs.Try.prog 14 ≤ 1024 := by rw [bytes_14]; decide
theorem info_14 : ∃ i, (Go.Proofs.Try.prog : Program).info? 14 = some i := aggO_info agg_14
@[simp] theorem zero_14 : zeroO Go.Proofs.Try.prog 14 = some ([.sc (.string ⟨#[]⟩), .sc (.int .u64 (0))]) := by kernel_rfl
@[simp] theorem agg_15 : aggO Go.Proofs.Try.prog 15 = some false := by kernel_rfl
@[simp] theorem cells_15 : Program.cellsOf Go.Proofs.Try.prog 15 = 1 := by kernel_rfl
@[simp] theorem und_15 : Program.underlying Go.Proofs.Try.prog 15 = some (.pointer 159) := by kernel_rfl
@[simp] theorem bytes_15 : Program.bytesOf Go.Proofs.Try.prog 15 = 8 := by kernel_rfl
theorem bytes1_15 : Program.bytesOf Go.Proofs.Try.prog 15 ≤ 1024 := by rw [bytes_15]; decide
theorem info_15 : ∃ i, (Go.Proofs.Try.prog : Program).info? 15 = some i := aggO_info agg_15
@[simp] theorem zv_15 : zvO Go.Proofs.Try.prog 15 = some ((.pointer none)) := by kernel_rfl
@[simp] theorem zero_15 : zeroO Go.Proofs.Try.prog 15 = some ([.sc (.pointer none)]) := by kernel_rfl
@[simp] theorem agg_16 : aggO Go.Proofs.Try.prog 16 = some false := by kernel_rfl
@[simp] theorem cells_16 : Program.cellsOf Go.Proofs.Try.prog 16 = 1 := by kernel_rfl
@[simp] theorem und_16 : Program.underlying Go.Proofs.Try.prog 16 = some (.pointer 162) := by kernel_rfl
@[simp] theorem bytes_16 : Program.bytesOf Go.Proofs.Try.prog 16 = 8 := by kernel_rfl
theorem bytes1_16 : Program.bytesOf Go.Proofs.Try.prog 16 ≤ 1024 := by rw [bytes_16]; decide
theorem info_16 : ∃ i, (Go.Proofs.Try.prog : Program).info? 16 = some i := aggO_info agg_16
@[simp] theorem zv_16 : zvO Go.Proofs.Try.prog 16 = some ((.pointer none)) := by kernel_rfl
@[simp] theorem zero_16 : zeroO Go.Proofs.Try.prog 16 = some ([.sc (.pointer none)]) := by kernel_rfl
@[simp] theorem agg_17 : aggO Go.Proofs.Try.prog 17 = some false := by kernel_rfl
@[simp] theorem cells_17 : Program.cellsOf Go.Proofs.Try.prog 17 = 1 := by kernel_rfl
@[simp] theorem und_17 : Program.underlying Go.Proofs.Try.prog 17 = some (.pointer 172) := by kernel_rfl
@[simp] theorem bytes_17 : Program.bytesOf Go.Proofs.Try.prog 17 = 8 := by kernel_rfl
theorem bytes1_17 : Program.bytesOf Go.Proofs.Try.prog 17 ≤ 1024 := by rw [bytes_17]; decide
theorem info_17 : ∃ i, (Go.Proofs.Try.prog : Program).info? 17 = some i := aggO_info agg_17
@[simp] theorem zv_17 : zvO Go.Proofs.Try.prog 17 = some ((.pointer none)) := by kernel_rfl
@[simp] theorem zero_17 : zeroO Go.Proofs.Try.prog 17 = some ([.sc (.pointer none)]) := by kernel_rfl
@[simp] theorem agg_18 : aggO Go.Proofs.Try.prog 18 = some true := by kernel_rfl
@[simp] theorem cells_18 : Program.cellsOf Go.Proofs.Try.prog 18 = 1 := by kernel_rfl
@[simp] theorem fld_18_0 : fldO Go.Proofs.Try.prog 18 0 = some (0, 17) := by kernel_rfl
@[simp] theorem places_18 : placesO Go.Proofs.Try.prog 18 = some [(0, 1)] := by kernel_rfl
@[simp] theorem bytes_18 : Program.bytesOf Go.Proofs.Try.prog 18 = 8 := by kernel_rfl
theorem bytes1_18 : Program.bytesOf Go.Proofs.Try.prog 18 ≤ 1024 := by rw [bytes_18]; decide
theorem info_18 : ∃ i, (Go.Proofs.Try.prog : Program).info? 18 = some i := aggO_info agg_18
@[simp] theorem zero_18 : zeroO Go.Proofs.Try.prog 18 = some ([.sc (.pointer none)]) := by kernel_rfl
@[simp] theorem agg_19 : aggO Go.Proofs.Try.prog 19 = some true := by kernel_rfl
@[simp] theorem cells_19 : Program.cellsOf Go.Proofs.Try.prog 19 = 1 := by kernel_rfl
@[simp] theorem fld_19_0 : fldO Go.Proofs.Try.prog 19 0 = some (0, 17) := by kernel_rfl
@[simp] theorem places_19 : placesO Go.Proofs.Try.prog 19 = some [(0, 1)] := by kernel_rfl
@[simp] theorem bytes_19 : Program.bytesOf Go.Proofs.Try.prog 19 = 8 := by kernel_rfl
theorem bytes1_19 : Program.bytesOf Go.Proofs.Try.prog 19 ≤ 1024 := by rw [bytes_19]; decide
theorem info_19 : ∃ i, (Go.Proofs.Try.prog : Program).info? 19 = some i := aggO_info agg_19
@[simp] theorem zero_19 : zeroO Go.Proofs.Try.prog 19 = some ([.sc (.pointer none)]) := by kernel_rfl
@[simp] theorem agg_20 : aggO Go.Proofs.Try.prog 20 = some false := by kernel_rfl
@[simp] theorem cells_20 : Program.cellsOf Go.Proofs.Try.prog 20 = 1 := by kernel_rfl
@[simp] theorem bytes_20 : Program.bytesOf Go.Proofs.Try.prog 20 = 16 := by kernel_rfl
theorem bytes1_20 : Program.bytesOf Go.Proofs.Try.prog 20 ≤ 1024 := by rw [bytes_20]; decide
theorem info_20 : ∃ i, (Go.Proofs.Try.prog : Program).info? 20 = some i := aggO_info agg_20
@[simp] theorem zv_20 : zvO Go.Proofs.Try.prog 20 = some (.nilIface) := by kernel_rfl
@[simp] theorem zero_20 : zeroO Go.Proofs.Try.prog 20 = some ([.sc .nilIface]) := by kernel_rfl
@[simp] theorem agg_21 : aggO Go.Proofs.Try.prog 21 = some false := by kernel_rfl
@[simp] theorem cells_21 : Program.cellsOf Go.Proofs.Try.prog 21 = 1 := by kernel_rfl
@[simp] theorem int_21 : intO Go.Proofs.Try.prog 21 = some .i32 := by kernel_rfl
@[simp] theorem unds_21 : (Program.underlying Go.Proofs.Try.prog 21).isSome = true := by kernel_rfl
@[simp] theorem bytes_21 : Program.bytesOf Go.Proofs.Try.prog 21 = 4 := by kernel_rfl
theorem bytes1_21 : Program.bytesOf Go.Proofs.Try.prog 21 ≤ 1024 := by rw [bytes_21]; decide
theorem info_21 : ∃ i, (Go.Proofs.Try.prog : Program).info? 21 = some i := aggO_info agg_21
@[simp] theorem zv_21 : zvO Go.Proofs.Try.prog 21 = some ((.int .i32 (0))) := by kernel_rfl
@[simp] theorem zero_21 : zeroO Go.Proofs.Try.prog 21 = some ([.sc (.int .i32 (0))]) := by kernel_rfl
@[simp] theorem agg_22 : aggO Go.Proofs.Try.prog 22 = some false := by kernel_rfl
@[simp] theorem cells_22 : Program.cellsOf Go.Proofs.Try.prog 22 = 1 := by kernel_rfl
@[simp] theorem elem_22 : elemO Go.Proofs.Try.prog 22 = some 89 := by kernel_rfl
@[simp] theorem plain_22 : plainT Go.Proofs.Try.prog 22 = true := by kernel_rfl
@[simp] theorem bytes_22 : Program.bytesOf Go.Proofs.Try.prog 22 = 24 := by kernel_rfl
theorem bytes1_22 : Program.bytesOf Go.Proofs.Try.prog 22 ≤ 1024 := by rw [bytes_22]; decide
theorem info_22 : ∃ i, (Go.Proofs.Try.prog : Program).info? 22 = some i := aggO_info agg_22
@[simp] theorem zv_22 : zvO Go.Proofs.Try.prog 22 = some ((.slice none 0 0)) := by kernel_rfl
@[simp] theorem zero_22 : zeroO Go.Proofs.Try.prog 22 = some ([.sc (.slice none 0 0)]) := by kernel_rfl
@[simp] theorem agg_23 : aggO Go.Proofs.Try.prog 23 = some false := by kernel_rfl
@[simp] theorem cells_23 : Program.cellsOf Go.Proofs.Try.prog 23 = 1 := by kernel_rfl
@[simp] theorem elem_23 : elemO Go.Proofs.Try.prog 23 = some 3 := by kernel_rfl
@[simp] theorem plain_23 : plainT Go.Proofs.Try.prog 23 = true := by kernel_rfl
@[simp] theorem bytes_23 : Program.bytesOf Go.Proofs.Try.prog 23 = 24 := by kernel_rfl
theorem bytes1_23 : Program.bytesOf Go.Proofs.Try.prog 23 ≤ 1024 := by rw [bytes_23]; decide
theorem info_23 : ∃ i, (Go.Proofs.Try.prog : Program).info? 23 = some i := aggO_info agg_23
@[simp] theorem zv_23 : zvO Go.Proofs.Try.prog 23 = some ((.slice none 0 0)) := by kernel_rfl
@[simp] theorem zero_23 : zeroO Go.Proofs.Try.prog 23 = some ([.sc (.slice none 0 0)]) := by kernel_rfl
@[simp] theorem agg_24 : aggO Go.Proofs.Try.prog 24 = some true := by kernel_rfl
@[simp] theorem cells_24 : Program.cellsOf Go.Proofs.Try.prog 24 = 5 := by kernel_rfl
@[simp] theorem fld_24_0 : fldO Go.Proofs.Try.prog 24 0 = some (0, 3) := by kernel_rfl
@[simp] theorem fld_24_1 : fldO Go.Proofs.Try.prog 24 1 = some (1, 3) := by kernel_rfl
@[simp] theorem fld_24_2 : fldO Go.Proofs.Try.prog 24 2 = some (2, 3) := by kernel_rfl
@[simp] theorem fld_24_3 : fldO Go.Proofs.Try.prog 24 3 = some (3, 22) := by kernel_rfl
@[simp] theorem fld_24_4 : fldO Go.Proofs.Try.prog 24 4 = some (4, 23) := by kernel_rfl
@[simp] theorem places_24 : placesO Go.Proofs.Try.prog 24 = some [(0, 1), (1, 1), (2, 1), (3, 1), (4, 1)] := by kernel_rfl
@[simp] theorem bytes_24 : Program.bytesOf Go.Proofs.Try.prog 24 = 72 := by kernel_rfl
theorem bytes1_24 : Program.bytesOf Go.Proofs.Try.prog 24 ≤ 1024 := by rw [bytes_24]; decide
theorem info_24 : ∃ i, (Go.Proofs.Try.prog : Program).info? 24 = some i := aggO_info agg_24
@[simp] theorem zero_24 : zeroO Go.Proofs.Try.prog 24 = some ([.sc (.int .i64 (0)), .sc (.int .i64 (0)), .sc (.int .i64 (0)), .sc (.slice none 0 0), .sc (.slice none 0 0)]) := by kernel_rfl
@[simp] theorem agg_25 : aggO Go.Proofs.Try.prog 25 = some true := by kernel_rfl
@[simp] theorem cells_25 : Program.cellsOf Go.Proofs.Try.prog 25 = 5 := by kernel_rfl
@[simp] theorem fld_25_0 : fldO Go.Proofs.Try.prog 25 0 = some (0, 3) := by kernel_rfl
@[simp] theorem fld_25_1 : fldO Go.Proofs.Try.prog 25 1 = some (1, 3) := by kernel_rfl
@[simp] theorem fld_25_2 : fldO Go.Proofs.Try.prog 25 2 = some (2, 3) := by kernel_rfl
@[simp] theorem fld_25_3 : fldO Go.Proofs.Try.prog 25 3 = some (3, 22) := by kernel_rfl
@[simp] theorem fld_25_4 : fldO Go.Proofs.Try.prog 25 4 = some (4, 23) := by kernel_rfl
@[simp] theorem places_25 : placesO Go.Proofs.Try.prog 25 = some [(0, 1), (1, 1), (2, 1), (3, 1), (4, 1)] := by kernel_rfl
@[simp] theorem bytes_25 : Program.bytesOf Go.Proofs.Try.prog 25 = 72 := by kernel_rfl
theorem bytes1_25 : Program.bytesOf Go.Proofs.Try.prog 25 ≤ 1024 := by rw [bytes_25]; decide
theorem info_25 : ∃ i, (Go.Proofs.Try.prog : Program).info? 25 = some i := aggO_info agg_25
@[simp] theorem zero_25 : zeroO Go.Proofs.Try.prog 25 = some ([.sc (.int .i64 (0)), .sc (.int .i64 (0)), .sc (.int .i64 (0)), .sc (.slice none 0 0), .sc (.slice none 0 0)]) := by kernel_rfl
@[simp] theorem agg_26 : aggO Go.Proofs.Try.prog 26 = some false := by kernel_rfl
@[simp] theorem cells_26 : Program.cellsOf Go.Proofs.Try.prog 26 = 1 := by kernel_rfl
@[simp] theorem elem_26 : elemO Go.Proofs.Try.prog 26 = some 78 := by kernel_rfl
@[simp] theorem plain_26 : plainT Go.Proofs.Try.prog 26 = true := by kernel_rfl
@[simp] theorem bytes_26 : Program.bytesOf Go.Proofs.Try.prog 26 = 24 := by kernel_rfl
theorem bytes1_26 : Program.bytesOf Go.Proofs.Try.prog 26 ≤ 1024 := by rw [bytes_26]; decide
theorem info_26 : ∃ i, (Go.Proofs.Try.prog : Program).info? 26 = some i := aggO_info agg_26
@[simp] theorem zv_26 : zvO Go.Proofs.Try.prog 26 = some ((.slice none 0 0)) := by kernel_rfl
@[simp] theorem zero_26 : zeroO Go.Proofs.Try.prog 26 = some ([.sc (.slice none 0 0)]) := by kernel_rfl
@[simp] theorem agg_27 : aggO Go.Proofs.Try.prog 27 = some false := by kernel_rfl
@[simp] theorem cells_27 : Program.cellsOf Go.Proofs.Try.prog 27 = 1 := by kernel_rfl
@[simp] theorem bytes_27 : Program.bytesOf Go.Proofs.Try.prog 27 = 8 := by kernel_rfl
theorem bytes1_27 : Program.bytesOf Go.Proofs.Try.prog 27 ≤ 1024 := by rw [bytes_27]; decide
theorem info_27 : ∃ i, (Go.Proofs.Try.prog : Program).info? 27 = some i := aggO_info agg_27
@[simp] theorem zv_27 : zvO Go.Proofs.Try.prog 27 = some (.nilFunc) := by kernel_rfl
@[simp] theorem zero_27 : zeroO Go.Proofs.Try.prog 27 = some ([.sc .nilFunc]) := by kernel_rfl
@[simp] theorem agg_28 : aggO Go.Proofs.Try.prog 28 = some false := by kernel_rfl
@[simp] theorem cells_28 : Program.cellsOf Go.Proofs.Try.prog 28 = 1 := by kernel_rfl
@[simp] theorem int_28 : intO Go.Proofs.Try.prog 28 = some .i64 := by kernel_rfl
@[simp] theorem unds_28 : (Program.underlying Go.Proofs.Try.prog 28).isSome = true := by kernel_rfl
@[simp] theorem bytes_28 : Program.bytesOf Go.Proofs.Try.prog 28 = 8 := by kernel_rfl
theorem bytes1_28 : Program.bytesOf Go.Proofs.Try.prog 28 ≤ 1024 := by rw [bytes_28]; decide
theorem info_28 : ∃ i, (Go.Proofs.Try.prog : Program).info? 28 = some i := aggO_info agg_28
@[simp] theorem zv_28 : zvO Go.Proofs.Try.prog 28 = some ((.int .i64 (0))) := by kernel_rfl
@[simp] theorem zero_28 : zeroO Go.Proofs.Try.prog 28 = some ([.sc (.int .i64 (0))]) := by kernel_rfl
@[simp] theorem agg_29 : aggO Go.Proofs.Try.prog 29 = some false := by kernel_rfl
@[simp] theorem cells_29 : Program.cellsOf Go.Proofs.Try.prog 29 = 1 := by kernel_rfl
@[simp] theorem bytes_29 : Program.bytesOf Go.Proofs.Try.prog 29 = 0 := by kernel_rfl
theorem bytes1_29 : Program.bytesOf Go.Proofs.Try.prog 29 ≤ 1024 := by rw [bytes_29]; decide
theorem info_29 : ∃ i, (Go.Proofs.Try.prog : Program).info? 29 = some i := aggO_info agg_29
@[simp] theorem agg_30 : aggO Go.Proofs.Try.prog 30 = some false := by kernel_rfl
@[simp] theorem cells_30 : Program.cellsOf Go.Proofs.Try.prog 30 = 1 := by kernel_rfl
@[simp] theorem bytes_30 : Program.bytesOf Go.Proofs.Try.prog 30 = 8 := by kernel_rfl
theorem bytes1_30 : Program.bytesOf Go.Proofs.Try.prog 30 ≤ 1024 := by rw [bytes_30]; decide
theorem info_30 : ∃ i, (Go.Proofs.Try.prog : Program).info? 30 = some i := aggO_info agg_30
@[simp] theorem zv_30 : zvO Go.Proofs.Try.prog 30 = some (.nilFunc) := by kernel_rfl
@[simp] theorem zero_30 : zeroO Go.Proofs.Try.prog 30 = some ([.sc .nilFunc]) := by kernel_rfl
@[simp] theorem agg_31 : aggO Go.Proofs.Try.prog 31 = some false := by kernel_rfl
@[simp] theorem cells_31 : Program.cellsOf Go.Proofs.Try.prog 31 = 1 := by kernel_rfl
@[simp] theorem bytes_31 : Program.bytesOf Go.Proofs.Try.prog 31 = 0 := by kernel_rfl
theorem bytes1_31 : Program.bytesOf Go.Proofs.Try.prog 31 ≤ 1024 := by rw [bytes_31]; decide
theorem info_31 : ∃ i, (Go.Proofs.Try.prog : Program).info? 31 = some i := aggO_info agg_31
@[simp] theorem agg_32 : aggO Go.Proofs.Try.prog 32 = some false := by kernel_rfl
@[simp] theorem cells_32 : Program.cellsOf Go.Proofs.Try.prog 32 = 1 := by kernel_rfl
@[simp] theorem bytes_32 : Program.bytesOf Go.Proofs.Try.prog 32 = 8 := by kernel_rfl
theorem bytes1_32 : Program.bytesOf Go.Proofs.Try.prog 32 ≤ 1024 := by rw [bytes_32]; decide
theorem info_32 : ∃ i, (Go.Proofs.Try.prog : Program).info? 32 = some i := aggO_info agg_32
@[simp] theorem zv_32 : zvO Go.Proofs.Try.prog 32 = some (.nilFunc) := by kernel_rfl
@[simp] theorem zero_32 : zeroO Go.Proofs.Try.prog 32 = some ([.sc .nilFunc]) := by kernel_rfl
@[simp] theorem agg_33 : aggO Go.Proofs.Try.prog 33 = some false := by kernel_rfl
@[simp] theorem cells_33 : Program.cellsOf Go.Proofs.Try.prog 33 = 1 := by kernel_rfl
@[simp] theorem bytes_33 : Program.bytesOf Go.Proofs.Try.prog 33 = 8 := by kernel_rfl
theorem bytes1_33 : Program.bytesOf Go.Proofs.Try.prog 33 ≤ 1024 := by rw [bytes_33]; decide
theorem info_33 : ∃ i, (Go.Proofs.Try.prog : Program).info? 33 = some i := aggO_info agg_33
@[simp] theorem zv_33 : zvO Go.Proofs.Try.prog 33 = some (.nilFunc) := by kernel_rfl
@[simp] theorem zero_33 : zeroO Go.Proofs.Try.prog 33 = some ([.sc .nilFunc]) := by kernel_rfl
@[simp] theorem agg_34 : aggO Go.Proofs.Try.prog 34 = some false := by kernel_rfl
@[simp] theorem cells_34 : Program.cellsOf Go.Proofs.Try.prog 34 = 1 := by kernel_rfl
@[simp] theorem bytes_34 : Program.bytesOf Go.Proofs.Try.prog 34 = 8 := by kernel_rfl
theorem bytes1_34 : Program.bytesOf Go.Proofs.Try.prog 34 ≤ 1024 := by rw [bytes_34]; decide
theorem info_34 : ∃ i, (Go.Proofs.Try.prog : Program).info? 34 = some i := aggO_info agg_34
@[simp] theorem zv_34 : zvO Go.Proofs.Try.prog 34 = some (.nilFunc) := by kernel_rfl
@[simp] theorem zero_34 : zeroO Go.Proofs.Try.prog 34 = some ([.sc .nilFunc]) := by kernel_rfl
@[simp] theorem agg_35 : aggO Go.Proofs.Try.prog 35 = some false := by kernel_rfl
@[simp] theorem cells_35 : Program.cellsOf Go.Proofs.Try.prog 35 = 1 := by kernel_rfl
@[simp] theorem bytes_35 : Program.bytesOf Go.Proofs.Try.prog 35 = 8 := by kernel_rfl
theorem bytes1_35 : Program.bytesOf Go.Proofs.Try.prog 35 ≤ 1024 := by rw [bytes_35]; decide
theorem info_35 : ∃ i, (Go.Proofs.Try.prog : Program).info? 35 = some i := aggO_info agg_35
@[simp] theorem zv_35 : zvO Go.Proofs.Try.prog 35 = some (.nilFunc) := by kernel_rfl
@[simp] theorem zero_35 : zeroO Go.Proofs.Try.prog 35 = some ([.sc .nilFunc]) := by kernel_rfl
@[simp] theorem agg_36 : aggO Go.Proofs.Try.prog 36 = some false := by kernel_rfl
@[simp] theorem cells_36 : Program.cellsOf Go.Proofs.Try.prog 36 = 1 := by kernel_rfl
@[simp] theorem bytes_36 : Program.bytesOf Go.Proofs.Try.prog 36 = 8 := by kernel_rfl
theorem bytes1_36 : Program.bytesOf Go.Proofs.Try.prog 36 ≤ 1024 := by rw [bytes_36]; decide
theorem info_36 : ∃ i, (Go.Proofs.Try.prog : Program).info? 36 = some i := aggO_info agg_36
@[simp] theorem zv_36 : zvO Go.Proofs.Try.prog 36 = some (.nilFunc) := by kernel_rfl
@[simp] theorem zero_36 : zeroO Go.Proofs.Try.prog 36 = some ([.sc .nilFunc]) := by kernel_rfl
@[simp] theorem agg_37 : aggO Go.Proofs.Try.prog 37 = some false := by kernel_rfl
@[simp] theorem cells_37 : Program.cellsOf Go.Proofs.Try.prog 37 = 1 := by kernel_rfl
@[simp] theorem bytes_37 : Program.bytesOf Go.Proofs.Try.prog 37 = 8 := by kernel_rfl
theorem bytes1_37 : Program.bytesOf Go.Proofs.Try.prog 37 ≤ 1024 := by rw [bytes_37]; decide
theorem info_37 : ∃ i, (Go.Proofs.Try.prog : Program).info? 37 = some i := aggO_info agg_37
@[simp] theorem zv_37 : zvO Go.Proofs.Try.prog 37 = some (.nilFunc) := by kernel_rfl
@[simp] theorem zero_37 : zeroO Go.Proofs.Try.prog 37 = some ([.sc .nilFunc]) := by kernel_rfl
@[simp] theorem agg_38 : aggO Go.Proofs.Try.prog 38 = some false := by kernel_rfl
@[simp] theorem cells_38 : Program.cellsOf Go.Proofs.Try.prog 38 = 1 := by kernel_rfl
@[simp] theorem elem_38 : elemO Go.Proofs.Try.prog 38 = some 23 := by kernel_rfl
@[simp] theorem plain_38 : plainT Go.Proofs.Try.prog 38 = true := by kernel_rfl
@[simp] theorem bytes_38 : Program.bytesOf Go.Proofs.Try.prog 38 = 24 := by kernel_rfl
theorem bytes1_38 : Program.bytesOf Go.Proofs.Try.prog 38 ≤ 1024 := by rw [bytes_38]; decide
theorem info_38 : ∃ i, (Go.Proofs.Try.prog : Program).info? 38 = some i := aggO_info agg_38
@[simp] theorem zv_38 : zvO Go.Proofs.Try.prog 38 = some ((.slice none 0 0)) := by kernel_rfl
@[simp] theorem zero_38 : zeroO Go.Proofs.Try.prog 38 = some ([.sc (.slice none 0 0)]) := by kernel_rfl
@[simp] theorem agg_39 : aggO Go.Proofs.Try.prog 39 = some false := by kernel_rfl
@[simp] theorem cells_39 : Program.cellsOf Go.Proofs.Try.prog 39 = 1 := by kernel_rfl
@[simp] theorem bytes_39 : Program.bytesOf Go.Proofs.Try.prog 39 = 8 := by kernel_rfl
theorem bytes1_39 : Program.bytesOf Go.Proofs.Try.prog 39 ≤ 1024 := by rw [bytes_39]; decide
theorem info_39 : ∃ i, (Go.Proofs.Try.prog : Program).info? 39 = some i := aggO_info agg_39
@[simp] theorem zv_39 : zvO Go.Proofs.Try.prog 39 = some (.nilFunc) := by kernel_rfl
@[simp] theorem zero_39 : zeroO Go.Proofs.Try.prog 39 = some ([.sc .nilFunc]) := by kernel_rfl
@[simp] theorem agg_40 : aggO Go.Proofs.Try.prog 40 = some false := by kernel_rfl
@[simp] theorem cells_40 : Program.cellsOf Go.Proofs.Try.prog 40 = 1 := by kernel_rfl
@[simp] theorem bytes_40 : Program.bytesOf Go.Proofs.Try.prog 40 = 8 := by kernel_rfl
theorem bytes1_40 : Program.bytesOf Go.Proofs.Try.prog 40 ≤ 1024 := by rw [bytes_40]; decide
theorem info_40 : ∃ i, (Go.Proofs.Try.prog : Program).info? 40 = some i := aggO_info agg_40
@[simp] theorem zv_40 : zvO Go.Proofs.Try.prog 40 = some (.nilFunc) := by kernel_rfl
@[simp] theorem zero_40 : zeroO Go.Proofs.Try.prog 40 = some ([.sc .nilFunc]) := by kernel_rfl
@[simp] theorem agg_41 : aggO Go.Proofs.Try.prog 41 = some false := by kernel_rfl
@[simp] theorem cells_41 : Program.cellsOf Go.Proofs.Try.prog 41 = 1 := by kernel_rfl
@[simp] theorem bytes_41 : Program.bytesOf Go.Proofs.Try.prog 41 = 0 := by kernel_rfl
theorem bytes1_41 : Program.bytesOf Go.Proofs.Try.prog 41 ≤ 1024 := by rw [bytes_41]; decide
theorem info_41 : ∃ i, (Go.Proofs.Try.prog : Program).info? 41 = some i := aggO_info agg_41
@[simp] theorem agg_42 : aggO Go.Proofs.Try.prog 42 = some false := by kernel_rfl
@[simp] theorem cells_42 : Program.cellsOf Go.Proofs.Try.prog 42 = 1 := by kernel_rfl
@[simp] theorem bytes_42 : Program.bytesOf Go.Proofs.Try.prog 42 = 8 := by kernel_rfl
theorem bytes1_42 : Program.bytesOf Go.Proofs.Try.prog 42 ≤ 1024 := by rw [bytes_42]; decide
theorem info_42 : ∃ i, (Go.Proofs.Try.prog : Program).info? 42 = some i := aggO_info agg_42
@[simp] theorem zv_42 : zvO Go.Proofs.Try.prog 42 = some (.nilFunc) := by kernel_rfl
@[simp] theorem zero_42 : zeroO Go.Proofs.Try.prog 42 = some ([.sc .nilFunc]) := by kernel_rfl
@[simp] theorem agg_43 : aggO Go.Proofs.Try.prog 43 = some false := by kernel_rfl
@[simp] theorem cells_43 : Program.cellsOf Go.Proofs.Try.prog 43 = 1 := by kernel_rfl
@[simp] theorem bytes_43 : Program.bytesOf Go.Proofs.Try.prog 43 = 0 := by kernel_rfl
theorem bytes1_43 : Program.bytesOf Go.Proofs.Try.prog 43 ≤ 1024 := by rw [bytes_43]; decide
theorem info_43 : ∃ i, (Go.Proofs.Try.prog : Program).info? 43 = some i := aggO_info agg_43
@[simp] theorem agg_44 : aggO Go.Proofs.Try.prog 44 = some false := by kernel_rfl
@[simp] theorem cells_44 : Program.cellsOf Go.Proofs.Try.prog 44 = 1 := by kernel_rfl
@[simp] theorem bytes_44 : Program.bytesOf Go.Proofs.Try.prog 44 = 8 := by kernel_rfl
theorem bytes1_44 : Program.bytesOf Go.Proofs.Try.prog 44 ≤ 1024 := by rw [bytes_44]; decide
theorem info_44 : ∃ i, (Go.Proofs.Try.prog : Program).info? 44 = some i := aggO_info agg_44
@[simp] theorem zv_44 : zvO Go.Proofs.Try.prog 44 = some (.nilFunc) := by kernel_rfl
@[simp] theorem zero_44 : zeroO Go.Proofs.Try.prog 44 = some ([.sc .nilFunc]) := by kernel_rfl
@[simp] theorem agg_45 : aggO Go.Proofs.Try.prog 45 = some false := by kernel_rfl
@[simp] theorem cells_45 : Program.cellsOf Go.Proofs.Try.prog 45 = 1 := by kernel_rfl
@[simp] theorem elem_45 : elemO Go.Proofs.Try.prog 45 = some 51 := by kernel_rfl
@[simp] theorem plain_45 : plainT Go.Proofs.Try.prog 45 = true := by kernel_rfl
@[simp] theorem bytes_45 : Program.bytesOf Go.Proofs.Try.prog 45 = 24 := by kernel_rfl
theorem bytes1_45 : Program.bytesOf Go.Proofs.Try.prog 45 ≤ 1024 := by rw [bytes_45]; decide
theorem info_45 : ∃ i, (Go.Proofs.Try.prog : Program).info? 45 = some i := aggO_info agg_45
@[simp] theorem zv_45 : zvO Go.Proofs.Try.prog 45 = some ((.slice none 0 0)) := by kernel_rfl
@[simp] theorem zero_45 : zeroO Go.Proofs.Try.prog 45 = some ([.sc (.slice none 0 0)]) := by kernel_rfl
@[simp] theorem agg_46 : aggO Go.Proofs.Try.prog 46 = some false := by kernel_rfl
@[simp] theorem cells_46 : Program.cellsOf Go.Proofs.Try.prog 46 = 1 := by kernel_rfl
@[simp] theorem bytes_46 : Program.bytesOf Go.Proofs.Try.prog 46 = 0 := by kernel_rfl
theorem bytes1_46 : Program.bytesOf Go.Proofs.Try.prog 46 ≤ 1024 := by rw [bytes_46]; decide
theorem info_46 : ∃ i, (Go.Proofs.Try.prog : Program).info? 46 = some i := aggO_info agg_46
@[simp] theorem agg_47 : aggO Go.Proofs.Try.prog 47 = some false := by kernel_rfl
@[simp] theorem cells_47 : Program.cellsOf Go.Proofs.Try.prog 47 = 1 := by kernel_rfl
@[simp] theorem bytes_47 : Program.bytesOf Go.Proofs.Try.prog 47 = 8 := by kernel_rfl
theorem bytes1_47 : Program.bytesOf Go.Proofs.Try.prog 47 ≤ 1024 := by rw [bytes_47]; decide
theorem info_47 : ∃ i, (Go.Proofs.Try.prog : Program).info? 47 = some i := aggO_info agg_47
@[simp] theorem zv_47 : zvO Go.Proofs.Try.prog 47 = some (.nilFunc) := by kernel_rfl
@[simp] theorem zero_47 : zeroO Go.Proofs.Try.prog 47 = some ([.sc .nilFunc]) := by kernel_rfl
@[simp] theorem agg_48 : aggO Go.Proofs.Try.prog 48 = some false := by kernel_rfl
@[simp] theorem cells_48 : Program.cellsOf Go.Proofs.Try.prog 48 = 1 := by kernel_rfl
@[simp] theorem bytes_48 : Program.bytesOf Go.Proofs.Try.prog 48 = 0 := by kernel_rfl
theorem bytes1_48 : Program.bytesOf Go.Proofs.Try.prog 48 ≤ 1024 := by rw [bytes_48]; decide
theorem info_48 : ∃ i, (Go.Proofs.Try.prog : Program).info? 48 = some i := aggO_info agg_48
@[simp] theorem agg_49 : aggO Go.Proofs.Try.prog 49 = some false := by kernel_rfl
@[simp] theorem cells_49 : Program.cellsOf Go.Proofs.Try.prog 49 = 1 := by kernel_rfl
@[simp] theorem bytes_49 : Program.bytesOf Go.Proofs.Try.prog 49 = 8 := by kernel_rfl
theorem bytes1_49 : Program.bytesOf Go.Proofs.Try.prog 49 ≤ 1024 := by rw [bytes_49]; decide
theorem info_49 : ∃ i, (Go.Proofs.Try.prog : Program).info? 49 = some i := aggO_info agg_49
@[simp] theorem zv_49 : zvO Go.Proofs.Try.prog 49 = some (.nilFunc) := by kernel_rfl
@[simp] theorem zero_49 : zeroO Go.Proofs.Try.prog 49 = some ([.sc .nilFunc]) := by kernel_rfl
@[simp] theorem agg_50 : aggO Go.Proofs.Try.prog 50 = some true := by kernel_rfl
@[simp] theorem cells_50 : Program.cellsOf Go.Proofs.Try.prog 50 = 2 := by kernel_rfl
@[simp] theorem fld_50_0 : fldO Go.Proofs.Try.prog 50 0 = some (0, 3) := by kernel_rfl
@[simp] theorem fld_50_1 : fldO Go.Proofs.Try.prog 50 1 = some (1, 3) := by kernel_rfl
@[simp] theorem places_50 : placesO Go.Proofs.Try.prog 50 = some [(0, 1), (1, 1)] := by kernel_rfl
@[simp] theorem bytes_50 : Program.bytesOf Go.Proofs.Try.prog 50 = 16 := by kernel_rfl
theorem bytes1_50 : Program.bytesOf Go.Proofs.Try.prog 50 ≤ 1024 := by rw [bytes_50]; decide
theorem info_50 : ∃ i, (Go.Proofs.Try.prog : Program).info? 50 = some i := aggO_info agg_50
@[simp] theorem zero_50 : zeroO Go.Proofs.Try.prog 50 = some ([.sc (.int .i64 (0)), .sc (.int .i64 (0))]) := by kernel_rfl
@[simp] theorem agg_51 : aggO Go.Proofs.Try.prog 51 = some true := by kernel_rfl
@[simp] theorem cells_51 : Program.cellsOf Go.Proofs.Try.prog 51 = 2 := by kernel_rfl
@[simp] theorem fld_51_0 : fldO Go.Proofs.Try.prog 51 0 = some (0, 3) := by kernel_rfl
@[simp] theorem fld_51_1 : fldO Go.Proofs.Try.prog 51 1 = some (1, 3) := by kernel_rfl
@[simp] theorem places_51 : placesO Go.Proofs.Try.prog 51 = some [(0, 1), (1, 1)] := by kernel_rfl
@[simp] theorem bytes_51 : Program.bytesOf Go.Proofs.Try.prog 51 = 16 := by kernel_rfl
theorem bytes1_51 : Program.bytesOf Go.Proofs.Try.prog 51 ≤ 1024 := by rw [bytes_51]; decide
theorem info_51 : ∃ i, (Go.Proofs.Try.prog : Program).info? 51 = some i := aggO_info agg_51
@[simp] theorem zero_51 : zeroO Go.Proofs.Try.prog 51 = some ([.sc (.int .i64 (0)), .sc (.int .i64 (0))]) := by kernel_rfl
@[simp] theorem agg_52 : aggO Go.Proofs.Try.prog 52 = some false := by kernel_rfl
@[simp] theorem cells_52 : Program.cellsOf Go.Proofs.Try.prog 52 = 1 := by kernel_rfl
@[simp] theorem bytes_52 : Program.bytesOf Go.Proofs.Try.prog 52 = 8 := by kernel_rfl
theorem bytes1_52 : Program.bytesOf Go.Proofs.Try.prog 52 ≤ 1024 := by rw [bytes_52]; decide
theorem info_52 : ∃ i, (Go.Proofs.Try.prog : Program).info? 52 = some i := aggO_info agg_52
@[simp] theorem zv_52 : zvO Go.Proofs.Try.prog 52 = some (.nilFunc) := by kernel_rfl
@[simp] theorem zero_52 : zeroO Go.Proofs.Try.prog 52 = some ([.sc .nilFunc]) := by kernel_rfl
@[simp] theorem agg_53 : aggO Go.Proofs.Try.prog 53 = some false := by kernel_rfl
@[simp] theorem cells_53 : Program.cellsOf Go.Proofs.Try.prog 53 = 1 := by kernel_rfl
@[simp] theorem bytes_53 : Program.bytesOf Go.Proofs.Try.prog 53 = 8 := by kernel_rfl
theorem bytes1_53 : Program.bytesOf Go.Proofs.Try.prog 53 ≤ 1024 := by rw [bytes_53]; decide
theorem info_53 : ∃ i, (Go.Proofs.Try.prog : Program).info? 53 = some i := aggO_info agg_53
@[simp] theorem zv_53 : zvO Go.Proofs.Try.prog 53 = some (.nilFunc) := by kernel_rfl
@[simp] theorem zero_53 : zeroO Go.Proofs.Try.prog 53 = some ([.sc .nilFunc]) := by kernel_rfl
@[simp] theorem agg_54 : aggO Go.Proofs.Try.prog 54 = some false := by kernel_rfl
@[simp] theorem cells_54 : Program.cellsOf Go.Proofs.Try.prog 54 = 1 := by kernel_rfl
@[simp] theorem bytes_54 : Program.bytesOf Go.Proofs.Try.prog 54 = 8 := by kernel_rfl
theorem bytes1_54 : Program.bytesOf Go.Proofs.Try.prog 54 ≤ 1024 := by rw [bytes_54]; decide
theorem info_54 : ∃ i, (Go.Proofs.Try.prog : Program).info? 54 = some i := aggO_info agg_54
@[simp] theorem zv_54 : zvO Go.Proofs.Try.prog 54 = some (.nilFunc) := by kernel_rfl
@[simp] theorem zero_54 : zeroO Go.Proofs.Try.prog 54 = some ([.sc .nilFunc]) := by kernel_rfl
@[simp] theorem agg_55 : aggO Go.Proofs.Try.prog 55 = some false := by kernel_rfl
@[simp] theorem cells_55 : Program.cellsOf Go.Proofs.Try.prog 55 = 1 := by kernel_rfl
@[simp] theorem bytes_55 : Program.bytesOf Go.Proofs.Try.prog 55 = 8 := by kernel_rfl
theorem bytes1_55 : Program.bytesOf Go.Proofs.Try.prog 55 ≤ 1024 := by rw [bytes_55]; decide
theorem info_55 : ∃ i, (Go.Proofs.Try.prog : Program).info? 55 = some i := aggO_info agg_55
@[simp] theorem zv_55 : zvO Go.Proofs.Try.prog 55 = some (.nilFunc) := by kernel_rfl
@[simp] theorem zero_55 : zeroO Go.Proofs.Try.prog 55 = some ([.sc .nilFunc]) := by kernel_rfl
@[simp] theorem agg_56 : aggO Go.Proofs.Try.prog 56 = some false := by kernel_rfl
@[simp] theorem cells_56 : Program.cellsOf Go.Proofs.Try.prog 56 = 1 := by kernel_rfl
@[simp] theorem elem_56 : elemO Go.Proofs.Try.prog 56 = some 107 := by kernel_rfl
@[simp] theorem plain_56 : plainT Go.Proofs.Try.prog 56 = true := by kernel_rfl
@[simp] theorem bytes_56 : Program.bytesOf Go.Proofs.Try.prog 56 = 24 := by kernel_rfl
theorem bytes1_56 : Program.bytesOf Go.Proofs.Try.prog 56 ≤ 1024 := by rw [bytes_56]; decide
theorem info_56 : ∃ i, (Go.Proofs.Try.prog : Program).info? 56 = some i := aggO_info agg_56
@[simp] theorem zv_56 : zvO Go.Proofs.Try.prog 56 = some ((.slice none 0 0)) := by kernel_rfl
@[simp] theorem zero_56 : zeroO Go.Proofs.Try.prog 56 = some ([.sc (.slice none 0 0)]) := by kernel_rfl
@[simp] theorem agg_57 : aggO Go.Proofs.Try.prog 57 = some false := by kernel_rfl
@[simp] theorem cells_57 : Program.cellsOf Go.Proofs.Try.prog 57 = 1 := by kernel_rfl
@[simp] theorem elem_57 : elemO Go.Proofs.Try.prog 57 = some 86 := by kernel_rfl
@[simp] theorem plain_57 : plainT Go.Proofs.Try.prog 57 = true := by kernel_rfl
@[simp] theorem bytes_57 : Program.bytesOf Go.Proofs.Try.prog 57 = 24 := by kernel_rfl
theorem bytes1_57 : Program.bytesOf Go.Proofs.Try.prog 57 ≤ 1024 := by rw [bytes_57]; decide
theorem info_57 : ∃ i, (Go.Proofs.Try.prog : Program).info? 57 = some i := aggO_info agg_57
@[simp] theorem zv_57 : zvO Go.Proofs.Try.prog 57 = some ((.slice none 0 0)) := by kernel_rfl
@[simp] theorem zero_57 : zeroO Go.Proofs.Try.prog 57 = some ([.sc (.slice none 0 0)]) := by kernel_rfl
@[simp] theorem agg_58 : aggO Go.Proofs.Try.prog 58 = some false := by kernel_rfl
@[simp] theorem cells_58 : Program.cellsOf Go.Proofs.Try.prog 58 = 1 := by kernel_rfl
@[simp] theorem bytes_58 : Program.bytesOf Go.Proofs.Try.prog 58 = 0 := by kernel_rfl
theorem bytes1_58 : Program.bytesOf Go.Proofs.Try.prog 58 ≤ 1024 := by rw [bytes_58]; decide
theorem info_58 : ∃ i, (Go.Proofs.Try.prog : Program).info? 58 = some i := aggO_info agg_58
@[simp] theorem agg_59 : aggO Go.Proofs.Try.prog 59 = some false := by kernel_rfl
@[simp] theorem cells_59 : Program.cellsOf Go.Proofs.Try.prog 59 = 1 := by kernel_rfl
@[simp] theorem bytes_59 : Program.bytesOf Go.Proofs.Try.prog 59 = 8 := by kernel_rfl
theorem bytes1_59 : Program.bytesOf Go.Proofs.Try.prog 59 ≤ 1024 := by rw [bytes_59]; decide
theorem info_59 : ∃ i, (Go.Proofs.Try.prog : Program).info? 59 = some i := aggO_info agg_59
@[simp] theorem zv_59 : zvO Go.Proofs.Try.prog 59 = some (.nilFunc) := by kernel_rfl
@[simp] theorem zero_59 : zeroO Go.Proofs.Try.prog 59 = some ([.sc .nilFunc]) := by kernel_rfl
@[simp] theorem agg_60 : aggO Go.Proofs.Try.prog 60 = some false := by kernel_rfl
@[simp] theorem cells_60 : Program.cellsOf Go.Proofs.Try.prog 60 = 1 := by kernel_rfl
@[simp] theorem bytes_60 : Program.bytesOf Go.Proofs.Try.prog 60 = 0 := by kernel_rfl
theorem bytes1_60 : Program.bytesOf Go.Proofs.Try.prog 60 ≤ 1024 := by rw [bytes_60]; decide
theorem info_60 : ∃ i, (Go.Proofs.Try.prog : Program).info? 60 = some i := aggO_info agg_60
@[simp] theorem agg_61 : aggO Go.Proofs.Try.prog 61 = some false := by kernel_rfl
@[simp] theorem cells_61 : Program.cellsOf Go.Proofs.Try.prog 61 = 1 := by kernel_rfl
@[simp] theorem bytes_61 : Program.bytesOf Go.Proofs.Try.prog 61 = 8 := by kernel_rfl
theorem bytes1_61 : Program.bytesOf Go.Proofs.Try.prog 61 ≤ 1024 := by rw [bytes_61]; decide
theorem info_61 : ∃ i, (Go.Proofs.Try.prog : Program).info? 61 = some i := aggO_info agg_61
@[simp] theorem zv_61 : zvO Go.Proofs.Try.prog 61 = some (.nilFunc) := by kernel_rfl
@[simp] theorem zero_61 : zeroO Go.Proofs.Try.prog 61 = some ([.sc .nilFunc]) := by kernel_rfl
@[simp] theorem agg_62 : aggO Go.Proofs.Try.prog 62 = some false := by kernel_rfl
@[simp] theorem cells_62 : Program.cellsOf Go.Proofs.Try.prog 62 = 1 := by kernel_rfl
@[simp] theorem bytes_62 : Program.bytesOf Go.Proofs.Try.prog 62 = 8 := by kernel_rfl
theorem bytes1_62 : Program.bytesOf Go.Proofs.Try.prog 62 ≤ 1024 := by rw [bytes_62]; decide
theorem info_62 : ∃ i, (Go.Proofs.Try.prog : Program).info? 62 = some i := aggO_info agg_62
@[simp] theorem zv_62 : zvO Go.Proofs.Try.prog 62 = some (.nilFunc) := by kernel_rfl
@[simp] theorem zero_62 : zeroO Go.Proofs.Try.prog 62 = some ([.sc .nilFunc]) := by kernel_rfl
@[simp] theorem agg_63 : aggO Go.Proofs.Try.prog 63 = some false := by kernel_rfl
@[simp] theorem cells_63 : Program.cellsOf Go.Proofs.Try.prog 63 = 1 := by kernel_rfl
@[simp] theorem bytes_63 : Program.bytesOf Go.Proofs.Try.prog 63 = 8 := by kernel_rfl
theorem bytes1_63 : Program.bytesOf Go.Proofs.Try.prog 63 ≤ 1024 := by rw [bytes_63]; decide
theorem info_63 : ∃ i, (Go.Proofs.Try.prog : Program).info? 63 = some i := aggO_info agg_63
@[simp] theorem zv_63 : zvO Go.Proofs.Try.prog 63 = some (.nilFunc) := by kernel_rfl
@[simp] theorem zero_63 : zeroO Go.Proofs.Try.prog 63 = some ([.sc .nilFunc]) := by kernel_rfl
@[simp] theorem agg_64 : aggO Go.Proofs.Try.prog 64 = some false := by kernel_rfl
@[simp] theorem cells_64 : Program.cellsOf Go.Proofs.Try.prog 64 = 1 := by kernel_rfl
@[simp] theorem bytes_64 : Program.bytesOf Go.Proofs.Try.prog 64 = 8 := by kernel_rfl
theorem bytes1_64 : Program.bytesOf Go.Proofs.Try.prog 64 ≤ 1024 := by rw [bytes_64]; decide
theorem info_64 : ∃ i, (Go.Proofs.Try.prog : Program).info? 64 = some i := aggO_info agg_64
@[simp] theorem zv_64 : zvO Go.Proofs.Try.prog 64 = some (.nilFunc) := by kernel_rfl
@[simp] theorem zero_64 : zeroO Go.Proofs.Try.prog 64 = some ([.sc .nilFunc]) := by kernel_rfl
@[simp] theorem agg_65 : aggO Go.Proofs.Try.prog 65 = some false := by kernel_rfl
@[simp] theorem cells_65 : Program.cellsOf Go.Proofs.Try.prog 65 = 1 := by kernel_rfl
@[simp] theorem bytes_65 : Program.bytesOf Go.Proofs.Try.prog 65 = 8 := by kernel_rfl
theorem bytes1_65 : Program.bytesOf Go.Proofs.Try.prog 65 ≤ 1024 := by rw [bytes_65]; decide
theorem info_65 : ∃ i, (Go.Proofs.Try.prog : Program).info? 65 = some i := aggO_info agg_65
@[simp] theorem zv_65 : zvO Go.Proofs.Try.prog 65 = some (.nilFunc) := by kernel_rfl
@[simp] theorem zero_65 : zeroO Go.Proofs.Try.prog 65 = some ([.sc .nilFunc]) := by kernel_rfl
@[simp] theorem agg_66 : aggO Go.Proofs.Try.prog 66 = some false := by kernel_rfl
@[simp] theorem cells_66 : Program.cellsOf Go.Proofs.Try.prog 66 = 1 := by kernel_rfl
@[simp] theorem bytes_66 : Program.bytesOf Go.Proofs.Try.prog 66 = 0 := by kernel_rfl
theorem bytes1_66 : Program.bytesOf Go.Proofs.Try.prog 66 ≤ 1024 := by rw [bytes_66]; decide
theorem info_66 : ∃ i, (Go.Proofs.Try.prog : Program).info? 66 = some i := aggO_info agg_66
@[simp] theorem agg_67 : aggO Go.Proofs.Try.prog 67 = some false := by kernel_rfl
@[simp] theorem cells_67 : Program.cellsOf Go.Proofs.Try.prog 67 = 1 := by kernel_rfl
@[simp] theorem bytes_67 : Program.bytesOf Go.Proofs.Try.prog 67 = 8 := by kernel_rfl
theorem bytes1_67 : Program.bytesOf Go.Proofs.Try.prog 67 ≤ 1024 := by rw [bytes_67]; decide
theorem info_67 : ∃ i, (Go.Proofs.Try.prog : Program).info? 67 = some i := aggO_info agg_67
@[simp] theorem zv_67 : zvO Go.Proofs.Try.prog 67 = some (.nilFunc) := by kernel_rfl
@[simp] theorem zero_67 : zeroO Go.Proofs.Try.prog 67 = some ([.sc .nilFunc]) := by kernel_rfl
@[simp] theorem agg_68 : aggO Go.Proofs.Try.prog 68 = some false := by kernel_rfl
@[simp] theorem cells_68 : Program.cellsOf Go.Proofs.Try.prog 68 = 1 := by kernel_rfl
@[simp] theorem bytes_68 : Program.bytesOf Go.Proofs.Try.prog 68 = 8 := by kernel_rfl
theorem bytes1_68 : Program.bytesOf Go.Proofs.Try.prog 68 ≤ 1024 := by rw [bytes_68]; decide
theorem info_68 : ∃ i, (Go.Proofs.Try.prog : Program).info? 68 = some i := aggO_info agg_68
@[simp] theorem zv_68 : zvO Go.Proofs.Try.prog 68 = some (.nilFunc) := by kernel_rfl
@[simp] theorem zero_68 : zeroO Go.Proofs.Try.prog 68 = some ([.sc .nilFunc]) := by kernel_rfl
@[simp] theorem agg_69 : aggO Go.Proofs.Try.prog 69 = some false := by kernel_rfl
@[simp] theorem cells_69 : Program.cellsOf Go.Proofs.Try.prog 69 = 1 := by kernel_rfl
@[simp] theorem bytes_69 : Program.bytesOf Go.Proofs.Try.prog 69 = 8 := by kernel_rfl
theorem bytes1_69 : Program.bytesOf Go.Proofs.Try.prog 69 ≤ 1024 := by rw [bytes_69]; decide
theorem info_69 : ∃ i, (Go.Proofs.Try.prog : Program).info? 69 = some i := aggO_info agg_69
@[simp] theorem zv_69 : zvO Go.Proofs.Try.prog 69 = some (.nilFunc) := by kernel_rfl
@[simp] theorem zero_69 : zeroO Go.Proofs.Try.prog 69 = some ([.sc .nilFunc]) := by kernel_rfl
@[simp] theorem agg_70 : aggO Go.Proofs.Try.prog 70 = some false := by kernel_rfl
@[simp] theorem cells_70 : Program.cellsOf Go.Proofs.Try.prog 70 = 1 := by kernel_rfl
@[simp] theorem bytes_70 : Program.bytesOf Go.Proofs.Try.prog 70 = 8 := by kernel_rfl
theorem bytes1_70 : Program.bytesOf Go.Proofs.Try.prog 70 ≤ 1024 := by rw [bytes_70]; decide
theorem info_70 : ∃ i, (Go.Proofs.Try.prog : Program).info? 70 = some i := aggO_info agg_70
@[simp] theorem zv_70 : zvO Go.Proofs.Try.prog 70 = some (.nilFunc) := by kernel_rfl
@[simp] theorem zero_70 : zeroO Go.Proofs.Try.prog 70 = some ([.sc .nilFunc]) := by kernel_rfl
@[simp] theorem agg_71 : aggO Go.Proofs.Try.prog 71 = some false := by kernel_rfl
@[simp] theorem cells_71 : Program.cellsOf Go.Proofs.Try.prog 71 = 1 := by kernel_rfl
@[simp] theorem bytes_71 : Program.bytesOf Go.Proofs.Try.prog 71 = 8 := by kernel_rfl
theorem bytes1_71 : Program.bytesOf Go.Proofs.Try.prog 71 ≤ 1024 := by rw [bytes_71]; decide
theorem info_71 : ∃ i, (Go.Proofs.Try.prog : Program).info? 71 = some i := aggO_info agg_71
@[simp] theorem zv_71 : zvO Go.Proofs.Try.prog 71 = some (.nilFunc) := by kernel_rfl
@[simp] theorem zero_71 : zeroO Go.Proofs.Try.prog 71 = some ([.sc .nilFunc]) := by kernel_rfl
@[simp] theorem agg_72 : aggO Go.Proofs.Try.prog 72 = some false := by kernel_rfl
@[simp] theorem cells_72 : Program.cellsOf Go.Proofs.Try.prog 72 = 1 := by kernel_rfl
@[simp] theorem bytes_72 : Program.bytesOf Go.Proofs.Try.prog 72 = 8 := by kernel_rfl
theorem bytes1_72 : Program.bytesOf Go.Proofs.Try.prog 72 ≤ 1024 := by rw [bytes_72]; decide
theorem info_72 : ∃ i, (Go.Proofs.Try.prog : Program).info? 72 = some i := aggO_info agg_72
@[simp] theorem zv_72 : zvO Go.Proofs.Try.prog 72 = some (.nilFunc) := by kernel_rfl
@[simp] theorem zero_72 : zeroO Go.Proofs.Try.prog 72 = some ([.sc .nilFunc]) := by kernel_rfl
@[simp] theorem agg_73 : aggO Go.Proofs.Try.prog 73 = some false := by kernel_rfl
@[simp] theorem cells_73 : Program.cellsOf Go.Proofs.Try.prog 73 = 1 := by kernel_rfl
@[simp] theorem bytes_73 : Program.bytesOf Go.Proofs.Try.prog 73 = 0 := by kernel_rfl
theorem bytes1_73 : Program.bytesOf Go.Proofs.Try.prog 73 ≤ 1024 := by rw [bytes_73]; decide
theorem info_73 : ∃ i, (Go.Proofs.Try.prog : Program).info? 73 = some i := aggO_info agg_73
@[simp] theorem agg_74 : aggO Go.Proofs.Try.prog 74 = some false := by kernel_rfl
@[simp] theorem cells_74 : Program.cellsOf Go.Proofs.Try.prog 74 = 1 := by kernel_rfl
@[simp] theorem bytes_74 : Program.bytesOf Go.Proofs.Try.prog 74 = 8 := by kernel_rfl
theorem bytes1_74 : Program.bytesOf Go.Proofs.Try.prog 74 ≤ 1024 := by rw [bytes_74]; decide
theorem info_74 : ∃ i, (Go.Proofs.Try.prog : Program).info? 74 = some i := aggO_info agg_74
@[simp] theorem zv_74 : zvO Go.Proofs.Try.prog 74 = some (.nilFunc) := by kernel_rfl
@[simp] theorem zero_74 : zeroO Go.Proofs.Try.prog 74 = some ([.sc .nilFunc]) := by kernel_rfl
@[simp] theorem agg_75 : aggO Go.Proofs.Try.prog 75 = some false := by kernel_rfl
@[simp] theorem cells_75 : Program.cellsOf Go.Proofs.Try.prog 75 = 1 := by kernel_rfl
@[simp] theorem bytes_75 : Program.bytesOf Go.Proofs.Try.prog 75 = 0 := by kernel_rfl
theorem bytes1_75 : Program.bytesOf Go.Proofs.Try.prog 75 ≤ 1024 := by rw [bytes_75]; decide
theorem info_75 : ∃ i, (Go.Proofs.Try.prog : Program).info? 75 = some i := aggO_info agg_75
@[simp] theorem agg_76 : aggO Go.Proofs.Try.prog 76 = some false := by kernel_rfl
@[simp] theorem cells_76 : Program.cellsOf Go.Proofs.Try.prog 76 = 1 := by kernel_rfl
@[simp] theorem bytes_76 : Program.bytesOf Go.Proofs.Try.prog 76 = 8 := by kernel_rfl
theorem bytes1_76 : Program.bytesOf Go.Proofs.Try.prog 76 ≤ 1024 := by rw [bytes_76]; decide
theorem info_76 : ∃ i, (Go.Proofs.Try.prog : Program).info? 76 = some i := aggO_info agg_76
@[simp] theorem zv_76 : zvO Go.Proofs.Try.prog 76 = some (.nilFunc) := by kernel_rfl
@[simp] theorem zero_76 : zeroO Go.Proofs.Try.prog 76 = some ([.sc .nilFunc]) := by kernel_rfl
@[simp] theorem agg_77 : aggO Go.Proofs.Try.prog 77 = some true := by kernel_rfl
@[simp] theorem cells_77 : Program.cellsOf Go.Proofs.Try.prog 77 = 3 := by kernel_rfl
@[simp] theorem fld_77_0 : fldO Go.Proofs.Try.prog 77 0 = some (0, 3) := by kernel_rfl
@[simp] theorem fld_77_1 : fldO Go.Proofs.Try.prog 77 1 = some (1, 3) := by kernel_rfl
@[simp] theorem fld_77_2 : fldO Go.Proofs.Try.prog 77 2 = some (2, 23) := by kernel_rfl
@[simp] theorem places_77 : placesO Go.Proofs.Try.prog 77 = some [(0, 1), (1, 1), (2, 1)] := by kernel_rfl
@[simp] theorem bytes_77 : Program.bytesOf Go.Proofs.Try.prog 77 = 40 := by kernel_rfl
theorem bytes1_77 : Program.bytesOf Go.Proofs.Try.prog 77 ≤ 1024 := by rw [bytes_77]; decide
theorem info_77 : ∃ i, (Go.Proofs.Try.prog : Program).info? 77 = some i := aggO_info agg_77
@[simp] theorem zero_77 : zeroO Go.Proofs.Try.prog 77 = some ([.sc (.int .i64 (0)), .sc (.int .i64 (0)), .sc (.slice none 0 0)]) := by kernel_rfl
@[simp] theorem agg_78 : aggO Go.Proofs.Try.prog 78 = some true := by kernel_rfl
@[simp] theorem cells_78 : Program.cellsOf Go.Proofs.Try.prog 78 = 3 := by kernel_rfl
@[simp] theorem fld_78_0 : fldO Go.Proofs.Try.prog 78 0 = some (0, 3) := by kernel_rfl
@[simp] theorem fld_78_1 : fldO Go.Proofs.Try.prog 78 1 = some (1, 3) := by kernel_rfl
@[simp] theorem fld_78_2 : fldO Go.Proofs.Try.prog 78 2 = some (2, 23) := by kernel_rfl
@[simp] theorem places_78 : placesO Go.Proofs.Try.prog 78 = some [(0, 1), (1, 1), (2, 1)] := by kernel_rfl
@[simp] theorem bytes_78 : Program.bytesOf Go.Proofs.Try.prog 78 = 40 := by kernel_rfl
theorem bytes1_78 : Program.bytesOf Go.Proofs.Try.prog 78 ≤ 1024 := by rw [bytes_78]; decide
theorem info_78 : ∃ i, (Go.Proofs.Try.prog : Program).info? 78 = some i := aggO_info agg_78
@[simp] theorem zero_78 : zeroO Go.Proofs.Try.prog 78 = some ([.sc (.int .i64 (0)), .sc (.int .i64 (0)), .sc (.slice none 0 0)]) := by kernel_rfl
@[simp] theorem agg_79 : aggO Go.Proofs.Try.prog 79 = some false := by kernel_rfl
@[simp] theorem cells_79 : Program.cellsOf Go.Proofs.Try.prog 79 = 1 := by kernel_rfl
@[simp] theorem bytes_79 : Program.bytesOf Go.Proofs.Try.prog 79 = 8 := by kernel_rfl
theorem bytes1_79 : Program.bytesOf Go.Proofs.Try.prog 79 ≤ 1024 := by rw [bytes_79]; decide
theorem info_79 : ∃ i, (Go.Proofs.Try.prog : Program).info? 79 = some i := aggO_info agg_79
@[simp] theorem zv_79 : zvO Go.Proofs.Try.prog 79 = some (.nilFunc) := by kernel_rfl
@[simp] theorem zero_79 : zeroO Go.Proofs.Try.prog 79 = some ([.sc .nilFunc]) := by kernel_rfl
@[simp] theorem agg_80 : aggO Go.Proofs.Try.prog 80 = some false := by kernel_rfl
@[simp] theorem cells_80 : Program.cellsOf Go.Proofs.Try.prog 80 = 1 := by kernel_rfl
@[simp] theorem bytes_80 : Program.bytesOf Go.Proofs.Try.prog 80 = 8 := by kernel_rfl
theorem bytes1_80 : Program.bytesOf Go.Proofs.Try.prog 80 ≤ 1024 := by rw [bytes_80]; decide
theorem info_80 : ∃ i, (Go.Proofs.Try.prog : Program).info? 80 = some i := aggO_info agg_80
@[simp] theorem zv_80 : zvO Go.Proofs.Try.prog 80 = some (.nilFunc) := by kernel_rfl
@[simp] theorem zero_80 : zeroO Go.Proofs.Try.prog 80 = some ([.sc .nilFunc]) := by kernel_rfl
@[simp] theorem agg_81 : aggO Go.Proofs.Try.prog 81 = some false := by kernel_rfl
@[simp] theorem cells_81 : Program.cellsOf Go.Proofs.Try.prog 81 = 1 := by kernel_rfl
@[simp] theorem bytes_81 : Program.bytesOf Go.Proofs.Try.prog 81 = 8 := by kernel_rfl
theorem bytes1_81 : Program.bytesOf Go.Proofs.Try.prog 81 ≤ 1024 := by rw [bytes_81]; decide
theorem info_81 : ∃ i, (Go.Proofs.Try.prog : Program).info? 81 = some i := aggO_info agg_81
@[simp] theorem zv_81 : zvO Go.Proofs.Try.prog 81 = some (.nilFunc) := by kernel_rfl
@[simp] theorem zero_81 : zeroO Go.Proofs.Try.prog 81 = some ([.sc .nilFunc]) := by kernel_rfl
@[simp] theorem agg_82 : aggO Go.Proofs.Try.prog 82 = some false := by kernel_rfl
@[simp] theorem cells_82 : Program.cellsOf Go.Proofs.Try.prog 82 = 1 := by kernel_rfl
@[simp] theorem bytes_82 : Program.bytesOf Go.Proofs.Try.prog 82 = 8 := by kernel_rfl
theorem bytes1_82 : Program.bytesOf Go.Proofs.Try.prog 82 ≤ 1024 := by rw [bytes_82]; decide
theorem info_82 : ∃ i, (Go.Proofs.Try.prog : Program).info? 82 = some i := aggO_info agg_82
@[simp] theorem zv_82 : zvO Go.Proofs.Try.prog 82 = some (.nilFunc) := by kernel_rfl
@[simp] theorem zero_82 : zeroO Go.Proofs.Try.prog 82 = some ([.sc .nilFunc]) := by kernel_rfl
@[simp] theorem agg_83 : aggO Go.Proofs.Try.prog 83 = some false := by kernel_rfl
@[simp] theorem cells_83 : Program.cellsOf Go.Proofs.Try.prog 83 = 1 := by kernel_rfl
@[simp] theorem bytes_83 : Program.bytesOf Go.Proofs.Try.prog 83 = 8 := by kernel_rfl
theorem bytes1_83 : Program.bytesOf Go.Proofs.Try.prog 83 ≤ 1024 := by rw [bytes_83]; decide
theorem info_83 : ∃ i, (Go.Proofs.Try.prog : Program).info? 83 = some i := aggO_info agg_83
@[simp] theorem zv_83 : zvO Go.Proofs.Try.prog 83 = some (.nilFunc) := by kernel_rfl
@[simp] theorem zero_83 : zeroO Go.Proofs.Try.prog 83 = some ([.sc .nilFunc]) := by kernel_rfl
@[simp] theorem agg_84 : aggO Go.Proofs.Try.prog 84 = some false := by kernel_rfl
@[simp] theorem cells_84 : Program.cellsOf Go.Proofs.Try.prog 84 = 1 := by kernel_rfl
@[simp] theorem bytes_84 : Program.bytesOf Go.Proofs.Try.prog 84 = 8 := by kernel_rfl
theorem bytes1_84 : Program.bytesOf Go.Proofs.Try.prog 84 ≤ 1024 := by rw [bytes_84]; decide
theorem info_84 : ∃ i, (Go.Proofs.Try.prog : Program).info? 84 = some i := aggO_info agg_84
@[simp] theorem zv_84 : zvO Go.Proofs.Try.prog 84 = some (.nilFunc) := by kernel_rfl
@[simp] theorem zero_84 : zeroO Go.Proofs.Try.prog 84 = some ([.sc .nilFunc]) := by kernel_rfl
@[simp] theorem agg_85 : aggO Go.Proofs.Try.prog 85 = some true := by kernel_rfl
@[simp] theorem cells_85 : Program.cellsOf Go.Proofs.Try.prog 85 = 3 := by kernel_rfl
@[simp] theorem fld_85_0 : fldO Go.Proofs.Try.prog 85 0 = some (0, 3) := by kernel_rfl
@[simp] theorem fld_85_1 : fldO Go.Proofs.Try.prog 85 1 = some (1, 3) := by kernel_rfl
@[simp] theorem fld_85_2 : fldO Go.Proofs.Try.prog 85 2 = some (2, 3) := by kernel_rfl
@[simp] theorem places_85 : placesO Go.Proofs.Try.prog 85 = some [(0, 1), (1, 1), (2, 1)] := by kernel_rfl
@[simp] theorem bytes_85 : Program.bytesOf Go.Proofs.Try.prog 85 = 24 := by kernel_rfl
theorem bytes1_85 : Program.bytesOf Go.Proofs.Try.prog 85 ≤ 1024 := by rw [bytes_85]; decide
theorem info_85 : ∃ i, (Go.Proofs.Try.prog : Program).info? 85 = some i := aggO_info agg_85
@[simp] theorem zero_85 : zeroO Go.Proofs.Try.prog 85 = some ([.sc (.int .i64 (0)), .sc (.int .i64 (0)), .sc (.int .i64 (0))]) := by kernel_rfl
@[simp] theorem agg_86 : aggO Go.Proofs.Try.prog 86 = some true := by kernel_rfl
@[simp] theorem cells_86 : Program.cellsOf Go.Proofs.Try.prog 86 = 3 := by kernel_rfl
@[simp] theorem fld_86_0 : fldO Go.Proofs.Try.prog 86 0 = some (0, 3) := by kernel_rfl
@[simp] theorem fld_86_1 : fldO Go.Proofs.Try.prog 86 1 = some (1, 3) := by kernel_rfl
@[simp] theorem fld_86_2 : fldO Go.Proofs.Try.prog 86 2 = some (2, 3) := by kernel_rfl
@[simp] theorem places_86 : placesO Go.Proofs.Try.prog 86 = some [(0, 1), (1, 1), (2, 1)] := by kernel_rfl
@[simp] theorem bytes_86 : Program.bytesOf Go.Proofs.Try.prog 86 = 24 := by kernel_rfl
theorem bytes1_86 : Program.bytesOf Go.Proofs.Try.prog 86 ≤ 1024 := by rw [bytes_86]; decide
theorem info_86 : ∃ i, (Go.Proofs.Try.prog : Program).info? 86 = some i := aggO_info agg_86
@[simp] theorem zero_86 : zeroO Go.Proofs.Try.prog 86 = some ([.sc (.int .i64 (0)), .sc (.int .i64 (0)), .sc (.int .i64 (0))]) := by kernel_rfl
@[simp] theorem agg_87 : aggO Go.Proofs.Try.prog 87 = some false := by kernel_rfl
@[simp] theorem cells_87 : Program.cellsOf Go.Proofs.Try.prog 87 = 1 := by kernel_rfl
@[simp] theorem bytes_87 : Program.bytesOf Go.Proofs.Try.prog 87 = 8 := by kernel_rfl
theorem bytes1_87 : Program.bytesOf Go.Proofs.Try.prog 87 ≤ 1024 := by rw [bytes_87]; decide
theorem info_87 : ∃ i, (Go.Proofs.Try.prog : Program).info? 87 = some i := aggO_info agg_87
@[simp] theorem zv_87 : zvO Go.Proofs.Try.prog 87 = some (.nilFunc) := by kernel_rfl
@[simp] theorem zero_87 : zeroO Go.Proofs.Try.prog 87 = some ([.sc .nilFunc]) := by kernel_rfl
@[simp] theorem agg_88 : aggO Go.Proofs.Try.prog 88 = some true := by kernel_rfl
@[simp] theorem cells_88 : Program.cellsOf Go.Proofs.Try.prog 88 = 2 := by kernel_rfl
@[simp] theorem fld_88_0 : fldO Go.Proofs.Try.prog 88 0 = some (0, 3) := by kernel_rfl
@[simp] theorem fld_88_1 : fldO Go.Proofs.Try.prog 88 1 = some (1, 3) := by kernel_rfl
@[simp] theorem places_88 : placesO Go.Proofs.Try.prog 88 = some [(0, 1), (1, 1)] := by kernel_rfl
@[simp] theorem bytes_88 : Program.bytesOf Go.Proofs.Try.prog 88 = 16 := by kernel_rfl
theorem bytes1_88 : Program.bytesOf Go.Proofs.Try.prog 88 ≤ 1024 := by rw [bytes_88]; decide
theorem info_88 : ∃ i, (Go.Proofs.Try.prog : Program).info? 88 = some i := aggO_info agg_88
@[simp] theorem zero_88 : zeroO Go.Proofs.Try.prog 88 = some ([.sc (.int .i64 (0)), .sc (.int .i64 (0))]) := by kernel_rfl
@[simp] theorem agg_89 : aggO Go.Proofs.Try.prog 89 = some true := by kernel_rfl
@[simp] theorem cells_89 : Program.cellsOf Go.Proofs.Try.prog 89 = 2 := by kernel_rfl
@[simp] theorem fld_89_0 : fldO Go.Proofs.Try.prog 89 0 = some (0, 3) := by kernel_rfl
@[simp] theorem fld_89_1 : fldO Go.Proofs.Try.prog 89 1 = some (1, 3) := by kernel_rfl
@[simp] theorem places_89 : placesO Go.Proofs.Try.prog 89 = some [(0, 1), (1, 1)] := by kernel_rfl
@[simp] theorem bytes_89 : Program.bytesOf Go.Proofs.Try.prog 89 = 16 := by kernel_rfl
theorem bytes1_89 : Program.bytesOf Go.Proofs.Try.prog 89 ≤ 1024 := by rw [bytes_89]; decide
theorem info_89 : ∃ i, (Go.Proofs.Try.prog : Program).info? 89 = some i := aggO_info agg_89
@[simp] theorem zero_89 : zeroO Go.Proofs.Try.prog 89 = some ([.sc (.int .i64 (0)), .sc (.int .i64 (0))]) := by kernel_rfl
@[simp] theorem agg_90 : aggO Go.Proofs.Try.prog 90 = some false := by kernel_rfl
@[simp] theorem cells_90 : Program.cellsOf Go.Proofs.Try.prog 90 = 1 := by kernel_rfl
@[simp] theorem bytes_90 : Program.bytesOf Go.Proofs.Try.prog 90 = 8 := by kernel_rfl
theorem bytes1_90 : Program.bytesOf Go.Proofs.Try.prog 90 ≤ 1024 := by rw [bytes_90]; decide
theorem info_90 : ∃ i, (Go.Proofs.Try.prog : Program).info? 90 = some i := aggO_info agg_90
@[simp] theorem zv_90 : zvO Go.Proofs.Try.prog 90 = some (.nilFunc) := by kernel_rfl
@[simp] theorem zero_90 : zeroO Go.Proofs.Try.prog 90 = some ([.sc .nilFunc]) := by kernel_rfl
@[simp] theorem agg_91 : aggO Go.Proofs.Try.prog 91 = some false := by kernel_rfl
@[simp] theorem cells_91 : Program.cellsOf Go.Proofs.Try.prog 91 = 1 := by kernel_rfl
@[simp] theorem bytes_91 : Program.bytesOf Go.Proofs.Try.prog 91 = 8 := by kernel_rfl
theorem bytes1_91 : Program.bytesOf Go.Proofs.Try.prog 91 ≤ 1024 := by rw [bytes_91]; decide
theorem info_91 : ∃ i, (Go.Proofs.Try.prog : Program).info? 91 = some i := aggO_info agg_91
@[simp] theorem zv_91 : zvO Go.Proofs.Try.prog 91 = some (.nilFunc) := by kernel_rfl
@[simp] theorem zero_91 : zeroO Go.Proofs.Try.prog 91 = some ([.sc .nilFunc]) := by kernel_rfl
@[simp] theorem agg_92 : aggO Go.Proofs.Try.prog 92 = some false := by kernel_rfl
@[simp] theorem cells_92 : Program.cellsOf Go.Proofs.Try.prog 92 = 1 := by kernel_rfl
@[simp] theorem bytes_92 : Program.bytesOf Go.Proofs.Try.prog 92 = 8 := by kernel_rfl
theorem bytes1_92 : Program.bytesOf Go.Proofs.Try.prog 92 ≤ 1024 := by rw [bytes_92]; decide
theorem info_92 : ∃ i, (Go.Proofs.Try.prog : Program).info? 92 = some i := aggO_info agg_92
@[simp] theorem zv_92 : zvO Go.Proofs.Try.prog 92 = some (.nilFunc) := by kernel_rfl
@[simp] theorem zero_92 : zeroO Go.Proofs.Try.prog 92 = some ([.sc .nilFunc]) := by kernel_rfl
@[simp] theorem agg_93 : aggO Go.Proofs.Try.prog 93 = some false := by kernel_rfl
@[simp] theorem cells_93 : Program.cellsOf Go.Proofs.Try.prog 93 = 1 := by kernel_rfl
@[simp] theorem bytes_93 : Program.bytesOf Go.Proofs.Try.prog 93 = 8 := by kernel_rfl
theorem bytes1_93 : Program.bytesOf Go.Proofs.Try.prog 93 ≤ 1024 := by rw [bytes_93]; decide
theorem info_93 : ∃ i, (Go.Proofs.Try.prog : Program).info? 93 = some i := aggO_info agg_93
@[simp] theorem zv_93 : zvO Go.Proofs.Try.prog 93 = some (.nilFunc) := by kernel_rfl
@[simp] theorem zero_93 : zeroO Go.Proofs.Try.prog 93 = some ([.sc .nilFunc]) := by kernel_rfl
@[simp] theorem agg_94 : aggO Go.Proofs.Try.prog 94 = some false := by kernel_rfl
@[simp] theorem cells_94 : Program.cellsOf Go.Proofs.Try.prog 94 = 1 := by kernel_rfl
@[simp] theorem bytes_94 : Program.bytesOf Go.Proofs.Try.prog 94 = 8 := by kernel_rfl
theorem bytes1_94 : Program.bytesOf Go.Proofs.Try.prog 94 ≤ 1024 := by rw [bytes_94]; decide
theorem info_94 : ∃ i, (Go.Proofs.Try.prog : Program).info? 94 = some i := aggO_info agg_94
@[simp] theorem zv_94 : zvO Go.Proofs.Try.prog 94 = some (.nilFunc) := by kernel_rfl
@[simp] theorem zero_94 : zeroO Go.Proofs.Try.prog 94 = some ([.sc .nilFunc]) := by kernel_rfl
@[simp] theorem agg_95 : aggO Go.Proofs.Try.prog 95 = some false := by kernel_rfl
@[simp] theorem cells_95 : Program.cellsOf Go.Proofs.Try.prog 95 = 1 := by kernel_rfl
@[simp] theorem und_95 : Program.underlying Go.Proofs.Try.prog 95 = some (.map 3 4) := by kernel_rfl
@[simp] theorem map_95 : mapO Go.Proofs.Try.prog 95 = some (3, 4) := by kernel_rfl
@[simp] theorem bytes_95 : Program.bytesOf Go.Proofs.Try.prog 95 = 8 := by kernel_rfl
theorem bytes1_95 : Program.bytesOf Go.Proofs.Try.prog 95 ≤ 1024 := by rw [bytes_95]; decide
theorem info_95 : ∃ i, (Go.Proofs.Try.prog : Program).info? 95 = some i := aggO_info agg_95
@[simp] theorem zv_95 : zvO Go.Proofs.Try.prog 95 = some ((.map none)) := by kernel_rfl
@[simp] theorem zero_95 : zeroO Go.Proofs.Try.prog 95 = some ([.sc (.map none)]) := by kernel_rfl
@[simp] theorem agg_96 : aggO Go.Proofs.Try.prog 96 = some false := by kernel_rfl
@[simp] theorem cells_96 : Program.cellsOf Go.Proofs.Try.prog 96 = 1 := by kernel_rfl
@[simp] theorem bytes_96 : Program.bytesOf Go.Proofs.Try.prog 96 = 8 := by kernel_rfl
theorem bytes1_96 : Program.bytesOf Go.Proofs.Try.prog 96 ≤ 1024 := by rw [bytes_96]; decide
theorem info_96 : ∃ i, (Go.Proofs.Try.prog : Program).info? 96 = some i := aggO_info agg_96
@[simp] theorem zv_96 : zvO Go.Proofs.Try.prog 96 = some (.nilFunc) := by kernel_rfl
@[simp] theorem zero_96 : zeroO Go.Proofs.Try.prog 96 = some ([.sc .nilFunc]) := by kernel_rfl
@[simp] theorem agg_97 : aggO Go.Proofs.Try.prog 97 = some false := by kernel_rfl
@[simp] theorem cells_97 : Program.cellsOf Go.Proofs.Try.prog 97 = 1 := by kernel_rfl
@[simp] theorem bytes_97 : Program.bytesOf Go.Proofs.Try.prog 97 = 8 := by kernel_rfl
theorem bytes1_97 : Program.bytesOf Go.Proofs.Try.prog 97 ≤ 1024 := by rw [bytes_97]; decide
theorem info_97 : ∃ i, (Go.Proofs.Try.prog : Program).info? 97 = some i := aggO_info agg_97
@[simp] theorem zv_97 : zvO Go.Proofs.Try.prog 97 = some (.nilFunc) := by kernel_rfl
@[simp] theorem zero_97 : zeroO Go.Proofs.Try.prog 97 = some ([.sc .nilFunc]) := by kernel_rfl
@[simp] theorem agg_98 : aggO Go.Proofs.Try.prog 98 = some false := by kernel_rfl
@[simp] theorem cells_98 : Program.cellsOf Go.Proofs.Try.prog 98 = 1 := by kernel_rfl
@[simp] theorem bytes_98 : Program.bytesOf Go.Proofs.Try.prog 98 = 8 := by kernel_rfl
theorem bytes1_98 : Program.bytesOf Go.Proofs.Try.prog 98 ≤ 1024 := by rw [bytes_98]; decide
theorem info_98 : ∃ i, (Go.Proofs.Try.prog : Program).info? 98 = some i := aggO_info agg_98
@[simp] theorem zv_98 : zvO Go.Proofs.Try.prog 98 = some (.nilFunc) := by kernel_rfl
@[simp] theorem zero_98 : zeroO Go.Proofs.Try.prog 98 = some ([.sc .nilFunc]) := by kernel_rfl
@[simp] theorem agg_99 : aggO Go.Proofs.Try.prog 99 = some false := by kernel_rfl
@[simp] theorem cells_99 : Program.cellsOf Go.Proofs.Try.prog 99 = 1 := by kernel_rfl
@[simp] theorem und_99 : Program.underlying Go.Proofs.Try.prog 99 = some (.pointer 51) := by kernel_rfl
@[simp] theorem bytes_99 : Program.bytesOf Go.Proofs.Try.prog 99 = 8 := by kernel_rfl
theorem bytes1_99 : Program.bytesOf Go.Proofs.Try.prog 99 ≤ 1024 := by rw [bytes_99]; decide
theorem info_99 : ∃ i, (Go.Proofs.Try.prog : Program).info? 99 = some i := aggO_info agg_99
@[simp] theorem zv_99 : zvO Go.Proofs.Try.prog 99 = some ((.pointer none)) := by kernel_rfl
@[simp] theorem zero_99 : zeroO Go.Proofs.Try.prog 99 = some ([.sc (.pointer none)]) := by kernel_rfl
@[simp] theorem agg_100 : aggO Go.Proofs.Try.prog 100 = some false := by kernel_rfl
@[simp] theorem cells_100 : Program.cellsOf Go.Proofs.Try.prog 100 = 1 := by kernel_rfl
@[simp] theorem und_100 : Program.underlying Go.Proofs.Try.prog 100 = some (.pointer 136) := by kernel_rfl
@[simp] theorem bytes_100 : Program.bytesOf Go.Proofs.Try.prog 100 = 8 := by kernel_rfl
theorem bytes1_100 : Program.bytesOf Go.Proofs.Try.prog 100 ≤ 1024 := by rw [bytes_100]; decide
theorem info_100 : ∃ i, (Go.Proofs.Try.prog : Program).info? 100 = some i := aggO_info agg_100
@[simp] theorem zv_100 : zvO Go.Proofs.Try.prog 100 = some ((.pointer none)) := by kernel_rfl
@[simp] theorem zero_100 : zeroO Go.Proofs.Try.prog 100 = some ([.sc (.pointer none)]) := by kernel_rfl
@[simp] theorem agg_101 : aggO Go.Proofs.Try.prog 101 = some false := by kernel_rfl
@[simp] theorem cells_101 : Program.cellsOf Go.Proofs.Try.prog 101 = 1 := by kernel_rfl
@[simp] theorem bytes_101 : Program.bytesOf Go.Proofs.Try.prog 101 = 0 := by kernel_rfl
theorem bytes1_101 : Program.bytesOf Go.Proofs.Try.prog 101 ≤ 1024 := by rw [bytes_101]; decide
theorem info_101 : ∃ i, (Go.Proofs.Try.prog : Program).info? 101 = some i := aggO_info agg_101
@[simp] theorem agg_102 : aggO Go.Proofs.Try.prog 102 = some false := by kernel_rfl
@[simp] theorem cells_102 : Program.cellsOf Go.Proofs.Try.prog 102 = 1 := by kernel_rfl
@[simp] theorem bytes_102 : Program.bytesOf Go.Proofs.Try.prog 102 = 8 := by kernel_rfl
theorem bytes1_102 : Program.bytesOf Go.Proofs.Try.prog 102 ≤ 1024 := by rw [bytes_102]; decide
theorem info_102 : ∃ i, (Go.Proofs.Try.prog : Program).info? 102 = some i := aggO_info agg_102
@[simp] theorem zv_102 : zvO Go.Proofs.Try.prog 102 = some (.nilFunc) := by kernel_rfl
@[simp] theorem zero_102 : zeroO Go.Proofs.Try.prog 102 = some ([.sc .nilFunc]) := by kernel_rfl
@[simp] theorem agg_103 : aggO Go.Proofs.Try.prog 103 = some false := by kernel_rfl
@[simp] theorem cells_103 : Program.cellsOf Go.Proofs.Try.prog 103 = 1 := by kernel_rfl
@[simp] theorem elem_103 : elemO Go.Proofs.Try.prog 103 = some 56 := by kernel_rfl
@[simp] theorem plain_103 : plainT Go.Proofs.Try.prog 103 = true := by kernel_rfl
@[simp] theorem bytes_103 : Program.bytesOf Go.Proofs.Try.prog 103 = 24 := by kernel_rfl
theorem bytes1_103 : Program.bytesOf Go.Proofs.Try.prog 103 ≤ 1024 := by rw [bytes_103]; decide
theorem info_103 : ∃ i, (Go.Proofs.Try.prog : Program).info? 103 = some i := aggO_info agg_103
@[simp] theorem zv_103 : zvO Go.Proofs.Try.prog 103 = some ((.slice none 0 0)) := by kernel_rfl
@[simp] theorem zero_103 : zeroO Go.Proofs.Try.prog 103 = some ([.sc (.slice none 0 0)]) := by kernel_rfl
@[simp] theorem agg_104 : aggO Go.Proofs.Try.prog 104 = some false := by kernel_rfl
@[simp] theorem cells_104 : Program.cellsOf Go.Proofs.Try.prog 104 = 1 := by kernel_rfl
@[simp] theorem bytes_104 : Program.bytesOf Go.Proofs.Try.prog 104 = 0 := by kernel_rfl
theorem bytes1_104 : Program.bytesOf Go.Proofs.Try.prog 104 ≤ 1024 := by rw [bytes_104]; decide
theorem info_104 : ∃ i, (Go.Proofs.Try.prog : Program).info? 104 = some i := aggO_info agg_104
@[simp] theorem agg_105 : aggO Go.Proofs.Try.prog 105 = some false := by kernel_rfl
@[simp] theorem cells_105 : Program.cellsOf Go.Proofs.Try.prog 105 = 1 := by kernel_rfl
@[simp] theorem bytes_105 : Program.bytesOf Go.Proofs.Try.prog 105 = 8 := by kernel_rfl
theorem bytes1_105 : Program.bytesOf Go.Proofs.Try.prog 105 ≤ 1024 := by rw [bytes_105]; decide
theorem info_105 : ∃ i, (Go.Proofs.Try.prog : Program).info? 105 = some i := aggO_info agg_105
@[simp] theorem zv_105 : zvO Go.Proofs.Try.prog 105 = some (.nilFunc) := by kernel_rfl
@[simp] theorem zero_105 : zeroO Go.Proofs.Try.prog 105 = some ([.sc .nilFunc]) := by kernel_rfl
@[simp] theorem agg_106 : aggO Go.Proofs.Try.prog 106 = some true := by kernel_rfl
@[simp] theorem cells_106 : Program.cellsOf Go.Proofs.Try.prog 106 = 3 := by kernel_rfl
@[simp] theorem fld_106_0 : fldO Go.Proofs.Try.prog 106 0 = some (0, 3) := by kernel_rfl
@[simp] theorem fld_106_1 : fldO Go.Proofs.Try.prog 106 1 = some (1, 3) := by kernel_rfl
@[simp] theorem fld_106_2 : fldO Go.Proofs.Try.prog 106 2 = some (2, 4) := by kernel_rfl
@[simp] theorem places_106 : placesO Go.Proofs.Try.prog 106 = some [(0, 1), (1, 1), (2, 1)] := by kernel_rfl
@[simp] theorem bytes_106 : Program.bytesOf Go.Proofs.Try.prog 106 = 24 := by kernel_rfl
theorem bytes1_106 : Program.bytesOf Go.Proofs.Try.prog 106 ≤ 1024 := by rw [bytes_106]; decide
theorem info_106 : ∃ i, (Go.Proofs.Try.prog : Program).info? 106 = some i := aggO_info agg_106
@[simp] theorem zero_106 : zeroO Go.Proofs.Try.prog 106 = some ([.sc (.int .i64 (0)), .sc (.int .i64 (0)), .sc (.bool false)]) := by kernel_rfl
@[simp] theorem agg_107 : aggO Go.Proofs.Try.prog 107 = some true := by kernel_rfl
@[simp] theorem cells_107 : Program.cellsOf Go.Proofs.Try.prog 107 = 3 := by kernel_rfl
@[simp] theorem fld_107_0 : fldO Go.Proofs.Try.prog 107 0 = some (0, 3) := by kernel_rfl
@[simp] theorem fld_107_1 : fldO Go.Proofs.Try.prog 107 1 = some (1, 3) := by kernel_rfl
@[simp] theorem fld_107_2 : fldO Go.Proofs.Try.prog 107 2 = some (2, 4) := by kernel_rfl
@[simp] theorem places_107 : placesO Go.Proofs.Try.prog 107 = some [(0, 1), (1, 1), (2, 1)] := by kernel_rfl
@[simp] theorem bytes_107 : Program.bytesOf Go.Proofs.Try.prog 107 = 24 := by kernel_rfl
theorem bytes1_107 : Program.bytesOf Go.Proofs.Try.prog 107 ≤ 1024 := by rw [bytes_107]; decide
theorem info_107 : ∃ i, (Go.Proofs.Try.prog : Program).info? 107 = some i := aggO_info agg_107
@[simp] theorem zero_107 : zeroO Go.Proofs.Try.prog 107 = some ([.sc (.int .i64 (0)), .sc (.int .i64 (0)), .sc (.bool false)]) := by kernel_rfl
@[simp] theorem agg_108 : aggO Go.Proofs.Try.prog 108 = some false := by kernel_rfl
@[simp] theorem cells_108 : Program.cellsOf Go.Proofs.Try.prog 108 = 1 := by kernel_rfl
@[simp] theorem bytes_108 : Program.bytesOf Go.Proofs.Try.prog 108 = 8 := by kernel_rfl
theorem bytes1_108 : Program.bytesOf Go.Proofs.Try.prog 108 ≤ 1024 := by rw [bytes_108]; decide
theorem info_108 : ∃ i, (Go.Proofs.Try.prog : Program).info? 108 = some i := aggO_info agg_108
@[simp] theorem zv_108 : zvO Go.Proofs.Try.prog 108 = some (.nilFunc) := by kernel_rfl
@[simp] theorem zero_108 : zeroO Go.Proofs.Try.prog 108 = some ([.sc .nilFunc]) := by kernel_rfl
@[simp] theorem agg_109 : aggO Go.Proofs.Try.prog 109 = some false := by kernel_rfl
@[simp] theorem cells_109 : Program.cellsOf Go.Proofs.Try.prog 109 = 1 := by kernel_rfl
@[simp] theorem bytes_109 : Program.bytesOf Go.Proofs.Try.prog 109 = 8 := by kernel_rfl
theorem bytes1_109 : Program.bytesOf Go.Proofs.Try.prog 109 ≤ 1024 := by rw [bytes_109]; decide
theorem info_109 : ∃ i, (Go.Proofs.Try.prog : Program).info? 109 = some i := aggO_info agg_109
@[simp] theorem zv_109 : zvO Go.Proofs.Try.prog 109 = some (.nilFunc) := by kernel_rfl
@[simp] theorem zero_109 : zeroO Go.Proofs.Try.prog 109 = some ([.sc .nilFunc]) := by kernel_rfl
@[simp] theorem agg_110 : aggO Go.Proofs.Try.prog 110 = some false := by kernel_rfl
@[simp] theorem cells_110 : Program.cellsOf Go.Proofs.Try.prog 110 = 1 := by kernel_rfl
@[simp] theorem bytes_110 : Program.bytesOf Go.Proofs.Try.prog 110 = 0 := by kernel_rfl
theorem bytes1_110 : Program.bytesOf Go.Proofs.Try.prog 110 ≤ 1024 := by rw [bytes_110]; decide
theorem info_110 : ∃ i, (Go.Proofs.Try.prog : Program).info? 110 = some i := aggO_info agg_110
@[simp] theorem agg_111 : aggO Go.Proofs.Try.prog 111 = some false := by kernel_rfl
@[simp] theorem cells_111 : Program.cellsOf Go.Proofs.Try.prog 111 = 1 := by kernel_rfl
@[simp] theorem bytes_111 : Program.bytesOf Go.Proofs.Try.prog 111 = 8 := by kernel_rfl
theorem bytes1_111 : Program.bytesOf Go.Proofs.Try.prog 111 ≤ 1024 := by rw [bytes_111]; decide
theorem info_111 : ∃ i, (Go.Proofs.Try.prog : Program).info? 111 = some i := aggO_info agg_111
@[simp] theorem zv_111 : zvO Go.Proofs.Try.prog 111 = some (.nilFunc) := by kernel_rfl
@[simp] theorem zero_111 : zeroO Go.Proofs.Try.prog 111 = some ([.sc .nilFunc]) := by kernel_rfl
@[simp] theorem agg_112 : aggO Go.Proofs.Try.prog 112 = some false := by kernel_rfl
@[simp] theorem cells_112 : Program.cellsOf Go.Proofs.Try.prog 112 = 1 := by kernel_rfl
@[simp] theorem elem_112 : elemO Go.Proofs.Try.prog 112 = some 114 := by kernel_rfl
@[simp] theorem plain_112 : plainT Go.Proofs.Try.prog 112 = true := by kernel_rfl
@[simp] theorem bytes_112 : Program.bytesOf Go.Proofs.Try.prog 112 = 24 := by kernel_rfl
theorem bytes1_112 : Program.bytesOf Go.Proofs.Try.prog 112 ≤ 1024 := by rw [bytes_112]; decide
theorem info_112 : ∃ i, (Go.Proofs.Try.prog : Program).info? 112 = some i := aggO_info agg_112
@[simp] theorem zv_112 : zvO Go.Proofs.Try.prog 112 = some ((.slice none 0 0)) := by kernel_rfl
@[simp] theorem zero_112 : zeroO Go.Proofs.Try.prog 112 = some ([.sc (.slice none 0 0)]) := by kernel_rfl
@[simp] theorem agg_113 : aggO Go.Proofs.Try.prog 113 = some true := by kernel_rfl
@[simp] theorem cells_113 : Program.cellsOf Go.Proofs.Try.prog 113 = 2 := by kernel_rfl
@[simp] theorem fld_113_0 : fldO Go.Proofs.Try.prog 113 0 = some (0, 3) := by kernel_rfl
@[simp] theorem fld_113_1 : fldO Go.Proofs.Try.prog 113 1 = some (1, 23) := by kernel_rfl
@[simp] theorem places_113 : placesO Go.Proofs.Try.prog 113 = some [(0, 1), (1, 1)] := by kernel_rfl
@[simp] theorem bytes_113 : Program.bytesOf Go.Proofs.Try.prog 113 = 32 := by kernel_rfl
theorem bytes1_113 : Program.bytesOf Go.Proofs.Try.prog 113 ≤ 1024 := by rw [bytes_113]; decide
theorem info_113 : ∃ i, (Go.Proofs.Try.prog : Program).info? 113 = some i := aggO_info agg_113
@[simp] theorem zero_113 : zeroO Go.Proofs.Try.prog 113 = some ([.sc (.int .i64 (0)), .sc (.slice none 0 0)]) := by kernel_rfl
@[simp] theorem agg_114 : aggO Go.Proofs.Try.prog 114 = some true := by kernel_rfl
@[simp] theorem cells_114 : Program.cellsOf Go.Proofs.Try.prog 114 = 2 := by kernel_rfl
@[simp] theorem fld_114_0 : fldO Go.Proofs.Try.prog 114 0 = some (0, 3) := by kernel_rfl
@[simp] theorem fld_114_1 : fldO Go.Proofs.Try.prog 114 1 = some (1, 23) := by kernel_rfl
@[simp] theorem places_114 : placesO Go.Proofs.Try.prog 114 = some [(0, 1), (1, 1)] := by kernel_rfl
@[simp] theorem bytes_114 : Program.bytesOf Go.Proofs.Try.prog 114 = 32 := by kernel_rfl
theorem bytes1_114 : Program.bytesOf Go.Proofs.Try.prog 114 ≤ 1024 := by rw [bytes_114]; decide
theorem info_114 : ∃ i, (Go.Proofs.Try.prog : Program).info? 114 = some i := aggO_info agg_114
@[simp] theorem zero_114 : zeroO Go.Proofs.Try.prog 114 = some ([.sc (.int .i64 (0)), .sc (.slice none 0 0)]) := by kernel_rfl
@[simp] theorem agg_115 : aggO Go.Proofs.Try.prog 115 = some false := by kernel_rfl
@[simp] theorem cells_115 : Program.cellsOf Go.Proofs.Try.prog 115 = 1 := by kernel_rfl
@[simp] theorem bytes_115 : Program.bytesOf Go.Proofs.Try.prog 115 = 8 := by kernel_rfl
theorem bytes1_115 : Program.bytesOf Go.Proofs.Try.prog 115 ≤ 1024 := by rw [bytes_115]; decide
theorem info_115 : ∃ i, (Go.Proofs.Try.prog : Program).info? 115 = some i := aggO_info agg_115
@[simp] theorem zv_115 : zvO Go.Proofs.Try.prog 115 = some (.nilFunc) := by kernel_rfl
@[simp] theorem zero_115 : zeroO Go.Proofs.Try.prog 115 = some ([.sc .nilFunc]) := by kernel_rfl
@[simp] theorem agg_116 : aggO Go.Proofs.Try.prog 116 = some false := by kernel_rfl
@[simp] theorem cells_116 : Program.cellsOf Go.Proofs.Try.prog 116 = 1 := by kernel_rfl
@[simp] theorem bytes_116 : Program.bytesOf Go.Proofs.Try.prog 116 = 8 := by kernel_rfl
theorem bytes1_116 : Program.bytesOf Go.Proofs.Try.prog 116 ≤ 1024 := by rw [bytes_116]; decide
theorem info_116 : ∃ i, (Go.Proofs.Try.prog : Program).info? 116 = some i := aggO_info agg_116
@[simp] theorem zv_116 : zvO Go.Proofs.Try.prog 116 = some (.nilFunc) := by kernel_rfl
@[simp] theorem zero_116 : zeroO Go.Proofs.Try.prog 116 = some ([.sc .nilFunc]) := by kernel_rfl
@[simp] theorem agg_117 : aggO Go.Proofs.Try.prog 117 = some false := by kernel_rfl
@[simp] theorem cells_117 : Program.cellsOf Go.Proofs.Try.prog 117 = 1 := by kernel_rfl
@[simp] theorem bytes_117 : Program.bytesOf Go.Proofs.Try.prog 117 = 8 := by kernel_rfl
theorem bytes1_117 : Program.bytesOf Go.Proofs.Try.prog 117 ≤ 1024 := by rw [bytes_117]; decide
theorem info_117 : ∃ i, (Go.Proofs.Try.prog : Program).info? 117 = some i := aggO_info agg_117
@[simp] theorem zv_117 : zvO Go.Proofs.Try.prog 117 = some (.nilFunc) := by kernel_rfl
@[simp] theorem zero_117 : zeroO Go.Proofs.Try.prog 117 = some ([.sc .nilFunc]) := by kernel_rfl
@[simp] theorem agg_118 : aggO Go.Proofs.Try.prog 118 = some false := by kernel_rfl
@[simp] theorem cells_118 : Program.cellsOf Go.Proofs.Try.prog 118 = 1 := by kernel_rfl
@[simp] theorem bytes_118 : Program.bytesOf Go.Proofs.Try.prog 118 = 0 := by kernel_rfl
theorem bytes1_118 : Program.bytesOf Go.Proofs.Try.prog 118 ≤ 1024 := by rw [bytes_118]; decide
theorem info_118 : ∃ i, (Go.Proofs.Try.prog : Program).info? 118 = some i := aggO_info agg_118
@[simp] theorem agg_119 : aggO Go.Proofs.Try.prog 119 = some false := by kernel_rfl
@[simp] theorem cells_119 : Program.cellsOf Go.Proofs.Try.prog 119 = 1 := by kernel_rfl
@[simp] theorem bytes_119 : Program.bytesOf Go.Proofs.Try.prog 119 = 8 := by kernel_rfl
theorem bytes1_119 : Program.bytesOf Go.Proofs.Try.prog 119 ≤ 1024 := by rw [bytes_119]; decide
theorem info_119 : ∃ i, (Go.Proofs.Try.prog : Program).info? 119 = some i := aggO_info agg_119
@[simp] theorem zv_119 : zvO Go.Proofs.Try.prog 119 = some (.nilFunc) := by kernel_rfl
@[simp] theorem zero_119 : zeroO Go.Proofs.Try.prog 119 = some ([.sc .nilFunc]) := by kernel_rfl
@[simp] theorem agg_120 : aggO Go.Proofs.Try.prog 120 = some false := by kernel_rfl
@[simp] theorem cells_120 : Program.cellsOf Go.Proofs.Try.prog 120 = 1 := by kernel_rfl
@[simp] theorem bytes_120 : Program.bytesOf Go.Proofs.Try.prog 120 = 8 := by kernel_rfl
theorem bytes1_120 : Program.bytesOf Go.Proofs.Try.prog 120 ≤ 1024 := by rw [bytes_120]; decide
theorem info_120 : ∃ i, (Go.Proofs.Try.prog : Program).info? 120 = some i := aggO_info agg_120
@[simp] theorem zv_120 : zvO Go.Proofs.Try.prog 120 = some (.nilFunc) := by kernel_rfl
@[simp] theorem zero_120 : zeroO Go.Proofs.Try.prog 120 = some ([.sc .nilFunc]) := by kernel_rfl
@[simp] theorem agg_121 : aggO Go.Proofs.Try.prog 121 = some false := by kernel_rfl
@[simp] theorem cells_121 : Program.cellsOf Go.Proofs.Try.prog 121 = 1 := by kernel_rfl
@[simp] theorem bytes_121 : Program.bytesOf Go.Proofs.Try.prog 121 = 8 := by kernel_rfl
theorem bytes1_121 : Program.bytesOf Go.Proofs.Try.prog 121 ≤ 1024 := by rw [bytes_121]; decide
theorem info_121 : ∃ i, (Go.Proofs.Try.prog : Program).info? 121 = some i := aggO_info agg_121
@[simp] theorem zv_121 : zvO Go.Proofs.Try.prog 121 = some (.nilFunc) := by kernel_rfl
@[simp] theorem zero_121 : zeroO Go.Proofs.Try.prog 121 = some ([.sc .nilFunc]) := by kernel_rfl
@[simp] theorem agg_122 : aggO Go.Proofs.Try.prog 122 = some false := by kernel_rfl
@[simp] theorem cells_122 : Program.cellsOf Go.Proofs.Try.prog 122 = 1 := by kernel_rfl
@[simp] theorem bytes_122 : Program.bytesOf Go.Proofs.Try.prog 122 = 8 := by kernel_rfl
theorem bytes1_122 : Program.bytesOf Go.Proofs.Try.prog 122 ≤ 1024 := by rw [bytes_122]; decide
theorem info_122 : ∃ i, (Go.Proofs.Try.prog : Program).info? 122 = some i := aggO_info agg_122
@[simp] theorem zv_122 : zvO Go.Proofs.Try.prog 122 = some (.nilFunc) := by kernel_rfl
@[simp] theorem zero_122 : zeroO Go.Proofs.Try.prog 122 = some ([.sc .nilFunc]) := by kernel_rfl
@[simp] theorem agg_123 : aggO Go.Proofs.Try.prog 123 = some false := by kernel_rfl
@[simp] theorem cells_123 : Program.cellsOf Go.Proofs.Try.prog 123 = 1 := by kernel_rfl
@[simp] theorem bytes_123 : Program.bytesOf Go.Proofs.Try.prog 123 = 8 := by kernel_rfl
theorem bytes1_123 : Program.bytesOf Go.Proofs.Try.prog 123 ≤ 1024 := by rw [bytes_123]; decide
theorem info_123 : ∃ i, (Go.Proofs.Try.prog : Program).info? 123 = some i := aggO_info agg_123
@[simp] theorem zv_123 : zvO Go.Proofs.Try.prog 123 = some (.nilFunc) := by kernel_rfl
@[simp] theorem zero_123 : zeroO Go.Proofs.Try.prog 123 = some ([.sc .nilFunc]) := by kernel_rfl
@[simp] theorem agg_124 : aggO Go.Proofs.Try.prog 124 = some false := by kernel_rfl
@[simp] theorem cells_124 : Program.cellsOf Go.Proofs.Try.prog 124 = 1 := by kernel_rfl
@[simp] theorem bytes_124 : Program.bytesOf Go.Proofs.Try.prog 124 = 8 := by kernel_rfl
theorem bytes1_124 : Program.bytesOf Go.Proofs.Try.prog 124 ≤ 1024 := by rw [bytes_124]; decide
theorem info_124 : ∃ i, (Go.Proofs.Try.prog : Program).info? 124 = some i := aggO_info agg_124
@[simp] theorem zv_124 : zvO Go.Proofs.Try.prog 124 = some (.nilFunc) := by kernel_rfl
@[simp] theorem zero_124 : zeroO Go.Proofs.Try.prog 124 = some ([.sc .nilFunc]) := by kernel_rfl
@[simp] theorem agg_125 : aggO Go.Proofs.Try.prog 125 = some false := by kernel_rfl
@[simp] theorem cells_125 : Program.cellsOf Go.Proofs.Try.prog 125 = 1 := by kernel_rfl
@[simp] theorem bytes_125 : Program.bytesOf Go.Proofs.Try.prog 125 = 8 := by kernel_rfl
theorem bytes1_125 : Program.bytesOf Go.Proofs.Try.prog 125 ≤ 1024 := by rw [bytes_125]; decide
theorem info_125 : ∃ i, (Go.Proofs.Try.prog : Program).info? 125 = some i := aggO_info agg_125
@[simp] theorem zv_125 : zvO Go.Proofs.Try.prog 125 = some (.nilFunc) := by kernel_rfl
@[simp] theorem zero_125 : zeroO Go.Proofs.Try.prog 125 = some ([.sc .nilFunc]) := by kernel_rfl
@[simp] theorem agg_126 : aggO Go.Proofs.Try.prog 126 = some false := by kernel_rfl
@[simp] theorem cells_126 : Program.cellsOf Go.Proofs.Try.prog 126 = 1 := by kernel_rfl
@[simp] theorem bytes_126 : Program.bytesOf Go.Proofs.Try.prog 126 = 8 := by kernel_rfl
theorem bytes1_126 : Program.bytesOf Go.Proofs.Try.prog 126 ≤ 1024 := by rw [bytes_126]; decide
theorem info_126 : ∃ i, (Go.Proofs.Try.prog : Program).info? 126 = some i := aggO_info agg_126
@[simp] theorem zv_126 : zvO Go.Proofs.Try.prog 126 = some (.nilFunc) := by kernel_rfl
@[simp] theorem zero_126 : zeroO Go.Proofs.Try.prog 126 = some ([.sc .nilFunc]) := by kernel_rfl
@[simp] theorem agg_127 : aggO Go.Proofs.Try.prog 127 = some false := by kernel_rfl
@[simp] theorem cells_127 : Program.cellsOf Go.Proofs.Try.prog 127 = 1 := by kernel_rfl
@[simp] theorem bytes_127 : Program.bytesOf Go.Proofs.Try.prog 127 = 8 := by kernel_rfl
theorem bytes1_127 : Program.bytesOf Go.Proofs.Try.prog 127 ≤ 1024 := by rw [bytes_127]; decide
theorem info_127 : ∃ i, (Go.Proofs.Try.prog : Program).info? 127 = some i := aggO_info agg_127
@[simp] theorem zv_127 : zvO Go.Proofs.Try.prog 127 = some (.nilFunc) := by kernel_rfl
@[simp] theorem zero_127 : zeroO Go.Proofs.Try.prog 127 = some ([.sc .nilFunc]) := by kernel_rfl
@[simp] theorem agg_128 : aggO Go.Proofs.Try.prog 128 = some false := by kernel_rfl
@[simp] theorem cells_128 : Program.cellsOf Go.Proofs.Try.prog 128 = 1 := by kernel_rfl
@[simp] theorem bytes_128 : Program.bytesOf Go.Proofs.Try.prog 128 = 8 := by kernel_rfl
theorem bytes1_128 : Program.bytesOf Go.Proofs.Try.prog 128 ≤ 1024 := by rw [bytes_128]; decide
theorem info_128 : ∃ i, (Go.Proofs.Try.prog : Program).info? 128 = some i := aggO_info agg_128
@[simp] theorem zv_128 : zvO Go.Proofs.Try.prog 128 = some (.nilFunc) := by kernel_rfl
@[simp] theorem zero_128 : zeroO Go.Proofs.Try.prog 128 = some ([.sc .nilFunc]) := by kernel_rfl
@[simp] theorem agg_129 : aggO Go.Proofs.Try.prog 129 = some false := by kernel_rfl
@[simp] theorem cells_129 : Program.cellsOf Go.Proofs.Try.prog 129 = 1 := by kernel_rfl
@[simp] theorem bytes_129 : Program.bytesOf Go.Proofs.Try.prog 129 = 8 := by kernel_rfl
theorem bytes1_129 : Program.bytesOf Go.Proofs.Try.prog 129 ≤ 1024 := by rw [bytes_129]; decide
theorem info_129 : ∃ i, (Go.Proofs.Try.prog : Program).info? 129 = some i := aggO_info agg_129
@[simp] theorem zv_129 : zvO Go.Proofs.Try.prog 129 = some (.nilFunc) := by kernel_rfl
@[simp] theorem zero_129 : zeroO Go.Proofs.Try.prog 129 = some ([.sc .nilFunc]) := by kernel_rfl
@[simp] theorem agg_130 : aggO Go.Proofs.Try.prog 130 = some true := by kernel_rfl
@[simp] theorem cells_130 : Program.cellsOf Go.Proofs.Try.prog 130 = 16 := by kernel_rfl
@[simp] theorem arr_130 : arrO Go.Proofs.Try.prog 130 = some (16, 3) := by kernel_rfl
@[simp] theorem bytes_130 : Program.bytesOf Go.Proofs.Try.prog 130 = 128 := by kernel_rfl
theorem bytes1_130 : Program.bytesOf Go.Proofs.Try.prog 130 ≤ 1024 := by rw [bytes_130]; decide
theorem info_130 : ∃ i, (Go.Proofs.Try.prog : Program).info? 130 = some i := aggO_info agg_130
@[simp] theorem zero_130 : zeroO Go.Proofs.Try.prog 130 = some (List.replicate 16 (.sc (.int .i64 (0)))) := by kernel_rfl
@[simp] theorem agg_131 : aggO Go.Proofs.Try.prog 131 = some false := by kernel_rfl
@[simp] theorem cells_131 : Program.cellsOf Go.Proofs.Try.prog 131 = 1 := by kernel_rfl
@[simp] theorem bytes_131 : Program.bytesOf Go.Proofs.Try.prog 131 = 8 := by kernel_rfl
theorem bytes1_131 : Program.bytesOf Go.Proofs.Try.prog 131 ≤ 1024 := by rw [bytes_131]; decide
theorem info_131 : ∃ i, (Go.Proofs.Try.prog : Program).info? 131 = some i := aggO_info agg_131
@[simp] theorem zv_131 : zvO Go.Proofs.Try.prog 131 = some (.nilFunc) := by kernel_rfl
@[simp] theorem zero_131 : zeroO Go.Proofs.Try.prog 131 = some ([.sc .nilFunc]) := by kernel_rfl
@[simp] theorem agg_132 : aggO Go.Proofs.Try.prog 132 = some false := by kernel_rfl
@[simp] theorem cells_132 : Program.cellsOf Go.Proofs.Try.prog 132 = 1 := by kernel_rfl
@[simp] theorem bytes_132 : Program.bytesOf Go.Proofs.Try.prog 132 = 8 := by kernel_rfl
theorem bytes1_132 : Program.bytesOf Go.Proofs.Try.prog 132 ≤ 1024 := by rw [bytes_132]; decide
theorem info_132 : ∃ i, (Go.Proofs.Try.prog : Program).info? 132 = some i := aggO_info agg_132
@[simp] theorem zv_132 : zvO Go.Proofs.Try.prog 132 = some (.nilFunc) := by kernel_rfl
@[simp] theorem zero_132 : zeroO Go.Proofs.Try.prog 132 = some ([.sc .nilFunc]) := by kernel_rfl
@[simp] theorem agg_133 : aggO Go.Proofs.Try.prog 133 = some false := by kernel_rfl
@[simp] theorem cells_133 : Program.cellsOf Go.Proofs.Try.prog 133 = 1 := by kernel_rfl
@[simp] theorem bytes_133 : Program.bytesOf Go.Proofs.Try.prog 133 = 8 := by kernel_rfl
theorem bytes1_133 : Program.bytesOf Go.Proofs.Try.prog 133 ≤ 1024 := by rw [bytes_133]; decide
theorem info_133 : ∃ i, (Go.Proofs.Try.prog : Program).info? 133 = some i := aggO_info agg_133
@[simp] theorem zv_133 : zvO Go.Proofs.Try.prog 133 = some (.nilFunc) := by kernel_rfl
@[simp] theorem zero_133 : zeroO Go.Proofs.Try.prog 133 = some ([.sc .nilFunc]) := by kernel_rfl
@[simp] theorem agg_134 : aggO Go.Proofs.Try.prog 134 = some false := by kernel_rfl
@[simp] theorem cells_134 : Program.cellsOf Go.Proofs.Try.prog 134 = 1 := by kernel_rfl
@[simp] theorem bytes_134 : Program.bytesOf Go.Proofs.Try.prog 134 = 8 := by kernel_rfl
theorem bytes1_134 : Program.bytesOf Go.Proofs.Try.prog 134 ≤ 1024 := by rw [bytes_134]; decide
theorem info_134 : ∃ i, (Go.Proofs.Try.prog : Program).info? 134 = some i := aggO_info agg_134
@[simp] theorem zv_134 : zvO Go.Proofs.Try.prog 134 = some (.nilFunc) := by kernel_rfl
@[simp] theorem zero_134 : zeroO Go.Proofs.Try.prog 134 = some ([.sc .nilFunc]) := by kernel_rfl
@[simp] theorem agg_135 : aggO Go.Proofs.Try.prog 135 = some true := by kernel_rfl
@[simp] theorem cells_135 : Program.cellsOf Go.Proofs.Try.prog 135 = 6 := by kernel_rfl
@[simp] theorem fld_135_0 : fldO Go.Proofs.Try.prog 135 0 = some (0, 25) := by kernel_rfl
@[simp] theorem fld_135_1 : fldO Go.Proofs.Try.prog 135 1 = some (5, 26) := by kernel_rfl
@[simp] theorem places_135 : placesO Go.Proofs.Try.prog 135 = some [(0, 5), (5, 1)] := by kernel_rfl
@[simp] theorem bytes_135 : Program.bytesOf Go.Proofs.Try.prog 135 = 96 := by kernel_rfl
theorem bytes1_135 : Program.bytesOf Go.Proofs.Try.prog 135 ≤ 1024 := by rw [bytes_135]; decide
theorem info_135 : ∃ i, (Go.Proofs.Try.prog : Program).info? 135 = some i := aggO_info agg_135
@[simp] theorem zero_135 : zeroO Go.Proofs.Try.prog 135 = some ([.sc (.int .i64 (0)), .sc (.int .i64 (0)), .sc (.int .i64 (0)), .sc (.slice none 0 0), .sc (.slice none 0 0), .sc (.slice none 0 0)]) := by kernel_rfl
@[simp] theorem agg_136 : aggO Go.Proofs.Try.prog 136 = some true := by kernel_rfl
@[simp] theorem cells_136 : Program.cellsOf Go.Proofs.Try.prog 136 = 6 := by kernel_rfl
@[simp] theorem fld_136_0 : fldO Go.Proofs.Try.prog 136 0 = some (0, 25) := by kernel_rfl
@[simp] theorem fld_136_1 : fldO Go.Proofs.Try.prog 136 1 = some (5, 26) := by kernel_rfl
@[simp] theorem places_136 : placesO Go.Proofs.Try.prog 136 = some [(0, 5), (5, 1)] := by kernel_rfl
@[simp] theorem bytes_136 : Program.bytesOf Go.Proofs.Try.prog 136 = 96 := by kernel_rfl
theorem bytes1_136 : Program.bytesOf Go.Proofs.Try.prog 136 ≤ 1024 := by rw [bytes_136]; decide
theorem info_136 : ∃ i, (Go.Proofs.Try.prog : Program).info? 136 = some i := aggO_info agg_136
@[simp] theorem zero_136 : zeroO Go.Proofs.Try.prog 136 = some ([.sc (.int .i64 (0)), .sc (.int .i64 (0)), .sc (.int .i64 (0)), .sc (.slice none 0 0), .sc (.slice none 0 0), .sc (.slice none 0 0)]) := by kernel_rfl
@[simp] theorem agg_137 : aggO Go.Proofs.Try.prog 137 = some false := by kernel_rfl
@[simp] theorem cells_137 : Program.cellsOf Go.Proofs.Try.prog 137 = 1 := by kernel_rfl
@[simp] theorem int_137 : intO Go.Proofs.Try.prog 137 = some .u64 := by kernel_rfl
@[simp] theorem unds_137 : (Program.underlying Go.Proofs.Try.prog 137).isSome = true := by kernel_rfl
@[simp] theorem bytes_137 : Program.bytesOf Go.Proofs.Try.prog 137 = 8 := by kernel_rfl
theorem bytes1_137 : Program.bytesOf Go.Proofs.Try.prog 137 ≤ 1024 := by rw [bytes_137]; decide
theorem info_137 : ∃ i, (Go.Proofs.Try.prog : Program).info? 137 = some i := aggO_info agg_137
@[simp] theorem zv_137 : zvO Go.Proofs.Try.prog 137 = some ((.int .u64 (0))) := by kernel_rfl
@[simp] theorem zero_137 : zeroO Go.Proofs.Try.prog 137 = some ([.sc (.int .u64 (0))]) := by kernel_rfl
@[simp] theorem agg_138 : aggO Go.Proofs.Try.prog 138 = some false := by kernel_rfl
@[simp] theorem cells_138 : Program.cellsOf Go.Proofs.Try.prog 138 = 1 := by kernel_rfl
@[simp] theorem bytes_138 : Program.bytesOf Go.Proofs.Try.prog 138 = 8 := by kernel_rfl
theorem bytes1_138 : Program.bytesOf Go.Proofs.Try.prog 138 ≤ 1024 := by rw [bytes_138]; decide
theorem info_138 : ∃ i, (Go.Proofs.Try.prog : Program).info? 138 = some i := aggO_info agg_138
@[simp] theorem zv_138 : zvO Go.Proofs.Try.prog 138 = some (.nilFunc) := by kernel_rfl
@[simp] theorem zero_138 : zeroO Go.Proofs.Try.prog 138 = some ([.sc .nilFunc]) := by kernel_rfl
@[simp] theorem agg_139 : aggO Go.Proofs.Try.prog 139 = some false := by kernel_rfl
@[simp] theorem cells_139 : Program.cellsOf Go.Proofs.Try.prog 139 = 1 := by kernel_rfl
@[simp] theorem bytes_139 : Program.bytesOf Go.Proofs.Try.prog 139 = 8 := by kernel_rfl
theorem bytes1_139 : Program.bytesOf Go.Proofs.Try.prog 139 ≤ 1024 := by rw [bytes_139]; decide
theorem info_139 : ∃ i, (Go.Proofs.Try.prog : Program).info? 139 = some i := aggO_info agg_139
@[simp] theorem zv_139 : zvO Go.Proofs.Try.prog 139 = some (.nilFunc) := by kernel_rfl
@[simp] theorem zero_139 : zeroO Go.Proofs.Try.prog 139 = some ([.sc .nilFunc]) := by kernel_rfl
@[simp] theorem agg_140 : aggO Go.Proofs.Try.prog 140 = some false := by kernel_rfl
@[simp] theorem cells_140 : Program.cellsOf Go.Proofs.Try.prog 140 = 1 := by kernel_rfl
@[simp] theorem int_140 : intO Go.Proofs.Try.prog 140 = some .u64 := by kernel_rfl
@[simp] theorem unds_140 : (Program.underlying Go.Proofs.Try.prog 140).isSome = true := by kernel_rfl
@[simp] theorem bytes_140 : Program.bytesOf Go.Proofs.Try.prog 140 = 8 := by kernel_rfl
theorem bytes1_140 : Program.bytesOf Go.Proofs.Try.prog 140 ≤ 1024 := by rw [bytes_140]; decide
theorem info_140 : ∃ i, (Go.Proofs.Try.prog : Program).info? 140 = some i := aggO_info agg_140
@[simp] theorem zv_140 : zvO Go.Proofs.Try.prog 140 = some ((.int .u64 (0))) := by kernel_rfl
@[simp] theorem zero_140 : zeroO Go.Proofs.Try.prog 140 = some ([.sc (.int .u64 (0))]) := by kernel_rfl
@[simp] theorem agg_141 : aggO Go.Proofs.Try.prog 141 = some false := by kernel_rfl
@[simp] theorem cells_141 : Program.cellsOf Go.Proofs.Try.prog 141 = 1 := by kernel_rfl
@[simp] theorem bytes_141 : Program.bytesOf Go.Proofs.Try.prog 141 = 8 := by kernel_rfl
theorem bytes1_141 : Program.bytesOf Go.Proofs.Try.prog 141 ≤ 1024 := by rw [bytes_141]; decide
theorem info_141 : ∃ i, (Go.Proofs.Try.prog : Program).info? 141 = some i := aggO_info agg_141
@[simp] theorem zv_141 : zvO Go.Proofs.Try.prog 141 = some (.nilFunc) := by kernel_rfl
@[simp] theorem zero_141 : zeroO Go.Proofs.Try.prog 141 = some ([.sc .nilFunc]) := by kernel_rfl
@[simp] theorem agg_142 : aggO Go.Proofs.Try.prog 142 = some false := by kernel_rfl
@[simp] theorem cells_142 : Program.cellsOf Go.Proofs.Try.prog 142 = 1 := by kernel_rfl
@[simp] theorem bytes_142 : Program.bytesOf Go.Proofs.Try.prog 142 = 8 := by kernel_rfl
theorem bytes1_142 : Program.bytesOf Go.Proofs.Try.prog 142 ≤ 1024 := by rw [bytes_142]; decide
theorem info_142 : ∃ i, (Go.Proofs.Try.prog : Program).info? 142 = some i := aggO_info agg_142
@[simp] theorem zv_142 : zvO Go.Proofs.Try.prog 142 = some (.nilFunc) := by kernel_rfl
@[simp] theorem zero_142 : zeroO Go.Proofs.Try.prog 142 = some ([.sc .nilFunc]) := by kernel_rfl
@[simp] theorem agg_143 : aggO Go.Proofs.Try.prog 143 = some false := by kernel_rfl
@[simp] theorem cells_143 : Program.cellsOf Go.Proofs.Try.prog 143 = 1 := by kernel_rfl
@[simp] theorem bytes_143 : Program.bytesOf Go.Proofs.Try.prog 143 = 8 := by kernel_rfl
theorem bytes1_143 : Program.bytesOf Go.Proofs.Try.prog 143 ≤ 1024 := by rw [bytes_143]; decide
theorem info_143 : ∃ i, (Go.Proofs.Try.prog : Program).info? 143 = some i := aggO_info agg_143
@[simp] theorem zv_143 : zvO Go.Proofs.Try.prog 143 = some (.nilFunc) := by kernel_rfl
@[simp] theorem zero_143 : zeroO Go.Proofs.Try.prog 143 = some ([.sc .nilFunc]) := by kernel_rfl
@[simp] theorem agg_144 : aggO Go.Proofs.Try.prog 144 = some false := by kernel_rfl
@[simp] theorem cells_144 : Program.cellsOf Go.Proofs.Try.prog 144 = 1 := by kernel_rfl
@[simp] theorem bytes_144 : Program.bytesOf Go.Proofs.Try.prog 144 = 8 := by kernel_rfl
theorem bytes1_144 : Program.bytesOf Go.Proofs.Try.prog 144 ≤ 1024 := by rw [bytes_144]; decide
theorem info_144 : ∃ i, (Go.Proofs.Try.prog : Program).info? 144 = some i := aggO_info agg_144
@[simp] theorem zv_144 : zvO Go.Proofs.Try.prog 144 = some (.nilFunc) := by kernel_rfl
@[simp] theorem zero_144 : zeroO Go.Proofs.Try.prog 144 = some ([.sc .nilFunc]) := by kernel_rfl
@[simp] theorem agg_145 : aggO Go.Proofs.Try.prog 145 = some false := by kernel_rfl
@[simp] theorem cells_145 : Program.cellsOf Go.Proofs.Try.prog 145 = 1 := by kernel_rfl
@[simp] theorem bytes_145 : Program.bytesOf Go.Proofs.Try.prog 145 = 8 := by kernel_rfl
theorem bytes1_145 : Program.bytesOf Go.Proofs.Try.prog 145 ≤ 1024 := by rw [bytes_145]; decide
theorem info_145 : ∃ i, (Go.Proofs.Try.prog : Program).info? 145 = some i := aggO_info agg_145
@[simp] theorem zv_145 : zvO Go.Proofs.Try.prog 145 = some (.nilFunc) := by kernel_rfl
@[simp] theorem zero_145 : zeroO Go.Proofs.Try.prog 145 = some ([.sc .nilFunc]) := by kernel_rfl
@[simp] theorem agg_146 : aggO Go.Proofs.Try.prog 146 = some false := by kernel_rfl
@[simp] theorem cells_146 : Program.cellsOf Go.Proofs.Try.prog 146 = 1 := by kernel_rfl
@[simp] theorem bytes_146 : Program.bytesOf Go.Proofs.Try.prog 146 = 8 := by kernel_rfl
theorem bytes1_146 : Program.bytesOf Go.Proofs.Try.prog 146 ≤ 1024 := by rw [bytes_146]; decide
theorem info_146 : ∃ i, (Go.Proofs.Try.prog : Program).info? 146 = some i := aggO_info agg_146
@[simp] theorem zv_146 : zvO Go.Proofs.Try.prog 146 = some (.nilFunc) := by kernel_rfl
@[simp] theorem zero_146 : zeroO Go.Proofs.Try.prog 146 = some ([.sc .nilFunc]) := by kernel_rfl
@[simp] theorem agg_147 : aggO Go.Proofs.Try.prog 147 = some false := by kernel_rfl
@[simp] theorem cells_147 : Program.cellsOf Go.Proofs.Try.prog 147 = 1 := by kernel_rfl
@[simp] theorem bytes_147 : Program.bytesOf Go.Proofs.Try.prog 147 = 8 := by kernel_rfl
theorem bytes1_147 : Program.bytesOf Go.Proofs.Try.prog 147 ≤ 1024 := by rw [bytes_147]; decide
theorem info_147 : ∃ i, (Go.Proofs.Try.prog : Program).info? 147 = some i := aggO_info agg_147
@[simp] theorem zv_147 : zvO Go.Proofs.Try.prog 147 = some (.nilFunc) := by kernel_rfl
@[simp] theorem zero_147 : zeroO Go.Proofs.Try.prog 147 = some ([.sc .nilFunc]) := by kernel_rfl
@[simp] theorem agg_148 : aggO Go.Proofs.Try.prog 148 = some false := by kernel_rfl
@[simp] theorem cells_148 : Program.cellsOf Go.Proofs.Try.prog 148 = 1 := by kernel_rfl
@[simp] theorem bytes_148 : Program.bytesOf Go.Proofs.Try.prog 148 = 8 := by kernel_rfl
theorem bytes1_148 : Program.bytesOf Go.Proofs.Try.prog 148 ≤ 1024 := by rw [bytes_148]; decide
theorem info_148 : ∃ i, (Go.Proofs.Try.prog : Program).info? 148 = some i := aggO_info agg_148
@[simp] theorem zv_148 : zvO Go.Proofs.Try.prog 148 = some (.nilFunc) := by kernel_rfl
@[simp] theorem zero_148 : zeroO Go.Proofs.Try.prog 148 = some ([.sc .nilFunc]) := by kernel_rfl
@[simp] theorem agg_149 : aggO Go.Proofs.Try.prog 149 = some false := by kernel_rfl
@[simp] theorem cells_149 : Program.cellsOf Go.Proofs.Try.prog 149 = 1 := by kernel_rfl
@[simp] theorem bytes_149 : Program.bytesOf Go.Proofs.Try.prog 149 = 8 := by kernel_rfl
theorem bytes1_149 : Program.bytesOf Go.Proofs.Try.prog 149 ≤ 1024 := by rw [bytes_149]; decide
theorem info_149 : ∃ i, (Go.Proofs.Try.prog : Program).info? 149 = some i := aggO_info agg_149
@[simp] theorem zv_149 : zvO Go.Proofs.Try.prog 149 = some (.nilFunc) := by kernel_rfl
@[simp] theorem zero_149 : zeroO Go.Proofs.Try.prog 149 = some ([.sc .nilFunc]) := by kernel_rfl
@[simp] theorem agg_150 : aggO Go.Proofs.Try.prog 150 = some false := by kernel_rfl
@[simp] theorem cells_150 : Program.cellsOf Go.Proofs.Try.prog 150 = 1 := by kernel_rfl
@[simp] theorem bytes_150 : Program.bytesOf Go.Proofs.Try.prog 150 = 8 := by kernel_rfl
theorem bytes1_150 : Program.bytesOf Go.Proofs.Try.prog 150 ≤ 1024 := by rw [bytes_150]; decide
theorem info_150 : ∃ i, (Go.Proofs.Try.prog : Program).info? 150 = some i := aggO_info agg_150
@[simp] theorem zv_150 : zvO Go.Proofs.Try.prog 150 = some (.nilFunc) := by kernel_rfl
@[simp] theorem zero_150 : zeroO Go.Proofs.Try.prog 150 = some ([.sc .nilFunc]) := by kernel_rfl
@[simp] theorem agg_151 : aggO Go.Proofs.Try.prog 151 = some false := by kernel_rfl
@[simp] theorem cells_151 : Program.cellsOf Go.Proofs.Try.prog 151 = 1 := by kernel_rfl
@[simp] theorem bytes_151 : Program.bytesOf Go.Proofs.Try.prog 151 = 8 := by kernel_rfl
theorem bytes1_151 : Program.bytesOf Go.Proofs.Try.prog 151 ≤ 1024 := by rw [bytes_151]; decide
theorem info_151 : ∃ i, (Go.Proofs.Try.prog : Program).info? 151 = some i := aggO_info agg_151
@[simp] theorem zv_151 : zvO Go.Proofs.Try.prog 151 = some (.nilFunc) := by kernel_rfl
@[simp] theorem zero_151 : zeroO Go.Proofs.Try.prog 151 = some ([.sc .nilFunc]) := by kernel_rfl
@[simp] theorem agg_152 : aggO Go.Proofs.Try.prog 152 = some false := by kernel_rfl
@[simp] theorem cells_152 : Program.cellsOf Go.Proofs.Try.prog 152 = 1 := by kernel_rfl
@[simp] theorem bytes_152 : Program.bytesOf Go.Proofs.Try.prog 152 = 8 := by kernel_rfl
theorem bytes1_152 : Program.bytesOf Go.Proofs.Try.prog 152 ≤ 1024 := by rw [bytes_152]; decide
theorem info_152 : ∃ i, (Go.Proofs.Try.prog : Program).info? 152 = some i := aggO_info agg_152
@[simp] theorem zv_152 : zvO Go.Proofs.Try.prog 152 = some (.nilFunc) := by kernel_rfl
@[simp] theorem zero_152 : zeroO Go.Proofs.Try.prog 152 = some ([.sc .nilFunc]) := by kernel_rfl
@[simp] theorem agg_153 : aggO Go.Proofs.Try.prog 153 = some false := by kernel_rfl
@[simp] theorem cells_153 : Program.cellsOf Go.Proofs.Try.prog 153 = 1 := by kernel_rfl
@[simp] theorem bytes_153 : Program.bytesOf Go.Proofs.Try.prog 153 = 8 := by kernel_rfl
theorem bytes1_153 : Program.bytesOf Go.Proofs.Try.prog 153 ≤ 1024 := by rw [bytes_153]; decide
theorem info_153 : ∃ i, (Go.Proofs.Try.prog : Program).info? 153 = some i := aggO_info agg_153
@[simp] theorem zv_153 : zvO Go.Proofs.Try.prog 153 = some (.nilFunc) := by kernel_rfl
@[simp] theorem zero_153 : zeroO Go.Proofs.Try.prog 153 = some ([.sc .nilFunc]) := by kernel_rfl
@[simp] theorem agg_154 : aggO Go.Proofs.Try.prog 154 = some false := by kernel_rfl
@[simp] theorem cells_154 : Program.cellsOf Go.Proofs.Try.prog 154 = 1 := by kernel_rfl
@[simp] theorem bytes_154 : Program.bytesOf Go.Proofs.Try.prog 154 = 8 := by kernel_rfl
theorem bytes1_154 : Program.bytesOf Go.Proofs.Try.prog 154 ≤ 1024 := by rw [bytes_154]; decide
theorem info_154 : ∃ i, (Go.Proofs.Try.prog : Program).info? 154 = some i := aggO_info agg_154
@[simp] theorem zv_154 : zvO Go.Proofs.Try.prog 154 = some (.nilFunc) := by kernel_rfl
@[simp] theorem zero_154 : zeroO Go.Proofs.Try.prog 154 = some ([.sc .nilFunc]) := by kernel_rfl
@[simp] theorem agg_155 : aggO Go.Proofs.Try.prog 155 = some false := by kernel_rfl
@[simp] theorem cells_155 : Program.cellsOf Go.Proofs.Try.prog 155 = 1 := by kernel_rfl
@[simp] theorem bytes_155 : Program.bytesOf Go.Proofs.Try.prog 155 = 8 := by kernel_rfl
theorem bytes1_155 : Program.bytesOf Go.Proofs.Try.prog 155 ≤ 1024 := by rw [bytes_155]; decide
theorem info_155 : ∃ i, (Go.Proofs.Try.prog : Program).info? 155 = some i := aggO_info agg_155
@[simp] theorem zv_155 : zvO Go.Proofs.Try.prog 155 = some (.nilFunc) := by kernel_rfl
@[simp] theorem zero_155 : zeroO Go.Proofs.Try.prog 155 = some ([.sc .nilFunc]) := by kernel_rfl
@[simp] theorem agg_156 : aggO Go.Proofs.Try.prog 156 = some false := by kernel_rfl
@[simp] theorem cells_156 : Program.cellsOf Go.Proofs.Try.prog 156 = 1 := by kernel_rfl
@[simp] theorem bytes_156 : Program.bytesOf Go.Proofs.Try.prog 156 = 8 := by kernel_rfl
theorem bytes1_156 : Program.bytesOf Go.Proofs.Try.prog 156 ≤ 1024 := by rw [bytes_156]; decide
theorem info_156 : ∃ i, (Go.Proofs.Try.prog : Program).info? 156 = some i := aggO_info agg_156
@[simp] theorem zv_156 : zvO Go.Proofs.Try.prog 156 = some (.nilFunc) := by kernel_rfl
@[simp] theorem zero_156 : zeroO Go.Proofs.Try.prog 156 = some ([.sc .nilFunc]) := by kernel_rfl
@[simp] theorem agg_157 : aggO Go.Proofs.Try.prog 157 = some false := by kernel_rfl
@[simp] theorem cells_157 : Program.cellsOf Go.Proofs.Try.prog 157 = 1 := by kernel_rfl
@[simp] theorem bytes_157 : Program.bytesOf Go.Proofs.Try.prog 157 = 8 := by kernel_rfl
theorem bytes1_157 : Program.bytesOf Go.Proofs.Try.prog 157 ≤ 1024 := by rw [bytes_157]; decide
theorem info_157 : ∃ i, (Go.Proofs.Try.prog : Program).info? 157 = some i := aggO_info agg_157
@[simp] theorem zv_157 : zvO Go.Proofs.Try.prog 157 = some (.nilFunc) := by kernel_rfl
@[simp] theorem zero_157 : zeroO Go.Proofs.Try.prog 157 = some ([.sc .nilFunc]) := by kernel_rfl
@[simp] theorem agg_158 : aggO Go.Proofs.Try.prog 158 = some true := by kernel_rfl
@[simp] theorem cells_158 : Program.cellsOf Go.Proofs.Try.prog 158 = 4 := by kernel_rfl
@[simp] theorem fld_158_0 : fldO Go.Proofs.Try.prog 158 0 = some (0, 17) := by kernel_rfl
@[simp] theorem fld_158_1 : fldO Go.Proofs.Try.prog 158 1 = some (1, 17) := by kernel_rfl
@[simp] theorem fld_158_2 : fldO Go.Proofs.Try.prog 158 2 = some (2, 17) := by kernel_rfl
@[simp] theorem fld_158_3 : fldO Go.Proofs.Try.prog 158 3 = some (3, 9) := by kernel_rfl
@[simp] theorem places_158 : placesO Go.Proofs.Try.prog 158 = some [(0, 1), (1, 1), (2, 1), (3, 1)] := by kernel_rfl
@[simp] theorem bytes_158 : Program.bytesOf Go.Proofs.Try.prog 158 = 40 := by kernel_rfl
theorem bytes1_158 : Program.bytesOf Go.Proofs.Try.prog 158 ≤ 1024 := by rw [bytes_158]; decide
theorem info_158 : ∃ i, (Go.Proofs.Try.prog : Program).info? 158 = some i := aggO_info agg_158
@[simp] theorem zero_158 : zeroO Go.Proofs.Try.prog 158 = some ([.sc (.pointer none), .sc (.pointer none), .sc (.pointer none), .sc (.string ⟨#[]⟩)]) := by kernel_rfl
@[simp] theorem agg_159 : aggO Go.Proofs.Try.prog 159 = some true := by kernel_rfl
@[simp] theorem cells_159 : Program.cellsOf Go.Proofs.Try.prog 159 = 4 := by kernel_rfl
@[simp] theorem fld_159_0 : fldO Go.Proofs.Try.prog 159 0 = some (0, 17) := by kernel_rfl
@[simp] theorem fld_159_1 : fldO Go.Proofs.Try.prog 159 1 = some (1, 17) := by kernel_rfl
@[simp] theorem fld_159_2 : fldO Go.Proofs.Try.prog 159 2 = some (2, 17) := by kernel_rfl
@[simp] theorem fld_159_3 : fldO Go.Proofs.Try.prog 159 3 = some (3, 9) := by kernel_rfl
@[simp] theorem places_159 : placesO Go.Proofs.Try.prog 159 = some [(0, 1), (1, 1), (2, 1), (3, 1)] := by kernel_rfl
@[simp] theorem bytes_159 : Program.bytesOf Go.Proofs.Try.prog 159 = 40 := by kernel_rfl
theorem bytes1_159 : Program.bytesOf Go.Proofs.Try.prog 159 ≤ 1024 := by rw [bytes_159]; decide
theorem info_159 : ∃ i, (Go.Proofs.Try.prog : Program).info? 159 = some i := aggO_info agg_159
@[simp] theorem zero_159 : zeroO Go.Proofs.Try.prog 159 = some ([.sc (.pointer none), .sc (.pointer none), .sc (.pointer none), .sc (.string ⟨#[]⟩)]) := by kernel_rfl
@[simp] theorem agg_160 : aggO Go.Proofs.Try.prog 160 = some true := by kernel_rfl
@[simp] theorem cells_160 : Program.cellsOf Go.Proofs.Try.prog 160 = 0 := by kernel_rfl
@[simp] theorem arr_160 : arrO Go.Proofs.Try.prog 160 = some (0, 16) := by kernel_rfl
@[simp] theorem bytes_160 : Program.bytesOf Go.Proofs.Try.prog 160 = 0 := by kernel_rfl
theorem bytes1_160 : Program.bytesOf Go.Proofs.Try.prog 160 ≤ 1024 := by rw [bytes_160]; decide
theorem info_160 : ∃ i, (Go.Proofs.Try.prog : Program).info? 160 = some i := aggO_info agg_160
@[simp] theorem zero_160 : zeroO Go.Proofs.Try.prog 160 = some ([]) := by kernel_rfl
@[simp] theorem agg_161 : aggO Go.Proofs.Try.prog 161 = some true := by kernel_rfl
@[simp] theorem cells_161 : Program.cellsOf Go.Proofs.Try.prog 161 = 0 := by kernel_rfl
@[simp] theorem places_161 : placesO Go.Proofs.Try.prog 161 = some [(0, 0)] := by kernel_rfl
@[simp] theorem bytes_161 : Program.bytesOf Go.Proofs.Try.prog 161 = 0 := by kernel_rfl
theorem bytes1_161 : Program.bytesOf Go.Proofs.Try.prog 161 ≤ 1024 := by rw [bytes_161]; decide
theorem info_161 : ∃ i, (Go.Proofs.Try.prog : Program).info? 161 = some i := aggO_info agg_161
@[simp] theorem zero_161 : zeroO Go.Proofs.Try.prog 161 = some ([]) := by kernel_rfl
@[simp] theorem agg_162 : aggO Go.Proofs.Try.prog 162 = some true := by kernel_rfl
@[simp] theorem cells_162 : Program.cellsOf Go.Proofs.Try.prog 162 = 0 := by kernel_rfl
@[simp] theorem places_162 : placesO Go.Proofs.Try.prog 162 = some [(0, 0)] := by kernel_rfl
@[simp] theorem bytes_162 : Program.bytesOf Go.Proofs.Try.prog 162 = 0 := by kernel_rfl
theorem bytes1_162 : Program.bytesOf Go.Proofs.Try.prog 162 ≤ 1024 := by rw [bytes_162]; decide
theorem info_162 : ∃ i, (Go.Proofs.Try.prog : Program).info? 162 = some i := aggO_info agg_162
@[simp] theorem zero_162 : zeroO Go.Proofs.Try.prog 162 = some ([]) := by kernel_rfl
@[simp] theorem agg_163 : aggO Go.Proofs.Try.prog 163 = some false := by kernel_rfl
@[simp] theorem cells_163 : Program.cellsOf Go.Proofs.Try.prog 163 = 1 := by kernel_rfl
@[simp] theorem bytes_163 : Program.bytesOf Go.Proofs.Try.prog 163 = 8 := by kernel_rfl
theorem bytes1_163 : Program.bytesOf Go.Proofs.Try.prog 163 ≤ 1024 := by rw [bytes_163]; decide
theorem info_163 : ∃ i, (Go.Proofs.Try.prog : Program).info? 163 = some i := aggO_info agg_163
@[simp] theorem zv_163 : zvO Go.Proofs.Try.prog 163 = some (.nilFunc) := by kernel_rfl
@[simp] theorem zero_163 : zeroO Go.Proofs.Try.prog 163 = some ([.sc .nilFunc]) := by kernel_rfl
@[simp] theorem agg_164 : aggO Go.Proofs.Try.prog 164 = some false := by kernel_rfl
@[simp] theorem cells_164 : Program.cellsOf Go.Proofs.Try.prog 164 = 1 := by kernel_rfl
@[simp] theorem int_164 : intO Go.Proofs.Try.prog 164 = some .u32 := by kernel_rfl
@[simp] theorem unds_164 : (Program.underlying Go.Proofs.Try.prog 164).isSome = true := by kernel_rfl
@[simp] theorem bytes_164 : Program.bytesOf Go.Proofs.Try.prog 164 = 4 := by kernel_rfl
theorem bytes1_164 : Program.bytesOf Go.Proofs.Try.prog 164 ≤ 1024 := by rw [bytes_164]; decide
theorem info_164 : ∃ i, (Go.Proofs.Try.prog : Program).info? 164 = some i := aggO_info agg_164
@[simp] theorem zv_164 : zvO Go.Proofs.Try.prog 164 = some ((.int .u32 (0))) := by kernel_rfl
@[simp] theorem zero_164 : zeroO Go.Proofs.Try.prog 164 = some ([.sc (.int .u32 (0))]) := by kernel_rfl
@[simp] theorem agg_165 : aggO Go.Proofs.Try.prog 165 = some false := by kernel_rfl
@[simp] theorem cells_165 : Program.cellsOf Go.Proofs.Try.prog 165 = 1 := by kernel_rfl
@[simp] theorem int_165 : intO Go.Proofs.Try.prog 165 = some .u8 := by kernel_rfl
@[simp] theorem unds_165 : (Program.underlying Go.Proofs.Try.prog 165).isSome = true := by kernel_rfl
@[simp] theorem bytes_165 : Program.bytesOf Go.Proofs.Try.prog 165 = 1 := by kernel_rfl
theorem bytes1_165 : Program.bytesOf Go.Proofs.Try.prog 165 ≤ 1024 := by rw [bytes_165]; decide
theorem info_165 : ∃ i, (Go.Proofs.Try.prog : Program).info? 165 = some i := aggO_info agg_165
@[simp] theorem zv_165 : zvO Go.Proofs.Try.prog 165 = some ((.int .u8 (0))) := by kernel_rfl
@[simp] theorem zero_165 : zeroO Go.Proofs.Try.prog 165 = some ([.sc (.int .u8 (0))]) := by kernel_rfl
@[simp] theorem agg_166 : aggO Go.Proofs.Try.prog 166 = some false := by kernel_rfl
@[simp] theorem cells_166 : Program.cellsOf Go.Proofs.Try.prog 166 = 1 := by kernel_rfl
@[simp] theorem int_166 : intO Go.Proofs.Try.prog 166 = some .u8 := by kernel_rfl
@[simp] theorem unds_166 : (Program.underlying Go.Proofs.Try.prog 166).isSome = true := by kernel_rfl
@[simp] theorem bytes_166 : Program.bytesOf Go.Proofs.Try.prog 166 = 1 := by kernel_rfl
theorem bytes1_166 : Program.bytesOf Go.Proofs.Try.prog 166 ≤ 1024 := by rw [bytes_166]; decide
theorem info_166 : ∃ i, (Go.Proofs.Try.prog : Program).info? 166 = some i := aggO_info agg_166
@[simp] theorem zv_166 : zvO Go.Proofs.Try.prog 166 = some ((.int .u8 (0))) := by kernel_rfl
@[simp] theorem zero_166 : zeroO Go.Proofs.Try.prog 166 = some ([.sc (.int .u8 (0))]) := by kernel_rfl
@[simp] theorem agg_167 : aggO Go.Proofs.Try.prog 167 = some false := by kernel_rfl
@[simp] theorem cells_167 : Program.cellsOf Go.Proofs.Try.prog 167 = 1 := by kernel_rfl
@[simp] theorem bytes_167 : Program.bytesOf Go.Proofs.Try.prog 167 = 8 := by kernel_rfl
theorem bytes1_167 : Program.bytesOf Go.Proofs.Try.prog 167 ≤ 1024 := by rw [bytes_167]; decide
theorem info_167 : ∃ i, (Go.Proofs.Try.prog : Program).info? 167 = some i := aggO_info agg_167
@[simp] theorem zv_167 : zvO Go.Proofs.Try.prog 167 = some (.nilFunc) := by kernel_rfl
@[simp] theorem zero_167 : zeroO Go.Proofs.Try.prog 167 = some ([.sc .nilFunc]) := by kernel_rfl
@[simp] theorem agg_168 : aggO Go.Proofs.Try.prog 168 = some false := by kernel_rfl
@[simp] theorem cells_168 : Program.cellsOf Go.Proofs.Try.prog 168 = 1 := by kernel_rfl
@[simp] theorem und_168 : Program.underlying Go.Proofs.Try.prog 168 = some (.pointer 5) := by kernel_rfl
@[simp] theorem bytes_168 : Program.bytesOf Go.Proofs.Try.prog 168 = 8 := by kernel_rfl
theorem bytes1_168 : Program.bytesOf Go.Proofs.Try.prog 168 ≤ 1024 := by rw [bytes_168]; decide
theorem info_168 : ∃ i, (Go.Proofs.Try.prog : Program).info? 168 = some i := aggO_info agg_168
@[simp] theorem zv_168 : zvO Go.Proofs.Try.prog 168 = some ((.pointer none)) := by kernel_rfl
@[simp] theorem zero_168 : zeroO Go.Proofs.Try.prog 168 = some ([.sc (.pointer none)]) := by kernel_rfl
@[simp] theorem agg_169 : aggO Go.Proofs.Try.prog 169 = some false := by kernel_rfl
@[simp] theorem cells_169 : Program.cellsOf Go.Proofs.Try.prog 169 = 1 := by kernel_rfl
@[simp] theorem int_169 : intO Go.Proofs.Try.prog 169 = some .i32 := by kernel_rfl
@[simp] theorem unds_169 : (Program.underlying Go.Proofs.Try.prog 169).isSome = true := by kernel_rfl
@[simp] theorem bytes_169 : Program.bytesOf Go.Proofs.Try.prog 169 = 4 := by kernel_rfl
theorem bytes1_169 : Program.bytesOf Go.Proofs.Try.prog 169 ≤ 1024 := by rw [bytes_169]; decide
theorem info_169 : ∃ i, (Go.Proofs.Try.prog : Program).info? 169 = some i := aggO_info agg_169
@[simp] theorem zv_169 : zvO Go.Proofs.Try.prog 169 = some ((.int .i32 (0))) := by kernel_rfl
@[simp] theorem zero_169 : zeroO Go.Proofs.Try.prog 169 = some ([.sc (.int .i32 (0))]) := by kernel_rfl
@[simp] theorem agg_170 : aggO Go.Proofs.Try.prog 170 = some false := by kernel_rfl
@[simp] theorem cells_170 : Program.cellsOf Go.Proofs.Try.prog 170 = 1 := by kernel_rfl
@[simp] theorem int_170 : intO Go.Proofs.Try.prog 170 = some .i32 := by kernel_rfl
@[simp] theorem unds_170 : (Program.underlying Go.Proofs.Try.prog 170).isSome = true := by kernel_rfl
@[simp] theorem bytes_170 : Program.bytesOf Go.Proofs.Try.prog 170 = 4 := by kernel_rfl
theorem bytes1_170 : Program.bytesOf Go.Proofs.Try.prog 170 ≤ 1024 := by rw [bytes_170]; decide
theorem info_170 : ∃ i, (Go.Proofs.Try.prog : Program).info? 170 = some i := aggO_info agg_170
@[simp] theorem zv_170 : zvO Go.Proofs.Try.prog 170 = some ((.int .i32 (0))) := by kernel_rfl
@[simp] theorem zero_170 : zeroO Go.Proofs.Try.prog 170 = some ([.sc (.int .i32 (0))]) := by kernel_rfl
@[simp] theorem agg_171 : aggO Go.Proofs.Try.prog 171 = some true := by kernel_rfl
@[simp] theorem cells_171 : Program.cellsOf Go.Proofs.Try.prog 171 = 11 := by kernel_rfl
@[simp] theorem fld_171_0 : fldO Go.Proofs.Try.prog 171 0 = some (0, 12) := by kernel_rfl
@[simp] theorem fld_171_1 : fldO Go.Proofs.Try.prog 171 1 = some (1, 12) := by kernel_rfl
@[simp] theorem fld_171_2 : fldO Go.Proofs.Try.prog 171 2 = some (2, 164) := by kernel_rfl
@[simp] theorem fld_171_3 : fldO Go.Proofs.Try.prog 171 3 = some (3, 165) := by kernel_rfl
@[simp] theorem fld_171_4 : fldO Go.Proofs.Try.prog 171 4 = some (4, 5) := by kernel_rfl
@[simp] theorem fld_171_5 : fldO Go.Proofs.Try.prog 171 5 = some (5, 5) := by kernel_rfl
@[simp] theorem fld_171_6 : fldO Go.Proofs.Try.prog 171 6 = some (6, 166) := by kernel_rfl
@[simp] theorem fld_171_7 : fldO Go.Proofs.Try.prog 171 7 = some (7, 167) := by kernel_rfl
@[simp] theorem fld_171_8 : fldO Go.Proofs.Try.prog 171 8 = some (8, 168) := by kernel_rfl
@[simp] theorem fld_171_9 : fldO Go.Proofs.Try.prog 171 9 = some (9, 169) := by kernel_rfl
@[simp] theorem fld_171_10 : fldO Go.Proofs.Try.prog 171 10 = some (10, 170) := by kernel_rfl
@[simp] theorem places_171 : placesO Go.Proofs.Try.prog 171 = some [(0, 1), (1, 1), (2, 1), (3, 1), (4, 1), (5, 1), (6, 1), (7, 1), (8, 1), (9, 1), (10, 1)] := by kernel_rfl
@[simp] theorem bytes_171 : Program.bytesOf Go.Proofs.Try.prog 171 = 48 := by kernel_rfl
theorem bytes1_171 : Program.bytesOf Go.Proofs.Try.prog 171 ≤ 1024 := by rw [bytes_171]; decide
theorem info_171 : ∃ i, (Go.Proofs.Try.prog : Program).info? 171 = some i := aggO_info agg_171
@[simp] theorem zero_171 : zeroO Go.Proofs.Try.prog 171 = some ([.sc (.int .u64 (0)), .sc (.int .u64 (0)), .sc (.int .u32 (0)), .sc (.int .u8 (0)), .sc (.int .u8 (0)), .sc (.int .u8 (0)), .sc (.int .u8 (0)), .sc .nilFunc, .sc (.pointer none), .sc (.int .i32 (0)), .sc (.int .i32 (0))]) := by kernel_rfl
@[simp] theorem agg_172 : aggO Go.Proofs.Try.prog 172 = some true := by kernel_rfl
@[simp] theorem cells_172 : Program.cellsOf Go.Proofs.Try.prog 172 = 11 := by kernel_rfl
@[simp] theorem fld_172_0 : fldO Go.Proofs.Try.prog 172 0 = some (0, 12) := by kernel_rfl
@[simp] theorem fld_172_1 : fldO Go.Proofs.Try.prog 172 1 = some (1, 12) := by kernel_rfl
@[simp] theorem fld_172_2 : fldO Go.Proofs.Try.prog 172 2 = some (2, 164) := by kernel_rfl
@[simp] theorem fld_172_3 : fldO Go.Proofs.Try.prog 172 3 = some (3, 165) := by kernel_rfl
@[simp] theorem fld_172_4 : fldO Go.Proofs.Try.prog 172 4 = some (4, 5) := by kernel_rfl
@[simp] theorem fld_172_5 : fldO Go.Proofs.Try.prog 172 5 = some (5, 5) := by kernel_rfl
@[simp] theorem fld_172_6 : fldO Go.Proofs.Try.prog 172 6 = some (6, 166) := by kernel_rfl
@[simp] theorem fld_172_7 : fldO Go.Proofs.Try.prog 172 7 = some (7, 167) := by kernel_rfl
@[simp] theorem fld_172_8 : fldO Go.Proofs.Try.prog 172 8 = some (8, 168) := by kernel_rfl
@[simp] theorem fld_172_9 : fldO Go.Proofs.Try.prog 172 9 = some (9, 169) := by kernel_rfl
@[simp] theorem fld_172_10 : fldO Go.Proofs.Try.prog 172 10 = some (10, 170) := by kernel_rfl
@[simp] theorem places_172 : placesO Go.Proofs.Try.prog 172 = some [(0, 1), (1, 1), (2, 1), (3, 1), (4, 1), (5, 1), (6, 1), (7, 1), (8, 1), (9, 1), (10, 1)] := by kernel_rfl
@[simp] theorem bytes_172 : Program.bytesOf Go.Proofs.Try.prog 172 = 48 := by kernel_rfl
theorem bytes1_172 : Program.bytesOf Go.Proofs.Try.prog 172 ≤ 1024 := by rw [bytes_172]; decide
theorem info_172 : ∃ i, (Go.Proofs.Try.prog : Program).info? 172 = some i := aggO_info agg_172
@[simp] theorem zero_172 : zeroO Go.Proofs.Try.prog 172 = some ([.sc (.int .u64 (0)), .sc (.int .u64 (0)), .sc (.int .u32 (0)), .sc (.int .u8 (0)), .sc (.int .u8 (0)), .sc (.int .u8 (0)), .sc (.int .u8 (0)), .sc .nilFunc, .sc (.pointer none), .sc (.int .i32 (0)), .sc (.int .i32 (0))]) := by kernel_rfl
@[simp] theorem agg_173 : aggO Go.Proofs.Try.prog 173 = some false := by kernel_rfl
@[simp] theorem cells_173 : Program.cellsOf Go.Proofs.Try.prog 173 = 1 := by kernel_rfl
@[simp] theorem bytes_173 : Program.bytesOf Go.Proofs.Try.prog 173 = 8 := by kernel_rfl
theorem bytes1_173 : Program.bytesOf Go.Proofs.Try.prog 173 ≤ 1024 := by rw [bytes_173]; decide
theorem info_173 : ∃ i, (Go.Proofs.Try.prog : Program).info? 173 = some i := aggO_info agg_173
@[simp] theorem zv_173 : zvO Go.Proofs.Try.prog 173 = some ((.pointer none)) := by kernel_rfl
@[simp] theorem zero_173 : zeroO Go.Proofs.Try.prog 173 = some ([.sc (.pointer none)]) := by kernel_rfl
end Go.Abs
