/- The types of this seat, as the symbolic logic has them: printed by tt.py out of the translation. -/
import Derived.Test.YtojaakpnpdnbhaaGreatLy
import Derived.Test.YtojaakpnpdnbhaaGreatLv
import Derived.Test.YtojaakpnpdnbhaaGreatProg
set_option maxRecDepth 100000
namespace Go.Proofs.YtojaakpnpdnbhaaGreat.L
open Go.RowKit
def ti2 : TI := ⟨1, 8, [.int .i64 0], .int .i64, false⟩
theorem ok2 : TIok Tryz.prog 2 ti2 := TIok.ofOne (z := (.int .i64 0)) (d := .int .i64) (by kernel_rfl) (by kernel_rfl) rfl rfl rfl rfl rfl
def ti3 : TI := ⟨1, 8, [.int .i64 0], .int .i64, false⟩
theorem ok3 : TIok Tryz.prog 3 ti3 := TIok.ofOne (z := (.int .i64 0)) (d := .int .i64) (by kernel_rfl) (by kernel_rfl) rfl rfl rfl rfl rfl
def ti4 : TI := ⟨1, 1, [.bool false], .bool, false⟩
theorem ok4 : TIok Tryz.prog 4 ti4 := TIok.ofOne (z := (.bool false)) (d := .bool) (by kernel_rfl) (by kernel_rfl) rfl rfl rfl rfl rfl
def ti5 : TI := ⟨1, 1, [.int .u8 0], .int .u8, false⟩
theorem ok5 : TIok Tryz.prog 5 ti5 := TIok.ofOne (z := (.int .u8 0)) (d := .int .u8) (by kernel_rfl) (by kernel_rfl) rfl rfl rfl rfl rfl
def ti6 : TI := ⟨1, 1, [.int .u8 0], .int .u8, false⟩
theorem ok6 : TIok Tryz.prog 6 ti6 := TIok.ofOne (z := (.int .u8 0)) (d := .int .u8) (by kernel_rfl) (by kernel_rfl) rfl rfl rfl rfl rfl
def ti7 : TI := ⟨4, 24, [.int .i64 0, .int .i64 0, .bool false, .int .u8 0], .agg [(0, 1, false), (1, 1, false), (2, 1, false), (3, 1, false)], false⟩
theorem ok7 : TIok Tryz.prog 7 ti7 := TIok.ofAgg (fl := [(0, 1, false), (1, 1, false), (2, 1, false), (3, 1, false)]) (by kernel_rfl) (by kernel_rfl) rfl rfl (fun h => nomatch h)
def ti8 : TI := ⟨4, 24, [.int .i64 0, .int .i64 0, .bool false, .int .u8 0], .agg [(0, 1, false), (1, 1, false), (2, 1, false), (3, 1, false)], false⟩
theorem ok8 : TIok Tryz.prog 8 ti8 := TIok.ofAgg (fl := [(0, 1, false), (1, 1, false), (2, 1, false), (3, 1, false)]) (by kernel_rfl) (by kernel_rfl) rfl rfl (fun h => nomatch h)
def ti9 : TI := ⟨1, 16, [.string ⟨#[]⟩], .str, false⟩
theorem ok9 : TIok Tryz.prog 9 ti9 := TIok.ofOne (z := (.string ⟨#[]⟩)) (d := .string) (by kernel_rfl) (by kernel_rfl) rfl rfl rfl rfl rfl
def ti10 : TI := ⟨1, 16, [.string ⟨#[]⟩], .str, false⟩
theorem ok10 : TIok Tryz.prog 10 ti10 := TIok.ofOne (z := (.string ⟨#[]⟩)) (d := .string) (by kernel_rfl) (by kernel_rfl) rfl rfl rfl rfl rfl
def ti11 : TI := ⟨1, 16, [.string ⟨#[]⟩], .str, false⟩
theorem ok11 : TIok Tryz.prog 11 ti11 := TIok.ofOne (z := (.string ⟨#[]⟩)) (d := .string) (by kernel_rfl) (by kernel_rfl) rfl rfl rfl rfl rfl
def ti12 : TI := ⟨1, 8, [.int .u64 0], .int .u64, false⟩
theorem ok12 : TIok Tryz.prog 12 ti12 := TIok.ofOne (z := (.int .u64 0)) (d := .int .u64) (by kernel_rfl) (by kernel_rfl) rfl rfl rfl rfl rfl
def ti13 : TI := ⟨2, 24, [.string ⟨#[]⟩, .int .u64 0], .agg [(0, 1, false), (1, 1, false)], false⟩
theorem ok13 : TIok Tryz.prog 13 ti13 := TIok.ofAgg (fl := [(0, 1, false), (1, 1, false)]) (by kernel_rfl) (by kernel_rfl) rfl rfl (fun h => nomatch h)
def ti14 : TI := ⟨2, 24, [.string ⟨#[]⟩, .int .u64 0], .agg [(0, 1, false), (1, 1, false)], false⟩
theorem ok14 : TIok Tryz.prog 14 ti14 := TIok.ofAgg (fl := [(0, 1, false), (1, 1, false)]) (by kernel_rfl) (by kernel_rfl) rfl rfl (fun h => nomatch h)
def ti15 : TI := ⟨1, 8, [.pointer none], .other, false⟩
theorem ok15 : TIok Tryz.prog 15 ti15 := TIok.ofOne (z := (.pointer none)) (d := .pointer 137) (by kernel_rfl) (by kernel_rfl) rfl rfl rfl rfl rfl
def ti16 : TI := ⟨1, 8, [.pointer none], .other, false⟩
theorem ok16 : TIok Tryz.prog 16 ti16 := TIok.ofOne (z := (.pointer none)) (d := .pointer 140) (by kernel_rfl) (by kernel_rfl) rfl rfl rfl rfl rfl
def ti17 : TI := ⟨1, 8, [.pointer none], .other, false⟩
theorem ok17 : TIok Tryz.prog 17 ti17 := TIok.ofOne (z := (.pointer none)) (d := .pointer 149) (by kernel_rfl) (by kernel_rfl) rfl rfl rfl rfl rfl
def ti18 : TI := ⟨1, 8, [.pointer none], .agg [(0, 1, false)], false⟩
theorem ok18 : TIok Tryz.prog 18 ti18 := TIok.ofAgg (fl := [(0, 1, false)]) (by kernel_rfl) (by kernel_rfl) rfl rfl (fun h => nomatch h)
def ti19 : TI := ⟨1, 8, [.pointer none], .agg [(0, 1, false)], false⟩
theorem ok19 : TIok Tryz.prog 19 ti19 := TIok.ofAgg (fl := [(0, 1, false)]) (by kernel_rfl) (by kernel_rfl) rfl rfl (fun h => nomatch h)
def ti21 : TI := ⟨1, 4, [.int .i32 0], .int .i32, false⟩
theorem ok21 : TIok Tryz.prog 21 ti21 := TIok.ofOne (z := (.int .i32 0)) (d := .int .i32) (by kernel_rfl) (by kernel_rfl) rfl rfl rfl rfl rfl
def ti22 : TI := ⟨1, 24, [.slice none 0 0], .slice 28, false⟩
theorem ok22 : TIok Tryz.prog 22 ti22 := TIok.ofOne (z := (.slice none 0 0)) (d := .slice 28) (by kernel_rfl) (by kernel_rfl) rfl rfl rfl rfl rfl
def ti23 : TI := ⟨1, 24, [.slice none 0 0], .slice 87, false⟩
theorem ok23 : TIok Tryz.prog 23 ti23 := TIok.ofOne (z := (.slice none 0 0)) (d := .slice 87) (by kernel_rfl) (by kernel_rfl) rfl rfl rfl rfl rfl
def ti24 : TI := ⟨1, 24, [.slice none 0 0], .slice 91, false⟩
theorem ok24 : TIok Tryz.prog 24 ti24 := TIok.ofOne (z := (.slice none 0 0)) (d := .slice 91) (by kernel_rfl) (by kernel_rfl) rfl rfl rfl rfl rfl
def ti25 : TI := ⟨1, 24, [.slice none 0 0], .slice 95, false⟩
theorem ok25 : TIok Tryz.prog 25 ti25 := TIok.ofOne (z := (.slice none 0 0)) (d := .slice 95) (by kernel_rfl) (by kernel_rfl) rfl rfl rfl rfl rfl
def ti26 : TI := ⟨4, 96, [.slice none 0 0, .slice none 0 0, .slice none 0 0, .slice none 0 0], .agg [(0, 1, false), (1, 1, false), (2, 1, false), (3, 1, false)], false⟩
theorem ok26 : TIok Tryz.prog 26 ti26 := TIok.ofAgg (fl := [(0, 1, false), (1, 1, false), (2, 1, false), (3, 1, false)]) (by kernel_rfl) (by kernel_rfl) rfl rfl (fun h => nomatch h)
def ti27 : TI := ⟨4, 96, [.slice none 0 0, .slice none 0 0, .slice none 0 0, .slice none 0 0], .agg [(0, 1, false), (1, 1, false), (2, 1, false), (3, 1, false)], false⟩
theorem ok27 : TIok Tryz.prog 27 ti27 := TIok.ofAgg (fl := [(0, 1, false), (1, 1, false), (2, 1, false), (3, 1, false)]) (by kernel_rfl) (by kernel_rfl) rfl rfl (fun h => nomatch h)
def ti28 : TI := ⟨1, 24, [.slice none 0 0], .slice 2, false⟩
theorem ok28 : TIok Tryz.prog 28 ti28 := TIok.ofOne (z := (.slice none 0 0)) (d := .slice 2) (by kernel_rfl) (by kernel_rfl) rfl rfl rfl rfl rfl
def ti30 : TI := ⟨9, 120, [.slice none 0 0, .int .i64 0, .slice none 0 0, .bool false, .bool false, .bool false, .int .i64 0, .slice none 0 0, .slice none 0 0], .agg [(0, 1, false), (1, 1, false), (2, 1, false), (3, 1, false), (4, 1, false), (5, 1, false), (6, 1, false), (7, 1, false), (8, 1, false)], false⟩
theorem ok30 : TIok Tryz.prog 30 ti30 := TIok.ofAgg (fl := [(0, 1, false), (1, 1, false), (2, 1, false), (3, 1, false), (4, 1, false), (5, 1, false), (6, 1, false), (7, 1, false), (8, 1, false)]) (by kernel_rfl) (by kernel_rfl) rfl rfl (fun h => nomatch h)
def ti31 : TI := ⟨9, 120, [.slice none 0 0, .int .i64 0, .slice none 0 0, .bool false, .bool false, .bool false, .int .i64 0, .slice none 0 0, .slice none 0 0], .agg [(0, 1, false), (1, 1, false), (2, 1, false), (3, 1, false), (4, 1, false), (5, 1, false), (6, 1, false), (7, 1, false), (8, 1, false)], false⟩
theorem ok31 : TIok Tryz.prog 31 ti31 := TIok.ofAgg (fl := [(0, 1, false), (1, 1, false), (2, 1, false), (3, 1, false), (4, 1, false), (5, 1, false), (6, 1, false), (7, 1, false), (8, 1, false)]) (by kernel_rfl) (by kernel_rfl) rfl rfl (fun h => nomatch h)
def ti32 : TI := ⟨1, 24, [.slice none 0 0], .slice 83, false⟩
theorem ok32 : TIok Tryz.prog 32 ti32 := TIok.ofOne (z := (.slice none 0 0)) (d := .slice 83) (by kernel_rfl) (by kernel_rfl) rfl rfl rfl rfl rfl
def ti33 : TI := ⟨11, 168, [.slice none 0 0, .int .i64 0, .slice none 0 0, .bool false, .bool false, .bool false, .int .i64 0, .slice none 0 0, .slice none 0 0, .slice none 0 0, .slice none 0 0], .agg [(0, 9, true), (9, 1, false), (10, 1, false)], false⟩
theorem ok33 : TIok Tryz.prog 33 ti33 := TIok.ofAgg (fl := [(0, 9, true), (9, 1, false), (10, 1, false)]) (by kernel_rfl) (by kernel_rfl) rfl rfl (fun h => nomatch h)
def ti34 : TI := ⟨11, 168, [.slice none 0 0, .int .i64 0, .slice none 0 0, .bool false, .bool false, .bool false, .int .i64 0, .slice none 0 0, .slice none 0 0, .slice none 0 0, .slice none 0 0], .agg [(0, 9, true), (9, 1, false), (10, 1, false)], false⟩
theorem ok34 : TIok Tryz.prog 34 ti34 := TIok.ofAgg (fl := [(0, 9, true), (9, 1, false), (10, 1, false)]) (by kernel_rfl) (by kernel_rfl) rfl rfl (fun h => nomatch h)
def ti35 : TI := ⟨12, 176, [.int .i64 0, .slice none 0 0, .int .i64 0, .slice none 0 0, .bool false, .bool false, .bool false, .int .i64 0, .slice none 0 0, .slice none 0 0, .slice none 0 0, .slice none 0 0], .agg [(0, 1, false), (1, 11, true)], false⟩
theorem ok35 : TIok Tryz.prog 35 ti35 := TIok.ofAgg (fl := [(0, 1, false), (1, 11, true)]) (by kernel_rfl) (by kernel_rfl) rfl rfl (fun h => nomatch h)
def ti36 : TI := ⟨12, 176, [.int .i64 0, .slice none 0 0, .int .i64 0, .slice none 0 0, .bool false, .bool false, .bool false, .int .i64 0, .slice none 0 0, .slice none 0 0, .slice none 0 0, .slice none 0 0], .agg [(0, 1, false), (1, 11, true)], false⟩
theorem ok36 : TIok Tryz.prog 36 ti36 := TIok.ofAgg (fl := [(0, 1, false), (1, 11, true)]) (by kernel_rfl) (by kernel_rfl) rfl rfl (fun h => nomatch h)
def ti38 : TI := ⟨1, 24, [.slice none 0 0], .slice 85, false⟩
theorem ok38 : TIok Tryz.prog 38 ti38 := TIok.ofOne (z := (.slice none 0 0)) (d := .slice 85) (by kernel_rfl) (by kernel_rfl) rfl rfl rfl rfl rfl
def ti39 : TI := ⟨1, 24, [.slice none 0 0], .slice 89, false⟩
theorem ok39 : TIok Tryz.prog 39 ti39 := TIok.ofOne (z := (.slice none 0 0)) (d := .slice 89) (by kernel_rfl) (by kernel_rfl) rfl rfl rfl rfl rfl
def ti40 : TI := ⟨1, 24, [.slice none 0 0], .slice 93, false⟩
theorem ok40 : TIok Tryz.prog 40 ti40 := TIok.ofOne (z := (.slice none 0 0)) (d := .slice 93) (by kernel_rfl) (by kernel_rfl) rfl rfl rfl rfl rfl
def ti41 : TI := ⟨4, 96, [.slice none 0 0, .slice none 0 0, .slice none 0 0, .slice none 0 0], .agg [(0, 1, false), (1, 1, false), (2, 1, false), (3, 1, false)], false⟩
theorem ok41 : TIok Tryz.prog 41 ti41 := TIok.ofAgg (fl := [(0, 1, false), (1, 1, false), (2, 1, false), (3, 1, false)]) (by kernel_rfl) (by kernel_rfl) rfl rfl (fun h => nomatch h)
def ti42 : TI := ⟨4, 96, [.slice none 0 0, .slice none 0 0, .slice none 0 0, .slice none 0 0], .agg [(0, 1, false), (1, 1, false), (2, 1, false), (3, 1, false)], false⟩
theorem ok42 : TIok Tryz.prog 42 ti42 := TIok.ofAgg (fl := [(0, 1, false), (1, 1, false), (2, 1, false), (3, 1, false)]) (by kernel_rfl) (by kernel_rfl) rfl rfl (fun h => nomatch h)
def ti57 : TI := ⟨1, 8, [.pointer none], .other, false⟩
theorem ok57 : TIok Tryz.prog 57 ti57 := TIok.ofOne (z := (.pointer none)) (d := .pointer 42) (by kernel_rfl) (by kernel_rfl) rfl rfl rfl rfl rfl
def ti58 : TI := ⟨10, 128, [.int .i64 0, .slice none 0 0, .int .i64 0, .slice none 0 0, .bool false, .bool false, .bool false, .int .i64 0, .slice none 0 0, .slice none 0 0], .agg [(0, 1, false), (1, 9, true)], false⟩
theorem ok58 : TIok Tryz.prog 58 ti58 := TIok.ofAgg (fl := [(0, 1, false), (1, 9, true)]) (by kernel_rfl) (by kernel_rfl) rfl rfl (fun h => nomatch h)
def ti59 : TI := ⟨10, 128, [.int .i64 0, .slice none 0 0, .int .i64 0, .slice none 0 0, .bool false, .bool false, .bool false, .int .i64 0, .slice none 0 0, .slice none 0 0], .agg [(0, 1, false), (1, 9, true)], false⟩
theorem ok59 : TIok Tryz.prog 59 ti59 := TIok.ofAgg (fl := [(0, 1, false), (1, 9, true)]) (by kernel_rfl) (by kernel_rfl) rfl rfl (fun h => nomatch h)
def ti81 : TI := ⟨1, 4, [.int .u32 0], .int .u32, false⟩
theorem ok81 : TIok Tryz.prog 81 ti81 := TIok.ofOne (z := (.int .u32 0)) (d := .int .u32) (by kernel_rfl) (by kernel_rfl) rfl rfl rfl rfl rfl
def ti82 : TI := ⟨2, 16, [.int .i64 0, .int .i64 0], .agg [(0, 1, false), (1, 1, false)], true⟩
theorem ok82 : TIok Tryz.prog 82 ti82 := TIok.ofAgg (fl := [(0, 1, false), (1, 1, false)]) (by kernel_rfl) (by kernel_rfl) rfl rfl (fun _ => EqS.of (by kernel_rfl) (by kernel_rfl) (by kernel_rfl))
def ti83 : TI := ⟨2, 16, [.int .i64 0, .int .i64 0], .agg [(0, 1, false), (1, 1, false)], true⟩
theorem ok83 : TIok Tryz.prog 83 ti83 := TIok.ofAgg (fl := [(0, 1, false), (1, 1, false)]) (by kernel_rfl) (by kernel_rfl) rfl rfl (fun _ => EqS.of (by kernel_rfl) (by kernel_rfl) (by kernel_rfl))
def ti84 : TI := ⟨5, 40, [.int .i64 0, .int .i64 0, .int .i64 0, .int .i64 0, .int .i64 0], .agg [(0, 1, false), (1, 1, false), (2, 1, false), (3, 1, false), (4, 1, false)], true⟩
theorem ok84 : TIok Tryz.prog 84 ti84 := TIok.ofAgg (fl := [(0, 1, false), (1, 1, false), (2, 1, false), (3, 1, false), (4, 1, false)]) (by kernel_rfl) (by kernel_rfl) rfl rfl (fun _ => EqS.of (by kernel_rfl) (by kernel_rfl) (by kernel_rfl))
def ti85 : TI := ⟨5, 40, [.int .i64 0, .int .i64 0, .int .i64 0, .int .i64 0, .int .i64 0], .agg [(0, 1, false), (1, 1, false), (2, 1, false), (3, 1, false), (4, 1, false)], true⟩
theorem ok85 : TIok Tryz.prog 85 ti85 := TIok.ofAgg (fl := [(0, 1, false), (1, 1, false), (2, 1, false), (3, 1, false), (4, 1, false)]) (by kernel_rfl) (by kernel_rfl) rfl rfl (fun _ => EqS.of (by kernel_rfl) (by kernel_rfl) (by kernel_rfl))
def ti87 : TI := ⟨5, 40, [.int .i64 0, .int .i64 0, .int .i64 0, .int .i64 0, .int .i64 0], .agg [(0, 1, false), (1, 1, false), (2, 1, false), (3, 1, false), (4, 1, false)], true⟩
theorem ok87 : TIok Tryz.prog 87 ti87 := TIok.ofAgg (fl := [(0, 1, false), (1, 1, false), (2, 1, false), (3, 1, false), (4, 1, false)]) (by kernel_rfl) (by kernel_rfl) rfl rfl (fun _ => EqS.of (by kernel_rfl) (by kernel_rfl) (by kernel_rfl))
def ti88 : TI := ⟨2, 16, [.int .i64 0, .int .i64 0], .agg [(0, 1, false), (1, 1, false)], true⟩
theorem ok88 : TIok Tryz.prog 88 ti88 := TIok.ofAgg (fl := [(0, 1, false), (1, 1, false)]) (by kernel_rfl) (by kernel_rfl) rfl rfl (fun _ => EqS.of (by kernel_rfl) (by kernel_rfl) (by kernel_rfl))
def ti89 : TI := ⟨2, 16, [.int .i64 0, .int .i64 0], .agg [(0, 1, false), (1, 1, false)], true⟩
theorem ok89 : TIok Tryz.prog 89 ti89 := TIok.ofAgg (fl := [(0, 1, false), (1, 1, false)]) (by kernel_rfl) (by kernel_rfl) rfl rfl (fun _ => EqS.of (by kernel_rfl) (by kernel_rfl) (by kernel_rfl))
def ti91 : TI := ⟨2, 16, [.int .i64 0, .int .i64 0], .agg [(0, 1, false), (1, 1, false)], true⟩
theorem ok91 : TIok Tryz.prog 91 ti91 := TIok.ofAgg (fl := [(0, 1, false), (1, 1, false)]) (by kernel_rfl) (by kernel_rfl) rfl rfl (fun _ => EqS.of (by kernel_rfl) (by kernel_rfl) (by kernel_rfl))
def ti92 : TI := ⟨2, 16, [.int .i64 0, .int .i64 0], .agg [(0, 1, false), (1, 1, false)], true⟩
theorem ok92 : TIok Tryz.prog 92 ti92 := TIok.ofAgg (fl := [(0, 1, false), (1, 1, false)]) (by kernel_rfl) (by kernel_rfl) rfl rfl (fun _ => EqS.of (by kernel_rfl) (by kernel_rfl) (by kernel_rfl))
def ti93 : TI := ⟨2, 16, [.int .i64 0, .int .i64 0], .agg [(0, 1, false), (1, 1, false)], true⟩
theorem ok93 : TIok Tryz.prog 93 ti93 := TIok.ofAgg (fl := [(0, 1, false), (1, 1, false)]) (by kernel_rfl) (by kernel_rfl) rfl rfl (fun _ => EqS.of (by kernel_rfl) (by kernel_rfl) (by kernel_rfl))
def ti95 : TI := ⟨2, 16, [.int .i64 0, .int .i64 0], .agg [(0, 1, false), (1, 1, false)], true⟩
theorem ok95 : TIok Tryz.prog 95 ti95 := TIok.ofAgg (fl := [(0, 1, false), (1, 1, false)]) (by kernel_rfl) (by kernel_rfl) rfl rfl (fun _ => EqS.of (by kernel_rfl) (by kernel_rfl) (by kernel_rfl))
def ti123 : TI := ⟨1, 8, [.int .u64 0], .int .u64, false⟩
theorem ok123 : TIok Tryz.prog 123 ti123 := TIok.ofOne (z := (.int .u64 0)) (d := .int .u64) (by kernel_rfl) (by kernel_rfl) rfl rfl rfl rfl rfl
def ti131 : TI := ⟨1, 8, [.int .u64 0], .int .u64, false⟩
theorem ok131 : TIok Tryz.prog 131 ti131 := TIok.ofOne (z := (.int .u64 0)) (d := .int .u64) (by kernel_rfl) (by kernel_rfl) rfl rfl rfl rfl rfl
def ti139 : TI := ⟨0, 0, [], .agg [(0, 0, true)], false⟩
theorem ok139 : TIok Tryz.prog 139 ti139 := TIok.ofAgg (fl := [(0, 0, true)]) (by kernel_rfl) (by kernel_rfl) rfl rfl (fun h => nomatch h)
def ti140 : TI := ⟨0, 0, [], .agg [(0, 0, true)], false⟩
theorem ok140 : TIok Tryz.prog 140 ti140 := TIok.ofAgg (fl := [(0, 0, true)]) (by kernel_rfl) (by kernel_rfl) rfl rfl (fun h => nomatch h)
def ti142 : TI := ⟨1, 1, [.int .u8 0], .int .u8, false⟩
theorem ok142 : TIok Tryz.prog 142 ti142 := TIok.ofOne (z := (.int .u8 0)) (d := .int .u8) (by kernel_rfl) (by kernel_rfl) rfl rfl rfl rfl rfl
def ti143 : TI := ⟨1, 1, [.int .u8 0], .int .u8, false⟩
theorem ok143 : TIok Tryz.prog 143 ti143 := TIok.ofOne (z := (.int .u8 0)) (d := .int .u8) (by kernel_rfl) (by kernel_rfl) rfl rfl rfl rfl rfl
def ti145 : TI := ⟨1, 8, [.pointer none], .other, false⟩
theorem ok145 : TIok Tryz.prog 145 ti145 := TIok.ofOne (z := (.pointer none)) (d := .pointer 5) (by kernel_rfl) (by kernel_rfl) rfl rfl rfl rfl rfl
def ti146 : TI := ⟨1, 4, [.int .i32 0], .int .i32, false⟩
theorem ok146 : TIok Tryz.prog 146 ti146 := TIok.ofOne (z := (.int .i32 0)) (d := .int .i32) (by kernel_rfl) (by kernel_rfl) rfl rfl rfl rfl rfl
def ti147 : TI := ⟨1, 4, [.int .i32 0], .int .i32, false⟩
theorem ok147 : TIok Tryz.prog 147 ti147 := TIok.ofOne (z := (.int .i32 0)) (d := .int .i32) (by kernel_rfl) (by kernel_rfl) rfl rfl rfl rfl rfl
def T : TT := look [(2, ti2), (3, ti3), (4, ti4), (5, ti5), (6, ti6), (7, ti7), (8, ti8), (9, ti9), (10, ti10), (11, ti11), (12, ti12), (13, ti13), (14, ti14), (15, ti15), (16, ti16), (17, ti17), (18, ti18), (19, ti19), (21, ti21), (22, ti22), (23, ti23), (24, ti24), (25, ti25), (26, ti26), (27, ti27), (28, ti28), (30, ti30), (31, ti31), (32, ti32), (33, ti33), (34, ti34), (35, ti35), (36, ti36), (38, ti38), (39, ti39), (40, ti40), (41, ti41), (42, ti42), (57, ti57), (58, ti58), (59, ti59), (81, ti81), (82, ti82), (83, ti83), (84, ti84), (85, ti85), (87, ti87), (88, ti88), (89, ti89), (91, ti91), (92, ti92), (93, ti93), (95, ti95), (123, ti123), (131, ti131), (139, ti139), (140, ti140), (142, ti142), (143, ti143), (145, ti145), (146, ti146), (147, ti147)]
theorem tok : TOk Tryz.prog T := TOk.ofLook ⟨ok2, ok3, ok4, ok5, ok6, ok7, ok8, ok9, ok10, ok11, ok12, ok13, ok14, ok15, ok16, ok17, ok18, ok19, ok21, ok22, ok23, ok24, ok25, ok26, ok27, ok28, ok30, ok31, ok32, ok33, ok34, ok35, ok36, ok38, ok39, ok40, ok41, ok42, ok57, ok58, ok59, ok81, ok82, ok83, ok84, ok85, ok87, ok88, ok89, ok91, ok92, ok93, ok95, ok123, ok131, ok139, ok140, ok142, ok143, ok145, ok146, ok147, trivial⟩
theorem mix : Tryz.prog.follows .mixedOrders = true := by kernel_rfl
theorem fn_of (A : List (Nat × List Nat)) {g : FuncId} {fn : Func} {c : Code} (hf : Tryz.prog.funcs[g]? = some fn) (hb : fn.body = some c) (hn : (fn.name == "runtime.NumGoroutine") = false) (hc : codeOk fn.ntmps c = true) {lvs : List LV} {r : RV} (hl : Nat.ble lvs.length fn.ntmps = true) (h : lwp Tryz.prog T A c (entry lvs) (FnPost T fn r)) : FnOK Tryz.prog g lvs r := fnOK_of A mix tok hf hb hn hc hl h
theorem mut_fn_of (A : List (Nat × List Nat)) {g : FuncId} {fn : Func} {c : Code} (hf : Tryz.prog.funcs[g]? = some fn) (hb : fn.body = some c) (hn : (fn.name == "runtime.NumGoroutine") = false) (hc : codeOk fn.ntmps c = true) {args : List LV} {m : Nat} {hp0 : List (Nat × Ent)} {lv : LV} {m' : Nat} {hp1 : List (Nat × Ent)} (hl : Nat.ble args.length fn.ntmps = true) (gl : List (Nat × Nat)) (h : lwp Tryz.prog T A c (entryM args m hp0) (MutPost T fn m lv m' hp1 gl)) : MutOK Tryz.prog g args m hp0 lv m' hp1 := mut_of A mix tok hf hb hn hc hl gl h
theorem fnS_fn_of (A : List (Nat × List Nat)) {g : FuncId} {fn : Func} {c : Code} (hf : Tryz.prog.funcs[g]? = some fn) (hb : fn.body = some c) (hn : (fn.name == "runtime.NumGoroutine") = false) (hc : codeOk fn.ntmps c = true) {lvs : List LV} {R : RV → Prop} (hl : Nat.ble lvs.length fn.ntmps = true) (h : lwp Tryz.prog T A c (entry lvs) (fun e s => ∃ r, R r ∧ FnPost T fn r e s)) : FnS Tryz.prog g lvs R := fnS_of A mix tok hf hb hn hc hl h
theorem mutS_fn_of (A : List (Nat × List Nat)) {g : FuncId} {fn : Func} {c : Code} (hf : Tryz.prog.funcs[g]? = some fn) (hb : fn.body = some c) (hn : (fn.name == "runtime.NumGoroutine") = false) (hc : codeOk fn.ntmps c = true) {args : List LV} {m : Nat} {hp0 : List (Nat × Ent)} {R : LV → Nat → List (Nat × Ent) → Prop} (hl : Nat.ble args.length fn.ntmps = true) (h : lwp Tryz.prog T A c (entryM args m hp0) (fun e s => ∃ lv m' hp1 gl, R lv m' hp1 ∧ MutPost T fn m lv m' hp1 gl e s)) : MutS Tryz.prog g args m hp0 R := mutS_of A mix tok hf hb hn hc hl h
end Go.Proofs.YtojaakpnpdnbhaaGreat.L
