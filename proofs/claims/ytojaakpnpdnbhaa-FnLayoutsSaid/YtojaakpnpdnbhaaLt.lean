/- The types of this seat, as the symbolic logic has them: printed by tt.py out of the translation. -/
import Derived.Test.YtojaakpnpdnbhaaLy
import Derived.Test.YtojaakpnpdnbhaaLv
import Derived.Test.YtojaakpnpdnbhaaProg
set_option maxRecDepth 100000
namespace Go.Proofs.Ytojaakpnpdnbhaa.L
open Go.RowKit
def ti2 : TI := ⟨1, 8, [.int .i64 0], .int .i64, false⟩
theorem ok2 : TIok Try.prog 2 ti2 := TIok.ofOne (z := (.int .i64 0)) (d := .int .i64) (by kernel_rfl) (by kernel_rfl) rfl rfl rfl rfl rfl
def ti3 : TI := ⟨1, 8, [.int .i64 0], .int .i64, false⟩
theorem ok3 : TIok Try.prog 3 ti3 := TIok.ofOne (z := (.int .i64 0)) (d := .int .i64) (by kernel_rfl) (by kernel_rfl) rfl rfl rfl rfl rfl
def ti4 : TI := ⟨1, 1, [.bool false], .bool, false⟩
theorem ok4 : TIok Try.prog 4 ti4 := TIok.ofOne (z := (.bool false)) (d := .bool) (by kernel_rfl) (by kernel_rfl) rfl rfl rfl rfl rfl
def ti5 : TI := ⟨1, 1, [.int .u8 0], .int .u8, false⟩
theorem ok5 : TIok Try.prog 5 ti5 := TIok.ofOne (z := (.int .u8 0)) (d := .int .u8) (by kernel_rfl) (by kernel_rfl) rfl rfl rfl rfl rfl
def ti6 : TI := ⟨1, 1, [.int .u8 0], .int .u8, false⟩
theorem ok6 : TIok Try.prog 6 ti6 := TIok.ofOne (z := (.int .u8 0)) (d := .int .u8) (by kernel_rfl) (by kernel_rfl) rfl rfl rfl rfl rfl
def ti7 : TI := ⟨4, 24, [.int .i64 0, .int .i64 0, .bool false, .int .u8 0], .agg [(0, 1, false), (1, 1, false), (2, 1, false), (3, 1, false)], false⟩
theorem ok7 : TIok Try.prog 7 ti7 := TIok.ofAgg (fl := [(0, 1, false), (1, 1, false), (2, 1, false), (3, 1, false)]) (by kernel_rfl) (by kernel_rfl) rfl rfl (fun h => nomatch h)
def ti8 : TI := ⟨4, 24, [.int .i64 0, .int .i64 0, .bool false, .int .u8 0], .agg [(0, 1, false), (1, 1, false), (2, 1, false), (3, 1, false)], false⟩
theorem ok8 : TIok Try.prog 8 ti8 := TIok.ofAgg (fl := [(0, 1, false), (1, 1, false), (2, 1, false), (3, 1, false)]) (by kernel_rfl) (by kernel_rfl) rfl rfl (fun h => nomatch h)
def ti9 : TI := ⟨1, 16, [.string ⟨#[]⟩], .str, false⟩
theorem ok9 : TIok Try.prog 9 ti9 := TIok.ofOne (z := (.string ⟨#[]⟩)) (d := .string) (by kernel_rfl) (by kernel_rfl) rfl rfl rfl rfl rfl
def ti10 : TI := ⟨1, 16, [.string ⟨#[]⟩], .str, false⟩
theorem ok10 : TIok Try.prog 10 ti10 := TIok.ofOne (z := (.string ⟨#[]⟩)) (d := .string) (by kernel_rfl) (by kernel_rfl) rfl rfl rfl rfl rfl
def ti11 : TI := ⟨1, 16, [.string ⟨#[]⟩], .str, false⟩
theorem ok11 : TIok Try.prog 11 ti11 := TIok.ofOne (z := (.string ⟨#[]⟩)) (d := .string) (by kernel_rfl) (by kernel_rfl) rfl rfl rfl rfl rfl
def ti12 : TI := ⟨1, 8, [.int .u64 0], .int .u64, false⟩
theorem ok12 : TIok Try.prog 12 ti12 := TIok.ofOne (z := (.int .u64 0)) (d := .int .u64) (by kernel_rfl) (by kernel_rfl) rfl rfl rfl rfl rfl
def ti13 : TI := ⟨2, 24, [.string ⟨#[]⟩, .int .u64 0], .agg [(0, 1, false), (1, 1, false)], false⟩
theorem ok13 : TIok Try.prog 13 ti13 := TIok.ofAgg (fl := [(0, 1, false), (1, 1, false)]) (by kernel_rfl) (by kernel_rfl) rfl rfl (fun h => nomatch h)
def ti14 : TI := ⟨2, 24, [.string ⟨#[]⟩, .int .u64 0], .agg [(0, 1, false), (1, 1, false)], false⟩
theorem ok14 : TIok Try.prog 14 ti14 := TIok.ofAgg (fl := [(0, 1, false), (1, 1, false)]) (by kernel_rfl) (by kernel_rfl) rfl rfl (fun h => nomatch h)
def ti15 : TI := ⟨1, 8, [.pointer none], .other, false⟩
theorem ok15 : TIok Try.prog 15 ti15 := TIok.ofOne (z := (.pointer none)) (d := .pointer 231) (by kernel_rfl) (by kernel_rfl) rfl rfl rfl rfl rfl
def ti16 : TI := ⟨1, 8, [.pointer none], .other, false⟩
theorem ok16 : TIok Try.prog 16 ti16 := TIok.ofOne (z := (.pointer none)) (d := .pointer 234) (by kernel_rfl) (by kernel_rfl) rfl rfl rfl rfl rfl
def ti17 : TI := ⟨1, 8, [.pointer none], .other, false⟩
theorem ok17 : TIok Try.prog 17 ti17 := TIok.ofOne (z := (.pointer none)) (d := .pointer 243) (by kernel_rfl) (by kernel_rfl) rfl rfl rfl rfl rfl
def ti18 : TI := ⟨1, 8, [.pointer none], .agg [(0, 1, false)], false⟩
theorem ok18 : TIok Try.prog 18 ti18 := TIok.ofAgg (fl := [(0, 1, false)]) (by kernel_rfl) (by kernel_rfl) rfl rfl (fun h => nomatch h)
def ti19 : TI := ⟨1, 8, [.pointer none], .agg [(0, 1, false)], false⟩
theorem ok19 : TIok Try.prog 19 ti19 := TIok.ofAgg (fl := [(0, 1, false)]) (by kernel_rfl) (by kernel_rfl) rfl rfl (fun h => nomatch h)
def ti21 : TI := ⟨1, 4, [.int .i32 0], .int .i32, false⟩
theorem ok21 : TIok Try.prog 21 ti21 := TIok.ofOne (z := (.int .i32 0)) (d := .int .i32) (by kernel_rfl) (by kernel_rfl) rfl rfl rfl rfl rfl
def ti22 : TI := ⟨1, 24, [.slice none 0 0], .slice 30, false⟩
theorem ok22 : TIok Try.prog 22 ti22 := TIok.ofOne (z := (.slice none 0 0)) (d := .slice 30) (by kernel_rfl) (by kernel_rfl) rfl rfl rfl rfl rfl
def ti23 : TI := ⟨1, 24, [.slice none 0 0], .slice 171, false⟩
theorem ok23 : TIok Try.prog 23 ti23 := TIok.ofOne (z := (.slice none 0 0)) (d := .slice 171) (by kernel_rfl) (by kernel_rfl) rfl rfl rfl rfl rfl
def ti24 : TI := ⟨1, 24, [.slice none 0 0], .slice 175, false⟩
theorem ok24 : TIok Try.prog 24 ti24 := TIok.ofOne (z := (.slice none 0 0)) (d := .slice 175) (by kernel_rfl) (by kernel_rfl) rfl rfl rfl rfl rfl
def ti25 : TI := ⟨1, 24, [.slice none 0 0], .slice 179, false⟩
theorem ok25 : TIok Try.prog 25 ti25 := TIok.ofOne (z := (.slice none 0 0)) (d := .slice 179) (by kernel_rfl) (by kernel_rfl) rfl rfl rfl rfl rfl
def ti26 : TI := ⟨4, 96, [.slice none 0 0, .slice none 0 0, .slice none 0 0, .slice none 0 0], .agg [(0, 1, false), (1, 1, false), (2, 1, false), (3, 1, false)], false⟩
theorem ok26 : TIok Try.prog 26 ti26 := TIok.ofAgg (fl := [(0, 1, false), (1, 1, false), (2, 1, false), (3, 1, false)]) (by kernel_rfl) (by kernel_rfl) rfl rfl (fun h => nomatch h)
def ti27 : TI := ⟨4, 96, [.slice none 0 0, .slice none 0 0, .slice none 0 0, .slice none 0 0], .agg [(0, 1, false), (1, 1, false), (2, 1, false), (3, 1, false)], false⟩
theorem ok27 : TIok Try.prog 27 ti27 := TIok.ofAgg (fl := [(0, 1, false), (1, 1, false), (2, 1, false), (3, 1, false)]) (by kernel_rfl) (by kernel_rfl) rfl rfl (fun h => nomatch h)
def ti30 : TI := ⟨1, 24, [.slice none 0 0], .slice 2, false⟩
theorem ok30 : TIok Try.prog 30 ti30 := TIok.ofOne (z := (.slice none 0 0)) (d := .slice 2) (by kernel_rfl) (by kernel_rfl) rfl rfl rfl rfl rfl
def ti31 : TI := ⟨2, 32, [.int .i64 0, .slice none 0 0], .agg [(0, 1, false), (1, 1, false)], false⟩
theorem ok31 : TIok Try.prog 31 ti31 := TIok.ofAgg (fl := [(0, 1, false), (1, 1, false)]) (by kernel_rfl) (by kernel_rfl) rfl rfl (fun h => nomatch h)
def ti32 : TI := ⟨2, 32, [.int .i64 0, .slice none 0 0], .agg [(0, 1, false), (1, 1, false)], false⟩
theorem ok32 : TIok Try.prog 32 ti32 := TIok.ofAgg (fl := [(0, 1, false), (1, 1, false)]) (by kernel_rfl) (by kernel_rfl) rfl rfl (fun h => nomatch h)
def ti34 : TI := ⟨1, 24, [.slice none 0 0], .slice 146, false⟩
theorem ok34 : TIok Try.prog 34 ti34 := TIok.ofOne (z := (.slice none 0 0)) (d := .slice 146) (by kernel_rfl) (by kernel_rfl) rfl rfl rfl rfl rfl
def ti35 : TI := ⟨1, 24, [.slice none 0 0], .slice 173, false⟩
theorem ok35 : TIok Try.prog 35 ti35 := TIok.ofOne (z := (.slice none 0 0)) (d := .slice 173) (by kernel_rfl) (by kernel_rfl) rfl rfl rfl rfl rfl
def ti36 : TI := ⟨1, 24, [.slice none 0 0], .slice 177, false⟩
theorem ok36 : TIok Try.prog 36 ti36 := TIok.ofOne (z := (.slice none 0 0)) (d := .slice 177) (by kernel_rfl) (by kernel_rfl) rfl rfl rfl rfl rfl
def ti37 : TI := ⟨4, 96, [.slice none 0 0, .slice none 0 0, .slice none 0 0, .slice none 0 0], .agg [(0, 1, false), (1, 1, false), (2, 1, false), (3, 1, false)], false⟩
theorem ok37 : TIok Try.prog 37 ti37 := TIok.ofAgg (fl := [(0, 1, false), (1, 1, false), (2, 1, false), (3, 1, false)]) (by kernel_rfl) (by kernel_rfl) rfl rfl (fun h => nomatch h)
def ti38 : TI := ⟨4, 96, [.slice none 0 0, .slice none 0 0, .slice none 0 0, .slice none 0 0], .agg [(0, 1, false), (1, 1, false), (2, 1, false), (3, 1, false)], false⟩
theorem ok38 : TIok Try.prog 38 ti38 := TIok.ofAgg (fl := [(0, 1, false), (1, 1, false), (2, 1, false), (3, 1, false)]) (by kernel_rfl) (by kernel_rfl) rfl rfl (fun h => nomatch h)
def ti47 : TI := ⟨2, 32, [.int .i64 0, .slice none 0 0], .agg [(0, 1, false), (1, 1, false)], false⟩
theorem ok47 : TIok Try.prog 47 ti47 := TIok.ofAgg (fl := [(0, 1, false), (1, 1, false)]) (by kernel_rfl) (by kernel_rfl) rfl rfl (fun h => nomatch h)
def ti48 : TI := ⟨2, 32, [.int .i64 0, .slice none 0 0], .agg [(0, 1, false), (1, 1, false)], false⟩
theorem ok48 : TIok Try.prog 48 ti48 := TIok.ofAgg (fl := [(0, 1, false), (1, 1, false)]) (by kernel_rfl) (by kernel_rfl) rfl rfl (fun h => nomatch h)
def ti56 : TI := ⟨1, 24, [.slice none 0 0], .slice 133, false⟩
theorem ok56 : TIok Try.prog 56 ti56 := TIok.ofOne (z := (.slice none 0 0)) (d := .slice 133) (by kernel_rfl) (by kernel_rfl) rfl rfl rfl rfl rfl
def ti57 : TI := ⟨2, 32, [.int .i64 0, .slice none 0 0], .agg [(0, 1, false), (1, 1, false)], false⟩
theorem ok57 : TIok Try.prog 57 ti57 := TIok.ofAgg (fl := [(0, 1, false), (1, 1, false)]) (by kernel_rfl) (by kernel_rfl) rfl rfl (fun h => nomatch h)
def ti58 : TI := ⟨2, 32, [.int .i64 0, .slice none 0 0], .agg [(0, 1, false), (1, 1, false)], false⟩
theorem ok58 : TIok Try.prog 58 ti58 := TIok.ofAgg (fl := [(0, 1, false), (1, 1, false)]) (by kernel_rfl) (by kernel_rfl) rfl rfl (fun h => nomatch h)
def ti63 : TI := ⟨1, 24, [.slice none 0 0], .slice 97, false⟩
theorem ok63 : TIok Try.prog 63 ti63 := TIok.ofOne (z := (.slice none 0 0)) (d := .slice 97) (by kernel_rfl) (by kernel_rfl) rfl rfl rfl rfl rfl
def ti66 : TI := ⟨1, 24, [.slice none 0 0], .slice 56, false⟩
theorem ok66 : TIok Try.prog 66 ti66 := TIok.ofOne (z := (.slice none 0 0)) (d := .slice 56) (by kernel_rfl) (by kernel_rfl) rfl rfl rfl rfl rfl
def ti70 : TI := ⟨2, 32, [.int .i64 0, .slice none 0 0], .agg [(0, 1, false), (1, 1, false)], false⟩
theorem ok70 : TIok Try.prog 70 ti70 := TIok.ofAgg (fl := [(0, 1, false), (1, 1, false)]) (by kernel_rfl) (by kernel_rfl) rfl rfl (fun h => nomatch h)
def ti71 : TI := ⟨2, 32, [.int .i64 0, .slice none 0 0], .agg [(0, 1, false), (1, 1, false)], false⟩
theorem ok71 : TIok Try.prog 71 ti71 := TIok.ofAgg (fl := [(0, 1, false), (1, 1, false)]) (by kernel_rfl) (by kernel_rfl) rfl rfl (fun h => nomatch h)
def ti76 : TI := ⟨1, 24, [.slice none 0 0], .slice 5, false⟩
theorem ok76 : TIok Try.prog 76 ti76 := TIok.ofOne (z := (.slice none 0 0)) (d := .slice 5) (by kernel_rfl) (by kernel_rfl) rfl rfl rfl rfl rfl
def ti80 : TI := ⟨2, 16, [.int .i64 0, .int .i64 0], .agg [(0, 1, false), (1, 1, false)], true⟩
theorem ok80 : TIok Try.prog 80 ti80 := TIok.ofAgg (fl := [(0, 1, false), (1, 1, false)]) (by kernel_rfl) (by kernel_rfl) rfl rfl (fun _ => EqS.of (by kernel_rfl) (by kernel_rfl) (by kernel_rfl))
def ti81 : TI := ⟨2, 16, [.int .i64 0, .int .i64 0], .agg [(0, 1, false), (1, 1, false)], true⟩
theorem ok81 : TIok Try.prog 81 ti81 := TIok.ofAgg (fl := [(0, 1, false), (1, 1, false)]) (by kernel_rfl) (by kernel_rfl) rfl rfl (fun _ => EqS.of (by kernel_rfl) (by kernel_rfl) (by kernel_rfl))
def ti86 : TI := ⟨1, 24, [.slice none 0 0], .slice 156, false⟩
theorem ok86 : TIok Try.prog 86 ti86 := TIok.ofOne (z := (.slice none 0 0)) (d := .slice 156) (by kernel_rfl) (by kernel_rfl) rfl rfl rfl rfl rfl
def ti89 : TI := ⟨4, 48, [.int .i64 0, .int .i64 0, .bool false, .slice none 0 0], .agg [(0, 1, false), (1, 1, false), (2, 1, false), (3, 1, false)], false⟩
theorem ok89 : TIok Try.prog 89 ti89 := TIok.ofAgg (fl := [(0, 1, false), (1, 1, false), (2, 1, false), (3, 1, false)]) (by kernel_rfl) (by kernel_rfl) rfl rfl (fun h => nomatch h)
def ti90 : TI := ⟨4, 48, [.int .i64 0, .int .i64 0, .bool false, .slice none 0 0], .agg [(0, 1, false), (1, 1, false), (2, 1, false), (3, 1, false)], false⟩
theorem ok90 : TIok Try.prog 90 ti90 := TIok.ofAgg (fl := [(0, 1, false), (1, 1, false), (2, 1, false), (3, 1, false)]) (by kernel_rfl) (by kernel_rfl) rfl rfl (fun h => nomatch h)
def ti96 : TI := ⟨1, 24, [.slice none 0 0], .slice 165, false⟩
theorem ok96 : TIok Try.prog 96 ti96 := TIok.ofOne (z := (.slice none 0 0)) (d := .slice 165) (by kernel_rfl) (by kernel_rfl) rfl rfl rfl rfl rfl
def ti97 : TI := ⟨1, 24, [.slice none 0 0], .slice 167, false⟩
theorem ok97 : TIok Try.prog 97 ti97 := TIok.ofOne (z := (.slice none 0 0)) (d := .slice 167) (by kernel_rfl) (by kernel_rfl) rfl rfl rfl rfl rfl
def ti113 : TI := ⟨1, 8, [.pointer none], .other, false⟩
theorem ok113 : TIok Try.prog 113 ti113 := TIok.ofOne (z := (.pointer none)) (d := .pointer 38) (by kernel_rfl) (by kernel_rfl) rfl rfl rfl rfl rfl
def ti132 : TI := ⟨2, 16, [.int .i64 0, .int .i64 0], .agg [(0, 1, false), (1, 1, false)], true⟩
theorem ok132 : TIok Try.prog 132 ti132 := TIok.ofAgg (fl := [(0, 1, false), (1, 1, false)]) (by kernel_rfl) (by kernel_rfl) rfl rfl (fun _ => EqS.of (by kernel_rfl) (by kernel_rfl) (by kernel_rfl))
def ti133 : TI := ⟨2, 16, [.int .i64 0, .int .i64 0], .agg [(0, 1, false), (1, 1, false)], true⟩
theorem ok133 : TIok Try.prog 133 ti133 := TIok.ofAgg (fl := [(0, 1, false), (1, 1, false)]) (by kernel_rfl) (by kernel_rfl) rfl rfl (fun _ => EqS.of (by kernel_rfl) (by kernel_rfl) (by kernel_rfl))
def ti138 : TI := ⟨1, 8, [.pointer none], .other, false⟩
theorem ok138 : TIok Try.prog 138 ti138 := TIok.ofOne (z := (.pointer none)) (d := .pointer 196) (by kernel_rfl) (by kernel_rfl) rfl rfl rfl rfl rfl
def ti145 : TI := ⟨5, 40, [.int .i64 0, .int .i64 0, .int .i64 0, .int .i64 0, .int .i64 0], .agg [(0, 1, false), (1, 1, false), (2, 1, false), (3, 1, false), (4, 1, false)], true⟩
theorem ok145 : TIok Try.prog 145 ti145 := TIok.ofAgg (fl := [(0, 1, false), (1, 1, false), (2, 1, false), (3, 1, false), (4, 1, false)]) (by kernel_rfl) (by kernel_rfl) rfl rfl (fun _ => EqS.of (by kernel_rfl) (by kernel_rfl) (by kernel_rfl))
def ti146 : TI := ⟨5, 40, [.int .i64 0, .int .i64 0, .int .i64 0, .int .i64 0, .int .i64 0], .agg [(0, 1, false), (1, 1, false), (2, 1, false), (3, 1, false), (4, 1, false)], true⟩
theorem ok146 : TIok Try.prog 146 ti146 := TIok.ofAgg (fl := [(0, 1, false), (1, 1, false), (2, 1, false), (3, 1, false), (4, 1, false)]) (by kernel_rfl) (by kernel_rfl) rfl rfl (fun _ => EqS.of (by kernel_rfl) (by kernel_rfl) (by kernel_rfl))
def ti155 : TI := ⟨4, 32, [.int .i64 0, .int .i64 0, .int .i64 0, .int .i64 0], .agg [(0, 1, false), (1, 1, false), (2, 1, false), (3, 1, false)], true⟩
theorem ok155 : TIok Try.prog 155 ti155 := TIok.ofAgg (fl := [(0, 1, false), (1, 1, false), (2, 1, false), (3, 1, false)]) (by kernel_rfl) (by kernel_rfl) rfl rfl (fun _ => EqS.of (by kernel_rfl) (by kernel_rfl) (by kernel_rfl))
def ti156 : TI := ⟨4, 32, [.int .i64 0, .int .i64 0, .int .i64 0, .int .i64 0], .agg [(0, 1, false), (1, 1, false), (2, 1, false), (3, 1, false)], true⟩
theorem ok156 : TIok Try.prog 156 ti156 := TIok.ofAgg (fl := [(0, 1, false), (1, 1, false), (2, 1, false), (3, 1, false)]) (by kernel_rfl) (by kernel_rfl) rfl rfl (fun _ => EqS.of (by kernel_rfl) (by kernel_rfl) (by kernel_rfl))
def ti165 : TI := ⟨4, 32, [.int .i64 0, .int .i64 0, .int .i64 0, .int .i64 0], .agg [(0, 1, false), (1, 1, false), (2, 1, false), (3, 1, false)], true⟩
theorem ok165 : TIok Try.prog 165 ti165 := TIok.ofAgg (fl := [(0, 1, false), (1, 1, false), (2, 1, false), (3, 1, false)]) (by kernel_rfl) (by kernel_rfl) rfl rfl (fun _ => EqS.of (by kernel_rfl) (by kernel_rfl) (by kernel_rfl))
def ti167 : TI := ⟨2, 16, [.int .i64 0, .int .i64 0], .agg [(0, 1, false), (1, 1, false)], true⟩
theorem ok167 : TIok Try.prog 167 ti167 := TIok.ofAgg (fl := [(0, 1, false), (1, 1, false)]) (by kernel_rfl) (by kernel_rfl) rfl rfl (fun _ => EqS.of (by kernel_rfl) (by kernel_rfl) (by kernel_rfl))
def ti171 : TI := ⟨5, 40, [.int .i64 0, .int .i64 0, .int .i64 0, .int .i64 0, .int .i64 0], .agg [(0, 1, false), (1, 1, false), (2, 1, false), (3, 1, false), (4, 1, false)], true⟩
theorem ok171 : TIok Try.prog 171 ti171 := TIok.ofAgg (fl := [(0, 1, false), (1, 1, false), (2, 1, false), (3, 1, false), (4, 1, false)]) (by kernel_rfl) (by kernel_rfl) rfl rfl (fun _ => EqS.of (by kernel_rfl) (by kernel_rfl) (by kernel_rfl))
def ti172 : TI := ⟨2, 16, [.int .i64 0, .int .i64 0], .agg [(0, 1, false), (1, 1, false)], true⟩
theorem ok172 : TIok Try.prog 172 ti172 := TIok.ofAgg (fl := [(0, 1, false), (1, 1, false)]) (by kernel_rfl) (by kernel_rfl) rfl rfl (fun _ => EqS.of (by kernel_rfl) (by kernel_rfl) (by kernel_rfl))
def ti173 : TI := ⟨2, 16, [.int .i64 0, .int .i64 0], .agg [(0, 1, false), (1, 1, false)], true⟩
theorem ok173 : TIok Try.prog 173 ti173 := TIok.ofAgg (fl := [(0, 1, false), (1, 1, false)]) (by kernel_rfl) (by kernel_rfl) rfl rfl (fun _ => EqS.of (by kernel_rfl) (by kernel_rfl) (by kernel_rfl))
def ti175 : TI := ⟨2, 16, [.int .i64 0, .int .i64 0], .agg [(0, 1, false), (1, 1, false)], true⟩
theorem ok175 : TIok Try.prog 175 ti175 := TIok.ofAgg (fl := [(0, 1, false), (1, 1, false)]) (by kernel_rfl) (by kernel_rfl) rfl rfl (fun _ => EqS.of (by kernel_rfl) (by kernel_rfl) (by kernel_rfl))
def ti176 : TI := ⟨2, 16, [.int .i64 0, .int .i64 0], .agg [(0, 1, false), (1, 1, false)], true⟩
theorem ok176 : TIok Try.prog 176 ti176 := TIok.ofAgg (fl := [(0, 1, false), (1, 1, false)]) (by kernel_rfl) (by kernel_rfl) rfl rfl (fun _ => EqS.of (by kernel_rfl) (by kernel_rfl) (by kernel_rfl))
def ti177 : TI := ⟨2, 16, [.int .i64 0, .int .i64 0], .agg [(0, 1, false), (1, 1, false)], true⟩
theorem ok177 : TIok Try.prog 177 ti177 := TIok.ofAgg (fl := [(0, 1, false), (1, 1, false)]) (by kernel_rfl) (by kernel_rfl) rfl rfl (fun _ => EqS.of (by kernel_rfl) (by kernel_rfl) (by kernel_rfl))
def ti179 : TI := ⟨2, 16, [.int .i64 0, .int .i64 0], .agg [(0, 1, false), (1, 1, false)], true⟩
theorem ok179 : TIok Try.prog 179 ti179 := TIok.ofAgg (fl := [(0, 1, false), (1, 1, false)]) (by kernel_rfl) (by kernel_rfl) rfl rfl (fun _ => EqS.of (by kernel_rfl) (by kernel_rfl) (by kernel_rfl))
def ti195 : TI := ⟨2, 32, [.slice none 0 0, .int .i64 0], .agg [(0, 1, false), (1, 1, false)], false⟩
theorem ok195 : TIok Try.prog 195 ti195 := TIok.ofAgg (fl := [(0, 1, false), (1, 1, false)]) (by kernel_rfl) (by kernel_rfl) rfl rfl (fun h => nomatch h)
def ti196 : TI := ⟨2, 32, [.slice none 0 0, .int .i64 0], .agg [(0, 1, false), (1, 1, false)], false⟩
theorem ok196 : TIok Try.prog 196 ti196 := TIok.ofAgg (fl := [(0, 1, false), (1, 1, false)]) (by kernel_rfl) (by kernel_rfl) rfl rfl (fun h => nomatch h)
def ti206 : TI := ⟨1, 4, [.int .u32 0], .int .u32, false⟩
theorem ok206 : TIok Try.prog 206 ti206 := TIok.ofOne (z := (.int .u32 0)) (d := .int .u32) (by kernel_rfl) (by kernel_rfl) rfl rfl rfl rfl rfl
def ti210 : TI := ⟨1, 8, [.int .u64 0], .int .u64, false⟩
theorem ok210 : TIok Try.prog 210 ti210 := TIok.ofOne (z := (.int .u64 0)) (d := .int .u64) (by kernel_rfl) (by kernel_rfl) rfl rfl rfl rfl rfl
def ti216 : TI := ⟨4, 32, [.int .i64 0, .int .i64 0, .int .i64 0, .int .i64 0], .agg [(0, 1, false), (1, 1, false), (2, 1, false), (3, 1, false)], true⟩
theorem ok216 : TIok Try.prog 216 ti216 := TIok.ofAgg (fl := [(0, 1, false), (1, 1, false), (2, 1, false), (3, 1, false)]) (by kernel_rfl) (by kernel_rfl) rfl rfl (fun _ => EqS.of (by kernel_rfl) (by kernel_rfl) (by kernel_rfl))
def ti217 : TI := ⟨4, 32, [.int .i64 0, .int .i64 0, .int .i64 0, .int .i64 0], .agg [(0, 1, false), (1, 1, false), (2, 1, false), (3, 1, false)], true⟩
theorem ok217 : TIok Try.prog 217 ti217 := TIok.ofAgg (fl := [(0, 1, false), (1, 1, false), (2, 1, false), (3, 1, false)]) (by kernel_rfl) (by kernel_rfl) rfl rfl (fun _ => EqS.of (by kernel_rfl) (by kernel_rfl) (by kernel_rfl))
def ti223 : TI := ⟨1, 8, [.int .u64 0], .int .u64, false⟩
theorem ok223 : TIok Try.prog 223 ti223 := TIok.ofOne (z := (.int .u64 0)) (d := .int .u64) (by kernel_rfl) (by kernel_rfl) rfl rfl rfl rfl rfl
def ti233 : TI := ⟨0, 0, [], .agg [(0, 0, true)], false⟩
theorem ok233 : TIok Try.prog 233 ti233 := TIok.ofAgg (fl := [(0, 0, true)]) (by kernel_rfl) (by kernel_rfl) rfl rfl (fun h => nomatch h)
def ti234 : TI := ⟨0, 0, [], .agg [(0, 0, true)], false⟩
theorem ok234 : TIok Try.prog 234 ti234 := TIok.ofAgg (fl := [(0, 0, true)]) (by kernel_rfl) (by kernel_rfl) rfl rfl (fun h => nomatch h)
def ti236 : TI := ⟨1, 1, [.int .u8 0], .int .u8, false⟩
theorem ok236 : TIok Try.prog 236 ti236 := TIok.ofOne (z := (.int .u8 0)) (d := .int .u8) (by kernel_rfl) (by kernel_rfl) rfl rfl rfl rfl rfl
def ti237 : TI := ⟨1, 1, [.int .u8 0], .int .u8, false⟩
theorem ok237 : TIok Try.prog 237 ti237 := TIok.ofOne (z := (.int .u8 0)) (d := .int .u8) (by kernel_rfl) (by kernel_rfl) rfl rfl rfl rfl rfl
def ti239 : TI := ⟨1, 8, [.pointer none], .other, false⟩
theorem ok239 : TIok Try.prog 239 ti239 := TIok.ofOne (z := (.pointer none)) (d := .pointer 5) (by kernel_rfl) (by kernel_rfl) rfl rfl rfl rfl rfl
def ti240 : TI := ⟨1, 4, [.int .i32 0], .int .i32, false⟩
theorem ok240 : TIok Try.prog 240 ti240 := TIok.ofOne (z := (.int .i32 0)) (d := .int .i32) (by kernel_rfl) (by kernel_rfl) rfl rfl rfl rfl rfl
def ti241 : TI := ⟨1, 4, [.int .i32 0], .int .i32, false⟩
theorem ok241 : TIok Try.prog 241 ti241 := TIok.ofOne (z := (.int .i32 0)) (d := .int .i32) (by kernel_rfl) (by kernel_rfl) rfl rfl rfl rfl rfl
def T : TT := look [(2, ti2), (3, ti3), (4, ti4), (5, ti5), (6, ti6), (7, ti7), (8, ti8), (9, ti9), (10, ti10), (11, ti11), (12, ti12), (13, ti13), (14, ti14), (15, ti15), (16, ti16), (17, ti17), (18, ti18), (19, ti19), (21, ti21), (22, ti22), (23, ti23), (24, ti24), (25, ti25), (26, ti26), (27, ti27), (30, ti30), (31, ti31), (32, ti32), (34, ti34), (35, ti35), (36, ti36), (37, ti37), (38, ti38), (47, ti47), (48, ti48), (56, ti56), (57, ti57), (58, ti58), (63, ti63), (66, ti66), (70, ti70), (71, ti71), (76, ti76), (80, ti80), (81, ti81), (86, ti86), (89, ti89), (90, ti90), (96, ti96), (97, ti97), (113, ti113), (132, ti132), (133, ti133), (138, ti138), (145, ti145), (146, ti146), (155, ti155), (156, ti156), (165, ti165), (167, ti167), (171, ti171), (172, ti172), (173, ti173), (175, ti175), (176, ti176), (177, ti177), (179, ti179), (195, ti195), (196, ti196), (206, ti206), (210, ti210), (216, ti216), (217, ti217), (223, ti223), (233, ti233), (234, ti234), (236, ti236), (237, ti237), (239, ti239), (240, ti240), (241, ti241)]
theorem tok : TOk Try.prog T := TOk.ofLook ⟨ok2, ok3, ok4, ok5, ok6, ok7, ok8, ok9, ok10, ok11, ok12, ok13, ok14, ok15, ok16, ok17, ok18, ok19, ok21, ok22, ok23, ok24, ok25, ok26, ok27, ok30, ok31, ok32, ok34, ok35, ok36, ok37, ok38, ok47, ok48, ok56, ok57, ok58, ok63, ok66, ok70, ok71, ok76, ok80, ok81, ok86, ok89, ok90, ok96, ok97, ok113, ok132, ok133, ok138, ok145, ok146, ok155, ok156, ok165, ok167, ok171, ok172, ok173, ok175, ok176, ok177, ok179, ok195, ok196, ok206, ok210, ok216, ok217, ok223, ok233, ok234, ok236, ok237, ok239, ok240, ok241, trivial⟩
theorem mix : Try.prog.follows .mixedOrders = true := by kernel_rfl
theorem fn_of (A : List (Nat × List Nat)) {g : FuncId} {fn : Func} {c : Code} (hf : Try.prog.funcs[g]? = some fn) (hb : fn.body = some c) (hn : (fn.name == "runtime.NumGoroutine") = false) (hc : codeOk fn.ntmps c = true) {lvs : List LV} {r : RV} (hl : Nat.ble lvs.length fn.ntmps = true) (h : lwp Try.prog T A c (entry lvs) (FnPost T fn r)) : FnOK Try.prog g lvs r := fnOK_of A mix tok hf hb hn hc hl h
theorem mut_fn_of (A : List (Nat × List Nat)) {g : FuncId} {fn : Func} {c : Code} (hf : Try.prog.funcs[g]? = some fn) (hb : fn.body = some c) (hn : (fn.name == "runtime.NumGoroutine") = false) (hc : codeOk fn.ntmps c = true) {args : List LV} {m : Nat} {hp0 : List (Nat × Ent)} {lv : LV} {m' : Nat} {hp1 : List (Nat × Ent)} (hl : Nat.ble args.length fn.ntmps = true) (gl : List (Nat × Nat)) (h : lwp Try.prog T A c (entryM args m hp0) (MutPost T fn m lv m' hp1 gl)) : MutOK Try.prog g args m hp0 lv m' hp1 := mut_of A mix tok hf hb hn hc hl gl h
theorem fnS_fn_of (A : List (Nat × List Nat)) {g : FuncId} {fn : Func} {c : Code} (hf : Try.prog.funcs[g]? = some fn) (hb : fn.body = some c) (hn : (fn.name == "runtime.NumGoroutine") = false) (hc : codeOk fn.ntmps c = true) {lvs : List LV} {R : RV → Prop} (hl : Nat.ble lvs.length fn.ntmps = true) (h : lwp Try.prog T A c (entry lvs) (fun e s => ∃ r, R r ∧ FnPost T fn r e s)) : FnS Try.prog g lvs R := fnS_of A mix tok hf hb hn hc hl h
theorem mutS_fn_of (A : List (Nat × List Nat)) {g : FuncId} {fn : Func} {c : Code} (hf : Try.prog.funcs[g]? = some fn) (hb : fn.body = some c) (hn : (fn.name == "runtime.NumGoroutine") = false) (hc : codeOk fn.ntmps c = true) {args : List LV} {m : Nat} {hp0 : List (Nat × Ent)} {R : LV → Nat → List (Nat × Ent) → Prop} (hl : Nat.ble args.length fn.ntmps = true) (h : lwp Try.prog T A c (entryM args m hp0) (fun e s => ∃ lv m' hp1 gl, R lv m' hp1 ∧ MutPost T fn m lv m' hp1 gl e s)) : MutS Try.prog g args m hp0 R := mutS_of A mix tok hf hb hn hc hl h
end Go.Proofs.Ytojaakpnpdnbhaa.L
