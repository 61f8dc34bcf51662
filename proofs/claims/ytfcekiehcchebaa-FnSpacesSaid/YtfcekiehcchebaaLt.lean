/- The types of this seat, as the symbolic logic has them: printed by tt.py out of the translation. -/
import Derived.Test.YtfcekiehcchebaaLy
import Derived.Test.YtfcekiehcchebaaLv
import Derived.Test.YtfcekiehcchebaaProg
set_option maxRecDepth 100000
namespace Go.Proofs.Ytfcekiehcchebaa.L
open Go.RowKit
def ti2 : TI := ⟨1, 8, [.int .i64 0], .int .i64, false⟩
theorem ok2 : TIok Try.prog 2 ti2 := TIok.ofOne (z := (.int .i64 0)) (d := .int .i64) (by kernel_rfl) (by kernel_rfl) rfl rfl rfl rfl rfl
def ti3 : TI := ⟨1, 8, [.int .i64 0], .int .i64, false⟩
theorem ok3 : TIok Try.prog 3 ti3 := TIok.ofOne (z := (.int .i64 0)) (d := .int .i64) (by kernel_rfl) (by kernel_rfl) rfl rfl rfl rfl rfl
def ti4 : TI := ⟨1, 1, [.bool false], .bool, false⟩
theorem ok4 : TIok Try.prog 4 ti4 := TIok.ofOne (z := (.bool false)) (d := .bool) (by kernel_rfl) (by kernel_rfl) rfl rfl rfl rfl rfl
def ti5 : TI := ⟨1, 1, [.int .u8 0], .int .u8, false⟩
theorem ok5 : TIok Try.prog 5 ti5 := TIok.ofOne (z := (.int .u8 0)) (d := .int .u8) (by kernel_rfl) (by kernel_rfl) rfl rfl rfl rfl rfl
def ti6 : TI := ⟨1, 1, [.int .u8 0], .int .u8, false⟩
theorem ok6 : TIok Try.prog 6 ti6 := TIok.ofOne (z := (.int .u8 0)) (d := .int .u8) (by kernel_rfl) (by kernel_rfl) rfl rfl rfl rfl rfl
def ti7 : TI := ⟨4, 24, [.int .i64 0, .int .i64 0, .bool false, .int .u8 0], .agg [(0, 1, false), (1, 1, false), (2, 1, false), (3, 1, false)], false⟩
theorem ok7 : TIok Try.prog 7 ti7 := TIok.ofAgg (fl := [(0, 1, false), (1, 1, false), (2, 1, false), (3, 1, false)]) (by kernel_rfl) (by kernel_rfl) rfl rfl (fun h => nomatch h)
def ti8 : TI := ⟨4, 24, [.int .i64 0, .int .i64 0, .bool false, .int .u8 0], .agg [(0, 1, false), (1, 1, false), (2, 1, false), (3, 1, false)], false⟩
theorem ok8 : TIok Try.prog 8 ti8 := TIok.ofAgg (fl := [(0, 1, false), (1, 1, false), (2, 1, false), (3, 1, false)]) (by kernel_rfl) (by kernel_rfl) rfl rfl (fun h => nomatch h)
def ti9 : TI := ⟨1, 16, [.string ⟨#[]⟩], .str, false⟩
theorem ok9 : TIok Try.prog 9 ti9 := TIok.ofOne (z := (.string ⟨#[]⟩)) (d := .string) (by kernel_rfl) (by kernel_rfl) rfl rfl rfl rfl rfl
def ti10 : TI := ⟨1, 16, [.string ⟨#[]⟩], .str, false⟩
theorem ok10 : TIok Try.prog 10 ti10 := TIok.ofOne (z := (.string ⟨#[]⟩)) (d := .string) (by kernel_rfl) (by kernel_rfl) rfl rfl rfl rfl rfl
def ti11 : TI := ⟨1, 16, [.string ⟨#[]⟩], .str, false⟩
theorem ok11 : TIok Try.prog 11 ti11 := TIok.ofOne (z := (.string ⟨#[]⟩)) (d := .string) (by kernel_rfl) (by kernel_rfl) rfl rfl rfl rfl rfl
def ti12 : TI := ⟨1, 8, [.int .u64 0], .int .u64, false⟩
theorem ok12 : TIok Try.prog 12 ti12 := TIok.ofOne (z := (.int .u64 0)) (d := .int .u64) (by kernel_rfl) (by kernel_rfl) rfl rfl rfl rfl rfl
def ti13 : TI := ⟨2, 24, [.string ⟨#[]⟩, .int .u64 0], .agg [(0, 1, false), (1, 1, false)], false⟩
theorem ok13 : TIok Try.prog 13 ti13 := TIok.ofAgg (fl := [(0, 1, false), (1, 1, false)]) (by kernel_rfl) (by kernel_rfl) rfl rfl (fun h => nomatch h)
def ti14 : TI := ⟨2, 24, [.string ⟨#[]⟩, .int .u64 0], .agg [(0, 1, false), (1, 1, false)], false⟩
theorem ok14 : TIok Try.prog 14 ti14 := TIok.ofAgg (fl := [(0, 1, false), (1, 1, false)]) (by kernel_rfl) (by kernel_rfl) rfl rfl (fun h => nomatch h)
def ti21 : TI := ⟨1, 4, [.int .i32 0], .int .i32, false⟩
theorem ok21 : TIok Try.prog 21 ti21 := TIok.ofOne (z := (.int .i32 0)) (d := .int .i32) (by kernel_rfl) (by kernel_rfl) rfl rfl rfl rfl rfl
def ti22 : TI := ⟨1, 24, [.slice none 0 0], .slice 2, false⟩
theorem ok22 : TIok Try.prog 22 ti22 := TIok.ofOne (z := (.slice none 0 0)) (d := .slice 2) (by kernel_rfl) (by kernel_rfl) rfl rfl rfl rfl rfl
def ti23 : TI := ⟨9, 120, [.slice none 0 0, .int .i64 0, .slice none 0 0, .bool false, .bool false, .bool false, .int .i64 0, .slice none 0 0, .slice none 0 0], .agg [(0, 1, false), (1, 1, false), (2, 1, false), (3, 1, false), (4, 1, false), (5, 1, false), (6, 1, false), (7, 1, false), (8, 1, false)], false⟩
theorem ok23 : TIok Try.prog 23 ti23 := TIok.ofAgg (fl := [(0, 1, false), (1, 1, false), (2, 1, false), (3, 1, false), (4, 1, false), (5, 1, false), (6, 1, false), (7, 1, false), (8, 1, false)]) (by kernel_rfl) (by kernel_rfl) rfl rfl (fun h => nomatch h)
def ti24 : TI := ⟨9, 120, [.slice none 0 0, .int .i64 0, .slice none 0 0, .bool false, .bool false, .bool false, .int .i64 0, .slice none 0 0, .slice none 0 0], .agg [(0, 1, false), (1, 1, false), (2, 1, false), (3, 1, false), (4, 1, false), (5, 1, false), (6, 1, false), (7, 1, false), (8, 1, false)], false⟩
theorem ok24 : TIok Try.prog 24 ti24 := TIok.ofAgg (fl := [(0, 1, false), (1, 1, false), (2, 1, false), (3, 1, false), (4, 1, false), (5, 1, false), (6, 1, false), (7, 1, false), (8, 1, false)]) (by kernel_rfl) (by kernel_rfl) rfl rfl (fun h => nomatch h)
def ti25 : TI := ⟨1, 24, [.slice none 0 0], .slice 131, false⟩
theorem ok25 : TIok Try.prog 25 ti25 := TIok.ofOne (z := (.slice none 0 0)) (d := .slice 131) (by kernel_rfl) (by kernel_rfl) rfl rfl rfl rfl rfl
def ti26 : TI := ⟨11, 168, [.slice none 0 0, .int .i64 0, .slice none 0 0, .bool false, .bool false, .bool false, .int .i64 0, .slice none 0 0, .slice none 0 0, .slice none 0 0, .slice none 0 0], .agg [(0, 9, true), (9, 1, false), (10, 1, false)], false⟩
theorem ok26 : TIok Try.prog 26 ti26 := TIok.ofAgg (fl := [(0, 9, true), (9, 1, false), (10, 1, false)]) (by kernel_rfl) (by kernel_rfl) rfl rfl (fun h => nomatch h)
def ti27 : TI := ⟨11, 168, [.slice none 0 0, .int .i64 0, .slice none 0 0, .bool false, .bool false, .bool false, .int .i64 0, .slice none 0 0, .slice none 0 0, .slice none 0 0, .slice none 0 0], .agg [(0, 9, true), (9, 1, false), (10, 1, false)], false⟩
theorem ok27 : TIok Try.prog 27 ti27 := TIok.ofAgg (fl := [(0, 9, true), (9, 1, false), (10, 1, false)]) (by kernel_rfl) (by kernel_rfl) rfl rfl (fun h => nomatch h)
def ti30 : TI := ⟨9, 120, [.slice none 0 0, .int .i64 0, .slice none 0 0, .bool false, .bool false, .bool false, .int .i64 0, .slice none 0 0, .slice none 0 0], .agg [(0, 1, false), (1, 1, false), (2, 1, false), (3, 1, false), (4, 1, false), (5, 1, false), (6, 1, false), (7, 1, false), (8, 1, false)], false⟩
theorem ok30 : TIok Try.prog 30 ti30 := TIok.ofAgg (fl := [(0, 1, false), (1, 1, false), (2, 1, false), (3, 1, false), (4, 1, false), (5, 1, false), (6, 1, false), (7, 1, false), (8, 1, false)]) (by kernel_rfl) (by kernel_rfl) rfl rfl (fun h => nomatch h)
def ti31 : TI := ⟨1, 24, [.slice none 0 0], .slice 129, false⟩
theorem ok31 : TIok Try.prog 31 ti31 := TIok.ofOne (z := (.slice none 0 0)) (d := .slice 129) (by kernel_rfl) (by kernel_rfl) rfl rfl rfl rfl rfl
def ti32 : TI := ⟨11, 168, [.slice none 0 0, .int .i64 0, .slice none 0 0, .bool false, .bool false, .bool false, .int .i64 0, .slice none 0 0, .slice none 0 0, .slice none 0 0, .slice none 0 0], .agg [(0, 9, true), (9, 1, false), (10, 1, false)], false⟩
theorem ok32 : TIok Try.prog 32 ti32 := TIok.ofAgg (fl := [(0, 9, true), (9, 1, false), (10, 1, false)]) (by kernel_rfl) (by kernel_rfl) rfl rfl (fun h => nomatch h)
def ti33 : TI := ⟨11, 168, [.slice none 0 0, .int .i64 0, .slice none 0 0, .bool false, .bool false, .bool false, .int .i64 0, .slice none 0 0, .slice none 0 0, .slice none 0 0, .slice none 0 0], .agg [(0, 9, true), (9, 1, false), (10, 1, false)], false⟩
theorem ok33 : TIok Try.prog 33 ti33 := TIok.ofAgg (fl := [(0, 9, true), (9, 1, false), (10, 1, false)]) (by kernel_rfl) (by kernel_rfl) rfl rfl (fun h => nomatch h)
def ti38 : TI := ⟨12, 144, [.int .i64 0, .int .i64 0, .int .i64 0, .slice none 0 0, .int .i64 0, .slice none 0 0, .bool false, .bool false, .bool false, .int .i64 0, .slice none 0 0, .slice none 0 0], .agg [(0, 1, false), (1, 1, false), (2, 1, false), (3, 9, true)], false⟩
theorem ok38 : TIok Try.prog 38 ti38 := TIok.ofAgg (fl := [(0, 1, false), (1, 1, false), (2, 1, false), (3, 9, true)]) (by kernel_rfl) (by kernel_rfl) rfl rfl (fun h => nomatch h)
def ti39 : TI := ⟨12, 144, [.int .i64 0, .int .i64 0, .int .i64 0, .slice none 0 0, .int .i64 0, .slice none 0 0, .bool false, .bool false, .bool false, .int .i64 0, .slice none 0 0, .slice none 0 0], .agg [(0, 1, false), (1, 1, false), (2, 1, false), (3, 9, true)], false⟩
theorem ok39 : TIok Try.prog 39 ti39 := TIok.ofAgg (fl := [(0, 1, false), (1, 1, false), (2, 1, false), (3, 9, true)]) (by kernel_rfl) (by kernel_rfl) rfl rfl (fun h => nomatch h)
def ti49 : TI := ⟨1, 24, [.slice none 0 0], .slice 5, false⟩
theorem ok49 : TIok Try.prog 49 ti49 := TIok.ofOne (z := (.slice none 0 0)) (d := .slice 5) (by kernel_rfl) (by kernel_rfl) rfl rfl rfl rfl rfl
def ti53 : TI := ⟨10, 128, [.int .i64 0, .slice none 0 0, .int .i64 0, .slice none 0 0, .bool false, .bool false, .bool false, .int .i64 0, .slice none 0 0, .slice none 0 0], .agg [(0, 1, false), (1, 9, true)], false⟩
theorem ok53 : TIok Try.prog 53 ti53 := TIok.ofAgg (fl := [(0, 1, false), (1, 9, true)]) (by kernel_rfl) (by kernel_rfl) rfl rfl (fun h => nomatch h)
def ti54 : TI := ⟨10, 128, [.int .i64 0, .slice none 0 0, .int .i64 0, .slice none 0 0, .bool false, .bool false, .bool false, .int .i64 0, .slice none 0 0, .slice none 0 0], .agg [(0, 1, false), (1, 9, true)], false⟩
theorem ok54 : TIok Try.prog 54 ti54 := TIok.ofAgg (fl := [(0, 1, false), (1, 9, true)]) (by kernel_rfl) (by kernel_rfl) rfl rfl (fun h => nomatch h)
def ti59 : TI := ⟨2, 16, [.int .i64 0, .int .i64 0], .agg [(0, 1, false), (1, 1, false)], true⟩
theorem ok59 : TIok Try.prog 59 ti59 := TIok.ofAgg (fl := [(0, 1, false), (1, 1, false)]) (by kernel_rfl) (by kernel_rfl) rfl rfl (fun _ => EqS.of (by kernel_rfl) (by kernel_rfl) (by kernel_rfl))
def ti60 : TI := ⟨2, 16, [.int .i64 0, .int .i64 0], .agg [(0, 1, false), (1, 1, false)], true⟩
theorem ok60 : TIok Try.prog 60 ti60 := TIok.ofAgg (fl := [(0, 1, false), (1, 1, false)]) (by kernel_rfl) (by kernel_rfl) rfl rfl (fun _ => EqS.of (by kernel_rfl) (by kernel_rfl) (by kernel_rfl))
def ti62 : TI := ⟨2, 32, [.int .i64 0, .slice none 0 0], .agg [(0, 1, false), (1, 1, false)], false⟩
theorem ok62 : TIok Try.prog 62 ti62 := TIok.ofAgg (fl := [(0, 1, false), (1, 1, false)]) (by kernel_rfl) (by kernel_rfl) rfl rfl (fun h => nomatch h)
def ti63 : TI := ⟨2, 32, [.int .i64 0, .slice none 0 0], .agg [(0, 1, false), (1, 1, false)], false⟩
theorem ok63 : TIok Try.prog 63 ti63 := TIok.ofAgg (fl := [(0, 1, false), (1, 1, false)]) (by kernel_rfl) (by kernel_rfl) rfl rfl (fun h => nomatch h)
def ti70 : TI := ⟨2, 32, [.int .i64 0, .slice none 0 0], .agg [(0, 1, false), (1, 1, false)], false⟩
theorem ok70 : TIok Try.prog 70 ti70 := TIok.ofAgg (fl := [(0, 1, false), (1, 1, false)]) (by kernel_rfl) (by kernel_rfl) rfl rfl (fun h => nomatch h)
def ti71 : TI := ⟨2, 32, [.int .i64 0, .slice none 0 0], .agg [(0, 1, false), (1, 1, false)], false⟩
theorem ok71 : TIok Try.prog 71 ti71 := TIok.ofAgg (fl := [(0, 1, false), (1, 1, false)]) (by kernel_rfl) (by kernel_rfl) rfl rfl (fun h => nomatch h)
def ti84 : TI := ⟨12, 176, [.int .i64 0, .slice none 0 0, .int .i64 0, .slice none 0 0, .bool false, .bool false, .bool false, .int .i64 0, .slice none 0 0, .slice none 0 0, .slice none 0 0, .slice none 0 0], .agg [(0, 1, false), (1, 11, true)], false⟩
theorem ok84 : TIok Try.prog 84 ti84 := TIok.ofAgg (fl := [(0, 1, false), (1, 11, true)]) (by kernel_rfl) (by kernel_rfl) rfl rfl (fun h => nomatch h)
def ti85 : TI := ⟨12, 176, [.int .i64 0, .slice none 0 0, .int .i64 0, .slice none 0 0, .bool false, .bool false, .bool false, .int .i64 0, .slice none 0 0, .slice none 0 0, .slice none 0 0, .slice none 0 0], .agg [(0, 1, false), (1, 11, true)], false⟩
theorem ok85 : TIok Try.prog 85 ti85 := TIok.ofAgg (fl := [(0, 1, false), (1, 11, true)]) (by kernel_rfl) (by kernel_rfl) rfl rfl (fun h => nomatch h)
def ti90 : TI := ⟨4, 32, [.int .i64 0, .int .i64 0, .int .i64 0, .int .i64 0], .agg [(0, 1, false), (1, 1, false), (2, 1, false), (3, 1, false)], true⟩
theorem ok90 : TIok Try.prog 90 ti90 := TIok.ofAgg (fl := [(0, 1, false), (1, 1, false), (2, 1, false), (3, 1, false)]) (by kernel_rfl) (by kernel_rfl) rfl rfl (fun _ => EqS.of (by kernel_rfl) (by kernel_rfl) (by kernel_rfl))
def ti91 : TI := ⟨4, 32, [.int .i64 0, .int .i64 0, .int .i64 0, .int .i64 0], .agg [(0, 1, false), (1, 1, false), (2, 1, false), (3, 1, false)], true⟩
theorem ok91 : TIok Try.prog 91 ti91 := TIok.ofAgg (fl := [(0, 1, false), (1, 1, false), (2, 1, false), (3, 1, false)]) (by kernel_rfl) (by kernel_rfl) rfl rfl (fun _ => EqS.of (by kernel_rfl) (by kernel_rfl) (by kernel_rfl))
def ti92 : TI := ⟨5, 40, [.int .i64 0, .int .i64 0, .int .i64 0, .int .i64 0, .int .i64 0], .agg [(0, 1, false), (1, 4, true)], false⟩
theorem ok92 : TIok Try.prog 92 ti92 := TIok.ofAgg (fl := [(0, 1, false), (1, 4, true)]) (by kernel_rfl) (by kernel_rfl) rfl rfl (fun h => nomatch h)
def ti93 : TI := ⟨5, 40, [.int .i64 0, .int .i64 0, .int .i64 0, .int .i64 0, .int .i64 0], .agg [(0, 1, false), (1, 4, true)], false⟩
theorem ok93 : TIok Try.prog 93 ti93 := TIok.ofAgg (fl := [(0, 1, false), (1, 4, true)]) (by kernel_rfl) (by kernel_rfl) rfl rfl (fun h => nomatch h)
def ti126 : TI := ⟨13, 184, [.slice none 0 0, .slice none 0 0, .int .i64 0, .slice none 0 0, .int .i64 0, .slice none 0 0, .bool false, .bool false, .bool false, .int .i64 0, .slice none 0 0, .slice none 0 0, .int .i64 0], .agg [(0, 1, false), (1, 1, false), (2, 1, false), (3, 9, true), (12, 1, false)], false⟩
theorem ok126 : TIok Try.prog 126 ti126 := TIok.ofAgg (fl := [(0, 1, false), (1, 1, false), (2, 1, false), (3, 9, true), (12, 1, false)]) (by kernel_rfl) (by kernel_rfl) rfl rfl (fun h => nomatch h)
def ti127 : TI := ⟨13, 184, [.slice none 0 0, .slice none 0 0, .int .i64 0, .slice none 0 0, .int .i64 0, .slice none 0 0, .bool false, .bool false, .bool false, .int .i64 0, .slice none 0 0, .slice none 0 0, .int .i64 0], .agg [(0, 1, false), (1, 1, false), (2, 1, false), (3, 9, true), (12, 1, false)], false⟩
theorem ok127 : TIok Try.prog 127 ti127 := TIok.ofAgg (fl := [(0, 1, false), (1, 1, false), (2, 1, false), (3, 9, true), (12, 1, false)]) (by kernel_rfl) (by kernel_rfl) rfl rfl (fun h => nomatch h)
def ti128 : TI := ⟨2, 16, [.int .i64 0, .int .i64 0], .agg [(0, 1, false), (1, 1, false)], true⟩
theorem ok128 : TIok Try.prog 128 ti128 := TIok.ofAgg (fl := [(0, 1, false), (1, 1, false)]) (by kernel_rfl) (by kernel_rfl) rfl rfl (fun _ => EqS.of (by kernel_rfl) (by kernel_rfl) (by kernel_rfl))
def ti129 : TI := ⟨2, 16, [.int .i64 0, .int .i64 0], .agg [(0, 1, false), (1, 1, false)], true⟩
theorem ok129 : TIok Try.prog 129 ti129 := TIok.ofAgg (fl := [(0, 1, false), (1, 1, false)]) (by kernel_rfl) (by kernel_rfl) rfl rfl (fun _ => EqS.of (by kernel_rfl) (by kernel_rfl) (by kernel_rfl))
def ti131 : TI := ⟨2, 16, [.int .i64 0, .int .i64 0], .agg [(0, 1, false), (1, 1, false)], true⟩
theorem ok131 : TIok Try.prog 131 ti131 := TIok.ofAgg (fl := [(0, 1, false), (1, 1, false)]) (by kernel_rfl) (by kernel_rfl) rfl rfl (fun _ => EqS.of (by kernel_rfl) (by kernel_rfl) (by kernel_rfl))
def ti149 : TI := ⟨2, 32, [.slice none 0 0, .int .i64 0], .agg [(0, 1, false), (1, 1, false)], false⟩
theorem ok149 : TIok Try.prog 149 ti149 := TIok.ofAgg (fl := [(0, 1, false), (1, 1, false)]) (by kernel_rfl) (by kernel_rfl) rfl rfl (fun h => nomatch h)
def ti150 : TI := ⟨2, 32, [.slice none 0 0, .int .i64 0], .agg [(0, 1, false), (1, 1, false)], false⟩
theorem ok150 : TIok Try.prog 150 ti150 := TIok.ofAgg (fl := [(0, 1, false), (1, 1, false)]) (by kernel_rfl) (by kernel_rfl) rfl rfl (fun h => nomatch h)
def ti162 : TI := ⟨1, 8, [.int .u64 0], .int .u64, false⟩
theorem ok162 : TIok Try.prog 162 ti162 := TIok.ofOne (z := (.int .u64 0)) (d := .int .u64) (by kernel_rfl) (by kernel_rfl) rfl rfl rfl rfl rfl
def ti165 : TI := ⟨2, 32, [.int .i64 0, .slice none 0 0], .agg [(0, 1, false), (1, 1, false)], false⟩
theorem ok165 : TIok Try.prog 165 ti165 := TIok.ofAgg (fl := [(0, 1, false), (1, 1, false)]) (by kernel_rfl) (by kernel_rfl) rfl rfl (fun h => nomatch h)
def ti166 : TI := ⟨2, 32, [.int .i64 0, .slice none 0 0], .agg [(0, 1, false), (1, 1, false)], false⟩
theorem ok166 : TIok Try.prog 166 ti166 := TIok.ofAgg (fl := [(0, 1, false), (1, 1, false)]) (by kernel_rfl) (by kernel_rfl) rfl rfl (fun h => nomatch h)
def ti170 : TI := ⟨1, 4, [.int .u32 0], .int .u32, false⟩
theorem ok170 : TIok Try.prog 170 ti170 := TIok.ofOne (z := (.int .u32 0)) (d := .int .u32) (by kernel_rfl) (by kernel_rfl) rfl rfl rfl rfl rfl
def ti183 : TI := ⟨0, 0, [], .agg [(0, 0, true)], false⟩
theorem ok183 : TIok Try.prog 183 ti183 := TIok.ofAgg (fl := [(0, 0, true)]) (by kernel_rfl) (by kernel_rfl) rfl rfl (fun h => nomatch h)
def ti184 : TI := ⟨0, 0, [], .agg [(0, 0, true)], false⟩
theorem ok184 : TIok Try.prog 184 ti184 := TIok.ofAgg (fl := [(0, 0, true)]) (by kernel_rfl) (by kernel_rfl) rfl rfl (fun h => nomatch h)
def ti186 : TI := ⟨1, 1, [.int .u8 0], .int .u8, false⟩
theorem ok186 : TIok Try.prog 186 ti186 := TIok.ofOne (z := (.int .u8 0)) (d := .int .u8) (by kernel_rfl) (by kernel_rfl) rfl rfl rfl rfl rfl
def ti187 : TI := ⟨1, 1, [.int .u8 0], .int .u8, false⟩
theorem ok187 : TIok Try.prog 187 ti187 := TIok.ofOne (z := (.int .u8 0)) (d := .int .u8) (by kernel_rfl) (by kernel_rfl) rfl rfl rfl rfl rfl
def ti190 : TI := ⟨1, 4, [.int .i32 0], .int .i32, false⟩
theorem ok190 : TIok Try.prog 190 ti190 := TIok.ofOne (z := (.int .i32 0)) (d := .int .i32) (by kernel_rfl) (by kernel_rfl) rfl rfl rfl rfl rfl
def ti191 : TI := ⟨1, 4, [.int .i32 0], .int .i32, false⟩
theorem ok191 : TIok Try.prog 191 ti191 := TIok.ofOne (z := (.int .i32 0)) (d := .int .i32) (by kernel_rfl) (by kernel_rfl) rfl rfl rfl rfl rfl
def T : TT := look [(2, ti2), (3, ti3), (4, ti4), (5, ti5), (6, ti6), (7, ti7), (8, ti8), (9, ti9), (10, ti10), (11, ti11), (12, ti12), (13, ti13), (14, ti14), (21, ti21), (22, ti22), (23, ti23), (24, ti24), (25, ti25), (26, ti26), (27, ti27), (30, ti30), (31, ti31), (32, ti32), (33, ti33), (38, ti38), (39, ti39), (49, ti49), (53, ti53), (54, ti54), (59, ti59), (60, ti60), (62, ti62), (63, ti63), (70, ti70), (71, ti71), (84, ti84), (85, ti85), (90, ti90), (91, ti91), (92, ti92), (93, ti93), (126, ti126), (127, ti127), (128, ti128), (129, ti129), (131, ti131), (149, ti149), (150, ti150), (162, ti162), (165, ti165), (166, ti166), (170, ti170), (183, ti183), (184, ti184), (186, ti186), (187, ti187), (190, ti190), (191, ti191)]
theorem tok : TOk Try.prog T := TOk.ofLook ⟨ok2, ok3, ok4, ok5, ok6, ok7, ok8, ok9, ok10, ok11, ok12, ok13, ok14, ok21, ok22, ok23, ok24, ok25, ok26, ok27, ok30, ok31, ok32, ok33, ok38, ok39, ok49, ok53, ok54, ok59, ok60, ok62, ok63, ok70, ok71, ok84, ok85, ok90, ok91, ok92, ok93, ok126, ok127, ok128, ok129, ok131, ok149, ok150, ok162, ok165, ok166, ok170, ok183, ok184, ok186, ok187, ok190, ok191, trivial⟩
theorem mix : Try.prog.follows .mixedOrders = true := by kernel_rfl
theorem fn_of (A : List (Nat × List Nat)) {g : FuncId} {fn : Func} {c : Code} (hf : Try.prog.funcs[g]? = some fn) (hb : fn.body = some c) (hn : (fn.name == "runtime.NumGoroutine") = false) (hc : codeOk fn.ntmps c = true) {lvs : List LV} {r : RV} (hl : Nat.ble lvs.length fn.ntmps = true) (h : lwp Try.prog T A c (entry lvs) (FnPost T fn r)) : FnOK Try.prog g lvs r := fnOK_of A mix tok hf hb hn hc hl h
theorem mut_fn_of (A : List (Nat × List Nat)) {g : FuncId} {fn : Func} {c : Code} (hf : Try.prog.funcs[g]? = some fn) (hb : fn.body = some c) (hn : (fn.name == "runtime.NumGoroutine") = false) (hc : codeOk fn.ntmps c = true) {args : List LV} {m : Nat} {hp0 : List (Nat × Ent)} {lv : LV} {m' : Nat} {hp1 : List (Nat × Ent)} (hl : Nat.ble args.length fn.ntmps = true) (gl : List (Nat × Nat)) (h : lwp Try.prog T A c (entryM args m hp0) (MutPost T fn m lv m' hp1 gl)) : MutOK Try.prog g args m hp0 lv m' hp1 := mut_of A mix tok hf hb hn hc hl gl h
theorem fnS_fn_of (A : List (Nat × List Nat)) {g : FuncId} {fn : Func} {c : Code} (hf : Try.prog.funcs[g]? = some fn) (hb : fn.body = some c) (hn : (fn.name == "runtime.NumGoroutine") = false) (hc : codeOk fn.ntmps c = true) {lvs : List LV} {R : RV → Prop} (hl : Nat.ble lvs.length fn.ntmps = true) (h : lwp Try.prog T A c (entry lvs) (fun e s => ∃ r, R r ∧ FnPost T fn r e s)) : FnS Try.prog g lvs R := fnS_of A mix tok hf hb hn hc hl h
theorem mutS_fn_of (A : List (Nat × List Nat)) {g : FuncId} {fn : Func} {c : Code} (hf : Try.prog.funcs[g]? = some fn) (hb : fn.body = some c) (hn : (fn.name == "runtime.NumGoroutine") = false) (hc : codeOk fn.ntmps c = true) {args : List LV} {m : Nat} {hp0 : List (Nat × Ent)} {R : LV → Nat → List (Nat × Ent) → Prop} (hl : Nat.ble args.length fn.ntmps = true) (h : lwp Try.prog T A c (entryM args m hp0) (fun e s => ∃ lv m' hp1 gl, R lv m' hp1 ∧ MutPost T fn m lv m' hp1 gl e s)) : MutS Try.prog g args m hp0 R := mutS_of A mix tok hf hb hn hc hl h
end Go.Proofs.Ytfcekiehcchebaa.L
