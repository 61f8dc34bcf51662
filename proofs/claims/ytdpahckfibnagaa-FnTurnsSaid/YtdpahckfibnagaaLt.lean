/- The types of this seat, as the symbolic logic has them: printed by tt.py out of the translation. -/
import Derived.Test.YtdpahckfibnagaaLy
import Derived.Test.YtdpahckfibnagaaLv
import Derived.Test.YtdpahckfibnagaaProg
set_option maxRecDepth 100000
namespace Go.Proofs.Ytdpahckfibnagaa.L
open Go.RowKit
def ti2 : TI := ⟨1, 8, [.int .i64 0], .int .i64, false⟩
theorem ok2 : TIok Try.prog 2 ti2 := TIok.ofOne (z := (.int .i64 0)) (d := .int .i64) (by kernel_rfl) (by kernel_rfl) rfl rfl rfl rfl rfl
def ti3 : TI := ⟨1, 8, [.int .i64 0], .int .i64, false⟩
theorem ok3 : TIok Try.prog 3 ti3 := TIok.ofOne (z := (.int .i64 0)) (d := .int .i64) (by kernel_rfl) (by kernel_rfl) rfl rfl rfl rfl rfl
def ti4 : TI := ⟨1, 1, [.bool false], .bool, false⟩
theorem ok4 : TIok Try.prog 4 ti4 := TIok.ofOne (z := (.bool false)) (d := .bool) (by kernel_rfl) (by kernel_rfl) rfl rfl rfl rfl rfl
def ti5 : TI := ⟨1, 1, [.int .u8 0], .int .u8, false⟩
theorem ok5 : TIok Try.prog 5 ti5 := TIok.ofOne (z := (.int .u8 0)) (d := .int .u8) (by kernel_rfl) (by kernel_rfl) rfl rfl rfl rfl rfl
def ti6 : TI := ⟨1, 1, [.int .u8 0], .int .u8, false⟩
theorem ok6 : TIok Try.prog 6 ti6 := TIok.ofOne (z := (.int .u8 0)) (d := .int .u8) (by kernel_rfl) (by kernel_rfl) rfl rfl rfl rfl rfl
def ti7 : TI := ⟨4, 24, [.int .i64 0, .int .i64 0, .bool false, .int .u8 0], .agg [(0, 1, false), (1, 1, false), (2, 1, false), (3, 1, false)], false⟩
theorem ok7 : TIok Try.prog 7 ti7 := TIok.ofAgg (fl := [(0, 1, false), (1, 1, false), (2, 1, false), (3, 1, false)]) (by kernel_rfl) (by kernel_rfl) rfl rfl (fun h => nomatch h)
def ti8 : TI := ⟨4, 24, [.int .i64 0, .int .i64 0, .bool false, .int .u8 0], .agg [(0, 1, false), (1, 1, false), (2, 1, false), (3, 1, false)], false⟩
theorem ok8 : TIok Try.prog 8 ti8 := TIok.ofAgg (fl := [(0, 1, false), (1, 1, false), (2, 1, false), (3, 1, false)]) (by kernel_rfl) (by kernel_rfl) rfl rfl (fun h => nomatch h)
def ti9 : TI := ⟨1, 16, [.string ⟨#[]⟩], .str, false⟩
theorem ok9 : TIok Try.prog 9 ti9 := TIok.ofOne (z := (.string ⟨#[]⟩)) (d := .string) (by kernel_rfl) (by kernel_rfl) rfl rfl rfl rfl rfl
def ti10 : TI := ⟨1, 16, [.string ⟨#[]⟩], .str, false⟩
theorem ok10 : TIok Try.prog 10 ti10 := TIok.ofOne (z := (.string ⟨#[]⟩)) (d := .string) (by kernel_rfl) (by kernel_rfl) rfl rfl rfl rfl rfl
def ti11 : TI := ⟨1, 16, [.string ⟨#[]⟩], .str, false⟩
theorem ok11 : TIok Try.prog 11 ti11 := TIok.ofOne (z := (.string ⟨#[]⟩)) (d := .string) (by kernel_rfl) (by kernel_rfl) rfl rfl rfl rfl rfl
def ti12 : TI := ⟨1, 8, [.int .u64 0], .int .u64, false⟩
theorem ok12 : TIok Try.prog 12 ti12 := TIok.ofOne (z := (.int .u64 0)) (d := .int .u64) (by kernel_rfl) (by kernel_rfl) rfl rfl rfl rfl rfl
def ti13 : TI := ⟨2, 24, [.string ⟨#[]⟩, .int .u64 0], .agg [(0, 1, false), (1, 1, false)], false⟩
theorem ok13 : TIok Try.prog 13 ti13 := TIok.ofAgg (fl := [(0, 1, false), (1, 1, false)]) (by kernel_rfl) (by kernel_rfl) rfl rfl (fun h => nomatch h)
def ti14 : TI := ⟨2, 24, [.string ⟨#[]⟩, .int .u64 0], .agg [(0, 1, false), (1, 1, false)], false⟩
theorem ok14 : TIok Try.prog 14 ti14 := TIok.ofAgg (fl := [(0, 1, false), (1, 1, false)]) (by kernel_rfl) (by kernel_rfl) rfl rfl (fun h => nomatch h)
def ti15 : TI := ⟨1, 8, [.pointer none], .other, false⟩
theorem ok15 : TIok Try.prog 15 ti15 := TIok.ofOne (z := (.pointer none)) (d := .pointer 169) (by kernel_rfl) (by kernel_rfl) rfl rfl rfl rfl rfl
def ti16 : TI := ⟨1, 8, [.pointer none], .other, false⟩
theorem ok16 : TIok Try.prog 16 ti16 := TIok.ofOne (z := (.pointer none)) (d := .pointer 172) (by kernel_rfl) (by kernel_rfl) rfl rfl rfl rfl rfl
def ti17 : TI := ⟨1, 8, [.pointer none], .other, false⟩
theorem ok17 : TIok Try.prog 17 ti17 := TIok.ofOne (z := (.pointer none)) (d := .pointer 181) (by kernel_rfl) (by kernel_rfl) rfl rfl rfl rfl rfl
def ti18 : TI := ⟨1, 8, [.pointer none], .agg [(0, 1, false)], false⟩
theorem ok18 : TIok Try.prog 18 ti18 := TIok.ofAgg (fl := [(0, 1, false)]) (by kernel_rfl) (by kernel_rfl) rfl rfl (fun h => nomatch h)
def ti19 : TI := ⟨1, 8, [.pointer none], .agg [(0, 1, false)], false⟩
theorem ok19 : TIok Try.prog 19 ti19 := TIok.ofAgg (fl := [(0, 1, false)]) (by kernel_rfl) (by kernel_rfl) rfl rfl (fun h => nomatch h)
def ti21 : TI := ⟨1, 4, [.int .i32 0], .int .i32, false⟩
theorem ok21 : TIok Try.prog 21 ti21 := TIok.ofOne (z := (.int .i32 0)) (d := .int .i32) (by kernel_rfl) (by kernel_rfl) rfl rfl rfl rfl rfl
def ti22 : TI := ⟨1, 24, [.slice none 0 0], .slice 56, false⟩
theorem ok22 : TIok Try.prog 22 ti22 := TIok.ofOne (z := (.slice none 0 0)) (d := .slice 56) (by kernel_rfl) (by kernel_rfl) rfl rfl rfl rfl rfl
def ti23 : TI := ⟨1, 24, [.slice none 0 0], .slice 118, false⟩
theorem ok23 : TIok Try.prog 23 ti23 := TIok.ofOne (z := (.slice none 0 0)) (d := .slice 118) (by kernel_rfl) (by kernel_rfl) rfl rfl rfl rfl rfl
def ti24 : TI := ⟨1, 24, [.slice none 0 0], .slice 120, false⟩
theorem ok24 : TIok Try.prog 24 ti24 := TIok.ofOne (z := (.slice none 0 0)) (d := .slice 120) (by kernel_rfl) (by kernel_rfl) rfl rfl rfl rfl rfl
def ti25 : TI := ⟨1, 24, [.slice none 0 0], .slice 122, false⟩
theorem ok25 : TIok Try.prog 25 ti25 := TIok.ofOne (z := (.slice none 0 0)) (d := .slice 122) (by kernel_rfl) (by kernel_rfl) rfl rfl rfl rfl rfl
def ti26 : TI := ⟨4, 96, [.slice none 0 0, .slice none 0 0, .slice none 0 0, .slice none 0 0], .agg [(0, 1, false), (1, 1, false), (2, 1, false), (3, 1, false)], false⟩
theorem ok26 : TIok Try.prog 26 ti26 := TIok.ofAgg (fl := [(0, 1, false), (1, 1, false), (2, 1, false), (3, 1, false)]) (by kernel_rfl) (by kernel_rfl) rfl rfl (fun h => nomatch h)
def ti27 : TI := ⟨4, 96, [.slice none 0 0, .slice none 0 0, .slice none 0 0, .slice none 0 0], .agg [(0, 1, false), (1, 1, false), (2, 1, false), (3, 1, false)], false⟩
theorem ok27 : TIok Try.prog 27 ti27 := TIok.ofAgg (fl := [(0, 1, false), (1, 1, false), (2, 1, false), (3, 1, false)]) (by kernel_rfl) (by kernel_rfl) rfl rfl (fun h => nomatch h)
def ti30 : TI := ⟨1, 24, [.slice none 0 0], .slice 84, false⟩
theorem ok30 : TIok Try.prog 30 ti30 := TIok.ofOne (z := (.slice none 0 0)) (d := .slice 84) (by kernel_rfl) (by kernel_rfl) rfl rfl rfl rfl rfl
def ti31 : TI := ⟨1, 24, [.slice none 0 0], .slice 87, false⟩
theorem ok31 : TIok Try.prog 31 ti31 := TIok.ofOne (z := (.slice none 0 0)) (d := .slice 87) (by kernel_rfl) (by kernel_rfl) rfl rfl rfl rfl rfl
def ti32 : TI := ⟨1, 24, [.slice none 0 0], .slice 45, false⟩
theorem ok32 : TIok Try.prog 32 ti32 := TIok.ofOne (z := (.slice none 0 0)) (d := .slice 45) (by kernel_rfl) (by kernel_rfl) rfl rfl rfl rfl rfl
def ti33 : TI := ⟨4, 96, [.slice none 0 0, .slice none 0 0, .slice none 0 0, .slice none 0 0], .agg [(0, 1, false), (1, 1, false), (2, 1, false), (3, 1, false)], false⟩
theorem ok33 : TIok Try.prog 33 ti33 := TIok.ofAgg (fl := [(0, 1, false), (1, 1, false), (2, 1, false), (3, 1, false)]) (by kernel_rfl) (by kernel_rfl) rfl rfl (fun h => nomatch h)
def ti34 : TI := ⟨4, 96, [.slice none 0 0, .slice none 0 0, .slice none 0 0, .slice none 0 0], .agg [(0, 1, false), (1, 1, false), (2, 1, false), (3, 1, false)], false⟩
theorem ok34 : TIok Try.prog 34 ti34 := TIok.ofAgg (fl := [(0, 1, false), (1, 1, false), (2, 1, false), (3, 1, false)]) (by kernel_rfl) (by kernel_rfl) rfl rfl (fun h => nomatch h)
def ti38 : TI := ⟨2, 16, [.int .i64 0, .int .i64 0], .agg [(0, 1, false), (1, 1, false)], true⟩
theorem ok38 : TIok Try.prog 38 ti38 := TIok.ofAgg (fl := [(0, 1, false), (1, 1, false)]) (by kernel_rfl) (by kernel_rfl) rfl rfl (fun _ => EqS.of (by kernel_rfl) (by kernel_rfl) (by kernel_rfl))
def ti39 : TI := ⟨2, 16, [.int .i64 0, .int .i64 0], .agg [(0, 1, false), (1, 1, false)], true⟩
theorem ok39 : TIok Try.prog 39 ti39 := TIok.ofAgg (fl := [(0, 1, false), (1, 1, false)]) (by kernel_rfl) (by kernel_rfl) rfl rfl (fun _ => EqS.of (by kernel_rfl) (by kernel_rfl) (by kernel_rfl))
def ti44 : TI := ⟨2, 16, [.int .i64 0, .int .i64 0], .agg [(0, 1, false), (1, 1, false)], true⟩
theorem ok44 : TIok Try.prog 44 ti44 := TIok.ofAgg (fl := [(0, 1, false), (1, 1, false)]) (by kernel_rfl) (by kernel_rfl) rfl rfl (fun _ => EqS.of (by kernel_rfl) (by kernel_rfl) (by kernel_rfl))
def ti45 : TI := ⟨2, 16, [.int .i64 0, .int .i64 0], .agg [(0, 1, false), (1, 1, false)], true⟩
theorem ok45 : TIok Try.prog 45 ti45 := TIok.ofAgg (fl := [(0, 1, false), (1, 1, false)]) (by kernel_rfl) (by kernel_rfl) rfl rfl (fun _ => EqS.of (by kernel_rfl) (by kernel_rfl) (by kernel_rfl))
def ti46 : TI := ⟨4, 32, [.int .i64 0, .int .i64 0, .int .i64 0, .int .i64 0], .agg [(0, 1, false), (1, 1, false), (2, 2, true)], false⟩
theorem ok46 : TIok Try.prog 46 ti46 := TIok.ofAgg (fl := [(0, 1, false), (1, 1, false), (2, 2, true)]) (by kernel_rfl) (by kernel_rfl) rfl rfl (fun h => nomatch h)
def ti47 : TI := ⟨4, 32, [.int .i64 0, .int .i64 0, .int .i64 0, .int .i64 0], .agg [(0, 1, false), (1, 1, false), (2, 2, true)], false⟩
theorem ok47 : TIok Try.prog 47 ti47 := TIok.ofAgg (fl := [(0, 1, false), (1, 1, false), (2, 2, true)]) (by kernel_rfl) (by kernel_rfl) rfl rfl (fun h => nomatch h)
def ti52 : TI := ⟨1, 24, [.slice none 0 0], .slice 5, false⟩
theorem ok52 : TIok Try.prog 52 ti52 := TIok.ofOne (z := (.slice none 0 0)) (d := .slice 5) (by kernel_rfl) (by kernel_rfl) rfl rfl rfl rfl rfl
def ti56 : TI := ⟨1, 24, [.slice none 0 0], .slice 2, false⟩
theorem ok56 : TIok Try.prog 56 ti56 := TIok.ofOne (z := (.slice none 0 0)) (d := .slice 2) (by kernel_rfl) (by kernel_rfl) rfl rfl rfl rfl rfl
def ti57 : TI := ⟨2, 32, [.int .i64 0, .slice none 0 0], .agg [(0, 1, false), (1, 1, false)], false⟩
theorem ok57 : TIok Try.prog 57 ti57 := TIok.ofAgg (fl := [(0, 1, false), (1, 1, false)]) (by kernel_rfl) (by kernel_rfl) rfl rfl (fun h => nomatch h)
def ti58 : TI := ⟨2, 32, [.int .i64 0, .slice none 0 0], .agg [(0, 1, false), (1, 1, false)], false⟩
theorem ok58 : TIok Try.prog 58 ti58 := TIok.ofAgg (fl := [(0, 1, false), (1, 1, false)]) (by kernel_rfl) (by kernel_rfl) rfl rfl (fun h => nomatch h)
def ti77 : TI := ⟨1, 8, [.pointer none], .other, false⟩
theorem ok77 : TIok Try.prog 77 ti77 := TIok.ofOne (z := (.pointer none)) (d := .pointer 34) (by kernel_rfl) (by kernel_rfl) rfl rfl rfl rfl rfl
def ti83 : TI := ⟨5, 40, [.int .i64 0, .int .i64 0, .int .i64 0, .int .i64 0, .int .i64 0], .agg [(0, 1, false), (1, 1, false), (2, 1, false), (3, 1, false), (4, 1, false)], true⟩
theorem ok83 : TIok Try.prog 83 ti83 := TIok.ofAgg (fl := [(0, 1, false), (1, 1, false), (2, 1, false), (3, 1, false), (4, 1, false)]) (by kernel_rfl) (by kernel_rfl) rfl rfl (fun _ => EqS.of (by kernel_rfl) (by kernel_rfl) (by kernel_rfl))
def ti84 : TI := ⟨5, 40, [.int .i64 0, .int .i64 0, .int .i64 0, .int .i64 0, .int .i64 0], .agg [(0, 1, false), (1, 1, false), (2, 1, false), (3, 1, false), (4, 1, false)], true⟩
theorem ok84 : TIok Try.prog 84 ti84 := TIok.ofAgg (fl := [(0, 1, false), (1, 1, false), (2, 1, false), (3, 1, false), (4, 1, false)]) (by kernel_rfl) (by kernel_rfl) rfl rfl (fun _ => EqS.of (by kernel_rfl) (by kernel_rfl) (by kernel_rfl))
def ti86 : TI := ⟨2, 16, [.int .i64 0, .int .i64 0], .agg [(0, 1, false), (1, 1, false)], true⟩
theorem ok86 : TIok Try.prog 86 ti86 := TIok.ofAgg (fl := [(0, 1, false), (1, 1, false)]) (by kernel_rfl) (by kernel_rfl) rfl rfl (fun _ => EqS.of (by kernel_rfl) (by kernel_rfl) (by kernel_rfl))
def ti87 : TI := ⟨2, 16, [.int .i64 0, .int .i64 0], .agg [(0, 1, false), (1, 1, false)], true⟩
theorem ok87 : TIok Try.prog 87 ti87 := TIok.ofAgg (fl := [(0, 1, false), (1, 1, false)]) (by kernel_rfl) (by kernel_rfl) rfl rfl (fun _ => EqS.of (by kernel_rfl) (by kernel_rfl) (by kernel_rfl))
def ti103 : TI := ⟨1, 8, [.pointer none], .other, false⟩
theorem ok103 : TIok Try.prog 103 ti103 := TIok.ofOne (z := (.pointer none)) (d := .pointer 132) (by kernel_rfl) (by kernel_rfl) rfl rfl rfl rfl rfl
def ti118 : TI := ⟨5, 40, [.int .i64 0, .int .i64 0, .int .i64 0, .int .i64 0, .int .i64 0], .agg [(0, 1, false), (1, 1, false), (2, 1, false), (3, 1, false), (4, 1, false)], true⟩
theorem ok118 : TIok Try.prog 118 ti118 := TIok.ofAgg (fl := [(0, 1, false), (1, 1, false), (2, 1, false), (3, 1, false), (4, 1, false)]) (by kernel_rfl) (by kernel_rfl) rfl rfl (fun _ => EqS.of (by kernel_rfl) (by kernel_rfl) (by kernel_rfl))
def ti120 : TI := ⟨2, 16, [.int .i64 0, .int .i64 0], .agg [(0, 1, false), (1, 1, false)], true⟩
theorem ok120 : TIok Try.prog 120 ti120 := TIok.ofAgg (fl := [(0, 1, false), (1, 1, false)]) (by kernel_rfl) (by kernel_rfl) rfl rfl (fun _ => EqS.of (by kernel_rfl) (by kernel_rfl) (by kernel_rfl))
def ti122 : TI := ⟨2, 16, [.int .i64 0, .int .i64 0], .agg [(0, 1, false), (1, 1, false)], true⟩
theorem ok122 : TIok Try.prog 122 ti122 := TIok.ofAgg (fl := [(0, 1, false), (1, 1, false)]) (by kernel_rfl) (by kernel_rfl) rfl rfl (fun _ => EqS.of (by kernel_rfl) (by kernel_rfl) (by kernel_rfl))
def ti131 : TI := ⟨2, 32, [.slice none 0 0, .int .i64 0], .agg [(0, 1, false), (1, 1, false)], false⟩
theorem ok131 : TIok Try.prog 131 ti131 := TIok.ofAgg (fl := [(0, 1, false), (1, 1, false)]) (by kernel_rfl) (by kernel_rfl) rfl rfl (fun h => nomatch h)
def ti132 : TI := ⟨2, 32, [.slice none 0 0, .int .i64 0], .agg [(0, 1, false), (1, 1, false)], false⟩
theorem ok132 : TIok Try.prog 132 ti132 := TIok.ofAgg (fl := [(0, 1, false), (1, 1, false)]) (by kernel_rfl) (by kernel_rfl) rfl rfl (fun h => nomatch h)
def ti143 : TI := ⟨1, 8, [.int .u64 0], .int .u64, false⟩
theorem ok143 : TIok Try.prog 143 ti143 := TIok.ofOne (z := (.int .u64 0)) (d := .int .u64) (by kernel_rfl) (by kernel_rfl) rfl rfl rfl rfl rfl
def ti145 : TI := ⟨1, 8, [.int .i64 0], .int .i64, false⟩
theorem ok145 : TIok Try.prog 145 ti145 := TIok.ofOne (z := (.int .i64 0)) (d := .int .i64) (by kernel_rfl) (by kernel_rfl) rfl rfl rfl rfl rfl
def ti153 : TI := ⟨1, 4, [.int .u32 0], .int .u32, false⟩
theorem ok153 : TIok Try.prog 153 ti153 := TIok.ofOne (z := (.int .u32 0)) (d := .int .u32) (by kernel_rfl) (by kernel_rfl) rfl rfl rfl rfl rfl
def ti155 : TI := ⟨1, 8, [.int .u64 0], .int .u64, false⟩
theorem ok155 : TIok Try.prog 155 ti155 := TIok.ofOne (z := (.int .u64 0)) (d := .int .u64) (by kernel_rfl) (by kernel_rfl) rfl rfl rfl rfl rfl
def ti157 : TI := ⟨1, 8, [.int .u64 0], .int .u64, false⟩
theorem ok157 : TIok Try.prog 157 ti157 := TIok.ofOne (z := (.int .u64 0)) (d := .int .u64) (by kernel_rfl) (by kernel_rfl) rfl rfl rfl rfl rfl
def ti161 : TI := ⟨1, 8, [.pointer none], .other, false⟩
theorem ok161 : TIok Try.prog 161 ti161 := TIok.ofOne (z := (.pointer none)) (d := .pointer 3) (by kernel_rfl) (by kernel_rfl) rfl rfl rfl rfl rfl
def ti164 : TI := ⟨1, 8, [.pointer none], .other, false⟩
theorem ok164 : TIok Try.prog 164 ti164 := TIok.ofOne (z := (.pointer none)) (d := .pointer 157) (by kernel_rfl) (by kernel_rfl) rfl rfl rfl rfl rfl
def ti171 : TI := ⟨0, 0, [], .agg [(0, 0, true)], false⟩
theorem ok171 : TIok Try.prog 171 ti171 := TIok.ofAgg (fl := [(0, 0, true)]) (by kernel_rfl) (by kernel_rfl) rfl rfl (fun h => nomatch h)
def ti172 : TI := ⟨0, 0, [], .agg [(0, 0, true)], false⟩
theorem ok172 : TIok Try.prog 172 ti172 := TIok.ofAgg (fl := [(0, 0, true)]) (by kernel_rfl) (by kernel_rfl) rfl rfl (fun h => nomatch h)
def ti174 : TI := ⟨1, 1, [.int .u8 0], .int .u8, false⟩
theorem ok174 : TIok Try.prog 174 ti174 := TIok.ofOne (z := (.int .u8 0)) (d := .int .u8) (by kernel_rfl) (by kernel_rfl) rfl rfl rfl rfl rfl
def ti175 : TI := ⟨1, 1, [.int .u8 0], .int .u8, false⟩
theorem ok175 : TIok Try.prog 175 ti175 := TIok.ofOne (z := (.int .u8 0)) (d := .int .u8) (by kernel_rfl) (by kernel_rfl) rfl rfl rfl rfl rfl
def ti177 : TI := ⟨1, 8, [.pointer none], .other, false⟩
theorem ok177 : TIok Try.prog 177 ti177 := TIok.ofOne (z := (.pointer none)) (d := .pointer 5) (by kernel_rfl) (by kernel_rfl) rfl rfl rfl rfl rfl
def ti178 : TI := ⟨1, 4, [.int .i32 0], .int .i32, false⟩
theorem ok178 : TIok Try.prog 178 ti178 := TIok.ofOne (z := (.int .i32 0)) (d := .int .i32) (by kernel_rfl) (by kernel_rfl) rfl rfl rfl rfl rfl
def ti179 : TI := ⟨1, 4, [.int .i32 0], .int .i32, false⟩
theorem ok179 : TIok Try.prog 179 ti179 := TIok.ofOne (z := (.int .i32 0)) (d := .int .i32) (by kernel_rfl) (by kernel_rfl) rfl rfl rfl rfl rfl
def T : TT := look [(2, ti2), (3, ti3), (4, ti4), (5, ti5), (6, ti6), (7, ti7), (8, ti8), (9, ti9), (10, ti10), (11, ti11), (12, ti12), (13, ti13), (14, ti14), (15, ti15), (16, ti16), (17, ti17), (18, ti18), (19, ti19), (21, ti21), (22, ti22), (23, ti23), (24, ti24), (25, ti25), (26, ti26), (27, ti27), (30, ti30), (31, ti31), (32, ti32), (33, ti33), (34, ti34), (38, ti38), (39, ti39), (44, ti44), (45, ti45), (46, ti46), (47, ti47), (52, ti52), (56, ti56), (57, ti57), (58, ti58), (77, ti77), (83, ti83), (84, ti84), (86, ti86), (87, ti87), (103, ti103), (118, ti118), (120, ti120), (122, ti122), (131, ti131), (132, ti132), (143, ti143), (145, ti145), (153, ti153), (155, ti155), (157, ti157), (161, ti161), (164, ti164), (171, ti171), (172, ti172), (174, ti174), (175, ti175), (177, ti177), (178, ti178), (179, ti179)]
theorem tok : TOk Try.prog T := TOk.ofLook ⟨ok2, ok3, ok4, ok5, ok6, ok7, ok8, ok9, ok10, ok11, ok12, ok13, ok14, ok15, ok16, ok17, ok18, ok19, ok21, ok22, ok23, ok24, ok25, ok26, ok27, ok30, ok31, ok32, ok33, ok34, ok38, ok39, ok44, ok45, ok46, ok47, ok52, ok56, ok57, ok58, ok77, ok83, ok84, ok86, ok87, ok103, ok118, ok120, ok122, ok131, ok132, ok143, ok145, ok153, ok155, ok157, ok161, ok164, ok171, ok172, ok174, ok175, ok177, ok178, ok179, trivial⟩
theorem mix : Try.prog.follows .mixedOrders = true := by kernel_rfl
theorem fn_of (A : List (Nat × List Nat)) {g : FuncId} {fn : Func} {c : Code} (hf : Try.prog.funcs[g]? = some fn) (hb : fn.body = some c) (hn : (fn.name == "runtime.NumGoroutine") = false) (hc : codeOk fn.ntmps c = true) {lvs : List LV} {r : RV} (hl : Nat.ble lvs.length fn.ntmps = true) (h : lwp Try.prog T A c (entry lvs) (FnPost T fn r)) : FnOK Try.prog g lvs r := fnOK_of A mix tok hf hb hn hc hl h
theorem mut_fn_of (A : List (Nat × List Nat)) {g : FuncId} {fn : Func} {c : Code} (hf : Try.prog.funcs[g]? = some fn) (hb : fn.body = some c) (hn : (fn.name == "runtime.NumGoroutine") = false) (hc : codeOk fn.ntmps c = true) {args : List LV} {m : Nat} {hp0 : List (Nat × Ent)} {lv : LV} {m' : Nat} {hp1 : List (Nat × Ent)} (hl : Nat.ble args.length fn.ntmps = true) (gl : List (Nat × Nat)) (h : lwp Try.prog T A c (entryM args m hp0) (MutPost T fn m lv m' hp1 gl)) : MutOK Try.prog g args m hp0 lv m' hp1 := mut_of A mix tok hf hb hn hc hl gl h
theorem fnS_fn_of (A : List (Nat × List Nat)) {g : FuncId} {fn : Func} {c : Code} (hf : Try.prog.funcs[g]? = some fn) (hb : fn.body = some c) (hn : (fn.name == "runtime.NumGoroutine") = false) (hc : codeOk fn.ntmps c = true) {lvs : List LV} {R : RV → Prop} (hl : Nat.ble lvs.length fn.ntmps = true) (h : lwp Try.prog T A c (entry lvs) (fun e s => ∃ r, R r ∧ FnPost T fn r e s)) : FnS Try.prog g lvs R := fnS_of A mix tok hf hb hn hc hl h
theorem mutS_fn_of (A : List (Nat × List Nat)) {g : FuncId} {fn : Func} {c : Code} (hf : Try.prog.funcs[g]? = some fn) (hb : fn.body = some c) (hn : (fn.name == "runtime.NumGoroutine") = false) (hc : codeOk fn.ntmps c = true) {args : List LV} {m : Nat} {hp0 : List (Nat × Ent)} {R : LV → Nat → List (Nat × Ent) → Prop} (hl : Nat.ble args.length fn.ntmps = true) (h : lwp Try.prog T A c (entryM args m hp0) (fun e s => ∃ lv m' hp1 gl, R lv m' hp1 ∧ MutPost T fn m lv m' hp1 gl e s)) : MutS Try.prog g args m hp0 R := mutS_of A mix tok hf hb hn hc hl h
end Go.Proofs.Ytdpahckfibnagaa.L
