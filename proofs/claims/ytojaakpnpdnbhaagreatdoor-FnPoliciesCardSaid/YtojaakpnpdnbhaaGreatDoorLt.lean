/- The types of this seat, as the symbolic logic has them: printed by tt.py out of the translation. -/
import Derived.Test.YtojaakpnpdnbhaaGreatDoorLy
import Derived.Test.YtojaakpnpdnbhaaGreatDoorLv
import Derived.Test.YtojaakpnpdnbhaaGreatDoorProg
set_option maxRecDepth 100000
namespace Go.Proofs.YtojaakpnpdnbhaaGreatDoor.L
open Go.RowKit
def ti2 : TI := ⟨1, 8, [.int .i64 0], .int .i64, false⟩
theorem ok2 : TIok Tryz.prog 2 ti2 := TIok.ofOne (z := (.int .i64 0)) (d := .int .i64) (by kernel_rfl) (by kernel_rfl) rfl rfl rfl rfl rfl
def ti3 : TI := ⟨1, 8, [.int .i64 0], .int .i64, false⟩
theorem ok3 : TIok Tryz.prog 3 ti3 := TIok.ofOne (z := (.int .i64 0)) (d := .int .i64) (by kernel_rfl) (by kernel_rfl) rfl rfl rfl rfl rfl
def ti4 : TI := ⟨1, 1, [.bool false], .bool, false⟩
theorem ok4 : TIok Tryz.prog 4 ti4 := TIok.ofOne (z := (.bool false)) (d := .bool) (by kernel_rfl) (by kernel_rfl) rfl rfl rfl rfl rfl
def ti5 : TI := ⟨1, 1, [.int .u8 0], .int .u8, false⟩
theorem ok5 : TIok Tryz.prog 5 ti5 := TIok.ofOne (z := (.int .u8 0)) (d := .int .u8) (by kernel_rfl) (by kernel_rfl) rfl rfl rfl rfl rfl
def ti6 : TI := ⟨1, 1, [.int .u8 0], .int .u8, false⟩
theorem ok6 : TIok Tryz.prog 6 ti6 := TIok.ofOne (z := (.int .u8 0)) (d := .int .u8) (by kernel_rfl) (by kernel_rfl) rfl rfl rfl rfl rfl
def ti7 : TI := ⟨4, 24, [.int .i64 0, .int .i64 0, .bool false, .int .u8 0], .agg [(0, 1, false), (1, 1, false), (2, 1, false), (3, 1, false)], false⟩
theorem ok7 : TIok Tryz.prog 7 ti7 := TIok.ofAgg (fl := [(0, 1, false), (1, 1, false), (2, 1, false), (3, 1, false)]) (by kernel_rfl) (by kernel_rfl) rfl rfl (fun h => nomatch h)
def ti8 : TI := ⟨4, 24, [.int .i64 0, .int .i64 0, .bool false, .int .u8 0], .agg [(0, 1, false), (1, 1, false), (2, 1, false), (3, 1, false)], false⟩
theorem ok8 : TIok Tryz.prog 8 ti8 := TIok.ofAgg (fl := [(0, 1, false), (1, 1, false), (2, 1, false), (3, 1, false)]) (by kernel_rfl) (by kernel_rfl) rfl rfl (fun h => nomatch h)
def ti9 : TI := ⟨1, 16, [.string ⟨#[]⟩], .str, false⟩
theorem ok9 : TIok Tryz.prog 9 ti9 := TIok.ofOne (z := (.string ⟨#[]⟩)) (d := .string) (by kernel_rfl) (by kernel_rfl) rfl rfl rfl rfl rfl
def ti10 : TI := ⟨1, 16, [.string ⟨#[]⟩], .str, false⟩
theorem ok10 : TIok Tryz.prog 10 ti10 := TIok.ofOne (z := (.string ⟨#[]⟩)) (d := .string) (by kernel_rfl) (by kernel_rfl) rfl rfl rfl rfl rfl
def ti11 : TI := ⟨1, 16, [.string ⟨#[]⟩], .str, false⟩
theorem ok11 : TIok Tryz.prog 11 ti11 := TIok.ofOne (z := (.string ⟨#[]⟩)) (d := .string) (by kernel_rfl) (by kernel_rfl) rfl rfl rfl rfl rfl
def ti12 : TI := ⟨1, 8, [.int .u64 0], .int .u64, false⟩
theorem ok12 : TIok Tryz.prog 12 ti12 := TIok.ofOne (z := (.int .u64 0)) (d := .int .u64) (by kernel_rfl) (by kernel_rfl) rfl rfl rfl rfl rfl
def ti13 : TI := ⟨2, 24, [.string ⟨#[]⟩, .int .u64 0], .agg [(0, 1, false), (1, 1, false)], false⟩
theorem ok13 : TIok Tryz.prog 13 ti13 := TIok.ofAgg (fl := [(0, 1, false), (1, 1, false)]) (by kernel_rfl) (by kernel_rfl) rfl rfl (fun h => nomatch h)
def ti14 : TI := ⟨2, 24, [.string ⟨#[]⟩, .int .u64 0], .agg [(0, 1, false), (1, 1, false)], false⟩
theorem ok14 : TIok Tryz.prog 14 ti14 := TIok.ofAgg (fl := [(0, 1, false), (1, 1, false)]) (by kernel_rfl) (by kernel_rfl) rfl rfl (fun h => nomatch h)
def ti15 : TI := ⟨1, 8, [.pointer none], .other, false⟩
theorem ok15 : TIok Tryz.prog 15 ti15 := TIok.ofOne (z := (.pointer none)) (d := .pointer 180) (by kernel_rfl) (by kernel_rfl) rfl rfl rfl rfl rfl
def ti16 : TI := ⟨1, 8, [.pointer none], .other, false⟩
theorem ok16 : TIok Tryz.prog 16 ti16 := TIok.ofOne (z := (.pointer none)) (d := .pointer 183) (by kernel_rfl) (by kernel_rfl) rfl rfl rfl rfl rfl
def ti17 : TI := ⟨1, 8, [.pointer none], .other, false⟩
theorem ok17 : TIok Tryz.prog 17 ti17 := TIok.ofOne (z := (.pointer none)) (d := .pointer 191) (by kernel_rfl) (by kernel_rfl) rfl rfl rfl rfl rfl
def ti18 : TI := ⟨1, 8, [.pointer none], .agg [(0, 1, false)], false⟩
theorem ok18 : TIok Tryz.prog 18 ti18 := TIok.ofAgg (fl := [(0, 1, false)]) (by kernel_rfl) (by kernel_rfl) rfl rfl (fun h => nomatch h)
def ti19 : TI := ⟨1, 8, [.pointer none], .agg [(0, 1, false)], false⟩
theorem ok19 : TIok Tryz.prog 19 ti19 := TIok.ofAgg (fl := [(0, 1, false)]) (by kernel_rfl) (by kernel_rfl) rfl rfl (fun h => nomatch h)
def ti21 : TI := ⟨1, 4, [.int .i32 0], .int .i32, false⟩
theorem ok21 : TIok Tryz.prog 21 ti21 := TIok.ofOne (z := (.int .i32 0)) (d := .int .i32) (by kernel_rfl) (by kernel_rfl) rfl rfl rfl rfl rfl
def ti22 : TI := ⟨1, 24, [.slice none 0 0], .slice 44, false⟩
theorem ok22 : TIok Tryz.prog 22 ti22 := TIok.ofOne (z := (.slice none 0 0)) (d := .slice 44) (by kernel_rfl) (by kernel_rfl) rfl rfl rfl rfl rfl
def ti23 : TI := ⟨1, 24, [.slice none 0 0], .slice 55, false⟩
theorem ok23 : TIok Tryz.prog 23 ti23 := TIok.ofOne (z := (.slice none 0 0)) (d := .slice 55) (by kernel_rfl) (by kernel_rfl) rfl rfl rfl rfl rfl
def ti24 : TI := ⟨1, 24, [.slice none 0 0], .slice 57, false⟩
theorem ok24 : TIok Tryz.prog 24 ti24 := TIok.ofOne (z := (.slice none 0 0)) (d := .slice 57) (by kernel_rfl) (by kernel_rfl) rfl rfl rfl rfl rfl
def ti25 : TI := ⟨1, 24, [.slice none 0 0], .slice 59, false⟩
theorem ok25 : TIok Tryz.prog 25 ti25 := TIok.ofOne (z := (.slice none 0 0)) (d := .slice 59) (by kernel_rfl) (by kernel_rfl) rfl rfl rfl rfl rfl
def ti26 : TI := ⟨4, 96, [.slice none 0 0, .slice none 0 0, .slice none 0 0, .slice none 0 0], .agg [(0, 1, false), (1, 1, false), (2, 1, false), (3, 1, false)], false⟩
theorem ok26 : TIok Tryz.prog 26 ti26 := TIok.ofAgg (fl := [(0, 1, false), (1, 1, false), (2, 1, false), (3, 1, false)]) (by kernel_rfl) (by kernel_rfl) rfl rfl (fun h => nomatch h)
def ti27 : TI := ⟨4, 96, [.slice none 0 0, .slice none 0 0, .slice none 0 0, .slice none 0 0], .agg [(0, 1, false), (1, 1, false), (2, 1, false), (3, 1, false)], false⟩
theorem ok27 : TIok Tryz.prog 27 ti27 := TIok.ofAgg (fl := [(0, 1, false), (1, 1, false), (2, 1, false), (3, 1, false)]) (by kernel_rfl) (by kernel_rfl) rfl rfl (fun h => nomatch h)
def ti28 : TI := ⟨6, 112, [.int .i64 0, .int .i64 0, .slice none 0 0, .slice none 0 0, .slice none 0 0, .slice none 0 0], .agg [(0, 1, false), (1, 1, false), (2, 4, true)], false⟩
theorem ok28 : TIok Tryz.prog 28 ti28 := TIok.ofAgg (fl := [(0, 1, false), (1, 1, false), (2, 4, true)]) (by kernel_rfl) (by kernel_rfl) rfl rfl (fun h => nomatch h)
def ti29 : TI := ⟨6, 112, [.int .i64 0, .int .i64 0, .slice none 0 0, .slice none 0 0, .slice none 0 0, .slice none 0 0], .agg [(0, 1, false), (1, 1, false), (2, 4, true)], false⟩
theorem ok29 : TIok Tryz.prog 29 ti29 := TIok.ofAgg (fl := [(0, 1, false), (1, 1, false), (2, 4, true)]) (by kernel_rfl) (by kernel_rfl) rfl rfl (fun h => nomatch h)
def ti34 : TI := ⟨1, 24, [.slice none 0 0], .slice 5, false⟩
theorem ok34 : TIok Tryz.prog 34 ti34 := TIok.ofOne (z := (.slice none 0 0)) (d := .slice 5) (by kernel_rfl) (by kernel_rfl) rfl rfl rfl rfl rfl
def ti37 : TI := ⟨2, 24, [.int .i64 0, .string ⟨#[]⟩], .agg [(0, 1, false), (1, 1, false)], false⟩
theorem ok37 : TIok Tryz.prog 37 ti37 := TIok.ofAgg (fl := [(0, 1, false), (1, 1, false)]) (by kernel_rfl) (by kernel_rfl) rfl rfl (fun h => nomatch h)
def ti38 : TI := ⟨2, 24, [.int .i64 0, .string ⟨#[]⟩], .agg [(0, 1, false), (1, 1, false)], false⟩
theorem ok38 : TIok Tryz.prog 38 ti38 := TIok.ofAgg (fl := [(0, 1, false), (1, 1, false)]) (by kernel_rfl) (by kernel_rfl) rfl rfl (fun h => nomatch h)
def ti42 : TI := ⟨1, 24, [.slice none 0 0], .slice 9, false⟩
theorem ok42 : TIok Tryz.prog 42 ti42 := TIok.ofOne (z := (.slice none 0 0)) (d := .slice 9) (by kernel_rfl) (by kernel_rfl) rfl rfl rfl rfl rfl
def ti44 : TI := ⟨1, 24, [.slice none 0 0], .slice 2, false⟩
theorem ok44 : TIok Tryz.prog 44 ti44 := TIok.ofOne (z := (.slice none 0 0)) (d := .slice 2) (by kernel_rfl) (by kernel_rfl) rfl rfl rfl rfl rfl
def ti48 : TI := ⟨1, 8, [.pointer none], .other, false⟩
theorem ok48 : TIok Tryz.prog 48 ti48 := TIok.ofOne (z := (.pointer none)) (d := .pointer 27) (by kernel_rfl) (by kernel_rfl) rfl rfl rfl rfl rfl
def ti54 : TI := ⟨5, 40, [.int .i64 0, .int .i64 0, .int .i64 0, .int .i64 0, .int .i64 0], .agg [(0, 1, false), (1, 1, false), (2, 1, false), (3, 1, false), (4, 1, false)], true⟩
theorem ok54 : TIok Tryz.prog 54 ti54 := TIok.ofAgg (fl := [(0, 1, false), (1, 1, false), (2, 1, false), (3, 1, false), (4, 1, false)]) (by kernel_rfl) (by kernel_rfl) rfl rfl (fun _ => EqS.of (by kernel_rfl) (by kernel_rfl) (by kernel_rfl))
def ti55 : TI := ⟨5, 40, [.int .i64 0, .int .i64 0, .int .i64 0, .int .i64 0, .int .i64 0], .agg [(0, 1, false), (1, 1, false), (2, 1, false), (3, 1, false), (4, 1, false)], true⟩
theorem ok55 : TIok Tryz.prog 55 ti55 := TIok.ofAgg (fl := [(0, 1, false), (1, 1, false), (2, 1, false), (3, 1, false), (4, 1, false)]) (by kernel_rfl) (by kernel_rfl) rfl rfl (fun _ => EqS.of (by kernel_rfl) (by kernel_rfl) (by kernel_rfl))
def ti56 : TI := ⟨2, 16, [.int .i64 0, .int .i64 0], .agg [(0, 1, false), (1, 1, false)], true⟩
theorem ok56 : TIok Tryz.prog 56 ti56 := TIok.ofAgg (fl := [(0, 1, false), (1, 1, false)]) (by kernel_rfl) (by kernel_rfl) rfl rfl (fun _ => EqS.of (by kernel_rfl) (by kernel_rfl) (by kernel_rfl))
def ti57 : TI := ⟨2, 16, [.int .i64 0, .int .i64 0], .agg [(0, 1, false), (1, 1, false)], true⟩
theorem ok57 : TIok Tryz.prog 57 ti57 := TIok.ofAgg (fl := [(0, 1, false), (1, 1, false)]) (by kernel_rfl) (by kernel_rfl) rfl rfl (fun _ => EqS.of (by kernel_rfl) (by kernel_rfl) (by kernel_rfl))
def ti58 : TI := ⟨2, 16, [.int .i64 0, .int .i64 0], .agg [(0, 1, false), (1, 1, false)], true⟩
theorem ok58 : TIok Tryz.prog 58 ti58 := TIok.ofAgg (fl := [(0, 1, false), (1, 1, false)]) (by kernel_rfl) (by kernel_rfl) rfl rfl (fun _ => EqS.of (by kernel_rfl) (by kernel_rfl) (by kernel_rfl))
def ti59 : TI := ⟨2, 16, [.int .i64 0, .int .i64 0], .agg [(0, 1, false), (1, 1, false)], true⟩
theorem ok59 : TIok Tryz.prog 59 ti59 := TIok.ofAgg (fl := [(0, 1, false), (1, 1, false)]) (by kernel_rfl) (by kernel_rfl) rfl rfl (fun _ => EqS.of (by kernel_rfl) (by kernel_rfl) (by kernel_rfl))
def ti62 : TI := ⟨1, 8, [.pointer none], .other, false⟩
theorem ok62 : TIok Tryz.prog 62 ti62 := TIok.ofOne (z := (.pointer none)) (d := .pointer 91) (by kernel_rfl) (by kernel_rfl) rfl rfl rfl rfl rfl
def ti70 : TI := ⟨1, 24, [.slice none 0 0], .slice 3, false⟩
theorem ok70 : TIok Tryz.prog 70 ti70 := TIok.ofOne (z := (.slice none 0 0)) (d := .slice 3) (by kernel_rfl) (by kernel_rfl) rfl rfl rfl rfl rfl
def ti90 : TI := ⟨2, 32, [.slice none 0 0, .int .i64 0], .agg [(0, 1, false), (1, 1, false)], false⟩
theorem ok90 : TIok Tryz.prog 90 ti90 := TIok.ofAgg (fl := [(0, 1, false), (1, 1, false)]) (by kernel_rfl) (by kernel_rfl) rfl rfl (fun h => nomatch h)
def ti91 : TI := ⟨2, 32, [.slice none 0 0, .int .i64 0], .agg [(0, 1, false), (1, 1, false)], false⟩
theorem ok91 : TIok Tryz.prog 91 ti91 := TIok.ofAgg (fl := [(0, 1, false), (1, 1, false)]) (by kernel_rfl) (by kernel_rfl) rfl rfl (fun h => nomatch h)
def ti122 : TI := ⟨1, 8, [.int .u64 0], .int .u64, false⟩
theorem ok122 : TIok Tryz.prog 122 ti122 := TIok.ofOne (z := (.int .u64 0)) (d := .int .u64) (by kernel_rfl) (by kernel_rfl) rfl rfl rfl rfl rfl
def ti124 : TI := ⟨1, 8, [.int .i64 0], .int .i64, false⟩
theorem ok124 : TIok Tryz.prog 124 ti124 := TIok.ofOne (z := (.int .i64 0)) (d := .int .i64) (by kernel_rfl) (by kernel_rfl) rfl rfl rfl rfl rfl
def ti127 : TI := ⟨1, 8, [.pointer none], .other, false⟩
theorem ok127 : TIok Tryz.prog 127 ti127 := TIok.ofOne (z := (.pointer none)) (d := .pointer 151) (by kernel_rfl) (by kernel_rfl) rfl rfl rfl rfl rfl
def ti135 : TI := ⟨1, 8, [.pointer none], .other, false⟩
theorem ok135 : TIok Tryz.prog 135 ti135 := TIok.ofOne (z := (.pointer none)) (d := .pointer 137) (by kernel_rfl) (by kernel_rfl) rfl rfl rfl rfl rfl
def ti140 : TI := ⟨1, 4, [.int .u32 0], .int .u32, false⟩
theorem ok140 : TIok Tryz.prog 140 ti140 := TIok.ofOne (z := (.int .u32 0)) (d := .int .u32) (by kernel_rfl) (by kernel_rfl) rfl rfl rfl rfl rfl
def ti146 : TI := ⟨1, 8, [.int .u64 0], .int .u64, false⟩
theorem ok146 : TIok Tryz.prog 146 ti146 := TIok.ofOne (z := (.int .u64 0)) (d := .int .u64) (by kernel_rfl) (by kernel_rfl) rfl rfl rfl rfl rfl
def ti150 : TI := ⟨3, 48, [.string ⟨#[]⟩, .string ⟨#[]⟩, .nilIface], .agg [(0, 1, false), (1, 1, false), (2, 1, false)], false⟩
theorem ok150 : TIok Tryz.prog 150 ti150 := TIok.ofAgg (fl := [(0, 1, false), (1, 1, false), (2, 1, false)]) (by kernel_rfl) (by kernel_rfl) rfl rfl (fun h => nomatch h)
def ti151 : TI := ⟨3, 48, [.string ⟨#[]⟩, .string ⟨#[]⟩, .nilIface], .agg [(0, 1, false), (1, 1, false), (2, 1, false)], false⟩
theorem ok151 : TIok Tryz.prog 151 ti151 := TIok.ofAgg (fl := [(0, 1, false), (1, 1, false), (2, 1, false)]) (by kernel_rfl) (by kernel_rfl) rfl rfl (fun h => nomatch h)
def ti159 : TI := ⟨1, 8, [.pointer none], .other, false⟩
theorem ok159 : TIok Tryz.prog 159 ti159 := TIok.ofOne (z := (.pointer none)) (d := .pointer 5) (by kernel_rfl) (by kernel_rfl) rfl rfl rfl rfl rfl
def ti161 : TI := ⟨1, 8, [.pointer none], .other, false⟩
theorem ok161 : TIok Tryz.prog 161 ti161 := TIok.ofOne (z := (.pointer none)) (d := .pointer 163) (by kernel_rfl) (by kernel_rfl) rfl rfl rfl rfl rfl
def ti162 : TI := ⟨1, 16, [.string ⟨#[]⟩], .agg [(0, 1, false)], false⟩
theorem ok162 : TIok Tryz.prog 162 ti162 := TIok.ofAgg (fl := [(0, 1, false)]) (by kernel_rfl) (by kernel_rfl) rfl rfl (fun h => nomatch h)
def ti163 : TI := ⟨1, 16, [.string ⟨#[]⟩], .agg [(0, 1, false)], false⟩
theorem ok163 : TIok Tryz.prog 163 ti163 := TIok.ofAgg (fl := [(0, 1, false)]) (by kernel_rfl) (by kernel_rfl) rfl rfl (fun h => nomatch h)
def ti173 : TI := ⟨2, 2, [.int .u8 0, .int .u8 0], .agg [(0, 1, false), (1, 1, false)], false⟩
theorem ok173 : TIok Tryz.prog 173 ti173 := TIok.ofAgg (fl := [(0, 1, false), (1, 1, false)]) (by kernel_rfl) (by kernel_rfl) rfl rfl (fun h => nomatch h)
def ti174 : TI := ⟨2, 2, [.int .u8 0, .int .u8 0], .agg [(0, 1, false), (1, 1, false)], false⟩
theorem ok174 : TIok Tryz.prog 174 ti174 := TIok.ofAgg (fl := [(0, 1, false), (1, 1, false)]) (by kernel_rfl) (by kernel_rfl) rfl rfl (fun h => nomatch h)
def ti182 : TI := ⟨0, 0, [], .agg [(0, 0, true)], false⟩
theorem ok182 : TIok Tryz.prog 182 ti182 := TIok.ofAgg (fl := [(0, 0, true)]) (by kernel_rfl) (by kernel_rfl) rfl rfl (fun h => nomatch h)
def ti183 : TI := ⟨0, 0, [], .agg [(0, 0, true)], false⟩
theorem ok183 : TIok Tryz.prog 183 ti183 := TIok.ofAgg (fl := [(0, 0, true)]) (by kernel_rfl) (by kernel_rfl) rfl rfl (fun h => nomatch h)
def ti185 : TI := ⟨1, 1, [.int .u8 0], .int .u8, false⟩
theorem ok185 : TIok Tryz.prog 185 ti185 := TIok.ofOne (z := (.int .u8 0)) (d := .int .u8) (by kernel_rfl) (by kernel_rfl) rfl rfl rfl rfl rfl
def ti186 : TI := ⟨1, 1, [.int .u8 0], .int .u8, false⟩
theorem ok186 : TIok Tryz.prog 186 ti186 := TIok.ofOne (z := (.int .u8 0)) (d := .int .u8) (by kernel_rfl) (by kernel_rfl) rfl rfl rfl rfl rfl
def ti188 : TI := ⟨1, 4, [.int .i32 0], .int .i32, false⟩
theorem ok188 : TIok Tryz.prog 188 ti188 := TIok.ofOne (z := (.int .i32 0)) (d := .int .i32) (by kernel_rfl) (by kernel_rfl) rfl rfl rfl rfl rfl
def ti189 : TI := ⟨1, 4, [.int .i32 0], .int .i32, false⟩
theorem ok189 : TIok Tryz.prog 189 ti189 := TIok.ofOne (z := (.int .i32 0)) (d := .int .i32) (by kernel_rfl) (by kernel_rfl) rfl rfl rfl rfl rfl
def T : TT := look [(2, ti2), (3, ti3), (4, ti4), (5, ti5), (6, ti6), (7, ti7), (8, ti8), (9, ti9), (10, ti10), (11, ti11), (12, ti12), (13, ti13), (14, ti14), (15, ti15), (16, ti16), (17, ti17), (18, ti18), (19, ti19), (21, ti21), (22, ti22), (23, ti23), (24, ti24), (25, ti25), (26, ti26), (27, ti27), (28, ti28), (29, ti29), (34, ti34), (37, ti37), (38, ti38), (42, ti42), (44, ti44), (48, ti48), (54, ti54), (55, ti55), (56, ti56), (57, ti57), (58, ti58), (59, ti59), (62, ti62), (70, ti70), (90, ti90), (91, ti91), (122, ti122), (124, ti124), (127, ti127), (135, ti135), (140, ti140), (146, ti146), (150, ti150), (151, ti151), (159, ti159), (161, ti161), (162, ti162), (163, ti163), (173, ti173), (174, ti174), (182, ti182), (183, ti183), (185, ti185), (186, ti186), (188, ti188), (189, ti189)]
theorem tok : TOk Tryz.prog T := TOk.ofLook ⟨ok2, ok3, ok4, ok5, ok6, ok7, ok8, ok9, ok10, ok11, ok12, ok13, ok14, ok15, ok16, ok17, ok18, ok19, ok21, ok22, ok23, ok24, ok25, ok26, ok27, ok28, ok29, ok34, ok37, ok38, ok42, ok44, ok48, ok54, ok55, ok56, ok57, ok58, ok59, ok62, ok70, ok90, ok91, ok122, ok124, ok127, ok135, ok140, ok146, ok150, ok151, ok159, ok161, ok162, ok163, ok173, ok174, ok182, ok183, ok185, ok186, ok188, ok189, trivial⟩
theorem mix : Tryz.prog.follows .mixedOrders = true := by kernel_rfl
theorem fn_of (A : List (Nat × List Nat)) {g : FuncId} {fn : Func} {c : Code} (hf : Tryz.prog.funcs[g]? = some fn) (hb : fn.body = some c) (hn : (fn.name == "runtime.NumGoroutine") = false) (hc : codeOk fn.ntmps c = true) {lvs : List LV} {r : RV} (hl : Nat.ble lvs.length fn.ntmps = true) (h : lwp Tryz.prog T A c (entry lvs) (FnPost T fn r)) : FnOK Tryz.prog g lvs r := fnOK_of A mix tok hf hb hn hc hl h
theorem mut_fn_of (A : List (Nat × List Nat)) {g : FuncId} {fn : Func} {c : Code} (hf : Tryz.prog.funcs[g]? = some fn) (hb : fn.body = some c) (hn : (fn.name == "runtime.NumGoroutine") = false) (hc : codeOk fn.ntmps c = true) {args : List LV} {m : Nat} {hp0 : List (Nat × Ent)} {lv : LV} {m' : Nat} {hp1 : List (Nat × Ent)} (hl : Nat.ble args.length fn.ntmps = true) (gl : List (Nat × Nat)) (h : lwp Tryz.prog T A c (entryM args m hp0) (MutPost T fn m lv m' hp1 gl)) : MutOK Tryz.prog g args m hp0 lv m' hp1 := mut_of A mix tok hf hb hn hc hl gl h
theorem fnS_fn_of (A : List (Nat × List Nat)) {g : FuncId} {fn : Func} {c : Code} (hf : Tryz.prog.funcs[g]? = some fn) (hb : fn.body = some c) (hn : (fn.name == "runtime.NumGoroutine") = false) (hc : codeOk fn.ntmps c = true) {lvs : List LV} {R : RV → Prop} (hl : Nat.ble lvs.length fn.ntmps = true) (h : lwp Tryz.prog T A c (entry lvs) (fun e s => ∃ r, R r ∧ FnPost T fn r e s)) : FnS Tryz.prog g lvs R := fnS_of A mix tok hf hb hn hc hl h
theorem mutS_fn_of (A : List (Nat × List Nat)) {g : FuncId} {fn : Func} {c : Code} (hf : Tryz.prog.funcs[g]? = some fn) (hb : fn.body = some c) (hn : (fn.name == "runtime.NumGoroutine") = false) (hc : codeOk fn.ntmps c = true) {args : List LV} {m : Nat} {hp0 : List (Nat × Ent)} {R : LV → Nat → List (Nat × Ent) → Prop} (hl : Nat.ble args.length fn.ntmps = true) (h : lwp Tryz.prog T A c (entryM args m hp0) (fun e s => ∃ lv m' hp1 gl, R lv m' hp1 ∧ MutPost T fn m lv m' hp1 gl e s)) : MutS Tryz.prog g args m hp0 R := mutS_of A mix tok hf hb hn hc hl h
end Go.Proofs.YtojaakpnpdnbhaaGreatDoor.L
