/- The types of this seat, as the symbolic logic has them: printed by tt.py out of the translation. -/
import Derived.Test.YtojaakpnpdnbhaaDoorLy
import Derived.Test.YtojaakpnpdnbhaaDoorLv
import Derived.Test.YtojaakpnpdnbhaaDoorProg
set_option maxRecDepth 100000
namespace Go.Proofs.YtojaakpnpdnbhaaDoor.L
open Go.RowKit
def ti2 : TI := ⟨1, 8, [.int .i64 0], .int .i64, false⟩
theorem ok2 : TIok Tryd.prog 2 ti2 := TIok.ofOne (z := (.int .i64 0)) (d := .int .i64) (by kernel_rfl) (by kernel_rfl) rfl rfl rfl rfl rfl
def ti3 : TI := ⟨1, 8, [.int .i64 0], .int .i64, false⟩
theorem ok3 : TIok Tryd.prog 3 ti3 := TIok.ofOne (z := (.int .i64 0)) (d := .int .i64) (by kernel_rfl) (by kernel_rfl) rfl rfl rfl rfl rfl
def ti4 : TI := ⟨1, 1, [.bool false], .bool, false⟩
theorem ok4 : TIok Tryd.prog 4 ti4 := TIok.ofOne (z := (.bool false)) (d := .bool) (by kernel_rfl) (by kernel_rfl) rfl rfl rfl rfl rfl
def ti5 : TI := ⟨1, 1, [.int .u8 0], .int .u8, false⟩
theorem ok5 : TIok Tryd.prog 5 ti5 := TIok.ofOne (z := (.int .u8 0)) (d := .int .u8) (by kernel_rfl) (by kernel_rfl) rfl rfl rfl rfl rfl
def ti6 : TI := ⟨1, 1, [.int .u8 0], .int .u8, false⟩
theorem ok6 : TIok Tryd.prog 6 ti6 := TIok.ofOne (z := (.int .u8 0)) (d := .int .u8) (by kernel_rfl) (by kernel_rfl) rfl rfl rfl rfl rfl
def ti7 : TI := ⟨4, 24, [.int .i64 0, .int .i64 0, .bool false, .int .u8 0], .agg [(0, 1, false), (1, 1, false), (2, 1, false), (3, 1, false)], false⟩
theorem ok7 : TIok Tryd.prog 7 ti7 := TIok.ofAgg (fl := [(0, 1, false), (1, 1, false), (2, 1, false), (3, 1, false)]) (by kernel_rfl) (by kernel_rfl) rfl rfl (fun h => nomatch h)
def ti8 : TI := ⟨4, 24, [.int .i64 0, .int .i64 0, .bool false, .int .u8 0], .agg [(0, 1, false), (1, 1, false), (2, 1, false), (3, 1, false)], false⟩
theorem ok8 : TIok Tryd.prog 8 ti8 := TIok.ofAgg (fl := [(0, 1, false), (1, 1, false), (2, 1, false), (3, 1, false)]) (by kernel_rfl) (by kernel_rfl) rfl rfl (fun h => nomatch h)
def ti9 : TI := ⟨1, 16, [.string ⟨#[]⟩], .str, false⟩
theorem ok9 : TIok Tryd.prog 9 ti9 := TIok.ofOne (z := (.string ⟨#[]⟩)) (d := .string) (by kernel_rfl) (by kernel_rfl) rfl rfl rfl rfl rfl
def ti10 : TI := ⟨1, 16, [.string ⟨#[]⟩], .str, false⟩
theorem ok10 : TIok Tryd.prog 10 ti10 := TIok.ofOne (z := (.string ⟨#[]⟩)) (d := .string) (by kernel_rfl) (by kernel_rfl) rfl rfl rfl rfl rfl
def ti11 : TI := ⟨1, 16, [.string ⟨#[]⟩], .str, false⟩
theorem ok11 : TIok Tryd.prog 11 ti11 := TIok.ofOne (z := (.string ⟨#[]⟩)) (d := .string) (by kernel_rfl) (by kernel_rfl) rfl rfl rfl rfl rfl
def ti12 : TI := ⟨1, 8, [.int .u64 0], .int .u64, false⟩
theorem ok12 : TIok Tryd.prog 12 ti12 := TIok.ofOne (z := (.int .u64 0)) (d := .int .u64) (by kernel_rfl) (by kernel_rfl) rfl rfl rfl rfl rfl
def ti13 : TI := ⟨2, 24, [.string ⟨#[]⟩, .int .u64 0], .agg [(0, 1, false), (1, 1, false)], false⟩
theorem ok13 : TIok Tryd.prog 13 ti13 := TIok.ofAgg (fl := [(0, 1, false), (1, 1, false)]) (by kernel_rfl) (by kernel_rfl) rfl rfl (fun h => nomatch h)
def ti14 : TI := ⟨2, 24, [.string ⟨#[]⟩, .int .u64 0], .agg [(0, 1, false), (1, 1, false)], false⟩
theorem ok14 : TIok Tryd.prog 14 ti14 := TIok.ofAgg (fl := [(0, 1, false), (1, 1, false)]) (by kernel_rfl) (by kernel_rfl) rfl rfl (fun h => nomatch h)
def ti15 : TI := ⟨1, 8, [.pointer none], .other, false⟩
theorem ok15 : TIok Tryd.prog 15 ti15 := TIok.ofOne (z := (.pointer none)) (d := .pointer 138) (by kernel_rfl) (by kernel_rfl) rfl rfl rfl rfl rfl
def ti16 : TI := ⟨1, 8, [.pointer none], .other, false⟩
theorem ok16 : TIok Tryd.prog 16 ti16 := TIok.ofOne (z := (.pointer none)) (d := .pointer 141) (by kernel_rfl) (by kernel_rfl) rfl rfl rfl rfl rfl
def ti17 : TI := ⟨1, 8, [.pointer none], .other, false⟩
theorem ok17 : TIok Tryd.prog 17 ti17 := TIok.ofOne (z := (.pointer none)) (d := .pointer 149) (by kernel_rfl) (by kernel_rfl) rfl rfl rfl rfl rfl
def ti18 : TI := ⟨1, 8, [.pointer none], .agg [(0, 1, false)], false⟩
theorem ok18 : TIok Tryd.prog 18 ti18 := TIok.ofAgg (fl := [(0, 1, false)]) (by kernel_rfl) (by kernel_rfl) rfl rfl (fun h => nomatch h)
def ti19 : TI := ⟨1, 8, [.pointer none], .agg [(0, 1, false)], false⟩
theorem ok19 : TIok Tryd.prog 19 ti19 := TIok.ofAgg (fl := [(0, 1, false)]) (by kernel_rfl) (by kernel_rfl) rfl rfl (fun h => nomatch h)
def ti21 : TI := ⟨1, 4, [.int .i32 0], .int .i32, false⟩
theorem ok21 : TIok Tryd.prog 21 ti21 := TIok.ofOne (z := (.int .i32 0)) (d := .int .i32) (by kernel_rfl) (by kernel_rfl) rfl rfl rfl rfl rfl
def ti22 : TI := ⟨1, 24, [.slice none 0 0], .slice 53, false⟩
theorem ok22 : TIok Tryd.prog 22 ti22 := TIok.ofOne (z := (.slice none 0 0)) (d := .slice 53) (by kernel_rfl) (by kernel_rfl) rfl rfl rfl rfl rfl
def ti23 : TI := ⟨1, 24, [.slice none 0 0], .slice 68, false⟩
theorem ok23 : TIok Tryd.prog 23 ti23 := TIok.ofOne (z := (.slice none 0 0)) (d := .slice 68) (by kernel_rfl) (by kernel_rfl) rfl rfl rfl rfl rfl
def ti24 : TI := ⟨1, 24, [.slice none 0 0], .slice 70, false⟩
theorem ok24 : TIok Tryd.prog 24 ti24 := TIok.ofOne (z := (.slice none 0 0)) (d := .slice 70) (by kernel_rfl) (by kernel_rfl) rfl rfl rfl rfl rfl
def ti25 : TI := ⟨1, 24, [.slice none 0 0], .slice 72, false⟩
theorem ok25 : TIok Tryd.prog 25 ti25 := TIok.ofOne (z := (.slice none 0 0)) (d := .slice 72) (by kernel_rfl) (by kernel_rfl) rfl rfl rfl rfl rfl
def ti26 : TI := ⟨4, 96, [.slice none 0 0, .slice none 0 0, .slice none 0 0, .slice none 0 0], .agg [(0, 1, false), (1, 1, false), (2, 1, false), (3, 1, false)], false⟩
theorem ok26 : TIok Tryd.prog 26 ti26 := TIok.ofAgg (fl := [(0, 1, false), (1, 1, false), (2, 1, false), (3, 1, false)]) (by kernel_rfl) (by kernel_rfl) rfl rfl (fun h => nomatch h)
def ti27 : TI := ⟨4, 96, [.slice none 0 0, .slice none 0 0, .slice none 0 0, .slice none 0 0], .agg [(0, 1, false), (1, 1, false), (2, 1, false), (3, 1, false)], false⟩
theorem ok27 : TIok Tryd.prog 27 ti27 := TIok.ofAgg (fl := [(0, 1, false), (1, 1, false), (2, 1, false), (3, 1, false)]) (by kernel_rfl) (by kernel_rfl) rfl rfl (fun h => nomatch h)
def ti29 : TI := ⟨2, 24, [.int .i64 0, .string ⟨#[]⟩], .agg [(0, 1, false), (1, 1, false)], false⟩
theorem ok29 : TIok Tryd.prog 29 ti29 := TIok.ofAgg (fl := [(0, 1, false), (1, 1, false)]) (by kernel_rfl) (by kernel_rfl) rfl rfl (fun h => nomatch h)
def ti30 : TI := ⟨2, 24, [.int .i64 0, .string ⟨#[]⟩], .agg [(0, 1, false), (1, 1, false)], false⟩
theorem ok30 : TIok Tryd.prog 30 ti30 := TIok.ofAgg (fl := [(0, 1, false), (1, 1, false)]) (by kernel_rfl) (by kernel_rfl) rfl rfl (fun h => nomatch h)
def ti32 : TI := ⟨1, 24, [.slice none 0 0], .slice 56, false⟩
theorem ok32 : TIok Tryd.prog 32 ti32 := TIok.ofOne (z := (.slice none 0 0)) (d := .slice 56) (by kernel_rfl) (by kernel_rfl) rfl rfl rfl rfl rfl
def ti33 : TI := ⟨1, 24, [.slice none 0 0], .slice 58, false⟩
theorem ok33 : TIok Tryd.prog 33 ti33 := TIok.ofOne (z := (.slice none 0 0)) (d := .slice 58) (by kernel_rfl) (by kernel_rfl) rfl rfl rfl rfl rfl
def ti34 : TI := ⟨1, 24, [.slice none 0 0], .slice 60, false⟩
theorem ok34 : TIok Tryd.prog 34 ti34 := TIok.ofOne (z := (.slice none 0 0)) (d := .slice 60) (by kernel_rfl) (by kernel_rfl) rfl rfl rfl rfl rfl
def ti35 : TI := ⟨4, 96, [.slice none 0 0, .slice none 0 0, .slice none 0 0, .slice none 0 0], .agg [(0, 1, false), (1, 1, false), (2, 1, false), (3, 1, false)], false⟩
theorem ok35 : TIok Tryd.prog 35 ti35 := TIok.ofAgg (fl := [(0, 1, false), (1, 1, false), (2, 1, false), (3, 1, false)]) (by kernel_rfl) (by kernel_rfl) rfl rfl (fun h => nomatch h)
def ti36 : TI := ⟨4, 96, [.slice none 0 0, .slice none 0 0, .slice none 0 0, .slice none 0 0], .agg [(0, 1, false), (1, 1, false), (2, 1, false), (3, 1, false)], false⟩
theorem ok36 : TIok Tryd.prog 36 ti36 := TIok.ofAgg (fl := [(0, 1, false), (1, 1, false), (2, 1, false), (3, 1, false)]) (by kernel_rfl) (by kernel_rfl) rfl rfl (fun h => nomatch h)
def ti46 : TI := ⟨1, 8, [.pointer none], .other, false⟩
theorem ok46 : TIok Tryd.prog 46 ti46 := TIok.ofOne (z := (.pointer none)) (d := .pointer 36) (by kernel_rfl) (by kernel_rfl) rfl rfl rfl rfl rfl
def ti53 : TI := ⟨1, 24, [.slice none 0 0], .slice 2, false⟩
theorem ok53 : TIok Tryd.prog 53 ti53 := TIok.ofOne (z := (.slice none 0 0)) (d := .slice 2) (by kernel_rfl) (by kernel_rfl) rfl rfl rfl rfl rfl
def ti55 : TI := ⟨5, 40, [.int .i64 0, .int .i64 0, .int .i64 0, .int .i64 0, .int .i64 0], .agg [(0, 1, false), (1, 1, false), (2, 1, false), (3, 1, false), (4, 1, false)], true⟩
theorem ok55 : TIok Tryd.prog 55 ti55 := TIok.ofAgg (fl := [(0, 1, false), (1, 1, false), (2, 1, false), (3, 1, false), (4, 1, false)]) (by kernel_rfl) (by kernel_rfl) rfl rfl (fun _ => EqS.of (by kernel_rfl) (by kernel_rfl) (by kernel_rfl))
def ti56 : TI := ⟨5, 40, [.int .i64 0, .int .i64 0, .int .i64 0, .int .i64 0, .int .i64 0], .agg [(0, 1, false), (1, 1, false), (2, 1, false), (3, 1, false), (4, 1, false)], true⟩
theorem ok56 : TIok Tryd.prog 56 ti56 := TIok.ofAgg (fl := [(0, 1, false), (1, 1, false), (2, 1, false), (3, 1, false), (4, 1, false)]) (by kernel_rfl) (by kernel_rfl) rfl rfl (fun _ => EqS.of (by kernel_rfl) (by kernel_rfl) (by kernel_rfl))
def ti57 : TI := ⟨2, 16, [.int .i64 0, .int .i64 0], .agg [(0, 1, false), (1, 1, false)], true⟩
theorem ok57 : TIok Tryd.prog 57 ti57 := TIok.ofAgg (fl := [(0, 1, false), (1, 1, false)]) (by kernel_rfl) (by kernel_rfl) rfl rfl (fun _ => EqS.of (by kernel_rfl) (by kernel_rfl) (by kernel_rfl))
def ti58 : TI := ⟨2, 16, [.int .i64 0, .int .i64 0], .agg [(0, 1, false), (1, 1, false)], true⟩
theorem ok58 : TIok Tryd.prog 58 ti58 := TIok.ofAgg (fl := [(0, 1, false), (1, 1, false)]) (by kernel_rfl) (by kernel_rfl) rfl rfl (fun _ => EqS.of (by kernel_rfl) (by kernel_rfl) (by kernel_rfl))
def ti59 : TI := ⟨2, 16, [.int .i64 0, .int .i64 0], .agg [(0, 1, false), (1, 1, false)], true⟩
theorem ok59 : TIok Tryd.prog 59 ti59 := TIok.ofAgg (fl := [(0, 1, false), (1, 1, false)]) (by kernel_rfl) (by kernel_rfl) rfl rfl (fun _ => EqS.of (by kernel_rfl) (by kernel_rfl) (by kernel_rfl))
def ti60 : TI := ⟨2, 16, [.int .i64 0, .int .i64 0], .agg [(0, 1, false), (1, 1, false)], true⟩
theorem ok60 : TIok Tryd.prog 60 ti60 := TIok.ofAgg (fl := [(0, 1, false), (1, 1, false)]) (by kernel_rfl) (by kernel_rfl) rfl rfl (fun _ => EqS.of (by kernel_rfl) (by kernel_rfl) (by kernel_rfl))
def ti68 : TI := ⟨5, 40, [.int .i64 0, .int .i64 0, .int .i64 0, .int .i64 0, .int .i64 0], .agg [(0, 1, false), (1, 1, false), (2, 1, false), (3, 1, false), (4, 1, false)], true⟩
theorem ok68 : TIok Tryd.prog 68 ti68 := TIok.ofAgg (fl := [(0, 1, false), (1, 1, false), (2, 1, false), (3, 1, false), (4, 1, false)]) (by kernel_rfl) (by kernel_rfl) rfl rfl (fun _ => EqS.of (by kernel_rfl) (by kernel_rfl) (by kernel_rfl))
def ti70 : TI := ⟨2, 16, [.int .i64 0, .int .i64 0], .agg [(0, 1, false), (1, 1, false)], true⟩
theorem ok70 : TIok Tryd.prog 70 ti70 := TIok.ofAgg (fl := [(0, 1, false), (1, 1, false)]) (by kernel_rfl) (by kernel_rfl) rfl rfl (fun _ => EqS.of (by kernel_rfl) (by kernel_rfl) (by kernel_rfl))
def ti72 : TI := ⟨2, 16, [.int .i64 0, .int .i64 0], .agg [(0, 1, false), (1, 1, false)], true⟩
theorem ok72 : TIok Tryd.prog 72 ti72 := TIok.ofAgg (fl := [(0, 1, false), (1, 1, false)]) (by kernel_rfl) (by kernel_rfl) rfl rfl (fun _ => EqS.of (by kernel_rfl) (by kernel_rfl) (by kernel_rfl))
def ti77 : TI := ⟨1, 24, [.slice none 0 0], .slice 9, false⟩
theorem ok77 : TIok Tryd.prog 77 ti77 := TIok.ofOne (z := (.slice none 0 0)) (d := .slice 9) (by kernel_rfl) (by kernel_rfl) rfl rfl rfl rfl rfl
def ti99 : TI := ⟨1, 24, [.slice none 0 0], .slice 5, false⟩
theorem ok99 : TIok Tryd.prog 99 ti99 := TIok.ofOne (z := (.slice none 0 0)) (d := .slice 5) (by kernel_rfl) (by kernel_rfl) rfl rfl rfl rfl rfl
def ti104 : TI := ⟨1, 8, [.pointer none], .other, false⟩
theorem ok104 : TIok Tryd.prog 104 ti104 := TIok.ofOne (z := (.pointer none)) (d := .pointer 106) (by kernel_rfl) (by kernel_rfl) rfl rfl rfl rfl rfl
def ti115 : TI := ⟨1, 8, [.pointer none], .other, false⟩
theorem ok115 : TIok Tryd.prog 115 ti115 := TIok.ofOne (z := (.pointer none)) (d := .pointer 5) (by kernel_rfl) (by kernel_rfl) rfl rfl rfl rfl rfl
def ti121 : TI := ⟨1, 8, [.int .u64 0], .int .u64, false⟩
theorem ok121 : TIok Tryd.prog 121 ti121 := TIok.ofOne (z := (.int .u64 0)) (d := .int .u64) (by kernel_rfl) (by kernel_rfl) rfl rfl rfl rfl rfl
def ti129 : TI := ⟨1, 4, [.int .u32 0], .int .u32, false⟩
theorem ok129 : TIok Tryd.prog 129 ti129 := TIok.ofOne (z := (.int .u32 0)) (d := .int .u32) (by kernel_rfl) (by kernel_rfl) rfl rfl rfl rfl rfl
def ti132 : TI := ⟨1, 8, [.int .u64 0], .int .u64, false⟩
theorem ok132 : TIok Tryd.prog 132 ti132 := TIok.ofOne (z := (.int .u64 0)) (d := .int .u64) (by kernel_rfl) (by kernel_rfl) rfl rfl rfl rfl rfl
def ti140 : TI := ⟨0, 0, [], .agg [(0, 0, true)], false⟩
theorem ok140 : TIok Tryd.prog 140 ti140 := TIok.ofAgg (fl := [(0, 0, true)]) (by kernel_rfl) (by kernel_rfl) rfl rfl (fun h => nomatch h)
def ti141 : TI := ⟨0, 0, [], .agg [(0, 0, true)], false⟩
theorem ok141 : TIok Tryd.prog 141 ti141 := TIok.ofAgg (fl := [(0, 0, true)]) (by kernel_rfl) (by kernel_rfl) rfl rfl (fun h => nomatch h)
def ti143 : TI := ⟨1, 1, [.int .u8 0], .int .u8, false⟩
theorem ok143 : TIok Tryd.prog 143 ti143 := TIok.ofOne (z := (.int .u8 0)) (d := .int .u8) (by kernel_rfl) (by kernel_rfl) rfl rfl rfl rfl rfl
def ti144 : TI := ⟨1, 1, [.int .u8 0], .int .u8, false⟩
theorem ok144 : TIok Tryd.prog 144 ti144 := TIok.ofOne (z := (.int .u8 0)) (d := .int .u8) (by kernel_rfl) (by kernel_rfl) rfl rfl rfl rfl rfl
def ti146 : TI := ⟨1, 4, [.int .i32 0], .int .i32, false⟩
theorem ok146 : TIok Tryd.prog 146 ti146 := TIok.ofOne (z := (.int .i32 0)) (d := .int .i32) (by kernel_rfl) (by kernel_rfl) rfl rfl rfl rfl rfl
def ti147 : TI := ⟨1, 4, [.int .i32 0], .int .i32, false⟩
theorem ok147 : TIok Tryd.prog 147 ti147 := TIok.ofOne (z := (.int .i32 0)) (d := .int .i32) (by kernel_rfl) (by kernel_rfl) rfl rfl rfl rfl rfl
def T : TT := look [(2, ti2), (3, ti3), (4, ti4), (5, ti5), (6, ti6), (7, ti7), (8, ti8), (9, ti9), (10, ti10), (11, ti11), (12, ti12), (13, ti13), (14, ti14), (15, ti15), (16, ti16), (17, ti17), (18, ti18), (19, ti19), (21, ti21), (22, ti22), (23, ti23), (24, ti24), (25, ti25), (26, ti26), (27, ti27), (29, ti29), (30, ti30), (32, ti32), (33, ti33), (34, ti34), (35, ti35), (36, ti36), (46, ti46), (53, ti53), (55, ti55), (56, ti56), (57, ti57), (58, ti58), (59, ti59), (60, ti60), (68, ti68), (70, ti70), (72, ti72), (77, ti77), (99, ti99), (104, ti104), (115, ti115), (121, ti121), (129, ti129), (132, ti132), (140, ti140), (141, ti141), (143, ti143), (144, ti144), (146, ti146), (147, ti147)]
theorem tok : TOk Tryd.prog T := TOk.ofLook ⟨ok2, ok3, ok4, ok5, ok6, ok7, ok8, ok9, ok10, ok11, ok12, ok13, ok14, ok15, ok16, ok17, ok18, ok19, ok21, ok22, ok23, ok24, ok25, ok26, ok27, ok29, ok30, ok32, ok33, ok34, ok35, ok36, ok46, ok53, ok55, ok56, ok57, ok58, ok59, ok60, ok68, ok70, ok72, ok77, ok99, ok104, ok115, ok121, ok129, ok132, ok140, ok141, ok143, ok144, ok146, ok147, trivial⟩
theorem mix : Tryd.prog.follows .mixedOrders = true := by kernel_rfl
theorem fn_of (A : List (Nat × List Nat)) {g : FuncId} {fn : Func} {c : Code} (hf : Tryd.prog.funcs[g]? = some fn) (hb : fn.body = some c) (hn : (fn.name == "runtime.NumGoroutine") = false) (hc : codeOk fn.ntmps c = true) {lvs : List LV} {r : RV} (hl : Nat.ble lvs.length fn.ntmps = true) (h : lwp Tryd.prog T A c (entry lvs) (FnPost T fn r)) : FnOK Tryd.prog g lvs r := fnOK_of A mix tok hf hb hn hc hl h
theorem mut_fn_of (A : List (Nat × List Nat)) {g : FuncId} {fn : Func} {c : Code} (hf : Tryd.prog.funcs[g]? = some fn) (hb : fn.body = some c) (hn : (fn.name == "runtime.NumGoroutine") = false) (hc : codeOk fn.ntmps c = true) {args : List LV} {m : Nat} {hp0 : List (Nat × Ent)} {lv : LV} {m' : Nat} {hp1 : List (Nat × Ent)} (hl : Nat.ble args.length fn.ntmps = true) (gl : List (Nat × Nat)) (h : lwp Tryd.prog T A c (entryM args m hp0) (MutPost T fn m lv m' hp1 gl)) : MutOK Tryd.prog g args m hp0 lv m' hp1 := mut_of A mix tok hf hb hn hc hl gl h
theorem fnS_fn_of (A : List (Nat × List Nat)) {g : FuncId} {fn : Func} {c : Code} (hf : Tryd.prog.funcs[g]? = some fn) (hb : fn.body = some c) (hn : (fn.name == "runtime.NumGoroutine") = false) (hc : codeOk fn.ntmps c = true) {lvs : List LV} {R : RV → Prop} (hl : Nat.ble lvs.length fn.ntmps = true) (h : lwp Tryd.prog T A c (entry lvs) (fun e s => ∃ r, R r ∧ FnPost T fn r e s)) : FnS Tryd.prog g lvs R := fnS_of A mix tok hf hb hn hc hl h
theorem mutS_fn_of (A : List (Nat × List Nat)) {g : FuncId} {fn : Func} {c : Code} (hf : Tryd.prog.funcs[g]? = some fn) (hb : fn.body = some c) (hn : (fn.name == "runtime.NumGoroutine") = false) (hc : codeOk fn.ntmps c = true) {args : List LV} {m : Nat} {hp0 : List (Nat × Ent)} {R : LV → Nat → List (Nat × Ent) → Prop} (hl : Nat.ble args.length fn.ntmps = true) (h : lwp Tryd.prog T A c (entryM args m hp0) (fun e s => ∃ lv m' hp1 gl, R lv m' hp1 ∧ MutPost T fn m lv m' hp1 gl e s)) : MutS Tryd.prog g args m hp0 R := mutS_of A mix tok hf hb hn hc hl h
end Go.Proofs.YtojaakpnpdnbhaaDoor.L
