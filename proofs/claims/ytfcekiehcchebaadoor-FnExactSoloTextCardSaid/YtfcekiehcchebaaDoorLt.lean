/- The types of this seat, as the symbolic logic has them: printed by tt.py out of the translation. -/
import Derived.Test.YtfcekiehcchebaaDoorLy
import Derived.Test.YtfcekiehcchebaaDoorLv
import Derived.Test.YtfcekiehcchebaaDoorProg
set_option maxRecDepth 100000
namespace Go.Proofs.YtfcekiehcchebaaDoor.L
open Go.RowKit
def ti2 : TI := ⟨1, 8, [.int .i64 0], .int .i64, false⟩
theorem ok2 : TIok Tryd.prog 2 ti2 := TIok.ofOne (z := (.int .i64 0)) (d := .int .i64) (by kernel_rfl) (by kernel_rfl) rfl rfl rfl rfl rfl
def ti3 : TI := ⟨1, 8, [.int .i64 0], .int .i64, false⟩
theorem ok3 : TIok Tryd.prog 3 ti3 := TIok.ofOne (z := (.int .i64 0)) (d := .int .i64) (by kernel_rfl) (by kernel_rfl) rfl rfl rfl rfl rfl
def ti4 : TI := ⟨1, 1, [.bool false], .bool, false⟩
theorem ok4 : TIok Tryd.prog 4 ti4 := TIok.ofOne (z := (.bool false)) (d := .bool) (by kernel_rfl) (by kernel_rfl) rfl rfl rfl rfl rfl
def ti5 : TI := ⟨1, 1, [.int .u8 0], .int .u8, false⟩
theorem ok5 : TIok Tryd.prog 5 ti5 := TIok.ofOne (z := (.int .u8 0)) (d := .int .u8) (by kernel_rfl) (by kernel_rfl) rfl rfl rfl rfl rfl
def ti6 : TI := ⟨1, 1, [.int .u8 0], .int .u8, false⟩
theorem ok6 : TIok Tryd.prog 6 ti6 := TIok.ofOne (z := (.int .u8 0)) (d := .int .u8) (by kernel_rfl) (by kernel_rfl) rfl rfl rfl rfl rfl
def ti7 : TI := ⟨4, 24, [.int .i64 0, .int .i64 0, .bool false, .int .u8 0], .agg [(0, 1, false), (1, 1, false), (2, 1, false), (3, 1, false)], false⟩
theorem ok7 : TIok Tryd.prog 7 ti7 := TIok.ofAgg (fl := [(0, 1, false), (1, 1, false), (2, 1, false), (3, 1, false)]) (by kernel_rfl) (by kernel_rfl) rfl rfl (fun h => nomatch h)
def ti8 : TI := ⟨4, 24, [.int .i64 0, .int .i64 0, .bool false, .int .u8 0], .agg [(0, 1, false), (1, 1, false), (2, 1, false), (3, 1, false)], false⟩
theorem ok8 : TIok Tryd.prog 8 ti8 := TIok.ofAgg (fl := [(0, 1, false), (1, 1, false), (2, 1, false), (3, 1, false)]) (by kernel_rfl) (by kernel_rfl) rfl rfl (fun h => nomatch h)
def ti9 : TI := ⟨1, 16, [.string ⟨#[]⟩], .str, false⟩
theorem ok9 : TIok Tryd.prog 9 ti9 := TIok.ofOne (z := (.string ⟨#[]⟩)) (d := .string) (by kernel_rfl) (by kernel_rfl) rfl rfl rfl rfl rfl
def ti10 : TI := ⟨1, 16, [.string ⟨#[]⟩], .str, false⟩
theorem ok10 : TIok Tryd.prog 10 ti10 := TIok.ofOne (z := (.string ⟨#[]⟩)) (d := .string) (by kernel_rfl) (by kernel_rfl) rfl rfl rfl rfl rfl
def ti11 : TI := ⟨1, 16, [.string ⟨#[]⟩], .str, false⟩
theorem ok11 : TIok Tryd.prog 11 ti11 := TIok.ofOne (z := (.string ⟨#[]⟩)) (d := .string) (by kernel_rfl) (by kernel_rfl) rfl rfl rfl rfl rfl
def ti12 : TI := ⟨1, 8, [.int .u64 0], .int .u64, false⟩
theorem ok12 : TIok Tryd.prog 12 ti12 := TIok.ofOne (z := (.int .u64 0)) (d := .int .u64) (by kernel_rfl) (by kernel_rfl) rfl rfl rfl rfl rfl
def ti13 : TI := ⟨2, 24, [.string ⟨#[]⟩, .int .u64 0], .agg [(0, 1, false), (1, 1, false)], false⟩
theorem ok13 : TIok Tryd.prog 13 ti13 := TIok.ofAgg (fl := [(0, 1, false), (1, 1, false)]) (by kernel_rfl) (by kernel_rfl) rfl rfl (fun h => nomatch h)
def ti14 : TI := ⟨2, 24, [.string ⟨#[]⟩, .int .u64 0], .agg [(0, 1, false), (1, 1, false)], false⟩
theorem ok14 : TIok Tryd.prog 14 ti14 := TIok.ofAgg (fl := [(0, 1, false), (1, 1, false)]) (by kernel_rfl) (by kernel_rfl) rfl rfl (fun h => nomatch h)
def ti15 : TI := ⟨1, 8, [.pointer none], .other, false⟩
theorem ok15 : TIok Tryd.prog 15 ti15 := TIok.ofOne (z := (.pointer none)) (d := .pointer 110) (by kernel_rfl) (by kernel_rfl) rfl rfl rfl rfl rfl
def ti16 : TI := ⟨1, 8, [.pointer none], .other, false⟩
theorem ok16 : TIok Tryd.prog 16 ti16 := TIok.ofOne (z := (.pointer none)) (d := .pointer 113) (by kernel_rfl) (by kernel_rfl) rfl rfl rfl rfl rfl
def ti17 : TI := ⟨1, 8, [.pointer none], .other, false⟩
theorem ok17 : TIok Tryd.prog 17 ti17 := TIok.ofOne (z := (.pointer none)) (d := .pointer 121) (by kernel_rfl) (by kernel_rfl) rfl rfl rfl rfl rfl
def ti18 : TI := ⟨1, 8, [.pointer none], .agg [(0, 1, false)], false⟩
theorem ok18 : TIok Tryd.prog 18 ti18 := TIok.ofAgg (fl := [(0, 1, false)]) (by kernel_rfl) (by kernel_rfl) rfl rfl (fun h => nomatch h)
def ti19 : TI := ⟨1, 8, [.pointer none], .agg [(0, 1, false)], false⟩
theorem ok19 : TIok Tryd.prog 19 ti19 := TIok.ofAgg (fl := [(0, 1, false)]) (by kernel_rfl) (by kernel_rfl) rfl rfl (fun h => nomatch h)
def ti21 : TI := ⟨1, 4, [.int .i32 0], .int .i32, false⟩
theorem ok21 : TIok Tryd.prog 21 ti21 := TIok.ofOne (z := (.int .i32 0)) (d := .int .i32) (by kernel_rfl) (by kernel_rfl) rfl rfl rfl rfl rfl
def ti22 : TI := ⟨1, 24, [.slice none 0 0], .slice 2, false⟩
theorem ok22 : TIok Tryd.prog 22 ti22 := TIok.ofOne (z := (.slice none 0 0)) (d := .slice 2) (by kernel_rfl) (by kernel_rfl) rfl rfl rfl rfl rfl
def ti23 : TI := ⟨9, 120, [.slice none 0 0, .int .i64 0, .slice none 0 0, .bool false, .bool false, .bool false, .int .i64 0, .slice none 0 0, .slice none 0 0], .agg [(0, 1, false), (1, 1, false), (2, 1, false), (3, 1, false), (4, 1, false), (5, 1, false), (6, 1, false), (7, 1, false), (8, 1, false)], false⟩
theorem ok23 : TIok Tryd.prog 23 ti23 := TIok.ofAgg (fl := [(0, 1, false), (1, 1, false), (2, 1, false), (3, 1, false), (4, 1, false), (5, 1, false), (6, 1, false), (7, 1, false), (8, 1, false)]) (by kernel_rfl) (by kernel_rfl) rfl rfl (fun h => nomatch h)
def ti24 : TI := ⟨9, 120, [.slice none 0 0, .int .i64 0, .slice none 0 0, .bool false, .bool false, .bool false, .int .i64 0, .slice none 0 0, .slice none 0 0], .agg [(0, 1, false), (1, 1, false), (2, 1, false), (3, 1, false), (4, 1, false), (5, 1, false), (6, 1, false), (7, 1, false), (8, 1, false)], false⟩
theorem ok24 : TIok Tryd.prog 24 ti24 := TIok.ofAgg (fl := [(0, 1, false), (1, 1, false), (2, 1, false), (3, 1, false), (4, 1, false), (5, 1, false), (6, 1, false), (7, 1, false), (8, 1, false)]) (by kernel_rfl) (by kernel_rfl) rfl rfl (fun h => nomatch h)
def ti26 : TI := ⟨2, 24, [.int .i64 0, .string ⟨#[]⟩], .agg [(0, 1, false), (1, 1, false)], false⟩
theorem ok26 : TIok Tryd.prog 26 ti26 := TIok.ofAgg (fl := [(0, 1, false), (1, 1, false)]) (by kernel_rfl) (by kernel_rfl) rfl rfl (fun h => nomatch h)
def ti27 : TI := ⟨2, 24, [.int .i64 0, .string ⟨#[]⟩], .agg [(0, 1, false), (1, 1, false)], false⟩
theorem ok27 : TIok Tryd.prog 27 ti27 := TIok.ofAgg (fl := [(0, 1, false), (1, 1, false)]) (by kernel_rfl) (by kernel_rfl) rfl rfl (fun h => nomatch h)
def ti29 : TI := ⟨9, 120, [.slice none 0 0, .int .i64 0, .slice none 0 0, .bool false, .bool false, .bool false, .int .i64 0, .slice none 0 0, .slice none 0 0], .agg [(0, 1, false), (1, 1, false), (2, 1, false), (3, 1, false), (4, 1, false), (5, 1, false), (6, 1, false), (7, 1, false), (8, 1, false)], false⟩
theorem ok29 : TIok Tryd.prog 29 ti29 := TIok.ofAgg (fl := [(0, 1, false), (1, 1, false), (2, 1, false), (3, 1, false), (4, 1, false), (5, 1, false), (6, 1, false), (7, 1, false), (8, 1, false)]) (by kernel_rfl) (by kernel_rfl) rfl rfl (fun h => nomatch h)
def ti34 : TI := ⟨1, 24, [.slice none 0 0], .slice 73, false⟩
theorem ok34 : TIok Tryd.prog 34 ti34 := TIok.ofOne (z := (.slice none 0 0)) (d := .slice 73) (by kernel_rfl) (by kernel_rfl) rfl rfl rfl rfl rfl
def ti35 : TI := ⟨11, 168, [.slice none 0 0, .int .i64 0, .slice none 0 0, .bool false, .bool false, .bool false, .int .i64 0, .slice none 0 0, .slice none 0 0, .slice none 0 0, .slice none 0 0], .agg [(0, 9, true), (9, 1, false), (10, 1, false)], false⟩
theorem ok35 : TIok Tryd.prog 35 ti35 := TIok.ofAgg (fl := [(0, 9, true), (9, 1, false), (10, 1, false)]) (by kernel_rfl) (by kernel_rfl) rfl rfl (fun h => nomatch h)
def ti36 : TI := ⟨11, 168, [.slice none 0 0, .int .i64 0, .slice none 0 0, .bool false, .bool false, .bool false, .int .i64 0, .slice none 0 0, .slice none 0 0, .slice none 0 0, .slice none 0 0], .agg [(0, 9, true), (9, 1, false), (10, 1, false)], false⟩
theorem ok36 : TIok Tryd.prog 36 ti36 := TIok.ofAgg (fl := [(0, 9, true), (9, 1, false), (10, 1, false)]) (by kernel_rfl) (by kernel_rfl) rfl rfl (fun h => nomatch h)
def ti39 : TI := ⟨1, 24, [.slice none 0 0], .slice 71, false⟩
theorem ok39 : TIok Tryd.prog 39 ti39 := TIok.ofOne (z := (.slice none 0 0)) (d := .slice 71) (by kernel_rfl) (by kernel_rfl) rfl rfl rfl rfl rfl
def ti40 : TI := ⟨11, 168, [.slice none 0 0, .int .i64 0, .slice none 0 0, .bool false, .bool false, .bool false, .int .i64 0, .slice none 0 0, .slice none 0 0, .slice none 0 0, .slice none 0 0], .agg [(0, 9, true), (9, 1, false), (10, 1, false)], false⟩
theorem ok40 : TIok Tryd.prog 40 ti40 := TIok.ofAgg (fl := [(0, 9, true), (9, 1, false), (10, 1, false)]) (by kernel_rfl) (by kernel_rfl) rfl rfl (fun h => nomatch h)
def ti41 : TI := ⟨11, 168, [.slice none 0 0, .int .i64 0, .slice none 0 0, .bool false, .bool false, .bool false, .int .i64 0, .slice none 0 0, .slice none 0 0, .slice none 0 0, .slice none 0 0], .agg [(0, 9, true), (9, 1, false), (10, 1, false)], false⟩
theorem ok41 : TIok Tryd.prog 41 ti41 := TIok.ofAgg (fl := [(0, 9, true), (9, 1, false), (10, 1, false)]) (by kernel_rfl) (by kernel_rfl) rfl rfl (fun h => nomatch h)
def ti47 : TI := ⟨1, 8, [.pointer none], .other, false⟩
theorem ok47 : TIok Tryd.prog 47 ti47 := TIok.ofOne (z := (.pointer none)) (d := .pointer 29) (by kernel_rfl) (by kernel_rfl) rfl rfl rfl rfl rfl
def ti62 : TI := ⟨1, 24, [.slice none 0 0], .slice 5, false⟩
theorem ok62 : TIok Tryd.prog 62 ti62 := TIok.ofOne (z := (.slice none 0 0)) (d := .slice 5) (by kernel_rfl) (by kernel_rfl) rfl rfl rfl rfl rfl
def ti63 : TI := ⟨1, 24, [.slice none 0 0], .slice 9, false⟩
theorem ok63 : TIok Tryd.prog 63 ti63 := TIok.ofOne (z := (.slice none 0 0)) (d := .slice 9) (by kernel_rfl) (by kernel_rfl) rfl rfl rfl rfl rfl
def ti70 : TI := ⟨2, 16, [.int .i64 0, .int .i64 0], .agg [(0, 1, false), (1, 1, false)], true⟩
theorem ok70 : TIok Tryd.prog 70 ti70 := TIok.ofAgg (fl := [(0, 1, false), (1, 1, false)]) (by kernel_rfl) (by kernel_rfl) rfl rfl (fun _ => EqS.of (by kernel_rfl) (by kernel_rfl) (by kernel_rfl))
def ti71 : TI := ⟨2, 16, [.int .i64 0, .int .i64 0], .agg [(0, 1, false), (1, 1, false)], true⟩
theorem ok71 : TIok Tryd.prog 71 ti71 := TIok.ofAgg (fl := [(0, 1, false), (1, 1, false)]) (by kernel_rfl) (by kernel_rfl) rfl rfl (fun _ => EqS.of (by kernel_rfl) (by kernel_rfl) (by kernel_rfl))
def ti73 : TI := ⟨2, 16, [.int .i64 0, .int .i64 0], .agg [(0, 1, false), (1, 1, false)], true⟩
theorem ok73 : TIok Tryd.prog 73 ti73 := TIok.ofAgg (fl := [(0, 1, false), (1, 1, false)]) (by kernel_rfl) (by kernel_rfl) rfl rfl (fun _ => EqS.of (by kernel_rfl) (by kernel_rfl) (by kernel_rfl))
def ti77 : TI := ⟨1, 8, [.pointer none], .other, false⟩
theorem ok77 : TIok Tryd.prog 77 ti77 := TIok.ofOne (z := (.pointer none)) (d := .pointer 79) (by kernel_rfl) (by kernel_rfl) rfl rfl rfl rfl rfl
def ti87 : TI := ⟨1, 8, [.pointer none], .other, false⟩
theorem ok87 : TIok Tryd.prog 87 ti87 := TIok.ofOne (z := (.pointer none)) (d := .pointer 5) (by kernel_rfl) (by kernel_rfl) rfl rfl rfl rfl rfl
def ti90 : TI := ⟨1, 8, [.int .u64 0], .int .u64, false⟩
theorem ok90 : TIok Tryd.prog 90 ti90 := TIok.ofOne (z := (.int .u64 0)) (d := .int .u64) (by kernel_rfl) (by kernel_rfl) rfl rfl rfl rfl rfl
def ti101 : TI := ⟨1, 4, [.int .u32 0], .int .u32, false⟩
theorem ok101 : TIok Tryd.prog 101 ti101 := TIok.ofOne (z := (.int .u32 0)) (d := .int .u32) (by kernel_rfl) (by kernel_rfl) rfl rfl rfl rfl rfl
def ti104 : TI := ⟨1, 8, [.int .u64 0], .int .u64, false⟩
theorem ok104 : TIok Tryd.prog 104 ti104 := TIok.ofOne (z := (.int .u64 0)) (d := .int .u64) (by kernel_rfl) (by kernel_rfl) rfl rfl rfl rfl rfl
def ti112 : TI := ⟨0, 0, [], .agg [(0, 0, true)], false⟩
theorem ok112 : TIok Tryd.prog 112 ti112 := TIok.ofAgg (fl := [(0, 0, true)]) (by kernel_rfl) (by kernel_rfl) rfl rfl (fun h => nomatch h)
def ti113 : TI := ⟨0, 0, [], .agg [(0, 0, true)], false⟩
theorem ok113 : TIok Tryd.prog 113 ti113 := TIok.ofAgg (fl := [(0, 0, true)]) (by kernel_rfl) (by kernel_rfl) rfl rfl (fun h => nomatch h)
def ti115 : TI := ⟨1, 1, [.int .u8 0], .int .u8, false⟩
theorem ok115 : TIok Tryd.prog 115 ti115 := TIok.ofOne (z := (.int .u8 0)) (d := .int .u8) (by kernel_rfl) (by kernel_rfl) rfl rfl rfl rfl rfl
def ti116 : TI := ⟨1, 1, [.int .u8 0], .int .u8, false⟩
theorem ok116 : TIok Tryd.prog 116 ti116 := TIok.ofOne (z := (.int .u8 0)) (d := .int .u8) (by kernel_rfl) (by kernel_rfl) rfl rfl rfl rfl rfl
def ti118 : TI := ⟨1, 4, [.int .i32 0], .int .i32, false⟩
theorem ok118 : TIok Tryd.prog 118 ti118 := TIok.ofOne (z := (.int .i32 0)) (d := .int .i32) (by kernel_rfl) (by kernel_rfl) rfl rfl rfl rfl rfl
def ti119 : TI := ⟨1, 4, [.int .i32 0], .int .i32, false⟩
theorem ok119 : TIok Tryd.prog 119 ti119 := TIok.ofOne (z := (.int .i32 0)) (d := .int .i32) (by kernel_rfl) (by kernel_rfl) rfl rfl rfl rfl rfl
def T : TT := look [(2, ti2), (3, ti3), (4, ti4), (5, ti5), (6, ti6), (7, ti7), (8, ti8), (9, ti9), (10, ti10), (11, ti11), (12, ti12), (13, ti13), (14, ti14), (15, ti15), (16, ti16), (17, ti17), (18, ti18), (19, ti19), (21, ti21), (22, ti22), (23, ti23), (24, ti24), (26, ti26), (27, ti27), (29, ti29), (34, ti34), (35, ti35), (36, ti36), (39, ti39), (40, ti40), (41, ti41), (47, ti47), (62, ti62), (63, ti63), (70, ti70), (71, ti71), (73, ti73), (77, ti77), (87, ti87), (90, ti90), (101, ti101), (104, ti104), (112, ti112), (113, ti113), (115, ti115), (116, ti116), (118, ti118), (119, ti119)]
theorem tok : TOk Tryd.prog T := TOk.ofLook ⟨ok2, ok3, ok4, ok5, ok6, ok7, ok8, ok9, ok10, ok11, ok12, ok13, ok14, ok15, ok16, ok17, ok18, ok19, ok21, ok22, ok23, ok24, ok26, ok27, ok29, ok34, ok35, ok36, ok39, ok40, ok41, ok47, ok62, ok63, ok70, ok71, ok73, ok77, ok87, ok90, ok101, ok104, ok112, ok113, ok115, ok116, ok118, ok119, trivial⟩
theorem mix : Tryd.prog.follows .mixedOrders = true := by kernel_rfl
theorem fn_of (A : List (Nat × List Nat)) {g : FuncId} {fn : Func} {c : Code} (hf : Tryd.prog.funcs[g]? = some fn) (hb : fn.body = some c) (hn : (fn.name == "runtime.NumGoroutine") = false) (hc : codeOk fn.ntmps c = true) {lvs : List LV} {r : RV} (hl : Nat.ble lvs.length fn.ntmps = true) (h : lwp Tryd.prog T A c (entry lvs) (FnPost T fn r)) : FnOK Tryd.prog g lvs r := fnOK_of A mix tok hf hb hn hc hl h
theorem mut_fn_of (A : List (Nat × List Nat)) {g : FuncId} {fn : Func} {c : Code} (hf : Tryd.prog.funcs[g]? = some fn) (hb : fn.body = some c) (hn : (fn.name == "runtime.NumGoroutine") = false) (hc : codeOk fn.ntmps c = true) {args : List LV} {m : Nat} {hp0 : List (Nat × Ent)} {lv : LV} {m' : Nat} {hp1 : List (Nat × Ent)} (hl : Nat.ble args.length fn.ntmps = true) (gl : List (Nat × Nat)) (h : lwp Tryd.prog T A c (entryM args m hp0) (MutPost T fn m lv m' hp1 gl)) : MutOK Tryd.prog g args m hp0 lv m' hp1 := mut_of A mix tok hf hb hn hc hl gl h
theorem fnS_fn_of (A : List (Nat × List Nat)) {g : FuncId} {fn : Func} {c : Code} (hf : Tryd.prog.funcs[g]? = some fn) (hb : fn.body = some c) (hn : (fn.name == "runtime.NumGoroutine") = false) (hc : codeOk fn.ntmps c = true) {lvs : List LV} {R : RV → Prop} (hl : Nat.ble lvs.length fn.ntmps = true) (h : lwp Tryd.prog T A c (entry lvs) (fun e s => ∃ r, R r ∧ FnPost T fn r e s)) : FnS Tryd.prog g lvs R := fnS_of A mix tok hf hb hn hc hl h
theorem mutS_fn_of (A : List (Nat × List Nat)) {g : FuncId} {fn : Func} {c : Code} (hf : Tryd.prog.funcs[g]? = some fn) (hb : fn.body = some c) (hn : (fn.name == "runtime.NumGoroutine") = false) (hc : codeOk fn.ntmps c = true) {args : List LV} {m : Nat} {hp0 : List (Nat × Ent)} {R : LV → Nat → List (Nat × Ent) → Prop} (hl : Nat.ble args.length fn.ntmps = true) (h : lwp Tryd.prog T A c (entryM args m hp0) (fun e s => ∃ lv m' hp1 gl, R lv m' hp1 ∧ MutPost T fn m lv m' hp1 gl e s)) : MutS Tryd.prog g args m hp0 R := mutS_of A mix tok hf hb hn hc hl h
end Go.Proofs.YtfcekiehcchebaaDoor.L
