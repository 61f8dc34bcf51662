/- The types of this seat, as the symbolic logic has them: printed by tt.py out of the translation. -/
import Derived.Test.YtcllbnancmogfaaLy
import Derived.Test.YtcllbnancmogfaaLv
import Derived.Test.YtcllbnancmogfaaProg
set_option maxRecDepth 100000
namespace Go.Proofs.Ytcllbnancmogfaa.L
open Go.RowKit
def ti2 : TI := ⟨1, 8, [.int .i64 0], .int .i64, false⟩
theorem ok2 : TIok Try.prog 2 ti2 := TIok.ofOne (z := (.int .i64 0)) (d := .int .i64) (by kernel_rfl) (by kernel_rfl) rfl rfl rfl rfl rfl
def ti3 : TI := ⟨1, 8, [.int .i64 0], .int .i64, false⟩
theorem ok3 : TIok Try.prog 3 ti3 := TIok.ofOne (z := (.int .i64 0)) (d := .int .i64) (by kernel_rfl) (by kernel_rfl) rfl rfl rfl rfl rfl
def ti4 : TI := ⟨1, 1, [.bool false], .bool, false⟩
theorem ok4 : TIok Try.prog 4 ti4 := TIok.ofOne (z := (.bool false)) (d := .bool) (by kernel_rfl) (by kernel_rfl) rfl rfl rfl rfl rfl
def ti5 : TI := ⟨1, 1, [.int .u8 0], .int .u8, false⟩
theorem ok5 : TIok Try.prog 5 ti5 := TIok.ofOne (z := (.int .u8 0)) (d := .int .u8) (by kernel_rfl) (by kernel_rfl) rfl rfl rfl rfl rfl
def ti6 : TI := ⟨1, 1, [.int .u8 0], .int .u8, false⟩
theorem ok6 : TIok Try.prog 6 ti6 := TIok.ofOne (z := (.int .u8 0)) (d := .int .u8) (by kernel_rfl) (by kernel_rfl) rfl rfl rfl rfl rfl
def ti7 : TI := ⟨4, 24, [.int .i64 0, .int .i64 0, .bool false, .int .u8 0], .agg [(0, 1, false), (1, 1, false), (2, 1, false), (3, 1, false)], false⟩
theorem ok7 : TIok Try.prog 7 ti7 := TIok.ofAgg (fl := [(0, 1, false), (1, 1, false), (2, 1, false), (3, 1, false)]) (by kernel_rfl) (by kernel_rfl) rfl rfl (fun h => nomatch h)
def ti8 : TI := ⟨4, 24, [.int .i64 0, .int .i64 0, .bool false, .int .u8 0], .agg [(0, 1, false), (1, 1, false), (2, 1, false), (3, 1, false)], false⟩
theorem ok8 : TIok Try.prog 8 ti8 := TIok.ofAgg (fl := [(0, 1, false), (1, 1, false), (2, 1, false), (3, 1, false)]) (by kernel_rfl) (by kernel_rfl) rfl rfl (fun h => nomatch h)
def ti9 : TI := ⟨1, 16, [.string ⟨#[]⟩], .str, false⟩
theorem ok9 : TIok Try.prog 9 ti9 := TIok.ofOne (z := (.string ⟨#[]⟩)) (d := .string) (by kernel_rfl) (by kernel_rfl) rfl rfl rfl rfl rfl
def ti10 : TI := ⟨1, 16, [.string ⟨#[]⟩], .str, false⟩
theorem ok10 : TIok Try.prog 10 ti10 := TIok.ofOne (z := (.string ⟨#[]⟩)) (d := .string) (by kernel_rfl) (by kernel_rfl) rfl rfl rfl rfl rfl
def ti11 : TI := ⟨1, 16, [.string ⟨#[]⟩], .str, false⟩
theorem ok11 : TIok Try.prog 11 ti11 := TIok.ofOne (z := (.string ⟨#[]⟩)) (d := .string) (by kernel_rfl) (by kernel_rfl) rfl rfl rfl rfl rfl
def ti12 : TI := ⟨1, 8, [.int .u64 0], .int .u64, false⟩
theorem ok12 : TIok Try.prog 12 ti12 := TIok.ofOne (z := (.int .u64 0)) (d := .int .u64) (by kernel_rfl) (by kernel_rfl) rfl rfl rfl rfl rfl
def ti13 : TI := ⟨2, 24, [.string ⟨#[]⟩, .int .u64 0], .agg [(0, 1, false), (1, 1, false)], false⟩
theorem ok13 : TIok Try.prog 13 ti13 := TIok.ofAgg (fl := [(0, 1, false), (1, 1, false)]) (by kernel_rfl) (by kernel_rfl) rfl rfl (fun h => nomatch h)
def ti14 : TI := ⟨2, 24, [.string ⟨#[]⟩, .int .u64 0], .agg [(0, 1, false), (1, 1, false)], false⟩
theorem ok14 : TIok Try.prog 14 ti14 := TIok.ofAgg (fl := [(0, 1, false), (1, 1, false)]) (by kernel_rfl) (by kernel_rfl) rfl rfl (fun h => nomatch h)
def ti21 : TI := ⟨1, 4, [.int .i32 0], .int .i32, false⟩
theorem ok21 : TIok Try.prog 21 ti21 := TIok.ofOne (z := (.int .i32 0)) (d := .int .i32) (by kernel_rfl) (by kernel_rfl) rfl rfl rfl rfl rfl
def ti22 : TI := ⟨1, 24, [.slice none 0 0], .slice 2, false⟩
theorem ok22 : TIok Try.prog 22 ti22 := TIok.ofOne (z := (.slice none 0 0)) (d := .slice 2) (by kernel_rfl) (by kernel_rfl) rfl rfl rfl rfl rfl
def ti23 : TI := ⟨9, 120, [.slice none 0 0, .int .i64 0, .slice none 0 0, .bool false, .bool false, .bool false, .int .i64 0, .slice none 0 0, .slice none 0 0], .agg [(0, 1, false), (1, 1, false), (2, 1, false), (3, 1, false), (4, 1, false), (5, 1, false), (6, 1, false), (7, 1, false), (8, 1, false)], false⟩
theorem ok23 : TIok Try.prog 23 ti23 := TIok.ofAgg (fl := [(0, 1, false), (1, 1, false), (2, 1, false), (3, 1, false), (4, 1, false), (5, 1, false), (6, 1, false), (7, 1, false), (8, 1, false)]) (by kernel_rfl) (by kernel_rfl) rfl rfl (fun h => nomatch h)
def ti24 : TI := ⟨9, 120, [.slice none 0 0, .int .i64 0, .slice none 0 0, .bool false, .bool false, .bool false, .int .i64 0, .slice none 0 0, .slice none 0 0], .agg [(0, 1, false), (1, 1, false), (2, 1, false), (3, 1, false), (4, 1, false), (5, 1, false), (6, 1, false), (7, 1, false), (8, 1, false)], false⟩
theorem ok24 : TIok Try.prog 24 ti24 := TIok.ofAgg (fl := [(0, 1, false), (1, 1, false), (2, 1, false), (3, 1, false), (4, 1, false), (5, 1, false), (6, 1, false), (7, 1, false), (8, 1, false)]) (by kernel_rfl) (by kernel_rfl) rfl rfl (fun h => nomatch h)
def ti27 : TI := ⟨9, 120, [.slice none 0 0, .int .i64 0, .slice none 0 0, .bool false, .bool false, .bool false, .int .i64 0, .slice none 0 0, .slice none 0 0], .agg [(0, 1, false), (1, 1, false), (2, 1, false), (3, 1, false), (4, 1, false), (5, 1, false), (6, 1, false), (7, 1, false), (8, 1, false)], false⟩
theorem ok27 : TIok Try.prog 27 ti27 := TIok.ofAgg (fl := [(0, 1, false), (1, 1, false), (2, 1, false), (3, 1, false), (4, 1, false), (5, 1, false), (6, 1, false), (7, 1, false), (8, 1, false)]) (by kernel_rfl) (by kernel_rfl) rfl rfl (fun h => nomatch h)
def ti31 : TI := ⟨10, 128, [.int .i64 0, .slice none 0 0, .int .i64 0, .slice none 0 0, .bool false, .bool false, .bool false, .int .i64 0, .slice none 0 0, .slice none 0 0], .agg [(0, 1, false), (1, 9, true)], false⟩
theorem ok31 : TIok Try.prog 31 ti31 := TIok.ofAgg (fl := [(0, 1, false), (1, 9, true)]) (by kernel_rfl) (by kernel_rfl) rfl rfl (fun h => nomatch h)
def ti32 : TI := ⟨10, 128, [.int .i64 0, .slice none 0 0, .int .i64 0, .slice none 0 0, .bool false, .bool false, .bool false, .int .i64 0, .slice none 0 0, .slice none 0 0], .agg [(0, 1, false), (1, 9, true)], false⟩
theorem ok32 : TIok Try.prog 32 ti32 := TIok.ofAgg (fl := [(0, 1, false), (1, 9, true)]) (by kernel_rfl) (by kernel_rfl) rfl rfl (fun h => nomatch h)
def ti40 : TI := ⟨2, 16, [.int .i64 0, .int .i64 0], .agg [(0, 1, false), (1, 1, false)], true⟩
theorem ok40 : TIok Try.prog 40 ti40 := TIok.ofAgg (fl := [(0, 1, false), (1, 1, false)]) (by kernel_rfl) (by kernel_rfl) rfl rfl (fun _ => EqS.of (by kernel_rfl) (by kernel_rfl) (by kernel_rfl))
def ti41 : TI := ⟨2, 16, [.int .i64 0, .int .i64 0], .agg [(0, 1, false), (1, 1, false)], true⟩
theorem ok41 : TIok Try.prog 41 ti41 := TIok.ofAgg (fl := [(0, 1, false), (1, 1, false)]) (by kernel_rfl) (by kernel_rfl) rfl rfl (fun _ => EqS.of (by kernel_rfl) (by kernel_rfl) (by kernel_rfl))
def ti52 : TI := ⟨1, 24, [.slice none 0 0], .slice 5, false⟩
theorem ok52 : TIok Try.prog 52 ti52 := TIok.ofOne (z := (.slice none 0 0)) (d := .slice 5) (by kernel_rfl) (by kernel_rfl) rfl rfl rfl rfl rfl
def ti75 : TI := ⟨2, 32, [.slice none 0 0, .int .i64 0], .agg [(0, 1, false), (1, 1, false)], false⟩
theorem ok75 : TIok Try.prog 75 ti75 := TIok.ofAgg (fl := [(0, 1, false), (1, 1, false)]) (by kernel_rfl) (by kernel_rfl) rfl rfl (fun h => nomatch h)
def ti76 : TI := ⟨2, 32, [.slice none 0 0, .int .i64 0], .agg [(0, 1, false), (1, 1, false)], false⟩
theorem ok76 : TIok Try.prog 76 ti76 := TIok.ofAgg (fl := [(0, 1, false), (1, 1, false)]) (by kernel_rfl) (by kernel_rfl) rfl rfl (fun h => nomatch h)
def ti78 : TI := ⟨1, 4, [.int .u32 0], .int .u32, false⟩
theorem ok78 : TIok Try.prog 78 ti78 := TIok.ofOne (z := (.int .u32 0)) (d := .int .u32) (by kernel_rfl) (by kernel_rfl) rfl rfl rfl rfl rfl
def ti84 : TI := ⟨0, 0, [], .agg [(0, 0, true)], false⟩
theorem ok84 : TIok Try.prog 84 ti84 := TIok.ofAgg (fl := [(0, 0, true)]) (by kernel_rfl) (by kernel_rfl) rfl rfl (fun h => nomatch h)
def ti85 : TI := ⟨0, 0, [], .agg [(0, 0, true)], false⟩
theorem ok85 : TIok Try.prog 85 ti85 := TIok.ofAgg (fl := [(0, 0, true)]) (by kernel_rfl) (by kernel_rfl) rfl rfl (fun h => nomatch h)
def ti87 : TI := ⟨1, 1, [.int .u8 0], .int .u8, false⟩
theorem ok87 : TIok Try.prog 87 ti87 := TIok.ofOne (z := (.int .u8 0)) (d := .int .u8) (by kernel_rfl) (by kernel_rfl) rfl rfl rfl rfl rfl
def ti88 : TI := ⟨1, 1, [.int .u8 0], .int .u8, false⟩
theorem ok88 : TIok Try.prog 88 ti88 := TIok.ofOne (z := (.int .u8 0)) (d := .int .u8) (by kernel_rfl) (by kernel_rfl) rfl rfl rfl rfl rfl
def ti91 : TI := ⟨1, 4, [.int .i32 0], .int .i32, false⟩
theorem ok91 : TIok Try.prog 91 ti91 := TIok.ofOne (z := (.int .i32 0)) (d := .int .i32) (by kernel_rfl) (by kernel_rfl) rfl rfl rfl rfl rfl
def ti92 : TI := ⟨1, 4, [.int .i32 0], .int .i32, false⟩
theorem ok92 : TIok Try.prog 92 ti92 := TIok.ofOne (z := (.int .i32 0)) (d := .int .i32) (by kernel_rfl) (by kernel_rfl) rfl rfl rfl rfl rfl
def T : TT := look [(2, ti2), (3, ti3), (4, ti4), (5, ti5), (6, ti6), (7, ti7), (8, ti8), (9, ti9), (10, ti10), (11, ti11), (12, ti12), (13, ti13), (14, ti14), (21, ti21), (22, ti22), (23, ti23), (24, ti24), (27, ti27), (31, ti31), (32, ti32), (40, ti40), (41, ti41), (52, ti52), (75, ti75), (76, ti76), (78, ti78), (84, ti84), (85, ti85), (87, ti87), (88, ti88), (91, ti91), (92, ti92)]
theorem tok : TOk Try.prog T := TOk.ofLook ⟨ok2, ok3, ok4, ok5, ok6, ok7, ok8, ok9, ok10, ok11, ok12, ok13, ok14, ok21, ok22, ok23, ok24, ok27, ok31, ok32, ok40, ok41, ok52, ok75, ok76, ok78, ok84, ok85, ok87, ok88, ok91, ok92, trivial⟩
theorem mix : Try.prog.follows .mixedOrders = true := by kernel_rfl
theorem fn_of (A : List (Nat × List Nat)) {g : FuncId} {fn : Func} {c : Code} (hf : Try.prog.funcs[g]? = some fn) (hb : fn.body = some c) (hn : (fn.name == "runtime.NumGoroutine") = false) (hc : codeOk fn.ntmps c = true) {lvs : List LV} {r : RV} (hl : Nat.ble lvs.length fn.ntmps = true) (h : lwp Try.prog T A c (entry lvs) (FnPost T fn r)) : FnOK Try.prog g lvs r := fnOK_of A mix tok hf hb hn hc hl h
theorem mut_fn_of (A : List (Nat × List Nat)) {g : FuncId} {fn : Func} {c : Code} (hf : Try.prog.funcs[g]? = some fn) (hb : fn.body = some c) (hn : (fn.name == "runtime.NumGoroutine") = false) (hc : codeOk fn.ntmps c = true) {args : List LV} {m : Nat} {hp0 : List (Nat × Ent)} {lv : LV} {m' : Nat} {hp1 : List (Nat × Ent)} (hl : Nat.ble args.length fn.ntmps = true) (gl : List (Nat × Nat)) (h : lwp Try.prog T A c (entryM args m hp0) (MutPost T fn m lv m' hp1 gl)) : MutOK Try.prog g args m hp0 lv m' hp1 := mut_of A mix tok hf hb hn hc hl gl h
theorem fnS_fn_of (A : List (Nat × List Nat)) {g : FuncId} {fn : Func} {c : Code} (hf : Try.prog.funcs[g]? = some fn) (hb : fn.body = some c) (hn : (fn.name == "runtime.NumGoroutine") = false) (hc : codeOk fn.ntmps c = true) {lvs : List LV} {R : RV → Prop} (hl : Nat.ble lvs.length fn.ntmps = true) (h : lwp Try.prog T A c (entry lvs) (fun e s => ∃ r, R r ∧ FnPost T fn r e s)) : FnS Try.prog g lvs R := fnS_of A mix tok hf hb hn hc hl h
theorem mutS_fn_of (A : List (Nat × List Nat)) {g : FuncId} {fn : Func} {c : Code} (hf : Try.prog.funcs[g]? = some fn) (hb : fn.body = some c) (hn : (fn.name == "runtime.NumGoroutine") = false) (hc : codeOk fn.ntmps c = true) {args : List LV} {m : Nat} {hp0 : List (Nat × Ent)} {R : LV → Nat → List (Nat × Ent) → Prop} (hl : Nat.ble args.length fn.ntmps = true) (h : lwp Try.prog T A c (entryM args m hp0) (fun e s => ∃ lv m' hp1 gl, R lv m' hp1 ∧ MutPost T fn m lv m' hp1 gl e s)) : MutS Try.prog g args m hp0 R := mutS_of A mix tok hf hb hn hc hl h
end Go.Proofs.Ytcllbnancmogfaa.L
