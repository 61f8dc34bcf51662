/- What the functions compute that draw numbers out of a code's bytes: contracts. -/
import Derived.Test.YtfcekiehcchebaaCr
import Derived.Test.YtfcekiehcchebaaCj
import Derived.Test.YtfcekiehcchebaaLy
set_option linter.unusedVariables false
set_option linter.unusedSimpArgs false
set_option maxRecDepth 100000
namespace Go.Proofs.Ytfcekiehcchebaa.L
open Go.RowKit
abbrev bytesD (c : List Int) : D := .l c.length fun i => [.v (.int .u8 (c.getD i 0))]
abbrev srcBox (c : List Int) (p : Int) : Ent := .box 150 [.d (bytesD c), di p]
structure okCode (c : List Int) : Prop where
  len : c.length ≤ 1048576
  byte : ∀ x ∈ c, 0 ≤ x ∧ x ≤ 255
theorem okCode.at {c : List Int} (h : okCode c) (i : Nat) : 0 ≤ c.getD i 0 ∧ c.getD i 0 ≤ 255 := by
  rcases Nat.lt_or_ge i c.length with hi | hi
  · have : c.getD i 0 = c[i] := by simp [List.getD, List.getElem?_eq_getElem hi]
    rw [this]; exact h.byte _ (List.getElem_mem hi)
  · simp [List.getD, List.getElem?_eq_none hi]
def nxRaw (c : List Int) (p n : Int) : Int :=
  if (c.length : Int) = 0 then p * 7 else
  if n > 200 then (c.getD (Int.tmod p c.length).toNat 0 + Int.tdiv p c.length * 37) * 251 + c.getD (Int.tmod (p + 1) c.length).toNat 0 * 13 + p
  else c.getD (Int.tmod p c.length).toNat 0 + Int.tdiv p c.length * 37
def nx (c : List Int) (p n : Int) : Int := if n < 1 then 0 else Int.tmod (nxRaw c p n) n
theorem raw1 {b q : Int} (h1 : 0 ≤ b) (h2 : b ≤ 255) (h3 : 0 ≤ q) (h4 : q ≤ 1099511627776) : IntKind.i64.wrap (IntKind.i64.wrap b + IntKind.i64.wrap (IntKind.i64.wrap q * 37)) = b + q * 37 := by
  simp only [IntKind.wrap_i64]; omega
theorem tdiv_le {a b : Int} (h1 : 0 ≤ a) (h2 : 0 < b) : 0 ≤ Int.tdiv a b ∧ Int.tdiv a b ≤ a := ⟨Int.tdiv_nonneg h1 (by omega), Int.tdiv_le_self b h1⟩
theorem tmod_in {a b : Int} (h1 : 0 ≤ a) (h2 : 0 < b) : 0 ≤ Int.tmod a b ∧ Int.tmod a b < b := ⟨Int.tmod_nonneg b h1, Int.tmod_lt_of_pos a h2⟩
theorem nxRaw_le {c : List Int} (hc : okCode c) {p : Int} (h1 : 0 ≤ p) (n : Int) : 0 ≤ nxRaw c p n := by
  have a := hc.at (Int.tmod p c.length).toNat
  have b := hc.at (Int.tmod (p + 1) c.length).toNat
  have d : 0 ≤ Int.tdiv p c.length := Int.tdiv_nonneg h1 (Int.natCast_nonneg _)
  unfold nxRaw
  split
  · omega
  · split <;> omega
theorem nx_in {c : List Int} (hc : okCode c) {p : Int} (h1 : 0 ≤ p) {n : Int} (hn : 1 ≤ n) : 0 ≤ nx c p n ∧ nx c p n < n := by
  unfold nx
  rw [if_neg (by omega)]
  exact tmod_in (nxRaw_le hc h1 n) (by omega)
theorem c_spec_l1Next (c : List Int) (hc : okCode c) (p n : Int) (hp : 0 ≤ p) (hp2 : p ≤ 549755813888) : MutOK Try.prog 127 [.ptr 0 0, di n] 1 [(0, srcBox c p)] (di (nx c p n)) 1 [(0, srcBox c (p + 1))] := by
  refine mut_fn_of lv127 Try.func127 rfl rfl (by kernel_rfl) rfl [] ?_
  have hw : IntKind.i64.wrap (p + 1) = p + 1 := wrap_i64 _ (by omega) (by omega)
  have hw2 : IntKind.i64.wrap (IntKind.i64.wrap (p + 1) - 1) = p := by rw [hw]; exact (wrap_i64 _ (by omega) (by omega)).trans (by omega)
  have a1 := hc.at (Int.tmod p c.length).toNat
  have a2 := hc.at (Int.tmod (p + 1) c.length).toNat
  have hlen := hc.len
  generalize hq : nx c p n = r
  unfold nx at hq
  (repeat' (first | refine bsplit_true ?_ | refine bsplit_false ?_ | refine ask_intro ?_ ?_ | refine chk_intro (by kernel_rfl) ?_)) <;> (try (first | omega | decide))
  refine bsplit_intro (fun h1 => ?_) (fun h1 => ?_)
  · rw [if_pos (by simpa using h1)] at hq
    subst hq
    (repeat' (first | refine bsplit_true ?_ | refine bsplit_false ?_ | refine ask_intro ?_ ?_ | refine chk_intro (by kernel_rfl) ?_)) <;> (try (first | omega | decide))
    exact ⟨tellV_v rfl rfl, tellHp_box rfl rfl ⟨DLe.refl _, congrArg (Value.int .i64) hw, trivial⟩ tellHp_nil⟩
  have hn : ¬ n < 1 := by simpa using h1
  rw [if_neg hn] at hq
  unfold nxRaw at hq
  refine bsplit_intro (fun h2 => ?_) (fun h2 => ?_)
  · rw [if_pos (by simpa using h2)] at hq
    subst hq
    refine ask_intro (show n ≠ 0 by omega) ?_
    refine chk_intro (by kernel_rfl) ⟨tellV_v rfl (congrArg (Value.int .i64) ?_), tellHp_box rfl rfl ⟨DLe.refl _, congrArg (Value.int .i64) hw, trivial⟩ tellHp_nil⟩
    rw [hw2, wrap_i64 (p * 7) (by omega) (by omega)]
  have hk : ¬ (c.length : Int) = 0 := by simpa using h2
  rw [if_neg hk] at hq
  have b1 := tmod_in hp (show 0 < (c.length : Int) by omega)
  have b2 := tmod_in (show 0 ≤ p + 1 by omega) (show 0 < (c.length : Int) by omega)
  have b3 := tdiv_le hp (show 0 < (c.length : Int) by omega)
  refine ask_intro (show (c.length : Int) ≠ 0 from hk) ?_
  refine ask_intro ⟨by show 0 ≤ Int.tmod (IntKind.i64.wrap (IntKind.i64.wrap (p + 1) - 1)) _; rw [hw2]; exact b1.1, by show Int.tmod (IntKind.i64.wrap (IntKind.i64.wrap (p + 1) - 1)) _ < _; rw [hw2]; exact b1.2, rfl⟩ ?_
  refine ask_intro (show (c.length : Int) ≠ 0 from hk) ?_
  (repeat' (first | refine bsplit_true ?_ | refine bsplit_false ?_ | refine ask_intro ?_ ?_ | refine chk_intro (by kernel_rfl) ?_)) <;> (try (first | omega | decide))
  refine bsplit_intro (fun h3 => ?_) (fun h3 => ?_)
  · rw [if_pos (by simpa using h3)] at hq
    refine ask_intro (show (c.length : Int) ≠ 0 from hk) ?_
    refine ask_intro ⟨by show 0 ≤ Int.tmod (IntKind.i64.wrap (IntKind.i64.wrap (IntKind.i64.wrap (p + 1) - 1) + 1)) _; rw [hw2, hw]; exact b2.1, by show Int.tmod (IntKind.i64.wrap (IntKind.i64.wrap (IntKind.i64.wrap (p + 1) - 1) + 1)) _ < _; rw [hw2, hw]; exact b2.2, rfl⟩ ?_
    (repeat' (first | refine bsplit_true ?_ | refine bsplit_false ?_ | refine ask_intro ?_ ?_ | refine chk_intro (by kernel_rfl) ?_)) <;> (try (first | omega | decide))
    refine ⟨tellV_v rfl (congrArg (Value.int .i64) ?_), tellHp_box rfl rfl ⟨DLe.refl _, congrArg (Value.int .i64) hw, trivial⟩ tellHp_nil⟩
    rw [← hq, hw2, hw]
    congr 1
    generalize c.getD (Int.tmod p c.length).toNat 0 = u1 at *
    generalize c.getD (Int.tmod (p + 1) c.length).toNat 0 = u2 at *
    generalize Int.tdiv p c.length = u3 at *
    simp only [IntKind.wrap_i64]
    omega
  rw [if_neg (by simpa using h3)] at hq
  refine ask_intro (show n ≠ 0 by omega) ?_
  refine chk_intro (by kernel_rfl) ⟨tellV_v rfl (congrArg (Value.int .i64) ?_), tellHp_box rfl rfl ⟨DLe.refl _, congrArg (Value.int .i64) hw, trivial⟩ tellHp_nil⟩
  rw [← hq, hw2]
  congr 1
  generalize c.getD (Int.tmod p c.length).toNat 0 = u1 at *
  generalize Int.tdiv p c.length = u3 at *
  simp only [IntKind.wrap_i64]
  omega
theorem c_spec_l1Source (c : List Int) : MutOK Try.prog 86 [.d (bytesD c)] 0 [] (.ptr 0 0) 1 [(0, srcBox c 0)] := by
  refine mut_fn_of lv86 Try.func86 rfl rfl (by kernel_rfl) rfl [(0, 4160)] ?_
  refine chk_intro (by kernel_rfl) ⟨⟨rfl, rfl⟩, tellHp_box rfl rfl ⟨DLe.refl _, rfl, trivial⟩ tellHp_nil⟩
theorem c_spec_l1Chance (c : List Int) (hc : okCode c) (p n : Int) (hp : 0 ≤ p) (hp2 : p ≤ 549755813888) : MutOK Try.prog 130 [.ptr 0 0, di n] 1 [(0, srcBox c p)] (dv (.bool (nx c p n == 0))) 1 [(0, srcBox c (p + 1))] := by
  refine mut_fn_of lv130 Try.func130 rfl rfl (by kernel_rfl) rfl [] ?_
  refine .inr ⟨rfl, use_mut ⟨_, _, _, _, _, _, rfl, rfl, c_spec_l1Next c hc p n hp hp2, rfl, ?_⟩⟩
  refine chk_intro (by kernel_rfl) ⟨tellV_v rfl rfl, tellHp_box rfl rfl ⟨DLe.refl _, rfl, trivial⟩ tellHp_nil⟩
/-- what is picked -/
def pk (c : List Int) (p : Int) (l : List Int) : Int := l.getD (nx c p l.length).toNat 0
theorem pk_mem {c : List Int} (hc : okCode c) {p : Int} (hp : 0 ≤ p) {l : List Int} (hl : l ≠ []) : pk c p l ∈ l := by
  have h1 : 1 ≤ (l.length : Int) := by cases l with | nil => exact absurd rfl hl | cons => simp; omega
  have h2 := nx_in hc hp h1
  have h3 : (nx c p l.length).toNat < l.length := by omega
  unfold pk
  simp [List.getD, List.getElem?_eq_getElem h3]
theorem c_spec_l1Pick0 (c : List Int) (hc : okCode c) (p : Int) (l : List Int) (hp : 0 ≤ p) (hp2 : p ≤ 549755813888) (hl : l ≠ []) : MutOK Try.prog 128 [.ptr 0 0, .row 1] 2 [(0, srcBox c p), (1, rowE l)] (di (pk c p l)) 2 [(0, srcBox c (p + 1)), (1, rowE l)] := by
  have h1 : 1 ≤ (l.length : Int) := by cases l with | nil => exact absurd rfl hl | cons => simp; omega
  have h2 := nx_in hc hp h1
  refine mut_fn_of lv128 Try.func128 rfl rfl (by kernel_rfl) rfl [] ?_
  refine .inr ⟨rfl, use_mut ⟨_, _, _, _, _, _, rfl, rfl, c_spec_l1Next c hc p l.length hp hp2, rfl, ?_⟩⟩
  refine ask_intro h2 ?_
  refine ask_intro (show (nx c p l.length).toNat < l.length by omega) ?_
  refine chk_intro (by kernel_rfl) ⟨tellV_v rfl rfl, tellHp_box rfl rfl ⟨DLe.refl _, rfl, trivial⟩ (tellHp_row rfl rfl rfl (fun j hj => rfl) tellHp_nil)⟩
/-- the elements of a literal -/
abbrev litD (l : List Int) (i : Nat) : List D := (l.map fun v => [D.v (.int .i64 v)]).getD i []
theorem litD_eq (l : List Int) (i : Nat) (h : i < l.length) : litD l i = intsF l i := by
  show _ = [D.v (.int .i64 (l.getD i 0))]
  simp [litD, List.getD, h]
theorem c_spec_l1Pick (c : List Int) (hc : okCode c) (p : Int) (l : List Int) (hp : 0 ≤ p) (hp2 : p ≤ 549755813888) (hl : l ≠ []) : MutOK Try.prog 128 [.ptr 0 0, .row 1] 2 [(0, srcBox c p), (1, .row 2 1 l.length (litD l))] (di (pk c p l)) 2 [(0, srcBox c (p + 1)), (1, rowE l)] :=
  (c_spec_l1Pick0 c hc p l hp hp2 hl).rows ⟨rfl, rfl, rfl, ⟨rfl, rfl, rfl, fun i hi => litD_eq l i hi⟩, trivial⟩
theorem pickE (c : List Int) (hc : okCode c) (p : Int) (l : List Int) (hp : 0 ≤ p) (hp2 : p ≤ 549755813888) (hl : l ≠ []) : ∃ v, v ∈ l ∧ MutOK Try.prog 128 [.ptr 0 0, .row 1] 2 [(0, srcBox c p), (1, .row 2 1 l.length (litD l))] (di v) 2 [(0, srcBox c (p + 1)), (1, rowE l)] :=
  ⟨pk c p l, pk_mem hc hp hl, c_spec_l1Pick c hc p l hp hp2 hl⟩
theorem nextE (c : List Int) (hc : okCode c) (p n : Int) (hp : 0 ≤ p) (hp2 : p ≤ 549755813888) (hn : 1 ≤ n) : ∃ v, 0 ≤ v ∧ v < n ∧ MutOK Try.prog 127 [.ptr 0 0, di n] 1 [(0, srcBox c p)] (di v) 1 [(0, srcBox c (p + 1))] :=
  ⟨nx c p n, (nx_in hc hp hn).1, (nx_in hc hp hn).2, c_spec_l1Next c hc p n hp hp2⟩
theorem chanceE (c : List Int) (hc : okCode c) (p n : Int) (hp : 0 ≤ p) (hp2 : p ≤ 549755813888) : ∃ v : Bool, MutOK Try.prog 130 [.ptr 0 0, di n] 1 [(0, srcBox c p)] (dv (.bool v)) 1 [(0, srcBox c (p + 1))] :=
  ⟨_, c_spec_l1Chance c hc p n hp hp2⟩
attribute [irreducible] nx pk
def wd (c : List Int) (p : Int) : Int := pk c (p + 1 + 1 + 1 + 1) [nx c p 90, nx c (p + 1) 9, IntKind.i64.wrap (4294967295 - nx c (p + 1 + 1) 9), 2147483648, 2147483647, 0, IntKind.i64.wrap (nx c (p + 1 + 1 + 1) 60000 * 70000)]
theorem c_spec_l1Word (c : List Int) (hc : okCode c) (p : Int) (hp : 0 ≤ p) (hp2 : p ≤ 274877906944) : MutOK Try.prog 129 [.ptr 0 0] 1 [(0, srcBox c p)] (di (wd c p)) 1 [(0, srcBox c (p + 5))] := by
  refine mut_fn_of lv129 Try.func129 rfl rfl (by kernel_rfl) rfl [] ?_
  refine .inr ⟨rfl, use_mut ⟨_, _, _, _, _, _, rfl, rfl, c_spec_l1Next c hc p 90 (by omega) (by omega), rfl, ?_⟩⟩
  refine .inr ⟨rfl, use_mut ⟨_, _, _, _, _, _, rfl, rfl, c_spec_l1Next c hc (p + 1) 9 (by omega) (by omega), rfl, ?_⟩⟩
  refine .inr ⟨rfl, use_mut ⟨_, _, _, _, _, _, rfl, rfl, c_spec_l1Next c hc (p + 1 + 1) 9 (by omega) (by omega), rfl, ?_⟩⟩
  refine .inr ⟨rfl, use_mut ⟨_, _, _, _, _, _, rfl, rfl, c_spec_l1Next c hc (p + 1 + 1 + 1) 60000 (by omega) (by omega), rfl, ?_⟩⟩
  refine .inr ⟨rfl, use_mut ⟨_, _, _, _, _, _, rfl, rfl, c_spec_l1Pick c hc (p + 1 + 1 + 1 + 1) [nx c p 90, nx c (p + 1) 9, IntKind.i64.wrap (4294967295 - nx c (p + 1 + 1) 9), 2147483648, 2147483647, 0, IntKind.i64.wrap (nx c (p + 1 + 1 + 1) 60000 * 70000)] (by omega) (by omega) (by simp), rfl, ?_⟩⟩
  refine chk_intro (by kernel_rfl) ⟨tellV_v rfl rfl, tellHp_box rfl rfl ⟨DLe.refl _, congrArg (Value.int .i64) (by omega), trivial⟩ tellHp_nil⟩
attribute [irreducible] wd
def wi (c : List Int) (p : Int) : Int := pk c (p + 5 + 5 + 5) [wd c p, wd c (p + 5), wd c (p + 5 + 5), -1, -9223372036854775808, 9223372036854775807, 4294967296, -5]
theorem c_spec_l1Wide (c : List Int) (hc : okCode c) (p : Int) (hp : 0 ≤ p) (hp2 : p ≤ 137438953472) : MutOK Try.prog 131 [.ptr 0 0] 1 [(0, srcBox c p)] (di (wi c p)) 1 [(0, srcBox c (p + 16))] := by
  refine mut_fn_of lv131 Try.func131 rfl rfl (by kernel_rfl) rfl [] ?_
  refine .inr ⟨rfl, use_mut ⟨_, _, _, _, _, _, rfl, rfl, c_spec_l1Word c hc p (by omega) (by omega), rfl, ?_⟩⟩
  refine .inr ⟨rfl, use_mut ⟨_, _, _, _, _, _, rfl, rfl, c_spec_l1Word c hc (p + 5) (by omega) (by omega), rfl, ?_⟩⟩
  refine .inr ⟨rfl, use_mut ⟨_, _, _, _, _, _, rfl, rfl, c_spec_l1Word c hc (p + 5 + 5) (by omega) (by omega), rfl, ?_⟩⟩
  refine .inr ⟨rfl, use_mut ⟨_, _, _, _, _, _, rfl, rfl, c_spec_l1Pick c hc (p + 5 + 5 + 5) [wd c p, wd c (p + 5), wd c (p + 5 + 5), -1, -9223372036854775808, 9223372036854775807, 4294967296, -5] (by omega) (by omega) (by simp), rfl, ?_⟩⟩
  refine chk_intro (by kernel_rfl) ⟨tellV_v rfl rfl, tellHp_box rfl rfl ⟨DLe.refl _, congrArg (Value.int .i64) (by omega), trivial⟩ tellHp_nil⟩
theorem wordE (c : List Int) (hc : okCode c) (p : Int) (hp : 0 ≤ p) (hp2 : p ≤ 274877906944) : ∃ v, MutOK Try.prog 129 [.ptr 0 0] 1 [(0, srcBox c p)] (di v) 1 [(0, srcBox c (p + 5))] := ⟨_, c_spec_l1Word c hc p hp hp2⟩
theorem wideE (c : List Int) (hc : okCode c) (p : Int) (hp : 0 ≤ p) (hp2 : p ≤ 137438953472) : ∃ v, MutOK Try.prog 131 [.ptr 0 0] 1 [(0, srcBox c p)] (di v) 1 [(0, srcBox c (p + 16))] := ⟨_, c_spec_l1Wide c hc p hp hp2⟩
attribute [irreducible] wi
end Go.Proofs.Ytfcekiehcchebaa.L
