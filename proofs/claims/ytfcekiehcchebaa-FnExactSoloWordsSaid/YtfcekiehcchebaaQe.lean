/- What the functions compute that tell the words of a lonely machine's page: contracts. -/
import Derived.Test.YtfcekiehcchebaaQd
set_option linter.unusedVariables false
set_option linter.unusedSimpArgs false
set_option maxRecDepth 100000
namespace Go.Proofs.Ytfcekiehcchebaa.L
open Go.RowKit
abbrev irsR (p : Int × List Int) : RV1 := .agg [.v (.int .i64 p.1), oInts p.2]
abbrev irsLV (p : Int × List Int) : LV := .agg [di p.1, .d (ints p.2)]
def soloWords (x : SoloM) (p : Int) : Int × List Int := if soloFault x = 0 then (bif !inR p 0 7 then (3, []) else (0, pageW x.mem p)) else (soloFault x, [])
theorem soloFault_mem {x : SoloM} (h : soloFault x = 0) : x.mem.length = 64 := by
  unfold soloFault at h
  split at h
  · split at h
    · cases hb : (memFault x.mem != 0) || ((x.mem.length : Int) != 64) with
      | true => rw [hb] at h; simp at h
      | false => simp only [Bool.or_eq_false_iff, bne_eq_false_iff_eq] at hb; omega
    · rename_i h2; exact absurd h h2
  · rename_i h2; exact absurd h h2
theorem c_impl_SoloWords (x : SoloM) (hs : x.small) (hp : x.pages.length ≤ 1048576) (hm : x.mem.length ≤ 1048576) (p : Int) : FnOK Try.prog 38 [soloLV x, di p] (.r (irsR (soloWords x p))) := by
  generalize hr : soloWords x p = r
  unfold soloWords at hr
  refine fn_of lv38 Try.func38 rfl rfl (by kernel_rfl) rfl ?_
  refine .inl ⟨_, _, rfl, c_impl_SoloFault x hs hp hm, rfl, ?_⟩
  refine bsplit_intro (fun h => ?_) (fun h => ?_)
  · rw [if_neg (by simpa using h)] at hr
    subst hr
    exact ⟨⟨rfl, ⟨rfl, rfl⟩, trivial⟩, rfl⟩
  have h0 : soloFault x = 0 := by simpa using h
  have hl := soloFault_mem h0
  rw [if_pos h0] at hr
  refine .inl ⟨_, _, rfl, c_impl_within _ _ _, rfl, ?_⟩
  refine bsplit_intro (fun h1 => ?_) (fun h1 => ?_)
  · rw [h1] at hr
    subst hr
    exact ⟨⟨rfl, ⟨rfl, rfl⟩, trivial⟩, rfl⟩
  have hk := inR_iff.1 (show inR p 0 7 = true by simpa using h1)
  rw [h1] at hr
  subst hr
  refine .inl ⟨_, _, rfl, c_impl_pageOf x.mem p hk.1 (by omega) (by omega), rfl, ?_⟩
  exact ⟨⟨rfl, ⟨rfl, rfl, rfl, fun i hi => ⟨rfl, rfl⟩⟩, trivial⟩, rfl⟩
theorem c_spec_SoloWords (x : SoloM) (hs : x.small) (hp : x.pages.length ≤ 1048576) (hm : x.mem.length ≤ 1048576) (p : Int) : FnOK Try.prog 37 [soloLV x, di p] (.r (irsR (soloWords x p))) := by
  generalize hr : soloWords x p = r
  unfold soloWords at hr
  refine fn_of lv37 Try.func37 rfl rfl (by kernel_rfl) rfl ?_
  refine .inl ⟨_, _, rfl, c_spec_SoloFault x hs hp hm, rfl, ?_⟩
  refine bsplit_intro (fun h => ?_) (fun h => ?_)
  · rw [if_neg (by simpa using h)] at hr
    subst hr
    exact ⟨⟨rfl, ⟨rfl, rfl⟩, trivial⟩, rfl⟩
  have h0 : soloFault x = 0 := by simpa using h
  have hl := soloFault_mem h0
  rw [if_pos h0] at hr
  refine .inl ⟨_, _, rfl, c_spec_l1In _ _ _, rfl, ?_⟩
  refine bsplit_intro (fun h1 => ?_) (fun h1 => ?_)
  · rw [h1] at hr
    subst hr
    exact ⟨⟨rfl, ⟨rfl, rfl⟩, trivial⟩, rfl⟩
  have hk := inR_iff.1 (show inR p 0 7 = true by simpa using h1)
  rw [h1] at hr
  subst hr
  have cw := c_spec_l7Words x.mem [p] hm (by simp) (fun q hq => by obtain rfl : q = p := by simpa using hq
                                                                   exact ⟨hk.1, by omega⟩)
  rw [show wordsL x.mem [p] = pageW x.mem p by simp [wordsL]] at cw
  refine .inl ⟨_, _, rfl, cw.weak ⟨LVLe.refl _, LVLe.d (DLe.l rfl (fun i hi => litD_eq [p] i hi)), trivial⟩, rfl, ?_⟩
  exact ⟨⟨rfl, ⟨rfl, rfl, rfl, fun i hi => ⟨rfl, rfl⟩⟩, trivial⟩, rfl⟩
end Go.Proofs.Ytfcekiehcchebaa.L
