/- Texts that the law's proof stands on: V44. -/
import Derived.Test.YtfpijfedodljfaaDoorB7
set_option linter.unusedVariables false
set_option linter.unusedSimpArgs false
set_option maxRecDepth 100000
set_option maxHeartbeats 8000000
namespace Go.Proofs.YtfpijfedodljfaaDoor
open Go Go.RowKit Am

def parLawS : Fspec := fun _ ds r => ∃ a b c : List Idt, smV a ∧ smV b ∧ smV c ∧ ds = [encIds a, encIds b, encIds c] ∧ r = .s (.bool true)
theorem parLaw_sound {plain : TypeId → Bool} {Γ : FuncId → Option Fspec} {Δ : FuncId → Option Pt} (hE : EnvOk ⟨Tryd.prog, plain, Γ, Δ, fun _ => none, 0⟩) (g_rgt : Γ 10 = some rgtS) (g_fix : Γ 11 = some fixS) (g_merge : Γ 21 = some mergeS) (g_sameI : Γ 18 = some sameIS) (g_cov : Γ 20 = some covS) (g_cont : Γ 12 = some contS) : Sound Tryd.prog 5 parLawS := by
  refine sound_of_awp hE Tryd.func5 rfl (by kernel_rfl) ?_
  rintro Φ ds r ⟨a, b, c, ha, hb, hc, rfl, rfl⟩
  refine ⟨by simp [Tryd.f5], ?_⟩
  unfold st0 encIds
  refine W.out (E := ⟨Tryd.prog, plain, Γ, Δ, Φ, _⟩) ?_
  refine go trivial ?_
  refine x_callN rfl rfl rfl rfl (sv trivial) g_rgt (sv trivial) (se trivial) ⟨[a, b, c], by simp, sm3 ha hb hc, rfl, rfl⟩ rfl ?_
  cases hr : rgtF [a, b, c]
  · refine go hr ?_
    refine x_callN rfl rfl rfl rfl (sv trivial) g_fix (sv trivial) (se trivial) ⟨rfl, rfl⟩ rfl ?_
    refine go trivial ?_
    refine x_done (x_out (sr @Tryd.f5.eq_1) (by simp) (by simp) rfl)
  · have va := rgt_all hr a (by simp)
    have vb := rgt_all hr b (by simp)
    have vc := rgt_all hr c (by simp)
    have hal := va.len
    have hbl := vb.len
    have hcl := vc.len
    have iab := cov_iff va.val vb.val
    have ibc := cov_iff vb.val vc.val
    have iac := cov_iff va.val vc.val
    have iba := cov_iff vb.val va.val
    have htr : covF a b = true → covF b c = true → covF a c = true := fun h1 h2 => iac.2 fun q => Int.le_trans (ibc.1 h2 q) (iab.1 h1 q)
    have has : covF a b = true → covF b a = sameIF a b := by
      intro h1
      cases h2 : covF b a with
      | true => exact (same_iff.2 (val_ext va.val vb.val fun q => Int.le_antisymm (iba.1 h2 q) (iab.1 h1 q))).symm
      | false =>
        cases h3 : sameIF a b with
        | false => rfl
        | true =>
          have := same_iff.1 h3
          subst this
          rw [h1] at h2
          cases h2
    have haa : covF a a = true := (cov_iff va.val va.val).2 fun q => Int.le_refl _
    refine go hr ?_
    refine x_callN rfl rfl rfl rfl (sv trivial) g_cov (sv trivial) (se trivial) ⟨a, b, by omega, by omega, rfl, rfl⟩ rfl ?_
    refine go trivial ?_
    refine x_callN rfl rfl rfl rfl (sv trivial) g_cov (sv trivial) (se trivial) ⟨b, c, by omega, by omega, rfl, rfl⟩ rfl ?_
    cases hab : covF a b
    · refine go trivial ?_
      refine x_callN rfl rfl rfl rfl (sv trivial) g_fix (sv trivial) (se trivial) ⟨rfl, rfl⟩ rfl ?_
      refine go trivial ?_
      refine x_callN rfl rfl rfl rfl (sv trivial) g_cov (sv trivial) (se trivial) ⟨a, a, by omega, by omega, rfl, rfl⟩ rfl ?_
      rw [haa]
      refine go trivial ?_
      refine x_callN rfl rfl rfl rfl (sv trivial) g_cov (sv trivial) (se trivial) ⟨a, [], by omega, by simp, rfl, rfl⟩ rfl ?_
      rw [show covF a [] = true from rfl]
      refine go trivial ?_
      refine x_done (x_out (sr @Tryd.f5.eq_1) (by simp) (by simp) rfl)
    · have h2 := has hab
      cases hbc : covF b c
      · refine go trivial ?_
        refine x_callN rfl rfl rfl rfl (sv trivial) g_cov (sv trivial) (se trivial) ⟨b, a, by omega, by omega, rfl, rfl⟩ rfl ?_
        refine go trivial ?_
        refine x_callN rfl rfl rfl rfl (sv trivial) g_sameI (sv trivial) (se trivial) ⟨a, b, by omega, by omega, rfl, rfl⟩ rfl ?_
        rw [h2]
        refine go trivial ?_
        refine x_callN rfl rfl rfl rfl (sv trivial) g_fix (sv trivial) (se trivial) ⟨rfl, rfl⟩ rfl ?_
        refine go trivial ?_
        refine x_callN rfl rfl rfl rfl (sv trivial) g_cov (sv trivial) (se trivial) ⟨a, a, by omega, by omega, rfl, rfl⟩ rfl ?_
        rw [haa]
        refine go trivial ?_
        refine x_callN rfl rfl rfl rfl (sv trivial) g_cov (sv trivial) (se trivial) ⟨a, [], by omega, by simp, rfl, rfl⟩ rfl ?_
        rw [show covF a [] = true from rfl]
        refine go trivial ?_
        refine x_done (x_out (sr @Tryd.f5.eq_1) (by simp) (by simp) rfl)
      · have h3 := htr hab hbc
        refine go trivial ?_
        refine x_callN rfl rfl rfl rfl (sv trivial) g_cov (sv trivial) (se trivial) ⟨a, c, by omega, by omega, rfl, rfl⟩ rfl ?_
        rw [h3]
        refine go trivial ?_
        refine x_callN rfl rfl rfl rfl (sv trivial) g_cov (sv trivial) (se trivial) ⟨b, a, by omega, by omega, rfl, rfl⟩ rfl ?_
        refine go trivial ?_
        refine x_callN rfl rfl rfl rfl (sv trivial) g_sameI (sv trivial) (se trivial) ⟨a, b, by omega, by omega, rfl, rfl⟩ rfl ?_
        rw [h2]
        refine go trivial ?_
        refine x_callN rfl rfl rfl rfl (sv trivial) g_fix (sv trivial) (se trivial) ⟨rfl, rfl⟩ rfl ?_
        refine go trivial ?_
        refine x_callN rfl rfl rfl rfl (sv trivial) g_cov (sv trivial) (se trivial) ⟨a, a, by omega, by omega, rfl, rfl⟩ rfl ?_
        rw [haa]
        refine go trivial ?_
        refine x_callN rfl rfl rfl rfl (sv trivial) g_cov (sv trivial) (se trivial) ⟨a, [], by omega, by simp, rfl, rfl⟩ rfl ?_
        rw [show covF a [] = true from rfl]
        refine go trivial ?_
        refine x_done (x_out (sr @Tryd.f5.eq_1) (by simp) (by simp) rfl)
def vldLawS : Fspec := fun _ ds r => ∃ (v : List Idt) (s : ByteArray), smV v ∧ s.size ≤ 1048576 ∧ ds = [encIds v, .s (.string s)] ∧ r = .s (.bool true)
theorem vldLaw_sound {plain : TypeId → Bool} {Γ : FuncId → Option Fspec} {Δ : FuncId → Option Pt} (hE : EnvOk ⟨Tryd.prog, plain, Γ, Δ, fun _ => none, 0⟩) (g_great : Γ 24 = some greatS) (g_fix : Γ 11 = some fixS) (g_chk : Γ 26 = some chkS) (g_auth : Γ 16 = some authS) (g_vchk : Γ 25 = some chkS) (g_vauth : Γ 27 = some authS) : Sound Tryd.prog 7 vldLawS := by
  refine sound_of_awp hE Tryd.func7 rfl (by kernel_rfl) ?_
  rintro Φ ds r ⟨v, s, hv, hs, rfl, rfl⟩
  refine ⟨by simp [Tryd.f7], ?_⟩
  unfold st0 encIds
  refine W.out (E := ⟨Tryd.prog, plain, Γ, Δ, Φ, _⟩) ?_
  have hvl := hv.1
  have hvs : ∀ x ∈ v, x.a.size ≤ 1099511627776 := fun x hx => by have := hv.2 x hx; omega
  refine go trivial ?_
  refine x_callN rfl rfl rfl rfl (sv trivial) g_great (sv trivial) (se trivial) ⟨[v], by simp, sm1 hv, rfl, rfl⟩ rfl ?_
  by_cases h1 : 0 < greatF [v]
  · refine go h1 ?_
    refine x_callN rfl rfl rfl rfl (sv trivial) g_fix (sv trivial) (se trivial) ⟨rfl, rfl⟩ rfl ?_
    refine go trivial ?_
    refine x_done (x_out (sr @Tryd.f7.eq_1) (by simp) (by simp) rfl)
  · by_cases h2 : 100 < (s.size : Int)
    · refine go (And.intro h1 h2) ?_
      refine x_callN rfl rfl rfl rfl (sv trivial) g_fix (sv trivial) (se trivial) ⟨rfl, rfl⟩ rfl ?_
      refine go trivial ?_
      refine x_done (x_out (sr @Tryd.f7.eq_1) (by simp) (by simp) rfl)
    · refine go (And.intro h1 h2) ?_
      refine x_callN rfl rfl rfl rfl (sv trivial) g_fix (sv trivial) (se trivial) ⟨rfl, rfl⟩ rfl ?_
      refine go trivial ?_
      refine x_callN rfl rfl rfl rfl (sv trivial) g_vchk (sv trivial) (se trivial) ⟨v, by omega, hvs, rfl, rfl⟩ rfl ?_
      refine go trivial ?_
      refine x_callN rfl rfl rfl rfl (sv trivial) g_chk (sv trivial) (se trivial) ⟨v, by omega, hvs, rfl, rfl⟩ rfl ?_
      refine go trivial ?_
      refine x_callN rfl rfl rfl rfl (sv trivial) g_vauth (sv trivial) (se trivial) ⟨s, by omega, rfl, rfl⟩ rfl ?_
      refine go trivial ?_
      refine x_callN rfl rfl rfl rfl (sv trivial) g_auth (sv trivial) (se trivial) ⟨s, by omega, rfl, rfl⟩ rfl ?_
      refine go trivial ?_
      refine x_done (x_out (sr @Tryd.f7.eq_1) (by simp) (by simp) rfl)
end Go.Proofs.YtfpijfedodljfaaDoor
