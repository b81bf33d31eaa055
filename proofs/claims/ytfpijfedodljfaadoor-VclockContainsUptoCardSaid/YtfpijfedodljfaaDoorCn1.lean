/- Texts that the law's proof stands on: V43. -/
import Derived.Test.YtfpijfedodljfaaDoorB7
set_option linter.unusedVariables false
set_option linter.unusedSimpArgs false
set_option maxRecDepth 100000
set_option maxHeartbeats 8000000
namespace Go.Proofs.YtfpijfedodljfaaDoor
open Go Go.RowKit Am

def conLawS : Fspec := fun _ ds r => ∃ (v : List Idt) (x : Idt), smV v ∧ rngV v ∧ x.a.size ≤ 1048576 ∧ ds = [encIds v, .agg (encId x)] ∧ r = .s (.bool true)
theorem conLaw_sound {plain : TypeId → Bool} {Γ : FuncId → Option Fspec} {Δ : FuncId → Option Pt} (hE : EnvOk ⟨Tryd.prog, plain, Γ, Δ, fun _ => none, 0⟩) (g_rgt : Γ 10 = some rgtS) (g_fix : Γ 11 = some fixS) (g_merge : Γ 21 = some mergeS) (g_sameI : Γ 18 = some sameIS) (g_cov : Γ 20 = some covS) (g_cont : Γ 12 = some contS) (g_has : Γ 13 = some hasS) (g_auth : Γ 16 = some authS) (g_vadd : Γ 17 = some vaddS) (g_radd : Γ 19 = some raddS) (g_fmt : Γ 14 = some fmtS) (g_text : Γ 15 = some fmtS) : Sound Tryd.prog 3 conLawS := by
  refine sound_of_awp hE Tryd.func3 rfl (by kernel_rfl) ?_
  rintro Φ ds r ⟨v, x, hv, hrg, hxs, rfl, rfl⟩
  refine ⟨by simp [Tryd.f3], ?_⟩
  unfold st0 encIds
  refine W.out (E := ⟨Tryd.prog, plain, Γ, Δ, Φ, _⟩) ?_
  refine go @encId.eq_1 ?_
  refine x_callN rfl rfl rfl rfl (sv trivial) g_rgt (sv trivial) (se trivial) ⟨[v], by simp, sm1 hv, rfl, rfl⟩ rfl ?_
  cases hr : rgtF [v]
  · refine go (And.intro hr @encId.eq_1) ?_
    refine x_callN rfl rfl rfl rfl (sv trivial) g_fix (sv trivial) (se trivial) ⟨rfl, rfl⟩ rfl ?_
    refine go trivial ?_
    refine x_done (x_out (sr @Tryd.f3.eq_1) (by simp) (by simp) rfl)
  · by_cases hx : 100 < (x.a.size : Int)
    · refine go (And.intro hr (And.intro hx @encId.eq_1)) ?_
      refine x_callN rfl rfl rfl rfl (sv trivial) g_fix (sv trivial) (se trivial) ⟨rfl, rfl⟩ rfl ?_
      refine go trivial ?_
      refine x_done (x_out (sr @Tryd.f3.eq_1) (by simp) (by simp) rfl)
    · have va := rgt_all hr v (by simp)
      have hvl := va.len
      have okv := va.fmt hrg
      have hch := cont_has va.val x
      refine go (And.intro hr (And.intro hx @encId.eq_1)) ?_
      refine x_callD rfl rfl rfl rfl rfl (sv @encId.eq_1) g_cont (sv @encId.eq_1) (se @encId.eq_1) ⟨v, x, by omega, rfl, rfl⟩ rfl ?_
      refine go @encId.eq_1 ?_
      refine x_callD rfl rfl rfl rfl rfl (sv @encId.eq_1) g_has (sv @encId.eq_1) (se @encId.eq_1) ⟨v, x, by omega, rfl, rfl⟩ rfl ?_
      rw [hch]
      refine go trivial ?_
      refine x_callD rfl rfl rfl rfl rfl (sv trivial) g_fmt (sv trivial) (se trivial) ⟨v, okv, rfl, rfl⟩ rfl ?_
      refine go trivial ?_
      refine x_callD rfl rfl rfl rfl rfl (sv trivial) g_text (sv trivial) (se trivial) ⟨v, okv, rfl, rfl⟩ rfl ?_
      refine go @encId.eq_1 ?_
      refine x_callN rfl rfl rfl rfl (sv trivial) g_auth (sv trivial) (se trivial) ⟨x.a, by omega, rfl, rfl⟩ rfl ?_
      cases hau : authF x.a
      · refine go (And.intro hau @encId.eq_1) ?_
        refine x_callN rfl rfl rfl rfl (sv trivial) g_fix (sv trivial) (se trivial) ⟨rfl, rfl⟩ rfl ?_
        refine go trivial ?_
        refine x_done (x_out (sr @Tryd.f3.eq_1) (by simp) (by simp) rfl)
      · by_cases hn : x.n < 1
        · refine go (And.intro hau (And.intro hn @encId.eq_1)) ?_
          refine x_callN rfl rfl rfl rfl (sv trivial) g_fix (sv trivial) (se trivial) ⟨rfl, rfl⟩ rfl ?_
          refine go trivial ?_
          refine x_done (x_out (sr @Tryd.f3.eq_1) (by simp) (by simp) rfl)
        · have hxv : authF x.a = true ∧ 1 ≤ x.n := ⟨hau, by omega⟩
          have hw := vadd_val va.val hxv
          have hra : raddF v x = vaddF v x := by rw [vadd_addL va.val]; exact radd_addL x va.val
          have hwl := vadd_len v x
          have hup := vadd_up va.val hxv.2
          have hcw : contF (vaddF v x) x = true := by
            rw [cont_has hw, hasF, hup, if_pos rfl]
            have := imax_r (m := uptoF v x.a) (n := x.n)
            simp [hxv.2, this]
          have hcv : covF (vaddF v x) v = true := by
            rw [cov_iff hw va.val]
            intro c
            rw [hup]
            split
            · exact imax_l
            · exact Int.le_refl _
          refine go (And.intro hau (And.intro hn @encId.eq_1)) ?_
          refine x_callS rfl rfl rfl rfl (sv @encId.eq_1) g_vadd (sv @encId.eq_1) (se @encId.eq_1) ⟨v, x, by omega, rfl, rfl⟩ (by simp) (by simp [touchA, touch]) ?_
          refine go @encId.eq_1 ?_
          refine x_callN rfl rfl rfl rfl (sv trivial) g_fix (sv trivial) (se trivial) ⟨rfl, rfl⟩ rfl ?_
          refine go @encId.eq_1 ?_
          refine x_callS rfl rfl rfl rfl (sv @encId.eq_1) g_radd (sv @encId.eq_1) (se @encId.eq_1) ⟨v, x, by omega, rfl, rfl⟩ (by simp) (by simp [touchA, touch]) ?_
          rw [hra]
          refine go @encId.eq_1 ?_
          refine x_callN rfl rfl rfl rfl (sv trivial) g_sameI (sv trivial) (se trivial) ⟨vaddF v x, vaddF v x, by omega, by omega, rfl, rfl⟩ rfl ?_
          rw [same_refl]
          refine go @encId.eq_1 ?_
          refine x_callN rfl rfl rfl rfl (sv @encId.eq_1) g_cont (sv @encId.eq_1) (se @encId.eq_1) ⟨vaddF v x, x, by omega, rfl, rfl⟩ rfl ?_
          rw [hcw]
          refine go @encId.eq_1 ?_
          refine x_callN rfl rfl rfl rfl (sv trivial) g_cov (sv trivial) (se trivial) ⟨vaddF v x, v, by omega, by omega, rfl, rfl⟩ rfl ?_
          rw [hcv]
          refine go @encId.eq_1 ?_
          refine x_done (x_out (sr @Tryd.f3.eq_1) (by simp) (by simp) rfl)
end Go.Proofs.YtfpijfedodljfaaDoor
