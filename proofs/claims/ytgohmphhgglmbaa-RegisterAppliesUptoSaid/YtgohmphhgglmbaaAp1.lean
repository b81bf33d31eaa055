/- Texts that the law's proof stands on: V54. -/
import Derived.Test.YtgohmphhgglmbaaB8
import Derived.Test.YtgohmphhgglmbaaB9
set_option linter.unusedVariables false
set_option linter.unusedSimpArgs false
set_option maxRecDepth 100000
set_option maxHeartbeats 16000000
namespace Go.Proofs.Ytgohmphhgglmbaa
open Go Go.RowKit Am

def aplLawS : Fspec := fun _ ds r => ∃ (l : List Rgs) (es : List Edt), smallR 1048576 l ∧ edtOk 1048576 es ∧ ds = [.sl (l.map encR), .sl (es.map encE)] ∧ r = .s (.bool true)
theorem aplLaw_sound {plain : TypeId → Bool} {Γ : FuncId → Option Fspec} {Δ : FuncId → Option Pt} (hE : EnvOk ⟨Try.prog, plain, Γ, Δ, fun _ => none, 0⟩) (hpl : plain 31 = true) (g_alive : Γ 9 = some aliveS) (g_right : Γ 10 = some rightS) (g_fine : Γ 11 = some fineS) (g_same : Γ 12 = some sameS) (g_rfold : Γ 14 = some rfoldS) (g_app : Γ 13 = some appS) : Sound Try.prog 3 aplLawS := by
  refine sound_of_awp hE Try.func3 rfl (by kernel_rfl) ?_
  rintro Φ ds r ⟨l, es, hl, hes, rfl, rfl⟩
  refine ⟨by simp [Try.f3], ?_⟩
  unfold st0
  refine W.out (E := ⟨Try.prog, plain, Γ, Δ, Φ, _⟩) ?_
  refine go trivial ?_
  refine x_callN rfl rfl rfl rfl (sv trivial) g_alive (sv trivial) (se trivial) ⟨rfl, rfl⟩ rfl ?_
  refine go trivial ?_
  refine x_callN rfl rfl rfl rfl (sv trivial) g_right (sv trivial) (se trivial) ⟨l, hl, rfl, rfl⟩ rfl ?_
  cases hr : (rightF l == 0)
  · refine go hr ?_
    refine x_callN rfl rfl rfl rfl (sv trivial) g_fine (sv trivial) (se trivial) ⟨es, hes.fine.1, hes.fine.2, rfl, rfl⟩ rfl ?_
    cases hf : fineF es
    · refine go (And.intro hr hf) ?_
      refine x_done (x_out (sr @Try.f3.eq_1) (by simp) (by simp) rfl)
    · have hR := right_p hr
      have hF := fine_small hf
      have hdeps : ∀ e ∈ es, e.deps.length ≤ 500000 := fun e he => by have := hF.2 e he; omega
      have hes0 := hF.1
      have heq := rfold_app es hR.srt hR.srtW (fine_val hf)
      have hsm := app_small es hR.small
      have hsr := sameF_refl (appF l es)
      have e1 := hsm.1
      have e2 : ∀ x ∈ appF l es, x.w.length ≤ 1099511627776 := fun x hx => by have := hsm.2 x hx; omega
      refine go (And.intro hr hf) ?_
      refine x_callS rfl rfl rfl rfl (sv trivial) g_app (sv trivial) (se trivial) ⟨l, es, hR.small.mono (by omega), by omega, hdeps, rfl, rfl⟩ (by simp) (by simp [touchA, touch]) ?_
      refine go (And.intro hr hf) ?_
      refine x_callS rfl rfl rfl rfl (sv trivial) g_rfold (sv trivial) (se trivial) ⟨l, es, hR.small.mono (by omega), by omega, hdeps, rfl, by rw [heq]⟩ (by simp) (by simp [touchA, touch]) ?_
      refine go (And.intro hr hf) ?_
      refine x_callN rfl rfl rfl rfl (sv trivial) g_same (sv trivial) (se trivial) ⟨appF l es, appF l es, by omega, by omega, e2, e2, rfl, rfl⟩ rfl ?_
      refine go (And.intro hr hf) ?_
      refine x_done (x_out (sr (And.intro @Try.f3.eq_1 hsr)) (by simp) (by simp) rfl)
  · refine go hr ?_
    refine x_done (x_out (sr @Try.f3.eq_1) (by simp) (by simp) rfl)
end Go.Proofs.Ytgohmphhgglmbaa
