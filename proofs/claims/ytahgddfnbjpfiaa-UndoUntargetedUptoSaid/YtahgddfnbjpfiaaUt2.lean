/- Votes, notes and the last edit are live, and so is every edit that no undo names above its floor, where what is read is of bulk at most 1048576. -/
import Derived.Test.YtahgddfnbjpfiaaB30
import Derived.Test.YtahgddfnbjpfiaaUt1
set_option linter.unusedVariables false
set_option maxRecDepth 100000
namespace Go.Proofs.Ytahgddfnbjpfiaa
open Go Go.RowKit Am Go.ChangeShapes Go.WideShapes

theorem undoUntargeted_contract (H : Type) (enc : TypeId × Value → H) (W : World) (base : Nat) (args : Array Value) (ds gs : List (DataW H)) (before : List MemPlace)
    (hval : ∀ (j : Nat) t v, Try.f5.params[j]? = some t → args[j]? = some v → Value.okWide Try.prog W .any base t v)
    (hW : DataW.Whole enc Try.prog Try.f5.params.toList Rows.undoUntargetedSpec.vars false W args.toList ds gs before) (hk : Rows.uptoSmall H (ds ++ gs) = true) :
    Calls Try.prog 5 args W fun e W' => ∃ v, e = .returned v ∧ Rows.undoUntargetedSpec.post enc Try.prog Try.f5 false true false false W args v W' := by
  have hW' := hW
  obtain ⟨p, q, hA0, hV, rfl, hfz, hnd⟩ := hW
  have hA : DataW.TrodAll enc Try.prog W 0 (fun _ => true) true Try.f5.params.toList args.toList ds p := hA0
  rw [Try.params5] at hA hval
  obtain ⟨v0, vs0, d0, ds0, p0, q0, hargs, rfl, rfl, h0, r0⟩ := trodAll_cons hA
  obtain ⟨rfl, rfl, rfl⟩ := trodAll_nil r0
  obtain rfl : args = #[v0] := by cases args; simp_all
  obtain ⟨rfl, rfl⟩ := trodVars_none hV
  have hb : Rows.uptoBulk d0 + 0 ≤ 1048576 := by
    have := of_decide_eq_true hk
    simpa only [List.append_nil, Rows.uptoBulkAll] using this
  obtain ⟨l, o0, b0⟩ := opnEs.one (fv := fun _ => Go.undef) (fun _ => rfl) (okWide_one (.inr (.inr (.inr ⟨_, Try.underlying22⟩))) (hval 0 22 v0 rfl rfl)) h0
  refine Sound.row (F := lawES) (vs := [.sl (l.map encE)]) (tb := 4) (untLaw_sound okE rfl rfl rfl rfl) laidOut (fun _ _ => ⟨trivial, fun _ _ h => by cases h⟩) (by
    rw [Try.params5]
    intro t ht
    simp only [List.mem_cons, List.not_mem_nil, or_false] at ht
    rcases ht with rfl <;> exact ⟨by kernel_rfl, of_decide_eq_true (by kernel_rfl)⟩) hW' rfl rfl Try.underlying4 rfl ⟨rfl, fun i hi => ?_⟩ ⟨l, smA_of b0 (by omega : Rows.uptoBulk d0 ≤ 1048576), rfl, rfl⟩
  have : i = 0 := by simp at hi; omega
  subst this
  exact o0
theorem undoUntargeted_lifted (os : Os) (started : os.Started) (H : Type) (enc : TypeId × Value → H) (F : Stop.Interp) :
    ReturnsInHanded {} Try.checked os 5 .any ((Rows.OpenSpec.upto Rows.undoUntargetedSpec).pre6 enc Try.prog Try.f5 Rows.undoUntargetedUptoRow.domain false) (((Rows.OpenSpec.upto Rows.undoUntargetedSpec).at F).post enc Try.prog Try.f5 false true false false) := by
  refine returnsInHanded_of_cond (C := Try.checked) (s := Rows.OpenSpec.upto Rows.undoUntargetedSpec) (k := Rows.uptoSmall) rfl own started (by kernel_rfl) Try.func5
    (OpenSpec.witness (enc := enc) (C := Try.checked) (s := Rows.OpenSpec.upto Rows.undoUntargetedSpec) (k := Rows.uptoSmall) rfl false ⟨#[], #[.slice none 0 0], []⟩ 8 (by kernel_rfl) (by kernel_rfl) (by kernel_rfl)
      (x := ([.nil], [], [])) (by kernel_rfl) rfl (by kernel_rfl)) ?_
  intro W base args ds gs before hval hW _ hk _
  exact undoUntargeted_contract H enc W base args ds gs before hval hW hk
theorem undoUntargeted_holds : Rows.UndoUntargetedUptoSaid :=
  OpenClaim.holds_of_cond 5 Try.f5 rfl rfl rfl rfl rfl rfl rfl ⟨rfl, rfl, rfl, rfl, rfl⟩ rfl rfl rfl rfl rfl (by kernel_rfl) Try.func5 (by kernel_rfl)
    (of_decide_eq_true (by kernel_rfl)) (by unfold Func.isWrapper; first | (rw [if_pos (by decide +kernel)]; kernel_rfl) | (rw [if_neg (by decide +kernel)]; exact ⟨rfl, rfl⟩))
    (fun os started H enc _ F => undoUntargeted_lifted os started H enc F)
end Go.Proofs.Ytahgddfnbjpfiaa
