/- An undo of an edit makes it not live, without affecting later edits or other authors, and undoing that undo restores the status of every edit, where what is read is of bulk at most 1048576. -/
import Derived.Test.YtahgddfnbjpfiaaB30
import Derived.Test.YtahgddfnbjpfiaaRd3
set_option linter.unusedVariables false
set_option maxRecDepth 100000
namespace Go.Proofs.Ytahgddfnbjpfiaa
open Go Go.RowKit Am Go.ChangeShapes Go.WideShapes

theorem u8_of {k : Int} {m : Nat} (h : bdInt .u8 k m) : 0 ≤ k ∧ k ≤ 255 := by
  have h1 : (decide (0 ≤ k) && decide (k ≤ 255)) = true := h
  simpa only [Bool.and_eq_true, decide_eq_true_eq] using h1
def gaO1 : FuncId → Option Fspec := upd gaE 13 (some forkS)
theorem okO1 : EnvOk ⟨Try.prog, plainT, gaO1, deE, fun _ => none, 0⟩ := EnvOk.add okE (fork_sound okE rfl) (by kernel_rfl)
def gaO : FuncId → Option Fspec := upd gaO1 14 (some nextS)
theorem okO : EnvOk ⟨Try.prog, plainT, gaO, deE, fun _ => none, 0⟩ := EnvOk.add okO1 (next_sound okO1 rfl) (by kernel_rfl)
theorem undoRedo_contract (H : Type) (enc : TypeId × Value → H) (W : World) (base : Nat) (args : Array Value) (ds gs : List (DataW H)) (before : List MemPlace)
    (hval : ∀ (j : Nat) t v, Try.f6.params[j]? = some t → args[j]? = some v → Value.okWide Try.prog W .any base t v)
    (hW : DataW.Whole enc Try.prog Try.f6.params.toList Rows.undoRedoSpec.vars false W args.toList ds gs before) (hk : Rows.uptoSmall H (ds ++ gs) = true) :
    Calls Try.prog 6 args W fun e W' => ∃ v, e = .returned v ∧ Rows.undoRedoSpec.post enc Try.prog Try.f6 false true false false W args v W' := by
  have hW' := hW
  obtain ⟨p, q, hA0, hV, rfl, hfz, hnd⟩ := hW
  have hA : DataW.TrodAll enc Try.prog W 0 (fun _ => true) true Try.f6.params.toList args.toList ds p := hA0
  rw [Try.params6] at hA hval
  obtain ⟨v0, vs0, d0, ds0, p0, q0, hargs, rfl, rfl, h0, r0⟩ := trodAll_cons hA
  obtain ⟨v1, vs1, d1, ds1, p1, q1, rfl, rfl, rfl, h1, r1⟩ := trodAll_cons r0
  obtain ⟨rfl, rfl, rfl⟩ := trodAll_nil r1
  obtain rfl : args = #[v0, v1] := by cases args; simp_all
  obtain ⟨rfl, rfl⟩ := trodVars_none hV
  have hb : Rows.uptoBulk d0 + (Rows.uptoBulk d1 + 0) ≤ 1048576 := by
    have := of_decide_eq_true hk
    simpa only [List.append_nil, Rows.uptoBulkAll] using this
  obtain ⟨l, o0, b0⟩ := opnEs.one (fv := fun _ => Go.undef) (fun _ => rfl) (okWide_one (.inr (.inr (.inr ⟨_, Try.underlying22⟩))) (hval 0 22 v0 rfl rfl)) h0
  obtain ⟨k, o1, b1⟩ := opnU8.one (fv := fun _ => Go.undef) (fun _ => rfl) (okWide_one (.inl ⟨_, Try.underlying5⟩) (hval 1 5 v1 rfl rfl)) h1
  refine Sound.row (F := lawEKS) (vs := [.sl (l.map encE), .s (.int .u8 k)]) (tb := 4) (redoLaw_sound okO rfl rfl rfl rfl rfl rfl rfl) laidOut (fun _ _ => ⟨trivial, fun _ _ h => by cases h⟩) (by
    rw [Try.params6]
    intro t ht
    simp only [List.mem_cons, List.not_mem_nil, or_false] at ht
    rcases ht with rfl | rfl <;> exact ⟨by kernel_rfl, of_decide_eq_true (by kernel_rfl)⟩) hW' rfl rfl Try.underlying4 rfl ⟨rfl, fun i hi => ?_⟩ ⟨l, k, smA_of b0 (by omega : Rows.uptoBulk d0 ≤ 1048576), (u8_of b1).1, (u8_of b1).2, rfl, rfl⟩
  have : i = 0 ∨ i = 1 := by simp at hi; omega
  rcases this with rfl | rfl
  · exact o0
  · exact o1
theorem undoRedo_lifted (os : Os) (started : os.Started) (H : Type) (enc : TypeId × Value → H) (F : Stop.Interp) :
    ReturnsInHanded {} Try.checked os 6 .any ((Rows.OpenSpec.upto Rows.undoRedoSpec).pre6 enc Try.prog Try.f6 Rows.undoRedoUptoRow.domain false) (((Rows.OpenSpec.upto Rows.undoRedoSpec).at F).post enc Try.prog Try.f6 false true false false) := by
  refine returnsInHanded_of_cond (C := Try.checked) (s := Rows.OpenSpec.upto Rows.undoRedoSpec) (k := Rows.uptoSmall) rfl own started (by kernel_rfl) Try.func6
    (OpenSpec.witness (enc := enc) (C := Try.checked) (s := Rows.OpenSpec.upto Rows.undoRedoSpec) (k := Rows.uptoSmall) rfl false ⟨#[], #[.slice none 0 0, .int .u8 0], []⟩ 8 (by kernel_rfl) (by kernel_rfl) (by kernel_rfl)
      (x := ([.nil, .lit (.int .u8 0)], [], [])) (by kernel_rfl) rfl (by kernel_rfl)) ?_
  intro W base args ds gs before hval hW _ hk _
  exact undoRedo_contract H enc W base args ds gs before hval hW hk
theorem undoRedo_holds : Rows.UndoRedoUptoSaid :=
  OpenClaim.holds_of_cond 6 Try.f6 rfl rfl rfl rfl rfl rfl rfl ⟨rfl, rfl, rfl, rfl, rfl⟩ rfl rfl rfl rfl rfl (by kernel_rfl) Try.func6 (by kernel_rfl)
    (of_decide_eq_true (by kernel_rfl)) (by unfold Func.isWrapper; first | (rw [if_pos (by decide +kernel)]; kernel_rfl) | (rw [if_neg (by decide +kernel)]; exact ⟨rfl, rfl⟩))
    (fun os started H enc _ F => undoRedo_lifted os started H enc F)
end Go.Proofs.Ytahgddfnbjpfiaa
