/- The digits of Hex are the hexadecimal digits of the bytes, for all strings of at most 1048576 letters. -/
import Derived.Test.YtjbjgddfflbiaaaDoorHd1
import Derived.Test.YtjbjgddfflbiaaaDoorB7
set_option linter.unusedVariables false
set_option maxRecDepth 100000
namespace Go.Proofs.YtjbjgddfflbiaaaDoor
open Go Go.RowKit Am Go.ChangeShapes Go.WideShapes

def gaH : FuncId → Option Fspec := upd gaE 16 (some valS)
theorem okH : EnvOk ⟨Tryd.prog, plainT, gaH, deE, fun _ => none, 0⟩ := EnvOk.add okE (val_sound okE) (by kernel_rfl)
theorem sha3HexDigits_contract (H : Type) (enc : TypeId × Value → H) (W : World) (base : Nat) (args : Array Value) (ds gs : List (DataW H)) (before : List MemPlace)
    (hval : ∀ (j : Nat) t v, Tryd.f8.params[j]? = some t → args[j]? = some v → Value.okWide Tryd.prog W .any base t v)
    (hW : DataW.Whole enc Tryd.prog Tryd.f8.params.toList Rows.sha3HexDigitsSpec.vars false W args.toList ds gs before) (hk : Rows.uptoSmall H (ds ++ gs) = true)
    (hL : laidMetH Tryd.prog Rows.sha3HexDigitsUptoRow.laid W) :
    Calls Tryd.prog 8 args W fun e W' => ∃ v, e = .returned v ∧ Rows.sha3HexDigitsSpec.post enc Tryd.prog Tryd.f8 false true false false W args v W' := by
  have hW' := hW
  obtain ⟨p, q, hA0, hV, rfl, hfz, hnd⟩ := hW
  have hA : DataW.TrodAll enc Tryd.prog W 0 (fun _ => true) true Tryd.f8.params.toList args.toList ds p := hA0
  rw [Tryd.params8] at hA hval
  obtain ⟨v0, vs0, d0, ds0, p0, q0, hargs, rfl, rfl, h0, r0⟩ := trodAll_cons hA
  obtain ⟨rfl, rfl, rfl⟩ := trodAll_nil r0
  obtain rfl : args = #[v0] := by cases args; simp_all
  obtain ⟨rfl, rfl⟩ := trodVars_none hV
  have hb : Rows.uptoBulk d0 + 0 ≤ 1048576 := by
    have := of_decide_eq_true hk
    simpa only [List.append_nil, Rows.uptoBulkAll] using this
  obtain ⟨s, o0, b0⟩ := opnStr.one (fv := fun _ => Go.undef) (fun _ => rfl) (okWide_one (.inr (.inl Tryd.underlying9)) (hval 0 9 v0 rfl rfl)) h0
  refine Sound.row (F := hdLawS) (vs := [.s (.string s)]) (tb := 4) (hdLaw_sound okH rfl rfl rfl) laidOut (winv hL) (by
    rw [Tryd.params8]
    intro t ht
    simp only [List.mem_cons, List.not_mem_nil, or_false] at ht
    rcases ht with rfl <;> exact ⟨by kernel_rfl, of_decide_eq_true (by kernel_rfl)⟩) hW' rfl rfl Tryd.underlying4 rfl ⟨rfl, fun i hi => ?_⟩ ⟨s, (by have h1 : s.size < Rows.uptoBulk d0 := b0; omega), rfl, rfl⟩
  have : i = 0 := by simp at hi; omega
  subst this
  exact o0
theorem sha3HexDigits_met (os : Os) : laidMet Tryd.prog Rows.sha3HexDigitsUptoRow.laid ((laidWorld os).forCall (fun _ _ => 0) ⟨#[], #[.string ⟨#[]⟩], []⟩).memory := laidMet_of_run' 8 (by kernel_rfl) (by kernel_rfl)
theorem sha3HexDigits_reads (os : Os) {H : Type} (enc : TypeId × Value → H) : ∃ places, DataW.whole enc Tryd.prog ((laidWorld os).forCall (fun _ _ => 0) ⟨#[], #[.string ⟨#[]⟩], []⟩).memory Tryd.f8.params.toList Rows.sha3HexDigitsSpec.vars false (#[.string ⟨#[]⟩] : Array Value).toList 8 = some ([.lit (.string [])], [], places) := ⟨[], by kernel_rfl⟩
theorem sha3HexDigits_lifted (os : Os) (started : os.Started) (H : Type) (enc : TypeId × Value → H) (F : Stop.Interp) :
    ReturnsInHanded {} Tryd.checked os 8 .any ((Rows.OpenSpec.upto Rows.sha3HexDigitsSpec).preRow enc Tryd.prog Tryd.f8 Rows.sha3HexDigitsUptoRow.domain false Rows.sha3HexDigitsUptoRow.laid) (((Rows.OpenSpec.upto Rows.sha3HexDigitsSpec).at F).post enc Tryd.prog Tryd.f8 false true false false) := by
  obtain ⟨places, hx⟩ := sha3HexDigits_reads os enc
  refine returnsInHanded_of_row (C := Tryd.checked) (s := Rows.OpenSpec.upto Rows.sha3HexDigitsSpec) own started (by kernel_rfl) Tryd.func8
    (witness_row_at (enc := enc) (C := Tryd.checked) false (laidWorld os) #[.string ⟨#[]⟩] rfl (by kernel_rfl) (by kernel_rfl) (by kernel_rfl)
      (OpenSpec.preRow_of_cond 8 hx (by kernel_rfl) (fun k hk => by cases hk; kernel_rfl) (by kernel_rfl) (sha3HexDigits_met os))) ?_
  intro W base args ds gs before hval hW _ hk _ hL _ _
  exact sha3HexDigits_contract H enc W base args ds gs before hval hW (hk _ rfl) hL
theorem sha3HexDigits_holds : Rows.Sha3HexDigitsUptoSaid :=
  OpenClaim.holds_of_cond 8 Tryd.f8 rfl rfl rfl rfl rfl rfl rfl ⟨rfl, rfl, rfl, rfl, rfl⟩ rfl rfl rfl rfl rfl (by kernel_rfl) Tryd.func8 (by kernel_rfl)
    (of_decide_eq_true (by kernel_rfl)) (by unfold Func.isWrapper; first | (rw [if_pos (by decide +kernel)]; kernel_rfl) | (rw [if_neg (by decide +kernel)]; exact ⟨rfl, rfl⟩))
    (fun os started H enc _ F => by rw [OpenClaim.pre_eq_preRow]; exact sha3HexDigits_lifted os started H enc F)
theorem sha3HexDigits_plain (f : FuncId) (fn : Func) (hf : Tryd.pinned.checked.prog.funcNamed Rows.sha3HexDigitsUptoRow.func = some f) (hfn : Tryd.pinned.checked.prog.funcs[f]? = some fn) :
    false = Tryd.pinned.checked.prog.looks [] ∧ ∀ (j : Nat) t, fn.params[j]? = some t → Tryd.pinned.checked.prog.wantsStandIn t = false := by
  obtain rfl : f = 8 := Option.some.inj ((show Tryd.prog.funcNamed Rows.sha3HexDigitsUptoRow.func = some 8 by kernel_rfl).symm.trans hf) |>.symm
  obtain rfl : fn = Tryd.f8 := (Option.some.inj (Tryd.func8.symm.trans hfn)).symm
  refine ⟨by kernel_rfl, fun j t ht => ?_⟩
  rw [Tryd.params8] at ht
  have hm := Array.mem_of_getElem? ht
  simp only [List.mem_toArray, List.mem_cons, List.not_mem_nil, or_false] at hm
  rcases hm with rfl <;> exact (show Tryd.prog.wantsStandIn _ = false by kernel_rfl)
theorem sha3HexDigits_card : Rows.Sha3HexDigitsUptoCardSaid :=
  Claim7.holds_tied_plain_at .later [] _ _ _ _ sha3HexDigits_holds (fun _ h => by cases h) (by kernel_rfl) (fun _ h => by cases h) sha3HexDigitsUpto_row_tie rfl ⟨rfl, rfl⟩ (by kernel_rfl) rfl sha3HexDigits_plain (by kernel_rfl)
end Go.Proofs.YtjbjgddfflbiaaaDoor
