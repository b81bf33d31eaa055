/- Merge contains exactly what one of its arguments contains, Covers holds exactly if every element is contained, and merging a covered vector changes nothing, for all vectors and Ids that hold together at most 1048576 values and letters. -/
import Derived.Test.YtfpijfedodljfaaDoorPw1
import Derived.Test.YtfpijfedodljfaaDoorB7
set_option linter.unusedVariables false
set_option maxRecDepth 100000
namespace Go.Proofs.YtfpijfedodljfaaDoor
open Go Go.RowKit Am Go.ChangeShapes Go.WideShapes

theorem vclockPointwise_contract (H : Type) (enc : TypeId × Value → H) (W : World) (base : Nat) (args : Array Value) (ds gs : List (DataW H)) (before : List MemPlace)
    (hval : ∀ (j : Nat) t v, Tryd.f6.params[j]? = some t → args[j]? = some v → Value.okWide Tryd.prog W .any base t v)
    (hW : DataW.Whole enc Tryd.prog Tryd.f6.params.toList Rows.vclockPointwiseSpec.vars false W args.toList ds gs before) (hk : Rows.uptoSmall H (ds ++ gs) = true)
    (hL : laidMetH Tryd.prog Rows.vclockPointwiseUptoRow.laid W) :
    Calls Tryd.prog 6 args W fun e W' => ∃ v, e = .returned v ∧ Rows.vclockPointwiseSpec.post enc Tryd.prog Tryd.f6 false true false false W args v W' := by
  have hW' := hW
  obtain ⟨p, q, hA0, hV, rfl, hfz, hnd⟩ := hW
  have hA : DataW.TrodAll enc Tryd.prog W 0 (fun _ => true) true Tryd.f6.params.toList args.toList ds p := hA0
  rw [Tryd.params6] at hA hval
  obtain ⟨v0, vs0, d0, ds0, p0, q0, hargs, rfl, rfl, h0, r0⟩ := trodAll_cons hA
  obtain ⟨v1, vs1, d1, ds1, p1, q1, rfl, rfl, rfl, h1, r1⟩ := trodAll_cons r0
  obtain ⟨v2, vs2, d2, ds2, p2, q2, rfl, rfl, rfl, h2, r2⟩ := trodAll_cons r1
  obtain ⟨rfl, rfl, rfl⟩ := trodAll_nil r2
  obtain rfl : args = #[v0, v1, v2] := by cases args; simp_all
  obtain ⟨rfl, rfl⟩ := trodVars_none hV
  have hb : Rows.uptoBulk d0 + (Rows.uptoBulk d1 + (Rows.uptoBulk d2 + 0)) ≤ 1048576 := by
    have := of_decide_eq_true hk
    simpa only [List.append_nil, Rows.uptoBulkAll] using this
  obtain ⟨a, o0, b0⟩ := opnIds.one (fv := fun _ => Go.undef) (fun _ => rfl) (okWide_one (.inr (.inr (.inr ⟨_, Tryd.underlying22⟩))) (hval 0 22 v0 rfl rfl)) h0
  obtain ⟨b, o1, b1⟩ := opnIds.one (fv := fun _ => Go.undef) (fun _ => rfl) (okWide_one (.inr (.inr (.inr ⟨_, Tryd.underlying22⟩))) (hval 1 22 v1 rfl rfl)) h1
  obtain ⟨cs2, hcs2⟩ := okWide_agg Tryd.underlying24 (hval 2 24 v2 rfl rfl)
  obtain ⟨x, o2, b2⟩ := opnId.arg (fv := fun _ => Go.undef) hcs2 h2
  refine Sound.row (F := pwLawS) (vs := [.sl (a.map encId), .sl (b.map encId), .agg (encId x)]) (tb := 4) (pwLaw_sound okE rfl rfl rfl rfl rfl rfl) laidOut (winv hL) (by
    rw [Tryd.params6]
    intro t ht
    simp only [List.mem_cons, List.not_mem_nil, or_false] at ht
    rcases ht with rfl | rfl | rfl <;> exact ⟨by kernel_rfl, of_decide_eq_true (by kernel_rfl)⟩) hW' rfl rfl Tryd.underlying4 rfl ⟨rfl, fun i hi => ?_⟩ ⟨a, b, x, sm_of b0 (by show Rows.uptoBulk d0 ≤ _; omega), sm_of b1 (by show Rows.uptoBulk d1 ≤ _; omega), (by have : x.a.size < Rows.uptoBulk d2 := b2.1; omega), b2.2, rfl, rfl⟩
  have : i = 0 ∨ i = 1 ∨ i = 2 := by simp at hi; omega
  rcases this with rfl | rfl | rfl
  · exact o0
  · exact o1
  · exact o2
theorem vclockPointwise_met (os : Os) : laidMet Tryd.prog Rows.vclockPointwiseUptoRow.laid ((laidWorld os).forCall (fun _ _ => 0) ⟨#[], #[.slice none 0 0, .slice none 0 0, .agg #[.string ⟨#[]⟩, .int .i64 0]], []⟩).memory := laidMet_of_run' 8 (by kernel_rfl) (by kernel_rfl)
theorem vclockPointwise_reads (os : Os) {H : Type} (enc : TypeId × Value → H) : ∃ places, DataW.whole enc Tryd.prog ((laidWorld os).forCall (fun _ _ => 0) ⟨#[], #[.slice none 0 0, .slice none 0 0, .agg #[.string ⟨#[]⟩, .int .i64 0]], []⟩).memory Tryd.f6.params.toList Rows.vclockPointwiseSpec.vars false (#[.slice none 0 0, .slice none 0 0, .agg #[.string ⟨#[]⟩, .int .i64 0]] : Array Value).toList 8 = some ([.nil, .nil, .agg [.lit (.string []), .lit (.int .i64 0)]], [], places) := ⟨[], by kernel_rfl⟩
theorem vclockPointwise_lifted (os : Os) (started : os.Started) (H : Type) (enc : TypeId × Value → H) (F : Stop.Interp) :
    ReturnsInHanded {} Tryd.checked os 6 .any ((Rows.OpenSpec.upto Rows.vclockPointwiseSpec).preRow enc Tryd.prog Tryd.f6 Rows.vclockPointwiseUptoRow.domain false Rows.vclockPointwiseUptoRow.laid) (((Rows.OpenSpec.upto Rows.vclockPointwiseSpec).at F).post enc Tryd.prog Tryd.f6 false true false false) := by
  obtain ⟨places, hx⟩ := vclockPointwise_reads os enc
  refine returnsInHanded_of_row (C := Tryd.checked) (s := Rows.OpenSpec.upto Rows.vclockPointwiseSpec) own started (by kernel_rfl) Tryd.func6
    (witness_row_at (enc := enc) (C := Tryd.checked) false (laidWorld os) #[.slice none 0 0, .slice none 0 0, .agg #[.string ⟨#[]⟩, .int .i64 0]] rfl (by kernel_rfl) (by kernel_rfl) (by kernel_rfl)
      (OpenSpec.preRow_of_cond 8 hx (by kernel_rfl) (fun k hk => by cases hk; kernel_rfl) (by kernel_rfl) (vclockPointwise_met os))) ?_
  intro W base args ds gs before hval hW _ hk _ hL _ _
  exact vclockPointwise_contract H enc W base args ds gs before hval hW (hk _ rfl) hL
theorem vclockPointwise_holds : Rows.VclockPointwiseUptoSaid :=
  OpenClaim.holds_of_cond 6 Tryd.f6 rfl rfl rfl rfl rfl rfl rfl ⟨rfl, rfl, rfl, rfl, rfl⟩ rfl rfl rfl rfl rfl (by kernel_rfl) Tryd.func6 (by kernel_rfl)
    (of_decide_eq_true (by kernel_rfl)) (by unfold Func.isWrapper; first | (rw [if_pos (by decide +kernel)]; kernel_rfl) | (rw [if_neg (by decide +kernel)]; exact ⟨rfl, rfl⟩))
    (fun os started H enc _ F => by rw [OpenClaim.pre_eq_preRow]; exact vclockPointwise_lifted os started H enc F)
theorem vclockPointwise_plain (f : FuncId) (fn : Func) (hf : Tryd.pinned.checked.prog.funcNamed Rows.vclockPointwiseUptoRow.func = some f) (hfn : Tryd.pinned.checked.prog.funcs[f]? = some fn) :
    false = Tryd.pinned.checked.prog.looks [] ∧ ∀ (j : Nat) t, fn.params[j]? = some t → Tryd.pinned.checked.prog.wantsStandIn t = false := by
  obtain rfl : f = 6 := Option.some.inj ((show Tryd.prog.funcNamed Rows.vclockPointwiseUptoRow.func = some 6 by kernel_rfl).symm.trans hf) |>.symm
  obtain rfl : fn = Tryd.f6 := (Option.some.inj (Tryd.func6.symm.trans hfn)).symm
  refine ⟨by kernel_rfl, fun j t ht => ?_⟩
  rw [Tryd.params6] at ht
  have hm := Array.mem_of_getElem? ht
  simp only [List.mem_toArray, List.mem_cons, List.not_mem_nil, or_false] at hm
  rcases hm with rfl | rfl | rfl <;> exact (show Tryd.prog.wantsStandIn _ = false by kernel_rfl)
theorem vclockPointwise_card : Rows.VclockPointwiseUptoCardSaid :=
  Claim7.holds_tied_plain_at .later [] _ _ _ _ vclockPointwise_holds (fun _ h => by cases h) (by kernel_rfl) (fun _ h => by cases h) vclockPointwiseUpto_row_tie rfl ⟨rfl, rfl⟩ (by kernel_rfl) rfl vclockPointwise_plain (by kernel_rfl)
end Go.Proofs.YtfpijfedodljfaaDoor
