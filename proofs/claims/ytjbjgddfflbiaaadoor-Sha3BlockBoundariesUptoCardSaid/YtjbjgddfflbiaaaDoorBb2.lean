/- The digest of a repeated byte is the reference's digest, for every byte and every length. -/
import Derived.Test.YtjbjgddfflbiaaaDoorBb1
import Derived.Test.YtjbjgddfflbiaaaDoorB7
set_option linter.unusedVariables false
set_option maxRecDepth 100000
namespace Go.Proofs.YtjbjgddfflbiaaaDoor
open Go Go.RowKit Am Go.ChangeShapes Go.WideShapes

theorem sha3BlockBoundaries_contract (H : Type) (enc : TypeId × Value → H) (W : World) (base : Nat) (args : Array Value) (ds gs : List (DataW H)) (before : List MemPlace)
    (hval : ∀ (j : Nat) t v, Tryd.f5.params[j]? = some t → args[j]? = some v → Value.okWide Tryd.prog W .any base t v)
    (hW : DataW.Whole enc Tryd.prog Tryd.f5.params.toList Rows.sha3BlockBoundariesSpec.vars false W args.toList ds gs before) (hk : Rows.uptoSmall H (ds ++ gs) = true)
    (hL : laidMetH Tryd.prog Rows.sha3BlockBoundariesUptoRow.laid W) :
    Calls Tryd.prog 5 args W fun e W' => ∃ v, e = .returned v ∧ Rows.sha3BlockBoundariesSpec.post enc Tryd.prog Tryd.f5 false true false false W args v W' := by
  have hW' := hW
  obtain ⟨p, q, hA0, hV, rfl, hfz, hnd⟩ := hW
  have hA : DataW.TrodAll enc Tryd.prog W 0 (fun _ => true) true Tryd.f5.params.toList args.toList ds p := hA0
  rw [Tryd.params5] at hA hval
  obtain ⟨v0, vs0, d0, ds0, p0, q0, hargs, rfl, rfl, h0, r0⟩ := trodAll_cons hA
  obtain ⟨v1, vs1, d1, ds1, p1, q1, rfl, rfl, rfl, h1, r1⟩ := trodAll_cons r0
  obtain ⟨rfl, rfl, rfl⟩ := trodAll_nil r1
  obtain rfl : args = #[v0, v1] := by cases args; simp_all
  obtain ⟨rfl, rfl⟩ := trodVars_none hV
  have hb : Rows.uptoBulk d0 + (Rows.uptoBulk d1 + 0) ≤ 1048576 := by
    have := of_decide_eq_true hk
    simpa only [List.append_nil, Rows.uptoBulkAll] using this
  obtain ⟨c, o0, b0⟩ := opnU8.one (fv := fun _ => Go.undef) (fun _ => rfl) (okWide_one (.inl ⟨_, Tryd.underlying5⟩) (hval 0 5 v0 rfl rfl)) h0
  obtain ⟨n, o1, b1⟩ := opnU16.one (fv := fun _ => Go.undef) (fun _ => rfl) (okWide_one (.inl ⟨_, Tryd.underlying28⟩) (hval 1 28 v1 rfl rfl)) h1
  refine Sound.row (F := bbLawS) (vs := [.s (.int .u8 c), .s (.int .u16 n)]) (tb := 4) (bbLaw_sound okE rfl rfl rfl) laidOut (winv hL) (by
    rw [Tryd.params5]
    intro t ht
    simp only [List.mem_cons, List.not_mem_nil, or_false] at ht
    rcases ht with rfl | rfl <;> exact ⟨by kernel_rfl, of_decide_eq_true (by kernel_rfl)⟩) hW' rfl rfl Tryd.underlying4 rfl ⟨rfl, fun i hi => ?_⟩ ⟨c, n, (bdu8 b0).1, (bdu8 b0).2, (bdu16 b1).1, (bdu16 b1).2, rfl, rfl⟩
  have : i = 0 ∨ i = 1 := by simp at hi; omega
  rcases this with rfl | rfl
  · exact o0
  · exact o1
theorem sha3BlockBoundaries_met (os : Os) : laidMet Tryd.prog Rows.sha3BlockBoundariesUptoRow.laid ((laidWorld os).forCall (fun _ _ => 0) ⟨#[], #[.int .u8 0, .int .u16 0], []⟩).memory := laidMet_of_run' 8 (by kernel_rfl) (by kernel_rfl)
theorem sha3BlockBoundaries_reads (os : Os) {H : Type} (enc : TypeId × Value → H) : ∃ places, DataW.whole enc Tryd.prog ((laidWorld os).forCall (fun _ _ => 0) ⟨#[], #[.int .u8 0, .int .u16 0], []⟩).memory Tryd.f5.params.toList Rows.sha3BlockBoundariesSpec.vars false (#[.int .u8 0, .int .u16 0] : Array Value).toList 8 = some ([.lit (.int .u8 0), .lit (.int .u16 0)], [], places) := ⟨[], by kernel_rfl⟩
theorem sha3BlockBoundaries_lifted (os : Os) (started : os.Started) (H : Type) (enc : TypeId × Value → H) (F : Stop.Interp) :
    ReturnsInHanded {} Tryd.checked os 5 .any ((Rows.OpenSpec.upto Rows.sha3BlockBoundariesSpec).preRow enc Tryd.prog Tryd.f5 Rows.sha3BlockBoundariesUptoRow.domain false Rows.sha3BlockBoundariesUptoRow.laid) (((Rows.OpenSpec.upto Rows.sha3BlockBoundariesSpec).at F).post enc Tryd.prog Tryd.f5 false true false false) := by
  obtain ⟨places, hx⟩ := sha3BlockBoundaries_reads os enc
  refine returnsInHanded_of_row (C := Tryd.checked) (s := Rows.OpenSpec.upto Rows.sha3BlockBoundariesSpec) own started (by kernel_rfl) Tryd.func5
    (witness_row_at (enc := enc) (C := Tryd.checked) false (laidWorld os) #[.int .u8 0, .int .u16 0] rfl (by kernel_rfl) (by kernel_rfl) (by kernel_rfl)
      (OpenSpec.preRow_of_cond 8 hx (by kernel_rfl) (fun k hk => by cases hk; kernel_rfl) (by kernel_rfl) (sha3BlockBoundaries_met os))) ?_
  intro W base args ds gs before hval hW _ hk _ hL _ _
  exact sha3BlockBoundaries_contract H enc W base args ds gs before hval hW (hk _ rfl) hL
theorem sha3BlockBoundaries_holds : Rows.Sha3BlockBoundariesUptoSaid :=
  OpenClaim.holds_of_cond 5 Tryd.f5 rfl rfl rfl rfl rfl rfl rfl ⟨rfl, rfl, rfl, rfl, rfl⟩ rfl rfl rfl rfl rfl (by kernel_rfl) Tryd.func5 (by kernel_rfl)
    (of_decide_eq_true (by kernel_rfl)) (by unfold Func.isWrapper; first | (rw [if_pos (by decide +kernel)]; kernel_rfl) | (rw [if_neg (by decide +kernel)]; exact ⟨rfl, rfl⟩))
    (fun os started H enc _ F => by rw [OpenClaim.pre_eq_preRow]; exact sha3BlockBoundaries_lifted os started H enc F)
theorem sha3BlockBoundaries_plain (f : FuncId) (fn : Func) (hf : Tryd.pinned.checked.prog.funcNamed Rows.sha3BlockBoundariesUptoRow.func = some f) (hfn : Tryd.pinned.checked.prog.funcs[f]? = some fn) :
    false = Tryd.pinned.checked.prog.looks [] ∧ ∀ (j : Nat) t, fn.params[j]? = some t → Tryd.pinned.checked.prog.wantsStandIn t = false := by
  obtain rfl : f = 5 := Option.some.inj ((show Tryd.prog.funcNamed Rows.sha3BlockBoundariesUptoRow.func = some 5 by kernel_rfl).symm.trans hf) |>.symm
  obtain rfl : fn = Tryd.f5 := (Option.some.inj (Tryd.func5.symm.trans hfn)).symm
  refine ⟨by kernel_rfl, fun j t ht => ?_⟩
  rw [Tryd.params5] at ht
  have hm := Array.mem_of_getElem? ht
  simp only [List.mem_toArray, List.mem_cons, List.not_mem_nil, or_false] at hm
  rcases hm with rfl | rfl <;> exact (show Tryd.prog.wantsStandIn _ = false by kernel_rfl)
theorem sha3BlockBoundaries_card : Rows.Sha3BlockBoundariesUptoCardSaid :=
  Claim7.holds_tied_plain_at .later [] _ _ _ _ sha3BlockBoundaries_holds (fun _ h => by cases h) (by kernel_rfl) (fun _ h => by cases h) sha3BlockBoundariesUpto_row_tie rfl ⟨rfl, rfl⟩ (by kernel_rfl) rfl sha3BlockBoundaries_plain (by kernel_rfl)
end Go.Proofs.YtjbjgddfflbiaaaDoor
