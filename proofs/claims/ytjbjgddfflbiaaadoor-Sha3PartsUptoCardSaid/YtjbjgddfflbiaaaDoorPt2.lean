/- The digest of a string does not depend on how it is divided into parts, and it has 32 bytes, for all strings of at most 1048576 letters. -/
import Derived.Test.YtjbjgddfflbiaaaDoorPt1
import Derived.Test.YtjbjgddfflbiaaaDoorB7
set_option linter.unusedVariables false
set_option maxRecDepth 100000
namespace Go.Proofs.YtjbjgddfflbiaaaDoor
open Go Go.RowKit Am Go.ChangeShapes Go.WideShapes

theorem sha3Parts_contract (H : Type) (enc : TypeId × Value → H) (W : World) (base : Nat) (args : Array Value) (ds gs : List (DataW H)) (before : List MemPlace)
    (hval : ∀ (j : Nat) t v, Tryd.f4.params[j]? = some t → args[j]? = some v → Value.okWide Tryd.prog W .any base t v)
    (hW : DataW.Whole enc Tryd.prog Tryd.f4.params.toList Rows.sha3PartsSpec.vars false W args.toList ds gs before) (hk : Rows.uptoSmall H (ds ++ gs) = true)
    (hL : laidMetH Tryd.prog Rows.sha3PartsUptoRow.laid W) :
    Calls Tryd.prog 4 args W fun e W' => ∃ v, e = .returned v ∧ Rows.sha3PartsSpec.post enc Tryd.prog Tryd.f4 false true false false W args v W' := by
  have hW' := hW
  obtain ⟨p, q, hA0, hV, rfl, hfz, hnd⟩ := hW
  have hA : DataW.TrodAll enc Tryd.prog W 0 (fun _ => true) true Tryd.f4.params.toList args.toList ds p := hA0
  rw [Tryd.params4] at hA hval
  obtain ⟨v0, vs0, d0, ds0, p0, q0, hargs, rfl, rfl, h0, r0⟩ := trodAll_cons hA
  obtain ⟨v1, vs1, d1, ds1, p1, q1, rfl, rfl, rfl, h1, r1⟩ := trodAll_cons r0
  obtain ⟨v2, vs2, d2, ds2, p2, q2, rfl, rfl, rfl, h2, r2⟩ := trodAll_cons r1
  obtain ⟨rfl, rfl, rfl⟩ := trodAll_nil r2
  obtain rfl : args = #[v0, v1, v2] := by cases args; simp_all
  obtain ⟨rfl, rfl⟩ := trodVars_none hV
  have hb : Rows.uptoBulk d0 + (Rows.uptoBulk d1 + (Rows.uptoBulk d2 + 0)) ≤ 1048576 := by
    have := of_decide_eq_true hk
    simpa only [List.append_nil, Rows.uptoBulkAll] using this
  obtain ⟨s, o0, b0⟩ := opnStr.one (fv := fun _ => Go.undef) (fun _ => rfl) (okWide_one (.inr (.inl Tryd.underlying9)) (hval 0 9 v0 rfl rfl)) h0
  obtain ⟨a, o1, b1⟩ := opnU16.one (fv := fun _ => Go.undef) (fun _ => rfl) (okWide_one (.inl ⟨_, Tryd.underlying28⟩) (hval 1 28 v1 rfl rfl)) h1
  obtain ⟨b, o2, b2⟩ := opnU16.one (fv := fun _ => Go.undef) (fun _ => rfl) (okWide_one (.inl ⟨_, Tryd.underlying28⟩) (hval 2 28 v2 rfl rfl)) h2
  refine Sound.row (F := partLawS) (vs := [.s (.string s), .s (.int .u16 a), .s (.int .u16 b)]) (tb := 4) (partLaw_sound okE rfl rfl) laidOut (winv hL) (by
    rw [Tryd.params4]
    intro t ht
    simp only [List.mem_cons, List.not_mem_nil, or_false] at ht
    rcases ht with rfl | rfl | rfl <;> exact ⟨by kernel_rfl, of_decide_eq_true (by kernel_rfl)⟩) hW' rfl rfl Tryd.underlying4 rfl ⟨rfl, fun i hi => ?_⟩ ⟨s, a, b, (by have h1 : s.size < Rows.uptoBulk d0 := b0; omega), (bdu16 b1).1, (bdu16 b1).2, (bdu16 b2).1, (bdu16 b2).2, rfl, rfl⟩
  have : i = 0 ∨ i = 1 ∨ i = 2 := by simp at hi; omega
  rcases this with rfl | rfl | rfl
  · exact o0
  · exact o1
  · exact o2
theorem sha3Parts_met (os : Os) : laidMet Tryd.prog Rows.sha3PartsUptoRow.laid ((laidWorld os).forCall (fun _ _ => 0) ⟨#[], #[.string ⟨#[]⟩, .int .u16 0, .int .u16 0], []⟩).memory := laidMet_of_run' 8 (by kernel_rfl) (by kernel_rfl)
theorem sha3Parts_reads (os : Os) {H : Type} (enc : TypeId × Value → H) : ∃ places, DataW.whole enc Tryd.prog ((laidWorld os).forCall (fun _ _ => 0) ⟨#[], #[.string ⟨#[]⟩, .int .u16 0, .int .u16 0], []⟩).memory Tryd.f4.params.toList Rows.sha3PartsSpec.vars false (#[.string ⟨#[]⟩, .int .u16 0, .int .u16 0] : Array Value).toList 8 = some ([.lit (.string []), .lit (.int .u16 0), .lit (.int .u16 0)], [], places) := ⟨[], by kernel_rfl⟩
theorem sha3Parts_lifted (os : Os) (started : os.Started) (H : Type) (enc : TypeId × Value → H) (F : Stop.Interp) :
    ReturnsInHanded {} Tryd.checked os 4 .any ((Rows.OpenSpec.upto Rows.sha3PartsSpec).preRow enc Tryd.prog Tryd.f4 Rows.sha3PartsUptoRow.domain false Rows.sha3PartsUptoRow.laid) (((Rows.OpenSpec.upto Rows.sha3PartsSpec).at F).post enc Tryd.prog Tryd.f4 false true false false) := by
  obtain ⟨places, hx⟩ := sha3Parts_reads os enc
  refine returnsInHanded_of_row (C := Tryd.checked) (s := Rows.OpenSpec.upto Rows.sha3PartsSpec) own started (by kernel_rfl) Tryd.func4
    (witness_row_at (enc := enc) (C := Tryd.checked) false (laidWorld os) #[.string ⟨#[]⟩, .int .u16 0, .int .u16 0] rfl (by kernel_rfl) (by kernel_rfl) (by kernel_rfl)
      (OpenSpec.preRow_of_cond 8 hx (by kernel_rfl) (fun k hk => by cases hk; kernel_rfl) (by kernel_rfl) (sha3Parts_met os))) ?_
  intro W base args ds gs before hval hW _ hk _ hL _ _
  exact sha3Parts_contract H enc W base args ds gs before hval hW (hk _ rfl) hL
theorem sha3Parts_holds : Rows.Sha3PartsUptoSaid :=
  OpenClaim.holds_of_cond 4 Tryd.f4 rfl rfl rfl rfl rfl rfl rfl ⟨rfl, rfl, rfl, rfl, rfl⟩ rfl rfl rfl rfl rfl (by kernel_rfl) Tryd.func4 (by kernel_rfl)
    (of_decide_eq_true (by kernel_rfl)) (by unfold Func.isWrapper; first | (rw [if_pos (by decide +kernel)]; kernel_rfl) | (rw [if_neg (by decide +kernel)]; exact ⟨rfl, rfl⟩))
    (fun os started H enc _ F => by rw [OpenClaim.pre_eq_preRow]; exact sha3Parts_lifted os started H enc F)
theorem sha3Parts_plain (f : FuncId) (fn : Func) (hf : Tryd.pinned.checked.prog.funcNamed Rows.sha3PartsUptoRow.func = some f) (hfn : Tryd.pinned.checked.prog.funcs[f]? = some fn) :
    false = Tryd.pinned.checked.prog.looks [] ∧ ∀ (j : Nat) t, fn.params[j]? = some t → Tryd.pinned.checked.prog.wantsStandIn t = false := by
  obtain rfl : f = 4 := Option.some.inj ((show Tryd.prog.funcNamed Rows.sha3PartsUptoRow.func = some 4 by kernel_rfl).symm.trans hf) |>.symm
  obtain rfl : fn = Tryd.f4 := (Option.some.inj (Tryd.func4.symm.trans hfn)).symm
  refine ⟨by kernel_rfl, fun j t ht => ?_⟩
  rw [Tryd.params4] at ht
  have hm := Array.mem_of_getElem? ht
  simp only [List.mem_toArray, List.mem_cons, List.not_mem_nil, or_false] at hm
  rcases hm with rfl | rfl | rfl <;> exact (show Tryd.prog.wantsStandIn _ = false by kernel_rfl)
theorem sha3Parts_card : Rows.Sha3PartsUptoCardSaid :=
  Claim7.holds_tied_plain_at .later [] _ _ _ _ sha3Parts_holds (fun _ h => by cases h) (by kernel_rfl) (fun _ h => by cases h) sha3PartsUpto_row_tie rfl ⟨rfl, rfl⟩ (by kernel_rfl) rfl sha3Parts_plain (by kernel_rfl)
end Go.Proofs.YtjbjgddfflbiaaaDoor
