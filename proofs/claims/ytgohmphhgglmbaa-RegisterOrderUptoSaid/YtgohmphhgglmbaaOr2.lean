/- Concurrent edits give the same registers in reversed and in rotated order, and all their writes stay, for all registers, edits and rotations that hold together at most 1048576 values and letters. -/
import Derived.Test.YtgohmphhgglmbaaOr1
import Derived.Test.YtgohmphhgglmbaaB8
set_option linter.unusedVariables false
set_option maxRecDepth 100000
namespace Go.Proofs.Ytgohmphhgglmbaa
open Go Go.RowKit Am Go.ChangeShapes Go.WideShapes

theorem edt_of {l : List Edt} {m : Nat} (h : bdSl bdE l m) (hm : m ≤ 1048576) : edtOk 1048576 l := ⟨by have := h.1; omega, fun x hx => by
  obtain ⟨h1, h2, h3, h4⟩ := h.2 x hx
  exact ⟨by omega, by omega, by omega, fun y hy => by have : y.a.size < m := h4 y hy; omega⟩⟩
theorem u8_of {k : Int} {m : Nat} (h : bdInt .u8 k m) : 0 ≤ k ∧ k < 256 := by
  have h1 : (decide (0 ≤ k) && decide (k ≤ 255)) = true := h
  simp only [Bool.and_eq_true, decide_eq_true_eq] at h1
  omega
def gaO : FuncId → Option Fspec := upd gaE 20 (some apartS)
theorem okO : EnvOk ⟨Try.prog, plainT, gaO, deE, fun _ => none, 0⟩ := EnvOk.add okE (apart_sound okE rfl rfl) (by kernel_rfl)
theorem registerOrder_contract (H : Type) (enc : TypeId × Value → H) (W : World) (base : Nat) (args : Array Value) (ds gs : List (DataW H)) (before : List MemPlace)
    (hval : ∀ (j : Nat) t v, Try.f5.params[j]? = some t → args[j]? = some v → Value.okWide Try.prog W .any base t v)
    (hW : DataW.Whole enc Try.prog Try.f5.params.toList Rows.registerOrderSpec.vars false W args.toList ds gs before) (hk : Rows.uptoSmall H (ds ++ gs) = true) :
    Calls Try.prog 5 args W fun e W' => ∃ v, e = .returned v ∧ Rows.registerOrderSpec.post enc Try.prog Try.f5 false true false false W args v W' := by
  have hW' := hW
  obtain ⟨p, q, hA0, hV, rfl, hfz, hnd⟩ := hW
  have hA : DataW.TrodAll enc Try.prog W 0 (fun _ => true) true Try.f5.params.toList args.toList ds p := hA0
  rw [Try.params5] at hA hval
  obtain ⟨v0, vs0, d0, ds0, p0, q0, hargs, rfl, rfl, h0, r0⟩ := trodAll_cons hA
  obtain ⟨v1, vs1, d1, ds1, p1, q1, rfl, rfl, rfl, h1, r1⟩ := trodAll_cons r0
  obtain ⟨v2, vs2, d2, ds2, p2, q2, rfl, rfl, rfl, h2, r2⟩ := trodAll_cons r1
  obtain ⟨rfl, rfl, rfl⟩ := trodAll_nil r2
  obtain rfl : args = #[v0, v1, v2] := by cases args; simp_all
  obtain ⟨rfl, rfl⟩ := trodVars_none hV
  have hb : Rows.uptoBulk d0 + (Rows.uptoBulk d1 + (Rows.uptoBulk d2 + 0)) ≤ 1048576 := by
    have := of_decide_eq_true hk
    simpa only [List.append_nil, Rows.uptoBulkAll] using this
  obtain ⟨l, o0, b0⟩ := opnRs.one (fv := fun _ => Go.undef) (fun _ => rfl) (okWide_one (.inr (.inr (.inr ⟨_, Try.underlying22⟩))) (hval 0 22 v0 rfl rfl)) h0
  obtain ⟨es, o1, b1⟩ := opnEs.one (fv := fun _ => Go.undef) (fun _ => rfl) (okWide_one (.inr (.inr (.inr ⟨_, Try.underlying23⟩))) (hval 1 23 v1 rfl rfl)) h1
  obtain ⟨k, o2, b2⟩ := opnU8.one (fv := fun _ => Go.undef) (fun _ => rfl) (okWide_one (.inl ⟨_, Try.underlying5⟩) (hval 2 5 v2 rfl rfl)) h2
  refine Sound.row (F := ordLawS) (vs := [.sl (l.map encR), .sl (es.map encE), .s (.int .u8 k)]) (tb := 4) (ordLaw_sound okO rfl rfl rfl rfl rfl rfl rfl rfl) laidOut (fun _ _ => ⟨trivial, fun _ _ h => by cases h⟩) (by
    rw [Try.params5]
    intro t ht
    simp only [List.mem_cons, List.not_mem_nil, or_false] at ht
    rcases ht with rfl | rfl | rfl <;> exact ⟨by kernel_rfl, of_decide_eq_true (by kernel_rfl)⟩) hW' rfl rfl Try.underlying4 rfl ⟨rfl, fun i hi => ?_⟩ ⟨l, es, k, small_of b0 (by show Rows.uptoBulk d0 ≤ _; omega), edt_of b1 (by show Rows.uptoBulk d1 ≤ _; omega), (u8_of b2).1, (u8_of b2).2, rfl, rfl⟩
  have : i = 0 ∨ i = 1 ∨ i = 2 := by simp at hi; omega
  rcases this with rfl | rfl | rfl
  · exact o0
  · exact o1
  · exact o2
theorem registerOrder_lifted (os : Os) (started : os.Started) (H : Type) (enc : TypeId × Value → H) (F : Stop.Interp) :
    ReturnsInHanded {} Try.checked os 5 .any ((Rows.OpenSpec.upto Rows.registerOrderSpec).pre6 enc Try.prog Try.f5 Rows.registerOrderUptoRow.domain false) (((Rows.OpenSpec.upto Rows.registerOrderSpec).at F).post enc Try.prog Try.f5 false true false false) := by
  refine returnsInHanded_of_cond (C := Try.checked) (s := Rows.OpenSpec.upto Rows.registerOrderSpec) (k := Rows.uptoSmall) rfl own started (by kernel_rfl) Try.func5
    (OpenSpec.witness (enc := enc) (C := Try.checked) (s := Rows.OpenSpec.upto Rows.registerOrderSpec) (k := Rows.uptoSmall) rfl false ⟨#[], #[.slice none 0 0, .slice none 0 0, .int .u8 0], []⟩ 8 (by kernel_rfl) (by kernel_rfl) (by kernel_rfl)
      (x := ([.nil, .nil, .lit (.int .u8 0)], [], [])) (by kernel_rfl) rfl (by kernel_rfl)) ?_
  intro W base args ds gs before hval hW _ hk _
  exact registerOrder_contract H enc W base args ds gs before hval hW hk
theorem registerOrder_holds : Rows.RegisterOrderUptoSaid :=
  OpenClaim.holds_of_cond 5 Try.f5 rfl rfl rfl rfl rfl rfl rfl ⟨rfl, rfl, rfl, rfl, rfl⟩ rfl rfl rfl rfl rfl (by kernel_rfl) Try.func5 (by kernel_rfl)
    (of_decide_eq_true (by kernel_rfl)) (by unfold Func.isWrapper; first | (rw [if_pos (by decide +kernel)]; kernel_rfl) | (rw [if_neg (by decide +kernel)]; exact ⟨rfl, rfl⟩))
    (fun os started H enc _ F => registerOrder_lifted os started H enc F)
end Go.Proofs.Ytgohmphhgglmbaa
