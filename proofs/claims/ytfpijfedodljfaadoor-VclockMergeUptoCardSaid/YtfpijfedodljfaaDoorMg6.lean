/- Texts that the law's proof stands on: V8, V11, AmRow, AmOver, V20, V12, V14, V15, V35, V36, V10. -/
import Derived.Test.YtfpijfedodljfaaDoorMg5
import Derived.Test.YtfpijfedodljfaaDoorMg4
import Derived.JoinedCond
import Derived.OpenShut
import Derived.Deep.Slices
import Derived.WalkKit
import Derived.ProofKit
import Derived.Lib.Overlaps
import Derived.Laws.Externs
set_option linter.unusedVariables false
set_option linter.unusedSimpArgs false
set_option maxRecDepth 100000
set_option maxHeartbeats 4000000
namespace Go.Proofs.YtfpijfedodljfaaDoor
open Go Go.RowKit Am

def cloneS {α : Type} (enc : α → List V) (z : Nat) : Fspec := fun _ ds r => ∃ v : List α, v.length ≤ 1099511627776 ∧ ds = [.sl (v.map enc)] ∧ r = .own z (v.map enc)
theorem okRowsId (l : List Idt) : okRows 2 (l.map encId) := okRows_map encId l 2 fun a => ⟨rfl, by simp [encId, cellish]⟩
theorem deepId (l : List Idt) : ∀ r ∈ l.map encId, ∀ q ∈ r, deepc q = true := deep_map encId l fun a => by simp [encId, deepc]
theorem clone_sound {plain : TypeId → Bool} {Γ : FuncId → Option Fspec} {Δ : FuncId → Option Pt} (hE : EnvOk ⟨Tryd.prog, plain, Γ, Δ, fun _ => none, 0⟩) : Sound Tryd.prog 35 (cloneS encId 2) := by
  refine sound_of_awp hE Tryd.func35 rfl (by kernel_rfl) ?_
  rintro Φ ds r ⟨v, hv, rfl, rfl⟩
  refine ⟨by simp [Tryd.f35], ?_⟩
  unfold st0
  refine W.out (E := ⟨Tryd.prog, plain, Γ, Δ, Φ, _⟩) ?_
  have hok := okRowsId v
  refine go trivial ?_
  refine x_nilEq rfl rfl rfl (sc trivial) (sx trivial) (fun b hb => ?_)
  cases b
  · refine go trivial ?_
    refine x_append rfl rfl rfl rfl rfl rfl (sx trivial) (by decide) (sc trivial) (sx trivial) (sx trivial) hok (sx trivial) rfl rfl (by simp) (by simp) (by simp; omega) (fun cap hcap => ?_)
    refine go trivial ?_
    refine x_done (x_outO (sp := spare 2 (cap - v.length)) (sr @Tryd.f35.eq_1) (sc trivial) (by simp) (by simp [spare_len] at hcap ⊢; omega) (deepId v))
  · have h0 : v = [] := List.eq_nil_of_length_eq_zero (by simp at hb; simpa using hb)
    subst h0
    refine go trivial ?_
    refine x_done (x_outO0 (sr @Tryd.f35.eq_1))
theorem cloneD_sound {plain : TypeId → Bool} {Γ : FuncId → Option Fspec} {Δ : FuncId → Option Pt} (hE : EnvOk ⟨Tryd.prog, plain, Γ, Δ, fun _ => none, 0⟩) : Sound Tryd.prog 35 (weakS (cloneS encId 2)) := (clone_sound hE).data
def idxF {α : Type} (p : α → Bool) : List α → Nat → Int
  | [], _ => -1
  | x :: l, k => if p x then (k : Int) else idxF p l (k + 1)
theorem idx_any {α : Type} (p : α → Bool) : ∀ (l : List α) (k : Nat), decide (0 ≤ idxF p l k) = l.any p
  | [], k => by simp [idxF]
  | x :: l, k => by
    rw [idxF, List.any_cons]
    cases hp : p x
    · simp only [Bool.false_eq_true, if_false, Bool.false_or]; exact idx_any p l (k + 1)
    · simp
def idxS {α : Type} (enc : α → List V) : Fspec := fun Φ ds r => ∃ (v : List α) (p : α → Bool) (S : List V → Value → Prop), v.length ≤ 1099511627776 ∧ ds = [.sl (v.map enc), .fv 1] ∧ Φ 1 = some S ∧ (∀ x ∈ v, S [.agg (enc x)] (.bool (p x))) ∧ r = .s (.int .i64 (idxF p v 0))
theorem idx_sound {plain : TypeId → Bool} {Γ : FuncId → Option Fspec} {Δ : FuncId → Option Pt} (hE : EnvOk ⟨Tryd.prog, plain, Γ, Δ, fun _ => none, 0⟩) : Sound Tryd.prog 50 (idxS encId) := by
  refine sound_of_awp hE Tryd.func50 rfl (by kernel_rfl) ?_
  rintro Φ ds r ⟨v, p, S, hv, rfl, hS, hp, rfl⟩
  refine ⟨by simp [Tryd.f50], ?_⟩
  unfold st0
  refine W.out (E := ⟨Tryd.prog, plain, Γ, Δ, Φ, _⟩) ?_
  have hr := encId_rows v
  refine go trivial ?_
  refine x_loop (fun σ => ∃ (i : Nat), σ.t 0 = .sl (v.map encId) ∧ σ.t 1 = .fv 1 ∧ σ.t 7 = .s (.int .i64 v.length) ∧ σ.t 8 = .s (.int .i64 i) ∧ i ≤ v.length ∧ idxF p (v.drop i) i = idxF p v 0) (fun σ => v.length - ix (σ.t 8)) ⟨0, (by first | assumption | exact sxa trivial), (by first | assumption | exact sxa trivial), (by first | assumption | exact sxa trivial), (by first | assumption | exact sxa trivial), (by first | rfl | omega | assumption | (simp [*]; done)), (by first | rfl | omega | assumption | (simp [*]; done))⟩ ?_
  rintro t h n ⟨i, h0, h1, h7, h8, hf0, hf1⟩
  simp only at h0 h1 h7 h8
  refine go (And.intro h0 (And.intro h1 (And.intro h7 h8))) ?_
  refine x_condP (sv (And.intro h0 (And.intro h1 (And.intro h7 h8)))) (fun hc => ?_) (fun hc => ?_)
  · have hi' : i < v.length := by omega
    rw [List.drop_eq_getElem_cons hi', idxF] at hf1
    refine go (And.intro h0 (And.intro h1 (And.intro h7 (And.intro h8 (And.intro hr @encId.eq_1))))) ?_
    refine x_callV rfl rfl rfl rfl (sv @encId.eq_1) hS (sv @encId.eq_1) (se @encId.eq_1) rfl (hp _ (List.getElem_mem hi')) ?_
    cases hb : p v[i]
    · rw [hb] at hf1
      refine go (And.intro h0 (And.intro h1 (And.intro h7 (And.intro h8 (And.intro hr (And.intro @encId.eq_1 hb)))))) ?_
      (refine ⟨⟨i + 1, ?_, ?_, ?_, ?_, ?_, ?_⟩, ?_⟩ <;> (first | omega | (dsimp only; omega) | ((simpa using hf1)) | exact sxa @cast_succ | exact soa trivial))
    · rw [hb] at hf1
      have hf' : idxF p v 0 = i := by rw [← hf1]; rfl
      refine go (And.intro h0 (And.intro h1 (And.intro h7 (And.intro h8 (And.intro hr (And.intro @encId.eq_1 hb)))))) ?_
      refine x_done (x_out (sr (And.intro @Tryd.f50.eq_1 hf')) (by simp) (by simp) rfl)
  · have e : i = v.length := by omega
    subst e
    rw [List.drop_length] at hf1
    have hf' : idxF p v 0 = -1 := by rw [← hf1]; rfl
    refine go (And.intro h0 (And.intro h1 (And.intro h7 h8))) ?_
    refine x_done (x_out (sr (And.intro @Tryd.f50.eq_1 hf')) (by simp) (by simp) rfl)
def cfS {α : Type} (enc : α → List V) : Fspec := fun Φ ds r => ∃ (v : List α) (p : α → Bool) (S : List V → Value → Prop), v.length ≤ 1099511627776 ∧ ds = [.sl (v.map enc), .fv 1] ∧ Φ 1 = some S ∧ (∀ x ∈ v, S [.agg (enc x)] (.bool (p x))) ∧ r = .s (.bool (v.any p))
theorem cf_sound {plain : TypeId → Bool} {Γ : FuncId → Option Fspec} {Δ : FuncId → Option Pt} (hE : EnvOk ⟨Tryd.prog, plain, Γ, Δ, fun _ => none, 0⟩) (g_idx : Γ 50 = some (idxS encId)) : Sound Tryd.prog 37 (cfS encId) := by
  refine sound_of_awp hE Tryd.func37 rfl (by kernel_rfl) ?_
  rintro Φ ds r ⟨v, p, S, hv, rfl, hS, hp, rfl⟩
  refine ⟨by simp [Tryd.f37], ?_⟩
  unfold st0
  refine W.out (E := ⟨Tryd.prog, plain, Γ, Δ, Φ, _⟩) ?_
  refine go trivial ?_
  refine x_callN rfl rfl rfl rfl (sv trivial) g_idx (sv trivial) (se trivial) ⟨v, p, S, hv, rfl, (by simp only [phi, List.getElem?_cons_succ, List.getElem?_cons_zero]; exact hS), hp, rfl⟩ rfl ?_
  rw [← idx_any p v 0]
  refine go trivial ?_
  refine x_done (x_out (sr @Tryd.f37.eq_1) (by simp) (by simp) rfl)
def cov1S : Fspec := fun _ ds r => ∃ (a : List Idt) (x : Idt), a.length ≤ 1099511627776 ∧ ds = [.agg (encId x), .pc [.sl (a.map encId)]] ∧ r = .s (.bool (!contF a x))
theorem cov1_sound {plain : TypeId → Bool} {Γ : FuncId → Option Fspec} {Δ : FuncId → Option Pt} (hE : EnvOk ⟨Tryd.prog, plain, Γ, Δ, fun _ => none, 0⟩) (g_cont : Γ 12 = some contS) : Sound Tryd.prog 38 cov1S := by
  refine sound_of_awp hE Tryd.func38 rfl (by kernel_rfl) ?_
  rintro Φ ds r ⟨a, x, ha, rfl, rfl⟩
  refine ⟨by simp [Tryd.f38], ?_⟩
  unfold st0 encId
  refine W.out (E := ⟨Tryd.prog, plain, Γ, Δ, Φ, _⟩) ?_
  refine go trivial ?_
  refine x_callN rfl rfl rfl rfl (sv @encId.eq_1) g_cont (sv @encId.eq_1) (se @encId.eq_1) ⟨a, x, ha, rfl, rfl⟩ rfl ?_
  refine go trivial ?_
  refine x_done (x_out (sr @Tryd.f38.eq_1) (by simp) (by simp) rfl)
def covF (a b : List Idt) : Bool := b.all fun x => contF a x
def covS : Fspec := fun _ ds r => ∃ a b : List Idt, a.length ≤ 1099511627776 ∧ b.length ≤ 1099511627776 ∧ ds = [encIds a, encIds b] ∧ r = .s (.bool (covF a b))
theorem any_not {α : Type} (p : α → Bool) : ∀ l : List α, (!l.any fun x => !p x) = l.all p
  | [] => rfl
  | x :: l => by rw [List.any_cons, List.all_cons, ← any_not p l]; cases p x <;> simp
theorem cov_sound {plain : TypeId → Bool} {Γ : FuncId → Option Fspec} {Δ : FuncId → Option Pt} (hE : EnvOk ⟨Tryd.prog, plain, Γ, Δ, fun _ => none, 0⟩) (g_cf : Γ 37 = some (cfS encId)) (g_cov1 : Γ 38 = some cov1S) : Sound Tryd.prog 20 covS := by
  refine sound_of_awp hE Tryd.func20 rfl (by kernel_rfl) ?_
  rintro Φ ds r ⟨a, b, ha, hb, rfl, rfl⟩
  refine ⟨by simp [Tryd.f20], ?_⟩
  unfold st0 encIds
  refine W.out (E := ⟨Tryd.prog, plain, Γ, Δ, Φ, _⟩) ?_
  refine go trivial ?_
  refine x_callN rfl rfl rfl rfl (sv trivial) g_cf (sv trivial) (se trivial) ⟨b, (fun x => !contF a x), _, hb, rfl, (by simp only [phi, closS, allO, List.getElem?_cons_zero, List.getElem?_cons_succ, g_cov1]; rfl), (by intro x _; exact ⟨a, x, ha, rfl, rfl⟩), rfl⟩ rfl ?_
  refine go trivial ?_
  rw [covF, ← any_not]
  refine x_done (x_out (sr @Tryd.f20.eq_1) (by simp) (by simp) rfl)
end Go.Proofs.YtfpijfedodljfaaDoor

set_option linter.unusedVariables false
set_option linter.unusedSimpArgs false
set_option maxRecDepth 100000
set_option maxHeartbeats 8000000
namespace Go.Proofs.YtfpijfedodljfaaDoor
open Go Go.RowKit Am

/-- The reference's Add, from one place on. -/
def raF : List Idt → Idt → Bool → List Idt
  | [], x, laid => if laid then [] else [x]
  | y :: v, x, laid => if y.a.toList == x.a.toList then raF v (if x.n < y.n then y else x) laid
      else if (!(Op.bytesLess y.a.toList x.a.toList || (y.a.toList == x.a.toList))) && !laid then x :: y :: raF v x true
      else y :: raF v x laid
def raddF (v : List Idt) (x : Idt) : List Idt := raF v x false
def raddS : Fspec := fun _ ds r => ∃ (v : List Idt) (x : Idt), v.length ≤ 1048576 ∧ ds = [encIds v, .agg (encId x)] ∧ r = .sl ((raddF v x).map encId)
theorem encId_okRow (x : Idt) : okRows 2 [encId x] := okRowsId [x]
theorem map_snoc {α β : Type} (f : α → β) (l : List α) (x : α) : (l ++ [x]).map f = l.map f ++ [f x] := by simp
theorem radd_sound {plain : TypeId → Bool} {Γ : FuncId → Option Fspec} {Δ : FuncId → Option Pt} (hE : EnvOk ⟨Tryd.prog, plain, Γ, Δ, fun _ => none, 0⟩) : Sound Tryd.prog 19 raddS := by
  refine sound_of_awp hE Tryd.func19 rfl (by kernel_rfl) ?_
  rintro Φ ds r ⟨v, x, hv, rfl, rfl⟩
  refine ⟨by simp [Tryd.f19], ?_⟩
  unfold st0 encIds
  refine W.out (E := ⟨Tryd.prog, plain, Γ, Δ, Φ, _⟩) ?_
  have hr := encId_rows v
  refine go trivial ?_
  refine x_loop (fun σ => ∃ (i : Nat) (b : Nat) (cap : Nat) (out : List Idt) (sp : List (List Am.V)) (y : Idt) (laid : Bool), σ.t 0 = .sl (v.map encId) ∧ σ.t 3 = .ptr 0 0 0 ∧ σ.t 5 = .loc b 0 out.length cap ∧ σ.t 6 = .s (.bool laid) ∧ σ.t 7 = .s (.int .i64 i) ∧ σ.h 0 = some ⟨2, [encId y], true⟩ ∧ σ.h b = some ⟨2, out.map encId ++ sp, true⟩ ∧ b < σ.n ∧ 0 < b ∧ i ≤ v.length ∧ out.length ≤ cap ∧ cap ≤ out.length + sp.length ∧ out.length ≤ 2 * i ∧ out ++ raF (v.drop i) y laid = raddF v x) (fun σ => v.length - ix (σ.t 7)) ⟨0, 1, 0, [], [], x, false, (by first | assumption | exact sxa trivial), (by first | assumption | exact sxa trivial), (by first | assumption | exact sxa trivial), (by first | assumption | exact sxa trivial), (by first | assumption | exact sxa trivial), (by first | assumption | exact sxa trivial), (by first | assumption | exact sxa trivial), (by first | omega | (dsimp only; omega) | exact soa trivial | omega | (simp; done)), (by first | omega | (dsimp only; omega) | exact soa trivial | omega | (simp; done)), (by first | rfl | omega | assumption | (simp [*]; done)), (by first | rfl | omega | assumption | (simp [*]; done)), (by first | rfl | omega | assumption | (simp [*]; done)), (by first | rfl | omega | assumption | (simp [*]; done)), (by first | rfl | omega | assumption | (simp [*]; done))⟩ ?_
  rintro t h n ⟨i, b, cap, out, sp, y, laid, h0, h3, h5, h6, h7, hh0, hhb, hn1, hn2, hf0, hf1, hf2, hf3, hf4⟩
  simp only at h0 h3 h5 h6 h7 hh0 hhb hn1 hn2
  refine go (And.intro h0 (And.intro h3 (And.intro h5 (And.intro h6 h7)))) ?_
  refine x_condP (sv (And.intro h0 (And.intro h3 (And.intro h5 (And.intro h6 h7))))) (fun hc => ?_) (fun hc => ?_)
  · have hi : i < v.length := by omega
    rw [List.drop_eq_getElem_cons hi, raF] at hf4
    generalize hmm : v[i] = m at *
    have e1 : (b = n) = False := by simp <;> omega
    have e2 : (b = n + 1) = False := by simp <;> omega
    have e3 : (n = b) = False := by simp <;> omega
    have e4 : (n + 1 = b) = False := by simp <;> omega
    have e5 : (0 = n) = False := by simp <;> omega
    have e6 : (0 = n + 1) = False := by simp
    have e7 : (0 = b) = False := by simp <;> omega
    have e8 : (n + 1 + 1 = n + 1) = False := by simp
    have e9 : (n + 1 = n + 1 + 1) = False := by simp
    have d1 : (n + 1 = n + 1 + 1 + 1) = False := by simp <;> omega
    have d2 : (n + 1 + 1 + 1 = n + 1) = False := by simp <;> omega
    have d3 : (0 = n + 1 + 1) = False := by simp
    have d4 : (0 = n + 1 + 1 + 1) = False := by simp
    cases c1 : (m.a.toList == y.a.toList)
    · cases c2 : Op.bytesLess m.a.toList y.a.toList
      · cases laid
        · rw [c1, c2] at hf4
          simp only [Bool.or_false, Bool.not_false, Bool.true_and, if_true, Bool.false_eq_true, if_false] at hf4
          refine go (And.intro h0 (And.intro h3 (And.intro h5 (And.intro h6 (And.intro h7 (And.intro hh0 (And.intro hhb (And.intro hr (And.intro hmm (And.intro @encId.eq_1 (And.intro c1 (And.intro c2 (And.intro e1 (And.intro e2 (And.intro e3 (And.intro e4 (And.intro e5 (And.intro e6 e7)))))))))))))))))) ?_
          refine x_appendO rfl rfl rfl rfl rfl rfl (sv (And.intro h5 (And.intro hhb (And.intro @encId.eq_1 (And.intro e1 (And.intro e2 (And.intro e3 (And.intro e4 (And.intro e5 (And.intro e6 e7)))))))))) (by decide) (sc (And.intro h5 (And.intro hhb (And.intro @encId.eq_1 (And.intro e1 (And.intro e2 (And.intro e3 (And.intro e4 (And.intro e5 (And.intro e6 e7)))))))))) (sv (And.intro h5 (And.intro hhb (And.intro @encId.eq_1 (And.intro e1 (And.intro e2 (And.intro e3 (And.intro e4 (And.intro e5 (And.intro e6 e7)))))))))) (sx (And.intro h5 (And.intro hhb (And.intro @encId.eq_1 (And.intro e1 (And.intro e2 (And.intro e3 (And.intro e4 (And.intro e5 (And.intro e6 e7)))))))))) (by first | rfl | (simp; done) | (simp [spare_len]; omega)) (by first | omega | (simp; done) | (simp [spare_len]; omega)) (by first | omega | (simp; done) | (simp [spare_len]; omega)) (sx (And.intro h5 (And.intro hhb (And.intro @encId.eq_1 (And.intro e1 (And.intro e2 (And.intro e3 (And.intro e4 (And.intro e5 (And.intro e6 e7)))))))))) (encId_okRow y) (by first | omega | (simp; done) | (simp [spare_len]; omega)) (fun cap' hcap' => ?_)
          refine go (And.intro h0 (And.intro h3 (And.intro h5 (And.intro h6 (And.intro h7 (And.intro hh0 (And.intro hhb (And.intro hr (And.intro hmm (And.intro @encId.eq_1 (And.intro e1 (And.intro e2 (And.intro e3 (And.intro e4 (And.intro e5 (And.intro e6 (And.intro e7 (And.intro e8 e9)))))))))))))))))) ?_
          have hc2 : out.length + 1 ≤ cap' := hcap'
          have hfin : (out ++ [y] ++ [m]) ++ raF (v.drop (i + 1)) y true = raddF v x := by rw [List.append_assoc, List.append_assoc]; exact hf4
          have hl1 : (out ++ [y] ++ [m]).length = out.length + 1 + 1 := by simp
          have hs0 := spare_len 2 (cap' - (out.length + [encId y].length))
          clear hf4
          refine x_appendO rfl rfl rfl rfl rfl rfl (sv (And.intro @encId.eq_1 (And.intro e1 (And.intro e2 (And.intro e3 (And.intro e4 (And.intro e5 (And.intro e6 (And.intro e7 (And.intro e8 (And.intro e9 (And.intro d1 (And.intro d2 (And.intro d3 d4)))))))))))))) (by decide) (sc (And.intro @encId.eq_1 (And.intro e1 (And.intro e2 (And.intro e3 (And.intro e4 (And.intro e5 (And.intro e6 (And.intro e7 (And.intro e8 (And.intro e9 (And.intro d1 (And.intro d2 (And.intro d3 d4)))))))))))))) (sv (And.intro @encId.eq_1 (And.intro e1 (And.intro e2 (And.intro e3 (And.intro e4 (And.intro e5 (And.intro e6 (And.intro e7 (And.intro e8 (And.intro e9 (And.intro d1 (And.intro d2 (And.intro d3 d4)))))))))))))) (sx (And.intro @encId.eq_1 (And.intro e1 (And.intro e2 (And.intro e3 (And.intro e4 (And.intro e5 (And.intro e6 (And.intro e7 (And.intro e8 (And.intro e9 (And.intro d1 (And.intro d2 (And.intro d3 d4)))))))))))))) (by first | rfl | (simp; done) | (simp [spare_len]; omega)) (by first | omega | (simp; done) | (simp [spare_len]; omega)) (by first | omega | (simp; done) | (simp [spare_len]; omega)) (sx (And.intro @encId.eq_1 (And.intro e1 (And.intro e2 (And.intro e3 (And.intro e4 (And.intro e5 (And.intro e6 (And.intro e7 (And.intro e8 (And.intro e9 (And.intro d1 (And.intro d2 (And.intro d3 d4)))))))))))))) (encId_okRow m) (by first | omega | (simp; done) | (simp [spare_len]; omega)) (fun cap' hcap' => ?_)
          refine go (And.intro h0 (And.intro h3 (And.intro h5 (And.intro h6 (And.intro h7 (And.intro hh0 (And.intro hhb (And.intro hr (And.intro hmm (And.intro @encId.eq_1 (And.intro e1 (And.intro e2 (And.intro e3 (And.intro e4 (And.intro e5 (And.intro e6 (And.intro e7 (And.intro e8 (And.intro e9 (And.intro d1 (And.intro d2 (And.intro d3 d4)))))))))))))))))))))) ?_
          have hc3 : out.length + 1 + 1 ≤ cap' := hcap'
          have hs1 := spare_len 2 (cap' - (out.length + 1 + 1))
          (refine ⟨⟨i + 1, n + 1 + 1 + 1, cap', out ++ [y] ++ [m], spare 2 (cap' - (out.length + 1 + 1)), y, true, ?_, ?_, ?_, ?_, ?_, ?_, ?_, ?_, ?_, ?_, ?_, ?_, ?_, ?_⟩, ?_⟩ <;> (first | omega | (dsimp only; omega) | (first | omega | assumption | (simp [*]; done)) | exact sxa (And.intro @cast_succ (And.intro @encId.eq_1 (And.intro hl1 (And.intro @map_snoc (And.intro e1 (And.intro e2 (And.intro e3 (And.intro e4 (And.intro e5 (And.intro e6 (And.intro e7 (And.intro e8 (And.intro e9 (And.intro d1 (And.intro d2 (And.intro d3 d4)))))))))))))))) | exact soa trivial))
        · rw [c1, c2] at hf4
          simp only [Bool.or_false, Bool.not_false, Bool.not_true, Bool.and_false, if_true, Bool.false_eq_true, if_false] at hf4
          have hfin : (out ++ [m]) ++ raF (v.drop (i + 1)) y true = raddF v x := by rw [List.append_assoc]; exact hf4
          have hl1 : (out ++ [m]).length = out.length + 1 := by simp
          refine go (And.intro h0 (And.intro h3 (And.intro h5 (And.intro h6 (And.intro h7 (And.intro hh0 (And.intro hhb (And.intro hr (And.intro hmm (And.intro @encId.eq_1 (And.intro c1 (And.intro c2 (And.intro e1 (And.intro e2 (And.intro e3 (And.intro e4 (And.intro e5 (And.intro e6 e7)))))))))))))))))) ?_
          refine x_appendO rfl rfl rfl rfl rfl rfl (sv (And.intro h5 (And.intro hhb (And.intro @encId.eq_1 (And.intro e1 (And.intro e2 (And.intro e3 (And.intro e4 (And.intro e5 (And.intro e6 e7)))))))))) (by decide) (sc (And.intro h5 (And.intro hhb (And.intro @encId.eq_1 (And.intro e1 (And.intro e2 (And.intro e3 (And.intro e4 (And.intro e5 (And.intro e6 e7)))))))))) (sv (And.intro h5 (And.intro hhb (And.intro @encId.eq_1 (And.intro e1 (And.intro e2 (And.intro e3 (And.intro e4 (And.intro e5 (And.intro e6 e7)))))))))) (sx (And.intro h5 (And.intro hhb (And.intro @encId.eq_1 (And.intro e1 (And.intro e2 (And.intro e3 (And.intro e4 (And.intro e5 (And.intro e6 e7)))))))))) (by first | rfl | (simp; done) | (simp [spare_len]; omega)) (by first | omega | (simp; done) | (simp [spare_len]; omega)) (by first | omega | (simp; done) | (simp [spare_len]; omega)) (sx (And.intro h5 (And.intro hhb (And.intro @encId.eq_1 (And.intro e1 (And.intro e2 (And.intro e3 (And.intro e4 (And.intro e5 (And.intro e6 e7)))))))))) (encId_okRow m) (by first | omega | (simp; done) | (simp [spare_len]; omega)) (fun cap' hcap' => ?_)
          refine go (And.intro h0 (And.intro h3 (And.intro h5 (And.intro h6 (And.intro h7 (And.intro hh0 (And.intro hhb (And.intro hr (And.intro hmm (And.intro @encId.eq_1 (And.intro e1 (And.intro e2 (And.intro e3 (And.intro e4 (And.intro e5 (And.intro e6 e7)))))))))))))))) ?_
          have hc2 : out.length + 1 ≤ cap' := hcap'
          have hs1 := spare_len 2 (cap' - (out.length + 1))
          clear hf4
          (refine ⟨⟨i + 1, n + 1, cap', out ++ [m], spare 2 (cap' - (out.length + 1)), y, true, ?_, ?_, ?_, ?_, ?_, ?_, ?_, ?_, ?_, ?_, ?_, ?_, ?_, ?_⟩, ?_⟩ <;> (first | omega | (dsimp only; omega) | (first | omega | assumption | (simp [*]; done)) | exact sxa (And.intro @cast_succ (And.intro @encId.eq_1 (And.intro hl1 (And.intro @map_snoc (And.intro e1 (And.intro e2 (And.intro e3 (And.intro e4 (And.intro e5 (And.intro e6 e7)))))))))) | exact soa trivial))
      · rw [c1, c2] at hf4
        simp only [Bool.or_false, Bool.not_true, Bool.false_and, Bool.false_eq_true, if_false] at hf4
        have hfin : (out ++ [m]) ++ raF (v.drop (i + 1)) y laid = raddF v x := by rw [List.append_assoc]; exact hf4
        have hl1 : (out ++ [m]).length = out.length + 1 := by simp
        refine go (And.intro h0 (And.intro h3 (And.intro h5 (And.intro h6 (And.intro h7 (And.intro hh0 (And.intro hhb (And.intro hr (And.intro hmm (And.intro @encId.eq_1 (And.intro c1 (And.intro c2 (And.intro e1 (And.intro e2 (And.intro e3 (And.intro e4 (And.intro e5 (And.intro e6 e7)))))))))))))))))) ?_
        refine x_appendO rfl rfl rfl rfl rfl rfl (sv (And.intro h5 (And.intro hhb (And.intro @encId.eq_1 (And.intro e1 (And.intro e2 (And.intro e3 (And.intro e4 (And.intro e5 (And.intro e6 e7)))))))))) (by decide) (sc (And.intro h5 (And.intro hhb (And.intro @encId.eq_1 (And.intro e1 (And.intro e2 (And.intro e3 (And.intro e4 (And.intro e5 (And.intro e6 e7)))))))))) (sv (And.intro h5 (And.intro hhb (And.intro @encId.eq_1 (And.intro e1 (And.intro e2 (And.intro e3 (And.intro e4 (And.intro e5 (And.intro e6 e7)))))))))) (sx (And.intro h5 (And.intro hhb (And.intro @encId.eq_1 (And.intro e1 (And.intro e2 (And.intro e3 (And.intro e4 (And.intro e5 (And.intro e6 e7)))))))))) (by first | rfl | (simp; done) | (simp [spare_len]; omega)) (by first | omega | (simp; done) | (simp [spare_len]; omega)) (by first | omega | (simp; done) | (simp [spare_len]; omega)) (sx (And.intro h5 (And.intro hhb (And.intro @encId.eq_1 (And.intro e1 (And.intro e2 (And.intro e3 (And.intro e4 (And.intro e5 (And.intro e6 e7)))))))))) (encId_okRow m) (by first | omega | (simp; done) | (simp [spare_len]; omega)) (fun cap' hcap' => ?_)
        refine go (And.intro h0 (And.intro h3 (And.intro h5 (And.intro h6 (And.intro h7 (And.intro hh0 (And.intro hhb (And.intro hr (And.intro hmm (And.intro @encId.eq_1 (And.intro e1 (And.intro e2 (And.intro e3 (And.intro e4 (And.intro e5 (And.intro e6 e7)))))))))))))))) ?_
        have hc2 : out.length + 1 ≤ cap' := hcap'
        have hs1 := spare_len 2 (cap' - (out.length + 1))
        clear hf4
        (refine ⟨⟨i + 1, n + 1, cap', out ++ [m], spare 2 (cap' - (out.length + 1)), y, laid, ?_, ?_, ?_, ?_, ?_, ?_, ?_, ?_, ?_, ?_, ?_, ?_, ?_, ?_⟩, ?_⟩ <;> (first | omega | (dsimp only; omega) | (first | omega | assumption | (simp [*]; done)) | exact sxa (And.intro @cast_succ (And.intro @encId.eq_1 (And.intro hl1 (And.intro @map_snoc (And.intro e1 (And.intro e2 (And.intro e3 (And.intro e4 (And.intro e5 (And.intro e6 e7)))))))))) | exact soa trivial))
    · rw [c1] at hf4
      simp only [if_true] at hf4
      by_cases c3 : y.n < m.n
      · rw [if_pos c3] at hf4
        refine go (And.intro h0 (And.intro h3 (And.intro h5 (And.intro h6 (And.intro h7 (And.intro hh0 (And.intro hhb (And.intro hr (And.intro hmm (And.intro @encId.eq_1 (And.intro c1 (And.intro c3 (And.intro e1 (And.intro e2 (And.intro e3 (And.intro e4 (And.intro e5 (And.intro e6 e7)))))))))))))))))) ?_
        (refine ⟨⟨i + 1, b, cap, out, sp, m, laid, ?_, ?_, ?_, ?_, ?_, ?_, ?_, ?_, ?_, ?_, ?_, ?_, ?_, ?_⟩, ?_⟩ <;> (first | omega | (dsimp only; omega) | ((exact hf4)) | exact sxa (And.intro @cast_succ (And.intro @encId.eq_1 (And.intro e1 (And.intro e2 (And.intro e3 (And.intro e4 (And.intro e5 (And.intro e6 e7)))))))) | exact soa trivial))
      · rw [if_neg c3] at hf4
        refine go (And.intro h0 (And.intro h3 (And.intro h5 (And.intro h6 (And.intro h7 (And.intro hh0 (And.intro hhb (And.intro hr (And.intro hmm (And.intro @encId.eq_1 (And.intro c1 (And.intro c3 (And.intro e1 (And.intro e2 (And.intro e3 (And.intro e4 (And.intro e5 (And.intro e6 e7)))))))))))))))))) ?_
        (refine ⟨⟨i + 1, b, cap, out, sp, y, laid, ?_, ?_, ?_, ?_, ?_, ?_, ?_, ?_, ?_, ?_, ?_, ?_, ?_, ?_⟩, ?_⟩ <;> (first | omega | (dsimp only; omega) | ((exact hf4)) | exact sxa (And.intro @cast_succ (And.intro @encId.eq_1 (And.intro e1 (And.intro e2 (And.intro e3 (And.intro e4 (And.intro e5 (And.intro e6 e7)))))))) | exact soa trivial))
  · have e : i = v.length := by omega
    subst e
    rw [List.drop_length, raF] at hf4
    have e5 : (0 = n) = False := by simp <;> omega
    have e1 : (b = n) = False := by simp <;> omega
    have e2 : (b = n + 1) = False := by simp <;> omega
    have e3 : (n = b) = False := by simp <;> omega
    have e7 : (0 = b) = False := by simp <;> omega
    cases laid
    · refine go (And.intro h0 (And.intro h3 (And.intro h5 (And.intro h6 (And.intro h7 (And.intro hh0 (And.intro hhb (And.intro @encId.eq_1 (And.intro e1 (And.intro e2 (And.intro e3 (And.intro e5 e7)))))))))))) ?_
      refine x_appendO rfl rfl rfl rfl rfl rfl (sv (And.intro h5 (And.intro hhb (And.intro @encId.eq_1 (And.intro e1 (And.intro e2 (And.intro e3 (And.intro e5 e7)))))))) (by decide) (sc (And.intro h5 (And.intro hhb (And.intro @encId.eq_1 (And.intro e1 (And.intro e2 (And.intro e3 (And.intro e5 e7)))))))) (sv (And.intro h5 (And.intro hhb (And.intro @encId.eq_1 (And.intro e1 (And.intro e2 (And.intro e3 (And.intro e5 e7)))))))) (sx (And.intro h5 (And.intro hhb (And.intro @encId.eq_1 (And.intro e1 (And.intro e2 (And.intro e3 (And.intro e5 e7)))))))) (by first | rfl | (simp; done) | (simp [spare_len]; omega)) (by first | omega | (simp; done) | (simp [spare_len]; omega)) (by first | omega | (simp; done) | (simp [spare_len]; omega)) (sx (And.intro h5 (And.intro hhb (And.intro @encId.eq_1 (And.intro e1 (And.intro e2 (And.intro e3 (And.intro e5 e7)))))))) (encId_okRow y) (by first | omega | (simp; done) | (simp [spare_len]; omega)) (fun cap' hcap' => ?_)
      have hc2 : out.length + 1 ≤ cap' := hcap'
      refine go (And.intro h0 (And.intro h3 (And.intro h5 (And.intro h6 (And.intro h7 (And.intro hh0 (And.intro hhb (And.intro @encId.eq_1 (And.intro e1 (And.intro e2 (And.intro e3 (And.intro e5 e7)))))))))))) ?_
      simp only [Bool.false_eq_true, if_false] at hf4
      rw [← hf4, map_snoc]
      have hl : (out ++ [y]).length = out.length + 1 := by simp
      have hdp : ∀ r ∈ out.map encId ++ [encId y], ∀ q ∈ r, deepc q = true := by have := deepId (out ++ [y]); rwa [map_snoc] at this
      refine x_done (x_outL (sp := spare 2 (cap' - (out.length + 1))) (sr (And.intro @Tryd.f19.eq_1 (And.intro h5 @encId.eq_1))) (sx trivial) (by simp) hdp)
    · refine go (And.intro h0 (And.intro h3 (And.intro h5 (And.intro h6 (And.intro h7 (And.intro hh0 hhb)))))) ?_
      simp only [if_true, List.append_nil] at hf4
      rw [← hf4]
      refine x_done (x_outL (sp := sp) (sr (And.intro @Tryd.f19.eq_1 h5)) (sx hhb) (by simp) (deepId _))
end Go.Proofs.YtfpijfedodljfaaDoor

/- What an argument of a law reads as, as a value of the abstract machine; what a law's statement asks for behind its contract. -/
set_option linter.unusedVariables false
set_option linter.unusedSimpArgs false
namespace Go.Proofs.YtfpijfedodljfaaDoor.Am
open Go Go.RowKit Go.ChangeShapes Go.WideShapes

/-- A measure of readings. -/
structure Bulk where
  bk : {H : Type} → DataW H → Nat
  bks : {H : Type} → List (DataW H) → Nat
  str : ∀ {H : Type} (b : List UInt8), bk (.lit (.string b) : DataW H) = b.length + 1
  sl : ∀ {H : Type} (e s : List (DataW H)), bk (.slice e s) = bks e + bks s + 1
  agg : ∀ {H : Type} (e : List (DataW H)), bk (.agg e) = bks e + 1
  pos : ∀ {H : Type} (d : DataW H), 1 ≤ bk d
  nil : ∀ {H : Type}, bks ([] : List (DataW H)) = 0
  cons : ∀ {H : Type} (d : DataW H) (r : List (DataW H)), bks (d :: r) = bk d + bks r
theorem Bulk.len (B : Bulk) {H : Type} : ∀ l : List (DataW H), l.length ≤ B.bks l
  | [] => by simp
  | d :: r => by have := B.len r; have := B.pos d; rw [B.cons]; simp; omega
theorem Bulk.mem (B : Bulk) {H : Type} : ∀ (l : List (DataW H)) (d : DataW H), d ∈ l → B.bk d ≤ B.bks l
  | [], d, h => by cases h
  | e :: r, d, h => by
    rw [B.cons]
    rcases List.mem_cons.1 h with rfl | h
    · omega
    · have := B.mem r d h; omega

def okAll (w : World) (k : Nat) : Prop := k < w.heap.size
/-- A type whose readings are values a, laid out by enc; bd: what their measure bounds. -/
def Opn {α : Type} (B : Bulk) (P : Program) (t : TypeId) (enc : α → List V) (bd : α → Nat → Prop) : Prop :=
  (∀ a m m', m ≤ m' → bd a m → bd a m') ∧
  ∀ {H : Type} (en : TypeId × Value → H) (w : World) (base fuel : Nat) (cs : List Value) (x : DataW H × List MemPlace), DataW.trod en P w base (fun _ => true) true fuel t cs = some x →
    ∃ a : α, (enc a).length = cs.length ∧ (∀ j, j < cs.length → Dp w (okAll w) ((enc a).getD j .undef) (cs.getD j Go.undef)) ∧ bd a (B.bk x.1)
section
variable {B : Bulk} {P : Program} {t : TypeId} {α β : Type}
theorem one_cell {w : World} {v : V} {x : Value} (h : Dp w (okAll w) v x) : ∀ j, j < [x].length → Dp w (okAll w) ([v].getD j .undef) ([x].getD j Go.undef) := by
  intro j hj
  have : j = 0 := by simpa using hj
  subst this
  exact h
def encInt (k : IntKind) (n : Int) : List V := [.s (.int k n)]
def bdInt (k : IntKind) (n : Int) (_ : Nat) : Prop := (Lit.int k n).wf = true
theorem Opn.int {k : IntKind} (ht : P.underlying t = some (.int k)) : Opn B P t (encInt k) (bdInt k) := by
  refine ⟨fun _ _ _ _ h => h, fun en w base fuel cs x h => ?_⟩
  obtain ⟨n, rfl, rfl, hw⟩ := DataW.trod_int ht h
  exact ⟨n, rfl, one_cell (.s _ rfl), hw⟩
def encStr (s : ByteArray) : List V := [.s (.string s)]
def bdStr (s : ByteArray) (m : Nat) : Prop := s.size < m
theorem Opn.str (ht : P.underlying t = some .string) : Opn B P t encStr bdStr := by
  refine ⟨fun _ _ _ hm h => Nat.lt_of_lt_of_le h hm, fun en w base fuel cs x h => ?_⟩
  obtain ⟨s, rfl, rfl, hw⟩ := DataW.trod_string ht h
  refine ⟨s, rfl, one_cell (.s _ rfl), ?_⟩
  show s.size < B.bk (.lit (.string s.data.toList))
  rw [B.str, Array.length_toList]
  exact Nat.lt_succ_self _
def encBool (b : Bool) : List V := [.s (.bool b)]
def bdBool (_ : Bool) (_ : Nat) : Prop := True
theorem Opn.bool (ht : P.underlying t = some .bool) : Opn B P t encBool bdBool := by
  refine ⟨fun _ _ _ _ h => h, fun en w base fuel cs x h => ?_⟩
  obtain ⟨b, rfl, rfl⟩ := DataW.trod_bool ht h
  exact ⟨b, rfl, one_cell (.s _ rfl), trivial⟩
def encSl (enc : α → List V) (l : List α) : List V := [.sl (l.map enc)]
def bdSl (bd : α → Nat → Prop) (l : List α) (m : Nat) : Prop := l.length < m ∧ ∀ a ∈ l, bd a m
theorem Opn.slice {e z : Nat} {enc : α → List V} {bd : α → Nat → Prop} [Inhabited α] (ht : P.underlying t = some (.slice e)) (hc : P.cellsOf e = z) (hz : 0 < z) (hl : ∀ a, (enc a).length = z) (ho : Opn B P e enc bd) : Opn B P t (encSl enc) (bdSl bd) := by
  refine ⟨fun l m m' hm h => ⟨Nat.lt_of_lt_of_le h.1 hm, fun a ha => ho.1 a m m' hm (h.2 a ha)⟩, fun en w base fuel cs x h => ?_⟩
  rcases Go.Deep.open_slice ht h with ⟨rfl, rfl⟩ | ⟨a, len, cap, m, n, D, Pl, rfl, hb, hlc, hm, hmm, rfl, hel⟩
  · exact ⟨[], rfl, one_cell (Dp.nil _ _), B.pos _, by simp⟩
  · simp only [if_true] at hmm
    obtain rfl : cap = m := hmm.symm
    have hex : ∀ i, i < len → ∃ q : List Value × α, w.cells? base (a.add (i * z)) z = some q.1 ∧ (enc q.2).length = q.1.length ∧ (∀ j, j < q.1.length → Dp w (okAll w) ((enc q.2).getD j .undef) (q.1.getD j Go.undef)) ∧ bd q.2 (B.bk (D i)) := by
      intro i hi
      obtain ⟨cs', h1, h2⟩ := hel i (by omega)
      rw [hc] at h1
      obtain ⟨b, h3, h4, h5⟩ := ho.2 en w base n cs' _ h2
      exact ⟨(cs', b), h1, h3, h4, h5⟩
    obtain ⟨f, hf⟩ := Go.Deep.choose_lt (α := List Value × α) hex
    have hlen : ∀ i, i < len → (f i).1.length = z := fun i hi => by have := (hf i hi).2.1; rw [hl] at this; exact this.symm
    have hcell : ∀ i j, i < len → j < z → w.cell? (a.add (i * z + j)) = some ((f i).1.getD j Go.undef) := by
      intro i j hi hj
      obtain ⟨_, g1, g2⟩ := World.cells?_some (hf i hi).1
      have := g2 j hj
      rw [Go.Deep.add_add] at this
      rw [this]
      have hj' : j < (f i).1.length := by rw [hlen i hi]; exact hj
      simp [hj']
    refine ⟨(List.range len).map fun i => (f i).2, rfl, one_cell ?_, ?_⟩
    · refine .sl _ len cap z (some a) (fun i j => (f i).1.getD j Go.undef) (by simp) hlc ?_ ?_ ?_
      · intro r hr
        simp only [List.mem_map] at hr
        obtain ⟨q, _, rfl⟩ := hr
        exact hl q
      · intro hn
        refine ⟨a, rfl, ?_, hcell⟩
        have := hcell 0 0 (by omega) hz
        have := World.block_lt_of_cell? w _ this
        rwa [add_block] at this
      · intro i j hi hj
        have h1 : (((List.range len).map fun i => (f i).2).map enc).getD i [] = enc (f i).2 := by simp [List.getD_eq_getElem?_getD, hi]
        rw [h1]
        exact (hf i hi).2.2.1 j (by rw [hlen i hi]; exact hj)
    · have hbk : ∀ i, i < len → B.bk (D i) ≤ B.bk (.slice ((List.range len).map D) ((List.range (cap - len)).map fun j => D (len + j))) := by
        intro i hi
        rw [B.sl]
        have := B.mem ((List.range len).map D) (D i) (List.mem_map.2 ⟨i, List.mem_range.2 hi, rfl⟩)
        omega
      refine ⟨?_, fun b hb => ?_⟩
      · have := B.len ((List.range len).map D)
        show _ < B.bk (.slice ((List.range len).map D) _)
        rw [B.sl]
        simp at this ⊢
        omega
      · simp only [List.mem_map, List.mem_range] at hb
        obtain ⟨i, hi, rfl⟩ := hb
        exact ho.1 _ _ _ (hbk i hi) (hf i hi).2.2.2
/-- Fields from a place on. -/
def OpnF {α : Type} (B : Bulk) (P : Program) (fs : List Field) (off tot : Nat) (enc : α → List V) (bd : α → Nat → Prop) : Prop :=
  (∀ a m m', m ≤ m' → bd a m → bd a m') ∧
  ∀ {H : Type} (en : TypeId × Value → H) (w : World) (base n : Nat) (cs : List Value) (xs : List (DataW H × List MemPlace)), cs.length = tot → xs.length = fs.length →
    (∀ (i : Nat) (f : Field), fs[i]? = some f → DataW.trod en P w base (fun _ => true) true n f.type ((cs.drop f.offset).take (P.cellsOf f.type)) = xs[i]?) →
    ∃ a : α, off + (enc a).length = tot ∧ (∀ j, j < (enc a).length → Dp w (okAll w) ((enc a).getD j .undef) (cs.getD (off + j) Go.undef)) ∧ bd a (B.bks (xs.map (·.1)))
theorem OpnF.nil {off : Nat} : OpnF B P [] off off (fun _ : Unit => []) (fun _ _ => True) :=
  ⟨fun _ _ _ _ h => h, fun en w base n cs xs _ _ _ => ⟨(), by simp, by simp, trivial⟩⟩
theorem OpnF.cons {f : Field} {fs : List Field} {off tot z : Nat} {enc : α → List V} {bd : α → Nat → Prop} {enc2 : β → List V} {bd2 : β → Nat → Prop} (hoff : f.offset = off) (hz : P.cellsOf f.type = z) (hl : ∀ a, (enc a).length = z)
    (h1 : Opn B P f.type enc bd) (h2 : OpnF B P fs (off + z) tot enc2 bd2) : OpnF B P (f :: fs) off tot (fun p : α × β => enc p.1 ++ enc2 p.2) (fun p m => bd p.1 m ∧ bd2 p.2 m) := by
  refine ⟨fun a m m' hm h => ⟨h1.1 _ _ _ hm h.1, h2.1 _ _ _ hm h.2⟩, fun en w base n cs xs hcs hxs hel => ?_⟩
  cases xs with
  | nil => simp at hxs
  | cons x xs =>
    have e0 := hel 0 f rfl
    simp only [List.getElem?_cons_zero] at e0
    rw [hoff, hz] at e0
    obtain ⟨a, a1, a2, a3⟩ := h1.2 en w base n _ _ e0
    obtain ⟨b, b1, b2, b3⟩ := h2.2 en w base n cs xs hcs (by simpa using hxs) (fun i g hg => by
      have := hel (i + 1) g (by simpa using hg)
      simpa using this)
    have hlen : z = min z (cs.length - off) := by rw [hl] at a1; simpa using a1
    refine ⟨(a, b), by simp [hl]; omega, fun j hj => ?_, ?_⟩
    · by_cases hjz : j < z
      · have g1 : (enc a ++ enc2 b).getD j .undef = (enc a).getD j .undef := by simp [List.getD_eq_getElem?_getD, List.getElem?_append_left (show j < (enc a).length by rw [hl]; exact hjz)]
        have g2 := a2 j (by simp; omega)
        have g3 : ((cs.drop off).take z).getD j Go.undef = cs.getD (off + j) Go.undef := by simp [List.getD_eq_getElem?_getD, List.getElem?_take, hjz]
        rw [g3] at g2
        show Dp w (okAll w) ((enc a ++ enc2 b).getD j .undef) _
        rw [g1]; exact g2
      · have hj' : j - z < (enc2 b).length := by simp [hl] at hj; omega
        have g1 : (enc a ++ enc2 b).getD j .undef = (enc2 b).getD (j - z) .undef := by simp [List.getD_eq_getElem?_getD, List.getElem?_append_right (show (enc a).length ≤ j by rw [hl]; omega), hl]
        have g2 := b2 (j - z) hj'
        rw [show off + z + (j - z) = off + j by omega] at g2
        show Dp w (okAll w) ((enc a ++ enc2 b).getD j .undef) _
        rw [g1]; exact g2
    · simp only [List.map_cons, B.cons]
      exact ⟨h1.1 _ _ _ (by omega) a3, h2.1 _ _ _ (by omega) b3⟩
theorem Opn.struct {fs : Array Field} {enc : α → List V} {bd : α → Nat → Prop} (ht : P.underlying t = some (.struct fs)) (h : OpnF B P fs.toList 0 (P.cellsOf t) enc bd) : Opn B P t enc bd := by
  refine ⟨h.1, fun en w base fuel cs x hx => ?_⟩
  obtain ⟨xs, n, rfl, rfl, hlen, hxs, hel⟩ := DataW.trod_struct ht hx
  obtain ⟨a, a1, a2, a3⟩ := h.2 en w base n cs xs hlen (by simpa using hxs) (fun i f hf => hel i f (by simpa using hf))
  refine ⟨a, by omega, fun j hj => ?_, ?_⟩
  · have := a2 j (by omega)
    simpa using this
  · show bd a (B.bk (.agg (xs.map (·.1))))
    rw [B.agg]
    exact h.1 _ _ _ (by omega) a3
theorem Opn.map {enc : α → List V} {bd : α → Nat → Prop} {enc2 : β → List V} {bd2 : β → Nat → Prop} (f : α → β) (h : Opn B P t enc bd) (he : ∀ a, enc2 (f a) = enc a) (hb : ∀ a m, bd a m → bd2 (f a) m) (hm : ∀ b m m', m ≤ m' → bd2 b m → bd2 b m') : Opn B P t enc2 bd2 := by
  refine ⟨hm, fun en w base fuel cs x hx => ?_⟩
  obtain ⟨a, a1, a2, a3⟩ := h.2 en w base fuel cs x hx
  exact ⟨f a, by rw [he]; exact a1, by rw [he]; exact a2, hb _ _ a3⟩

/-- One argument. -/
theorem Opn.one {H : Type} {en : TypeId × Value → H} {w : World} {base : Nat} {d : DataW H} {ps : List MemPlace} {fv : Nat → Value} {v : Value} {enc : α → List V} {bd : α → Nat → Prop} (h : Opn B P t enc bd) (hl : ∀ a, (enc a).length = 1) (hv : v.cells = #[v])
    (ht : DataW.Trod en P w base (fun _ => true) true t v d ps) : ∃ a, Rp fv w (okAll w) noMu ((enc a).getD 0 .undef) v ∧ bd a (B.bk d) := by
  obtain ⟨fuel, ht⟩ := ht
  rw [hv] at ht
  obtain ⟨a, a1, a2, a3⟩ := h.2 en w base fuel _ _ ht
  exact ⟨a, (a2 0 (by simp)).R, a3⟩
theorem Opn.arg {H : Type} {en : TypeId × Value → H} {w : World} {base : Nat} {d : DataW H} {ps : List MemPlace} {fv : Nat → Value} {v : Value} {cs : Array Value} {enc : α → List V} {bd : α → Nat → Prop} (h : Opn B P t enc bd) (hv : v = .agg cs)
    (ht : DataW.Trod en P w base (fun _ => true) true t v d ps) : ∃ a, Rp fv w (okAll w) noMu (.agg (enc a)) v ∧ bd a (B.bk d) := by
  obtain ⟨fuel, ht⟩ := ht
  subst hv
  obtain ⟨a, a1, a2, a3⟩ := h.2 en w base fuel _ _ ht
  refine ⟨a, .agg _ _ (by rw [a1]; simp [Value.cells]) fun i hi => ?_, a3⟩
  have hi' : i < cs.size := by rw [a1] at hi; simpa [Value.cells] using hi
  have := (a2 i (by rw [a1] at hi; exact hi)).R (fvals := fv) (μ := noMu)
  simpa [Value.cells] using this
theorem okWide_agg {w : World} {r : Go.Reach} {b0 : Nat} {fs : Array Field} {v : Value} (ht : P.underlying t = some (.struct fs)) (h : Value.okWide P w r b0 t v) : ∃ cs, v = .agg cs := by
  unfold Value.okWide at h
  rw [ht] at h
  obtain ⟨cs, rfl, _⟩ := h
  exact ⟨cs, rfl⟩
theorem okWide_one {w : World} {r : Go.Reach} {b0 : Nat} {v : Value} (ht : (∃ k, P.underlying t = some (.int k)) ∨ P.underlying t = some .string ∨ P.underlying t = some .bool ∨ ∃ e, P.underlying t = some (.slice e)) (h : Value.okWide P w r b0 t v) : v.cells = #[v] := by
  unfold Value.okWide at h
  rcases ht with ⟨k, ht⟩ | ht | ht | ⟨e, ht⟩ <;> (rw [ht] at h; simp only [Cell.okWide, ht, Cell.ok] at h; cases v <;> simp_all [Value.cells])
end

section
variable {H : Type} {en : TypeId × Value → H} {P : Program} {W W' : World}
theorem trodAll_below (hl : laidOutB P = true) (hb : Below W.heap.size W W') : ∀ {ts : List TypeId} {vs : List Value} {ds : List (DataW H)} {ps : List MemPlace}, (∀ t ∈ ts, P.readableRec t = true ∧ t < P.types.size) →
    DataW.TrodAll en P W 0 (fun _ => true) true ts vs ds ps → DataW.TrodAll en P W' 0 (fun b => decide (b < W.heap.size)) true ts vs ds ps
  | [], vs, ds, ps, _, h => by
    obtain ⟨rfl, rfl, rfl⟩ := trodAll_nil h
    exact trodAll_mk0
  | t :: ts, vs, ds, ps, ht, h => by
    obtain ⟨v, vs1, d, ds1, a, b, rfl, rfl, rfl, h1, h2⟩ := trodAll_cons h
    have g := ht t (by simp)
    exact trodAll_cons_mk (Below.trod hl g.1 g.2 h1 hb (by obtain ⟨m, hm⟩ := h1; exact DataW.trod_lt m _ _ _ hm)) (trodAll_below hl hb (fun t' ht' => ht t' (by simp [ht'])) h2)
/-- What a law's statement asks for behind the call: it returned true and turned nothing that was there. -/
theorem row_post {fn : Func} {s : ChangeSpec} {args : Array Value} {ds gs : List (DataW H)} {before : List MemPlace} {tb : TypeId} (hl : laidOutB P = true) (hts : ∀ t ∈ fn.params.toList, P.readableRec t = true ∧ t < P.types.size)
    (hW : DataW.Whole en P fn.params.toList s.vars false W args.toList ds gs before) (hv : s.vars = []) (hb : Below W.heap.size W W') (hr : fn.resultTypes = #[tb]) (htb : P.underlying tb = some .bool)
    (hs : s.fn H (ds ++ gs) = { results := [.lit (.bool true)], args := ds }) : s.post en P fn false true false false W args (.bool true) W' := by
  have hW' := hW
  obtain ⟨p, q, hA, hV, rfl, hfz, hnd⟩ := hW
  rw [hv] at hV
  obtain ⟨rfl, rfl⟩ := trodVars_none hV
  refine ⟨ds, [], _, [], p, [], hW', ?_, ?_, ?_, hb.frame _, fun h => by cases h⟩
  · rw [hr, hs]
    exact trodAll_mk1 (shut_bool htb _)
  · rw [hs]
    exact trodAll_below hl hb hts hA
  · rw [hs, hv]
    rfl
theorem Sound.row {f : FuncId} {fn : Func} {s : ChangeSpec} {args : Array Value} {ds gs : List (DataW H)} {before : List MemPlace} {tb : TypeId} {F : Fspec} {vs : List V} (hS : Sound P f F) (hl : laidOutB P = true) (hI : ∀ w1, Fr W w1 (fun _ => False) → WInv P w1) (hts : ∀ t ∈ fn.params.toList, P.readableRec t = true ∧ t < P.types.size)
    (hW : DataW.Whole en P fn.params.toList s.vars false W args.toList ds gs before) (hv : s.vars = []) (hr : fn.resultTypes = #[tb]) (htb : P.underlying tb = some .bool)
    (hs : s.fn H (ds ++ gs) = { results := [.lit (.bool true)], args := ds }) (ha : ArgsR (fun _ => Go.undef) W (okAll W) vs args) (hF : F (fun _ => none) vs (.s (.bool true))) :
    Calls P f args W fun e W' => ∃ v, e = .returned v ∧ s.post en P fn false true false false W args v W' := by
  refine (hS ⟨P, W, okAll W, fun _ => False, fun _ => Go.undef, hI⟩ (fun _ => none) vs (.s (.bool true)) args rfl (fun _ h => h) (fun _ h => h) (fun k S h => by cases h) hF ha).mono ?_
  rintro e W' ⟨x, rfl, hb, hR⟩
  have := (hR fun _ => Go.undef).s_eq.1
  subst this
  exact ⟨_, rfl, row_post hl hts hW hv hb hr htb hs⟩
end
end Go.Proofs.YtfpijfedodljfaaDoor.Am

/- slices.overlaps at two blocks of the call's own: it answers no. -/
set_option linter.unusedVariables false
set_option linter.unusedSimpArgs false
namespace Go.Proofs.YtfpijfedodljfaaDoor.Am
open Go Go.RowKit

def overT (z : Nat) : Pt := fun _ args σ K => ∃ (b off len cap b2 off2 len2 cap2 : Nat) (B B2 : Blk), args = [.loc b off len cap, .loc b2 off2 len2 cap2] ∧ b ≠ b2 ∧ σ.h b = some B ∧ σ.h b2 = some B2 ∧ B.wr = true ∧ B.size = z ∧ B2.size = z ∧ off < B.rows.length ∧ off2 < B2.rows.length ∧ 0 < len ∧ 0 < len2 ∧ K (.s (.bool false)) σ
theorem shape_of_cell {w : World} {k o : Nat} {x : Value} (h : w.cell? ⟨k, o, none⟩ = some x) : ∃ t n, w.shape? k = some (t, n) ∧ n ≠ 0 := by
  unfold World.cell? at h
  unfold World.shape?
  simp only at h
  split at h
  · rename_i cs t fr hh
    refine ⟨t, cs.size, by simp [hh], fun e => ?_⟩
    have : cs = #[] := Array.eq_empty_of_size_eq_zero e
    subst this
    simp at h
  · cases h
theorem overT_sound {P : Program} {f : FuncId} {fn : Func} {tS tR e : TypeId} {z : Nat} (hf : P.funcs[f]? = some fn) (hname : (fn.name == "runtime.NumGoroutine") = false)
    (hb : fn.body.isNone = true) (hn : Extern.findNext fn = none) (he : Extern.find fn = some (Extern.SlicesOverlaps.overlaps #[tS, tS] #[tR])) (ht : P.underlying tS = some (.slice e)) (hz : szo P e = some z) (h0 : 0 < z) (h1 : z ≠ 1) : SoundT P f (overT z) := by
  rintro c Φ h n μ w args vals t K hc hΦ H hl ha ⟨b, off, len, cap, b2, off2, len2, cap2, B, B2, rfl, hne, hB, hB2, hw, hs, hs2, ho, ho2, hlen, hlen2, hK⟩
  have g0 := ha 0 (by simp)
  have g1 := ha 1 (by simp)
  have r0 : R c h μ w (.loc b off len cap) (vals.getD 0 Go.undef) := g0
  have r1 : R c h μ w (.loc b2 off2 len2 cap2) (vals.getD 1 Go.undef) := g1
  obtain ⟨_, ⟨k, base, size, m1, e1⟩ | ⟨q0, _⟩⟩ := r0.loc_inv
  case inr => omega
  obtain ⟨_, ⟨k2, base2, size2, m2, e2⟩ | ⟨q0, _⟩⟩ := r1.loc_inv
  case inr => omega
  have hv : vals = #[vals.getD 0 Go.undef, vals.getD 1 Go.undef] := by
    apply Array.ext
    · simpa using hl
    · intro i g1 g2
      have g3 : i < 2 := by simpa using g2
      have : i = 0 ∨ i = 1 := by omega
      rcases this with rfl | rfl <;> simp [g1]
  rw [e1, e2] at hv
  obtain ⟨a1, x1, c1, f1, _⟩ := H.at hB m1 ho (show 0 < B.size by omega)
  obtain ⟨a2, x2, c2, f2, _⟩ := H.at hB2 m2 ho2 (show 0 < B2.size by omega)
  have hk : k ≠ k2 := fun e => by
    subst e
    exact hne (H.inj b b2 B B2 k base size base2 size2 hB hB2 hw m1 m2)
  obtain ⟨tA, nA, s1, n1⟩ := shape_of_cell c1
  obtain ⟨tB, nB, s2, n2⟩ := shape_of_cell c2
  subst hv
  refine .inr ⟨.bool false, w, ?_, _, h, n, μ, hK, H, Ext.refl _ _ _ _, .s _ rfl⟩
  rw [run_callFunc_extern hf hname hb hn he, Lib.run_overlaps_apart w tS tR e ht z (fun w => run_size hz) ⟨k, base + off * size, none⟩ ⟨k2, base2 + off2 * size2, none⟩ len cap len2 cap2 hk tA tB nA nB s1 s2 n2 (f1 _ (.inl (by omega))) (f1 _ (.inl (by omega)))]
  rfl
end Go.Proofs.YtfpijfedodljfaaDoor.Am

set_option linter.unusedVariables false
set_option linter.unusedSimpArgs false
set_option maxRecDepth 100000
set_option maxHeartbeats 8000000
namespace Go.Proofs.YtfpijfedodljfaaDoor
open Go Go.RowKit Am

/-- slices.Insert of one row into a row of the call's own. -/
def insT (z : Nat) : Pt := fun _ args σ K => ∃ (b cap b2 : Nat) (rows sp : List (List V)) (i : Nat) (x : List V), args = [.loc b 0 rows.length cap, .s (.int .i64 i), .loc b2 0 1 1] ∧ i ≤ rows.length ∧ rows.length ≤ 1099511627776 ∧ b ≠ b2 ∧ b < σ.n ∧ b2 < σ.n ∧
  σ.h b = some ⟨z, rows ++ sp, true⟩ ∧ cap = rows.length + sp.length ∧ σ.h b2 = some ⟨z, [x], true⟩ ∧ okRows z rows ∧ okRows z [x] ∧
  ∀ (b' cap' n' : Nat) (h' : Hp) (sp' : List (List V)), b' < n' → σ.n ≤ n' → h' b' = some ⟨z, rows.take i ++ [x] ++ rows.drop i ++ sp', true⟩ → cap' = rows.length + 1 + sp'.length → (∀ k, k < σ.n → k ≠ b → h' k = σ.h k) → (b' = b ∨ σ.n ≤ b') → K (.loc b' 0 (rows.length + 1) cap') ⟨σ.t, h', n'⟩
theorem okRows_take {z : Nat} {r : List (List V)} (m : Nat) (h : okRows z r) : okRows z (r.take m) := fun q hq => h q (List.mem_of_mem_take hq)
theorem okRows_drop {z : Nat} {r : List (List V)} (m : Nat) (h : okRows z r) : okRows z (r.drop m) := fun q hq => h q (List.mem_of_mem_drop hq)
theorem okRows_rep (z m : Nat) (c : List V) (h : c.length = z ∧ ∀ q ∈ c, cellish q = true) : okRows z (List.replicate m c) := fun q hq => by rw [(List.mem_replicate.1 hq).2]; exact h
theorem ins_grow {α : Type} (rows sp : List α) (x : α) (Zs S : List α) (i : Nat) (hi : i < rows.length) (hz : Zs.length = rows.length + 1 - i) :
    (((rows ++ sp).take i ++ Zs ++ S).take i ++ [x].take 1 ++ ((rows ++ sp).take i ++ Zs ++ S).drop (i + 1)).take (i + 1) ++ (rows.drop i).take (rows.length - i) ++ (((rows ++ sp).take i ++ Zs ++ S).take i ++ [x].take 1 ++ ((rows ++ sp).take i ++ Zs ++ S).drop (i + 1)).drop (i + 1 + (rows.length - i)) = rows.take i ++ [x] ++ rows.drop i ++ S := by
  have h1 : (rows ++ sp).take i = rows.take i := List.take_append_of_le_length (by omega)
  rw [h1]
  have hA : (rows.take i).length = i := by simp; omega
  generalize rows.take i = A at *
  have hD : (rows.drop i).take (rows.length - i) = rows.drop i := List.take_of_length_le (by simp)
  rw [hD]
  generalize rows.drop i = D at *
  have e1 : (A ++ Zs ++ S).take i = A := by rw [List.append_assoc, List.take_append_of_le_length (by omega), List.take_of_length_le (by omega)]
  have e2 : (A ++ Zs ++ S).drop (i + 1) = Zs.drop 1 ++ S := by
    rw [List.append_assoc, List.drop_append, List.drop_of_length_le (by omega), List.nil_append, List.drop_append_of_le_length (by omega)]
    congr 2; omega
  rw [e1, e2]
  have e3 : (A ++ [x].take 1 ++ (Zs.drop 1 ++ S)).take (i + 1) = A ++ [x] := by
    have : (A ++ [x].take 1).length = i + 1 := by simp [hA]
    rw [List.take_append_of_le_length (by omega), List.take_of_length_le (by omega)]
    simp
  have e4 : (A ++ [x].take 1 ++ (Zs.drop 1 ++ S)).drop (i + 1 + (rows.length - i)) = S := by
    have h2 : (A ++ [x].take 1 ++ Zs.drop 1).length = i + 1 + (rows.length - i) := by simp [hA]; omega
    rw [← List.append_assoc, ← h2]
    simp
  rw [e3, e4]
theorem ins_place {α : Type} (rows sp : List α) (x : α) (i : Nat) (hi : i < rows.length) (hs : 0 < sp.length) :
    ((rows ++ sp).take (i + 1) ++ (((rows ++ sp).drop i).take (rows.length + 1 - i)).take (rows.length - i) ++ (rows ++ sp).drop (i + 1 + (rows.length - i))).take i ++ [x].take 1 ++ ((rows ++ sp).take (i + 1) ++ (((rows ++ sp).drop i).take (rows.length + 1 - i)).take (rows.length - i) ++ (rows ++ sp).drop (i + 1 + (rows.length - i))).drop (i + 1) = rows.take i ++ [x] ++ rows.drop i ++ sp.drop 1 := by
  have h1 : (((rows ++ sp).drop i).take (rows.length + 1 - i)).take (rows.length - i) = rows.drop i := by
    rw [List.take_take, show min (rows.length - i) (rows.length + 1 - i) = rows.length - i by omega, List.drop_append_of_le_length (by omega), List.take_append_of_le_length (by simp), List.take_of_length_le (by simp)]
  have h2 : (rows ++ sp).drop (i + 1 + (rows.length - i)) = sp.drop 1 := by
    rw [List.drop_append, List.drop_of_length_le (by omega), List.nil_append]
    congr 1; omega
  have h3 : (rows ++ sp).take (i + 1) = rows.take (i + 1) := List.take_append_of_le_length (by omega)
  rw [h1, h2, h3]
  have hA : (rows.take (i + 1)).length = i + 1 := by simp; omega
  have e1 : (rows.take (i + 1) ++ rows.drop i ++ sp.drop 1).take i = rows.take i := by
    rw [List.append_assoc, List.take_append_of_le_length (by omega), List.take_take]
    congr 1; omega
  have e2 : (rows.take (i + 1) ++ rows.drop i ++ sp.drop 1).drop (i + 1) = rows.drop i ++ sp.drop 1 := by
    rw [List.append_assoc, List.drop_append, List.drop_of_length_le (by omega), List.nil_append, hA]
    simp
  rw [e1, e2]
  simp
theorem insI_sound {plain : TypeId → Bool} {Γ : FuncId → Option Fspec} {Δ : FuncId → Option Pt} (hE : EnvOk ⟨Tryd.prog, plain, Γ, Δ, fun _ => none, 0⟩) (hO : Δ 48 = some (overT 2)) : SoundT Tryd.prog 36 (insT 2) := by
  refine inl_sound hE Tryd.func36 rfl (by kernel_rfl) (by kernel_rfl) ?_
  rintro Φ args t0 h0 n0 K ⟨b, cap, b2, rows, sp, i, x, rfl, hi, hlen, hne, hbn, hb2n, hb, rfl, hb2, hok, hokx, hK⟩
  simp only at hbn hb2n hb hb2 hK
  refine ⟨by simp [Tryd.f36], ?_⟩
  refine W.out (E := ⟨Tryd.prog, plain, Γ, Δ, Φ, _⟩) ?_
  have e1 : (b = n0) = False := by simp; omega
  have e2 : (b2 = n0) = False := by simp; omega
  have e3 : (b2 = b) = False := by simp; omega
  have e4 : (b = b2) = False := by simp; omega
  have e5 : (((1 : Nat) : Int) == 0) = false := rfl
  have e6 : (b = n0 + 1) = False := by simp; omega
  have e7 : (b2 = n0 + 1) = False := by simp; omega
  by_cases h1 : i = rows.length
  · subst h1
    refine go (And.intro hb (And.intro hb2 (And.intro e1 (And.intro e2 (And.intro e3 (And.intro e4 e5)))))) ?_
    refine x_appendO rfl rfl rfl rfl rfl rfl (sv (And.intro hb (And.intro hb2 (And.intro e1 (And.intro e2 (And.intro e3 (And.intro e4 e5))))))) (by decide) (sc (And.intro hb (And.intro hb2 (And.intro e1 (And.intro e2 (And.intro e3 (And.intro e4 e5))))))) (sv (And.intro hb (And.intro hb2 (And.intro e1 (And.intro e2 (And.intro e3 (And.intro e4 e5))))))) (sx (And.intro hb (And.intro hb2 (And.intro e1 (And.intro e2 (And.intro e3 (And.intro e4 e5))))))) (by first | rfl | (simp; done) | (simp [spare_len]; omega)) (by first | omega | (simp; done) | (simp [spare_len]; omega)) (by first | omega | (simp; done) | (simp [spare_len]; omega)) (sx (And.intro hb (And.intro hb2 (And.intro e1 (And.intro e2 (And.intro e3 (And.intro e4 e5))))))) hokx (by first | omega | (simp; done) | (simp [spare_len]; omega)) (fun cap' hcap' => ?_)
    refine go (And.intro hb (And.intro hb2 (And.intro e1 (And.intro e2 (And.intro e3 (And.intro e4 e5)))))) ?_
    refine x_inl (sr @Tryd.f36.eq_1) ?_
    refine hK n0 cap' (n0 + 1) _ (spare 2 (cap' - (rows.length + 1))) (by omega) (by omega) ?_ (by simp [spare_len] at hcap' ⊢; omega) ?_ (.inr (Nat.le_refl _))
    · simp [upd_at]
    · intro k k1 k2
      have k3 : k ≠ n0 := by omega
      simp [upd_at, k2, k3]
  · have e8 : ((i : Int) == (rows.length : Int)) = false := by simp; omega
    have c1 : ((rows.length : Int) + ((1 : Nat) : Int)) = ((rows.length + 1 : Nat) : Int) := by omega
    have c2 : (((rows.length + 1 : Nat) : Int) - (i : Int)) = ((rows.length + 1 - i : Nat) : Int) := by omega
    have c3 : ((i : Int) + ((1 : Nat) : Int)) = ((i + 1 : Nat) : Int) := by omega
    have c4 : i + (rows.length + 1 - i) = rows.length + 1 := by omega
    have c5 : rows.length + 1 - (i + 1) = rows.length - i := by omega
    have c6 : ((rows ++ sp).drop i).take (rows.length - i) = rows.drop i := by rw [List.drop_append_of_le_length (by omega), List.take_append_of_le_length (by simp), List.take_of_length_le (by simp)]
    have c7 : min (rows.length - i) (rows.length - i) = rows.length - i := Nat.min_self _
    have c8 : min 1 (rows.length + 1 - i) = 1 := by omega
    have c11 : (rows ++ sp).length = rows.length + sp.length := List.length_append
    have c10 : min (rows.length - i) (rows.length + 1 - i) = rows.length - i := by omega
    have c9 : min (rows.length + 1 - i) (rows.length - i) = rows.length - i := by omega
    refine go (And.intro hb (And.intro hb2 (And.intro e1 (And.intro e2 (And.intro e3 (And.intro e4 (And.intro e5 (And.intro e6 (And.intro e7 (And.intro e8 (And.intro c1 (And.intro c2 (And.intro c3 (And.intro c4 (And.intro c5 (And.intro c6 c11)))))))))))))))) ?_
    refine x_condP (sv (And.intro hb (And.intro hb2 (And.intro e1 (And.intro e2 (And.intro e3 (And.intro e4 (And.intro e5 (And.intro e6 (And.intro e7 (And.intro e8 (And.intro c1 (And.intro c2 (And.intro c3 (And.intro c4 (And.intro c5 (And.intro c6 c11))))))))))))))))) (fun hc => ?_) (fun hc => ?_)
    · have h2 : sp.length = 0 := by omega
      have h3 : (rows ++ sp).length = rows.length := by simp [h2]
      refine go (And.intro hb (And.intro hb2 (And.intro e1 (And.intro e2 (And.intro e3 (And.intro e4 (And.intro e5 (And.intro e6 (And.intro e7 (And.intro e8 (And.intro c1 (And.intro c2 (And.intro c3 (And.intro c4 (And.intro c5 (And.intro c6 c11)))))))))))))))) ?_
      refine x_appendZ rfl rfl rfl rfl rfl rfl (sc (And.intro hb (And.intro hb2 (And.intro e1 (And.intro e2 (And.intro e3 (And.intro e4 (And.intro e5 (And.intro e6 (And.intro e7 (And.intro e8 (And.intro c1 (And.intro c2 (And.intro c3 (And.intro c4 (And.intro c5 (And.intro c6 c11))))))))))))))))) (sv (And.intro hb (And.intro hb2 (And.intro e1 (And.intro e2 (And.intro e3 (And.intro e4 (And.intro e5 (And.intro e6 (And.intro e7 (And.intro e8 (And.intro c1 (And.intro c2 (And.intro c3 (And.intro c4 (And.intro c5 (And.intro c6 c11))))))))))))))))) (by decide) (sc (And.intro hb (And.intro hb2 (And.intro e1 (And.intro e2 (And.intro e3 (And.intro e4 (And.intro e5 (And.intro e6 (And.intro e7 (And.intro e8 (And.intro c1 (And.intro c2 (And.intro c3 (And.intro c4 (And.intro c5 (And.intro c6 c11))))))))))))))))) (sv (And.intro hb (And.intro hb2 (And.intro e1 (And.intro e2 (And.intro e3 (And.intro e4 (And.intro e5 (And.intro e6 (And.intro e7 (And.intro e8 (And.intro c1 (And.intro c2 (And.intro c3 (And.intro c4 (And.intro c5 (And.intro c6 c11))))))))))))))))) (sv (And.intro hb (And.intro hb2 (And.intro e1 (And.intro e2 (And.intro e3 (And.intro e4 (And.intro e5 (And.intro e6 (And.intro e7 (And.intro e8 (And.intro c1 (And.intro c2 (And.intro c3 (And.intro c4 (And.intro c5 (And.intro c6 c11))))))))))))))))) (sx (And.intro hb (And.intro hb2 (And.intro e1 (And.intro e2 (And.intro e3 (And.intro e4 (And.intro e5 (And.intro e6 (And.intro e7 (And.intro e8 (And.intro c1 (And.intro c2 (And.intro c3 (And.intro c4 (And.intro c5 (And.intro c6 c11))))))))))))))))) (by rfl) (by rfl) (by first | omega | (simp; done) | (simp [spare_len]; omega)) (by first | omega | (simp; done) | (simp [spare_len]; omega)) (by first | omega | (simp; done) | (simp [spare_len]; omega)) (by first | omega | (simp; done) | (simp [spare_len]; omega)) (fun cap' hcap' => ?_)
      refine go (And.intro hb (And.intro hb2 (And.intro e1 (And.intro e2 (And.intro e3 (And.intro e4 (And.intro e5 (And.intro e6 (And.intro e7 (And.intro e8 (And.intro c1 (And.intro c2 (And.intro c3 (And.intro c4 (And.intro c5 (And.intro c6 c11)))))))))))))))) ?_
      refine x_copy rfl rfl rfl rfl rfl rfl (sv (And.intro hb (And.intro hb2 (And.intro e1 (And.intro e2 (And.intro e3 (And.intro e4 (And.intro e5 (And.intro e6 (And.intro e7 (And.intro e8 (And.intro c1 (And.intro c2 (And.intro c3 (And.intro c4 (And.intro c5 (And.intro c6 c11))))))))))))))))) (by decide) (sv (And.intro hb (And.intro hb2 (And.intro e1 (And.intro e2 (And.intro e3 (And.intro e4 (And.intro e5 (And.intro e6 (And.intro e7 (And.intro e8 (And.intro c1 (And.intro c2 (And.intro c3 (And.intro c4 (And.intro c5 (And.intro c6 c11))))))))))))))))) (sx (And.intro hb (And.intro hb2 (And.intro e1 (And.intro e2 (And.intro e3 (And.intro e4 (And.intro e5 (And.intro e6 (And.intro e7 (And.intro e8 (And.intro c1 (And.intro c2 (And.intro c3 (And.intro c4 (And.intro c5 (And.intro c6 c11))))))))))))))))) (okRows_take _ hokx) (sx (And.intro hb (And.intro hb2 (And.intro e1 (And.intro e2 (And.intro e3 (And.intro e4 (And.intro e5 (And.intro e6 (And.intro e7 (And.intro e8 (And.intro c1 (And.intro c2 (And.intro c3 (And.intro c4 (And.intro c5 (And.intro c6 c11))))))))))))))))) (by rfl) (by rfl) (by first | omega | (simp; done) | (simp [spare_len]; omega)) ?_
      refine go (And.intro hb (And.intro hb2 (And.intro e1 (And.intro e2 (And.intro e3 (And.intro e4 (And.intro e5 (And.intro e6 (And.intro e7 (And.intro e8 (And.intro c1 (And.intro c2 (And.intro c3 (And.intro c4 (And.intro c5 (And.intro c6 c11)))))))))))))))) ?_
      refine x_copy rfl rfl rfl rfl rfl rfl (sv (And.intro hb (And.intro hb2 (And.intro e1 (And.intro e2 (And.intro e3 (And.intro e4 (And.intro e5 (And.intro e6 (And.intro e7 (And.intro e8 (And.intro c1 (And.intro c2 (And.intro c3 (And.intro c4 (And.intro c5 (And.intro c6 c11))))))))))))))))) (by decide) (sv (And.intro hb (And.intro hb2 (And.intro e1 (And.intro e2 (And.intro e3 (And.intro e4 (And.intro e5 (And.intro e6 (And.intro e7 (And.intro e8 (And.intro c1 (And.intro c2 (And.intro c3 (And.intro c4 (And.intro c5 (And.intro c6 c11))))))))))))))))) (sx (And.intro hb (And.intro hb2 (And.intro e1 (And.intro e2 (And.intro e3 (And.intro e4 (And.intro e5 (And.intro e6 (And.intro e7 (And.intro e8 (And.intro c1 (And.intro c2 (And.intro c3 (And.intro c4 (And.intro c5 (And.intro c6 c11))))))))))))))))) (okRows_take _ (okRows_drop _ hok)) (sx (And.intro hb (And.intro hb2 (And.intro e1 (And.intro e2 (And.intro e3 (And.intro e4 (And.intro e5 (And.intro e6 (And.intro e7 (And.intro e8 (And.intro c1 (And.intro c2 (And.intro c3 (And.intro c4 (And.intro c5 (And.intro c6 c11))))))))))))))))) (by rfl) (by rfl) (by first | omega | (simp; done) | (simp [spare_len]; omega)) ?_
      refine go (And.intro hb (And.intro hb2 (And.intro e1 (And.intro e2 (And.intro e3 (And.intro e4 (And.intro e5 (And.intro e6 (And.intro e7 (And.intro e8 (And.intro c1 (And.intro c2 (And.intro c3 (And.intro c4 (And.intro c5 (And.intro c6 c11)))))))))))))))) ?_
      refine x_inl (sr @Tryd.f36.eq_1) ?_
      rw [c4] at hcap'
      refine hK n0 cap' (n0 + 1) _ (spare 2 (cap' - (rows.length + 1))) (by omega) (by omega) ?_ (by simp [spare_len]; omega) ?_ (.inr (Nat.le_refl _))
      · have key := ins_grow rows sp x (spare 2 (rows.length + 1 - i)) (spare 2 (cap' - (rows.length + 1))) i (by omega) (by simp [spare_len])
        rw [c6] at *
        simp only [upd_at, ↓reduceIte, List.length_cons, List.length_nil, Nat.zero_add, Nat.add_zero, c8, c4, c5, c7, List.length_drop] at key ⊢
        exact congrArg (fun r => some (⟨2, r, true⟩ : Blk)) key
      · intro k k1 k2
        have k3 : (k = n0) = False := by simp; omega
        simp only [upd_at, k3, if_false]
    · have h2 : 0 < sp.length := by omega
      have hok3 : okRows 2 ((((rows ++ sp).drop i).take (rows.length + 1 - i)).take (min (((rows ++ sp).drop i).take (rows.length + 1 - i)).length (rows.length - i))) := by
        have : min (((rows ++ sp).drop i).take (rows.length + 1 - i)).length (rows.length - i) = rows.length - i := by simp; omega
        rw [this, List.take_take, c10, List.drop_append_of_le_length (by omega), List.take_append_of_le_length (by simp), List.take_of_length_le (by simp)]
        exact okRows_drop _ hok
      refine go (And.intro hb (And.intro hb2 (And.intro e1 (And.intro e2 (And.intro e3 (And.intro e4 (And.intro e5 (And.intro e6 (And.intro e7 (And.intro e8 (And.intro c1 (And.intro c2 (And.intro c3 (And.intro c4 (And.intro c5 (And.intro c6 c11)))))))))))))))) ?_
      refine x_callI rfl rfl rfl rfl (sv (And.intro hb (And.intro hb2 (And.intro e1 (And.intro e2 (And.intro e3 (And.intro e4 (And.intro e5 (And.intro e6 (And.intro e7 (And.intro e8 (And.intro c1 (And.intro c2 (And.intro c3 (And.intro c4 (And.intro c5 (And.intro c6 c11))))))))))))))))) hO (sv (And.intro hb (And.intro hb2 (And.intro e1 (And.intro e2 (And.intro e3 (And.intro e4 (And.intro e5 (And.intro e6 (And.intro e7 (And.intro e8 (And.intro c1 (And.intro c2 (And.intro c3 (And.intro c4 (And.intro c5 (And.intro c6 c11))))))))))))))))) ⟨b2, 0, 1, 1, b, i + 1, rows.length - i, _, _, _, rfl, (Ne.symm hne), (sv (And.intro hb (And.intro hb2 (And.intro e1 (And.intro e2 (And.intro e3 (And.intro e4 (And.intro e5 (And.intro e6 (And.intro e7 (And.intro e8 (And.intro c1 (And.intro c2 (And.intro c3 (And.intro c4 (And.intro c5 (And.intro c6 c11))))))))))))))))), (sv (And.intro hb (And.intro hb2 (And.intro e1 (And.intro e2 (And.intro e3 (And.intro e4 (And.intro e5 (And.intro e6 (And.intro e7 (And.intro e8 (And.intro c1 (And.intro c2 (And.intro c3 (And.intro c4 (And.intro c5 (And.intro c6 c11))))))))))))))))), rfl, rfl, rfl, (by simp), (by simp; omega), Nat.zero_lt_one, (by omega), ?_⟩
      refine go (And.intro hb (And.intro hb2 (And.intro e1 (And.intro e2 (And.intro e3 (And.intro e4 (And.intro e5 (And.intro e6 (And.intro e7 (And.intro e8 (And.intro c1 (And.intro c2 (And.intro c3 (And.intro c4 (And.intro c5 (And.intro c6 c11)))))))))))))))) ?_
      refine x_copy rfl rfl rfl rfl rfl rfl (sv (And.intro hb (And.intro hb2 (And.intro e1 (And.intro e2 (And.intro e3 (And.intro e4 (And.intro e5 (And.intro e6 (And.intro e7 (And.intro e8 (And.intro c1 (And.intro c2 (And.intro c3 (And.intro c4 (And.intro c5 (And.intro c6 c11))))))))))))))))) (by decide) (sv (And.intro hb (And.intro hb2 (And.intro e1 (And.intro e2 (And.intro e3 (And.intro e4 (And.intro e5 (And.intro e6 (And.intro e7 (And.intro e8 (And.intro c1 (And.intro c2 (And.intro c3 (And.intro c4 (And.intro c5 (And.intro c6 c11))))))))))))))))) (sx (And.intro hb (And.intro hb2 (And.intro e1 (And.intro e2 (And.intro e3 (And.intro e4 (And.intro e5 (And.intro e6 (And.intro e7 (And.intro e8 (And.intro c1 (And.intro c2 (And.intro c3 (And.intro c4 (And.intro c5 (And.intro c6 c11))))))))))))))))) hok3 (sx (And.intro hb (And.intro hb2 (And.intro e1 (And.intro e2 (And.intro e3 (And.intro e4 (And.intro e5 (And.intro e6 (And.intro e7 (And.intro e8 (And.intro c1 (And.intro c2 (And.intro c3 (And.intro c4 (And.intro c5 (And.intro c6 c11))))))))))))))))) (by rfl) (by rfl) (by first | omega | (simp; done) | (simp [spare_len]; omega)) ?_
      refine go (And.intro hb (And.intro hb2 (And.intro e1 (And.intro e2 (And.intro e3 (And.intro e4 (And.intro e5 (And.intro e6 (And.intro e7 (And.intro e8 (And.intro c1 (And.intro c2 (And.intro c3 (And.intro c4 (And.intro c5 (And.intro c6 c11)))))))))))))))) ?_
      refine x_copy rfl rfl rfl rfl rfl rfl (sv (And.intro hb (And.intro hb2 (And.intro e1 (And.intro e2 (And.intro e3 (And.intro e4 (And.intro e5 (And.intro e6 (And.intro e7 (And.intro e8 (And.intro c1 (And.intro c2 (And.intro c3 (And.intro c4 (And.intro c5 (And.intro c6 c11))))))))))))))))) (by decide) (sv (And.intro hb (And.intro hb2 (And.intro e1 (And.intro e2 (And.intro e3 (And.intro e4 (And.intro e5 (And.intro e6 (And.intro e7 (And.intro e8 (And.intro c1 (And.intro c2 (And.intro c3 (And.intro c4 (And.intro c5 (And.intro c6 c11))))))))))))))))) (sx (And.intro hb (And.intro hb2 (And.intro e1 (And.intro e2 (And.intro e3 (And.intro e4 (And.intro e5 (And.intro e6 (And.intro e7 (And.intro e8 (And.intro c1 (And.intro c2 (And.intro c3 (And.intro c4 (And.intro c5 (And.intro c6 c11))))))))))))))))) (okRows_take _ hokx) (sx (And.intro hb (And.intro hb2 (And.intro e1 (And.intro e2 (And.intro e3 (And.intro e4 (And.intro e5 (And.intro e6 (And.intro e7 (And.intro e8 (And.intro c1 (And.intro c2 (And.intro c3 (And.intro c4 (And.intro c5 (And.intro c6 c11))))))))))))))))) (by rfl) (by rfl) (by first | omega | (simp; done) | (simp [spare_len]; omega)) ?_
      refine go (And.intro hb (And.intro hb2 (And.intro e1 (And.intro e2 (And.intro e3 (And.intro e4 (And.intro e5 (And.intro e6 (And.intro e7 (And.intro e8 (And.intro c1 (And.intro c2 (And.intro c3 (And.intro c4 (And.intro c5 (And.intro c6 c11)))))))))))))))) ?_
      refine x_inl (sr @Tryd.f36.eq_1) ?_
      refine hK b (rows.length + sp.length) n0 _ (sp.drop 1) hbn (Nat.le_refl _) ?_ (by simp; omega) ?_ (.inl rfl)
      · have key := ins_place rows sp x i (by omega) h2
        have c12 : (((rows ++ sp).drop i).take (rows.length + 1 - i)).length = rows.length + 1 - i := by simp; omega
        simp only [upd_at, ↓reduceIte, List.length_cons, List.length_nil, Nat.zero_add, Nat.add_zero, c12, c8, c9] at key ⊢
        exact congrArg (fun r => some (⟨2, r, true⟩ : Blk)) key
      · intro k k1 k2
        simp only [upd_at, k2, if_false]
end Go.Proofs.YtfpijfedodljfaaDoor

set_option linter.unusedVariables false
set_option linter.unusedSimpArgs false
set_option maxRecDepth 100000
set_option maxHeartbeats 8000000
namespace Go.Proofs.YtfpijfedodljfaaDoor
open Go Go.RowKit Am

theorem bsF_le (c : Nat → Int) (i j : Nat) (h : i ≤ j) : i ≤ bsF c i j ∧ bsF c i j ≤ j := by
  induction hd : j - i using Nat.strongRecOn generalizing i j with
  | _ d ih =>
    rw [bsF]
    split
    · rename_i hij
      split
      · have := ih (j - ((i + j) / 2 + 1)) (by omega) ((i + j) / 2 + 1) j (by omega) rfl
        omega
      · have := ih ((i + j) / 2 - i) (by omega) i ((i + j) / 2) (by omega) rfl
        omega
    · omega
def insAt {α : Type} (l : List α) (i : Nat) (x : α) : List α := l.take i ++ [x] ++ l.drop i
theorem insAt_map {α β : Type} (f : α → β) (l : List α) (i : Nat) (x : α) : (l.map f).take i ++ [f x] ++ (l.map f).drop i = (insAt l i x).map f := by simp [insAt]
theorem insAt_len {α : Type} (l : List α) (i : Nat) (x : α) : (insAt l i x).length = l.length + 1 := by simp [insAt]; omega
def maxId (y x : Idt) : Idt := ⟨y.a, if y.n < x.n then x.n else y.n⟩
def dId : Idt := ⟨⟨#[]⟩, 0⟩
def vaddF (v : List Idt) (x : Idt) : List Idt := if plHit v x.a then v.set (plPos v x.a) (maxId (v.getD (plPos v x.a) dId) x) else insAt v (plPos v x.a) x
def vaddS : Fspec := fun _ ds r => ∃ (v : List Idt) (x : Idt), v.length ≤ 1048576 ∧ ds = [encIds v, .agg (encId x)] ∧ r = .sl ((vaddF v x).map encId)
theorem row_at (v : List Idt) (sp : List (List Am.V)) (i : Nat) (h : i < v.length) : (v.map encId ++ sp).getD i [] = encId (v.getD i dId) := by
  rw [List.getD_eq_getElem?_getD, List.getElem?_append_left (by simpa using h), List.getElem?_map, List.getElem?_eq_getElem h, List.getD_eq_getElem?_getD, List.getElem?_eq_getElem h]
  rfl
theorem row_set (v : List Idt) (sp : List (List Am.V)) (i : Nat) (y : Idt) (h : i < v.length) : (v.map encId ++ sp).set i (encId y) = (v.set i y).map encId ++ sp := by
  rw [List.set_append_left _ _ (by simpa using h), List.map_set]
theorem vadd_sound {plain : TypeId → Bool} {Γ : FuncId → Option Fspec} {Δ : FuncId → Option Pt} (hE : EnvOk ⟨Tryd.prog, plain, Γ, Δ, fun _ => none, 0⟩) (g_cl : Γ 35 = some (weakS (cloneS encId 2))) (g_plac : Γ 30 = some placS) (hI : Δ 36 = some (insT 2)) : Sound Tryd.prog 17 vaddS := by
  refine sound_of_awp hE Tryd.func17 rfl (by kernel_rfl) ?_
  rintro Φ ds r ⟨v, x, hv, rfl, rfl⟩
  refine ⟨by simp [Tryd.f17], ?_⟩
  unfold st0 encIds
  refine W.out (E := ⟨Tryd.prog, plain, Γ, Δ, Φ, _⟩) ?_
  refine go @encId.eq_1 ?_
  refine x_callO rfl rfl rfl rfl (sv trivial) g_cl (sv trivial) (se trivial) (.inl ⟨v, by omega, rfl, rfl⟩) (by simp [touchA, touch]) (fun cap hcap => ?_)
  have hsl : (spare 2 (cap - (List.map encId v).length)).length = cap - v.length := by rw [spare_len, List.length_map]
  have hcap2 : v.length ≤ cap := by simpa using hcap
  generalize spare 2 (cap - (List.map encId v).length) = sp at *
  have tk : (v.map encId ++ sp).take v.length = v.map encId := List.take_left' (by simp)
  have ln : (v.map encId ++ sp).length = v.length + sp.length := by simp
  have hx1 : ∀ h d, allO (allO (expo h d)) (v.map encId) = some (v.map encId) := fun h d => allO_rows h d (deepId v)
  refine go @encId.eq_1 ?_
  refine x_callN rfl rfl rfl rfl (sv (And.intro tk (And.intro ln hx1))) g_plac (sv (And.intro tk (And.intro ln hx1))) (se (And.intro tk (And.intro ln hx1))) ⟨v, x.a, by omega, rfl, rfl⟩ rfl ?_
  have hp : plPos v x.a ≤ v.length := (bsF_le _ _ _ (Nat.zero_le _)).2
  cases hh : plHit v x.a
  · refine go (And.intro hh @encId.eq_1) ?_
    refine x_callI rfl rfl rfl rfl (sv trivial) hI (sv trivial) ⟨1, cap, 2, v.map encId, sp, plPos v x.a, encId x, (by rw [List.length_map]), (by rw [List.length_map]; exact hp), (by rw [List.length_map]; omega), by omega, by show 1 < 3; omega, by show 2 < 3; omega, (sx trivial), (by rw [List.length_map]; omega), (sx @encId.eq_1), okRowsId v, encId_okRow x, ?_⟩
    intro b' cap' n2 h2 sp2 hb2 hn3 hbb hcc hold2 hor
    rw [insAt_map, List.length_map] at *
    have hw : vaddF v x = insAt v (plPos v x.a) x := by rw [vaddF, hh]; rfl
    rw [← hw] at hbb
    have hwl : (vaddF v x).length = v.length + 1 := by rw [hw, insAt_len]
    refine go trivial ?_
    refine x_done (x_outL (sp := sp2) (rows := (vaddF v x).map encId) (sr @Tryd.f17.eq_1) hbb (by rw [List.length_map]; exact hwl) (deepId _))
  · have hlt : plPos v x.a < v.length := by
      simp only [plHit, bsHit, Bool.and_eq_true, decide_eq_true_eq] at hh
      exact hh.1
    have hw : vaddF v x = v.set (plPos v x.a) (maxId (v.getD (plPos v x.a) dId) x) := by rw [vaddF, hh]; rfl
    have gr := row_at v sp _ hlt
    have gs := row_set v sp _ (maxId (v.getD (plPos v x.a) dId) x) hlt
    rw [← hw] at gs
    have hwl : (vaddF v x).length = v.length := by rw [hw, List.length_set]
    generalize plPos v x.a = p at *
    generalize v.getD p dId = y at *
    have gs2 : (v.map encId ++ sp).set p [.s (.string y.a), .s (.int .i64 (if y.n < x.n then x.n else y.n))] = (vaddF v x).map encId ++ sp := gs
    have hlt2 : (p < v.length + sp.length) = True := by simp; omega
    refine go (And.intro hh (And.intro @encId.eq_1 (And.intro gr (And.intro ln (And.intro gs2 hlt2))))) ?_
    refine x_done (x_outL (sp := sp) (rows := (vaddF v x).map encId) (sr @Tryd.f17.eq_1) (sx (And.intro @encId.eq_1 (And.intro gr gs2))) (by rw [List.length_map]; exact hwl) (deepId _))
theorem vadd_len (v : List Idt) (x : Idt) : (vaddF v x).length ≤ v.length + 1 := by
  unfold vaddF
  split
  · rw [List.length_set]; omega
  · rw [insAt_len]; omega
def mergeF (a b : List Idt) : List Idt := b.foldl vaddF a
def mergeS : Fspec := fun _ ds r => ∃ a b : List Idt, a.length ≤ 500000 ∧ b.length ≤ 500000 ∧ ds = [encIds a, encIds b] ∧ r = .sl ((mergeF a b).map encId)
theorem merge_sound {plain : TypeId → Bool} {Γ : FuncId → Option Fspec} {Δ : FuncId → Option Pt} (hE : EnvOk ⟨Tryd.prog, plain, Γ, Δ, fun _ => none, 0⟩) (g_cl : Γ 35 = some (weakS (cloneS encId 2))) (g_vadd : Γ 17 = some vaddS) : Sound Tryd.prog 21 mergeS := by
  refine sound_of_awp hE Tryd.func21 rfl (by kernel_rfl) ?_
  rintro Φ ds r ⟨a, b, ha, hb, rfl, rfl⟩
  refine ⟨by simp [Tryd.f21], ?_⟩
  unfold st0 encIds
  refine W.out (E := ⟨Tryd.prog, plain, Γ, Δ, Φ, _⟩) ?_
  have hrb := encId_rows b
  refine go trivial ?_
  refine x_callS rfl rfl rfl rfl (sv trivial) g_cl (sv trivial) (se trivial) (.inr ⟨2, _, ⟨a, by omega, rfl, rfl⟩, rfl⟩) (by simp) (by simp [touchA, touch]) ?_
  refine go trivial ?_
  refine x_loop (fun σ => ∃ (i : Nat) (out : List Idt), σ.t 1 = .sl (b.map encId) ∧ σ.t 5 = .sl (out.map encId) ∧ σ.t 10 = .sl (b.map encId) ∧ σ.t 11 = .s (.int .i64 b.length) ∧ σ.t 12 = .s (.int .i64 i) ∧ i ≤ b.length ∧ out.length ≤ 500000 + i ∧ mergeF out (b.drop i) = mergeF a b) (fun σ => b.length - ix (σ.t 12)) ⟨0, a, (by first | assumption | exact sxa trivial), (by first | assumption | exact sxa trivial), (by first | assumption | exact sxa trivial), (by first | assumption | exact sxa trivial), (by first | assumption | exact sxa trivial), (by first | rfl | omega | assumption | (simp [*]; done)), (by first | rfl | omega | assumption | (simp [*]; done)), (by first | rfl | omega | assumption | (simp [*]; done))⟩ ?_
  rintro t h n ⟨i, out, h1, h5, h10, h11, h12, hf0, hf1, hf2⟩
  simp only at h1 h5 h10 h11 h12
  refine go (And.intro h1 (And.intro h5 (And.intro h10 (And.intro h11 h12)))) ?_
  refine x_condP (sv (And.intro h1 (And.intro h5 (And.intro h10 (And.intro h11 h12))))) (fun hc => ?_) (fun hc => ?_)
  · have hi : i < b.length := by omega
    rw [List.drop_eq_getElem_cons hi, mergeF, List.foldl_cons] at hf2
    have hl2 := vadd_len out b[i]
    generalize hmm : b[i] = m at *
    refine go (And.intro h1 (And.intro h5 (And.intro h10 (And.intro h11 (And.intro h12 (And.intro hrb (And.intro hmm @encId.eq_1))))))) ?_
    refine x_callS rfl rfl rfl rfl (sv @encId.eq_1) g_vadd (sv @encId.eq_1) (se @encId.eq_1) ⟨out, m, by omega, rfl, rfl⟩ (by simp) (by simp [touchA, touch]) ?_
    refine go (And.intro h1 (And.intro h5 (And.intro h10 (And.intro h11 (And.intro h12 (And.intro hrb (And.intro hmm @encId.eq_1))))))) ?_
    (refine ⟨⟨i + 1, vaddF out m, ?_, ?_, ?_, ?_, ?_, ?_, ?_, ?_⟩, ?_⟩ <;> (first | omega | (dsimp only; omega) | (first | omega | assumption | (simp [*]; done)) | exact sxa @cast_succ | exact soa trivial))
  · have e : i = b.length := by omega
    subst e
    rw [List.drop_length] at hf2
    have hf' : out = mergeF a b := hf2
    rw [← hf']
    refine go (And.intro h1 (And.intro h5 (And.intro h10 (And.intro h11 h12)))) ?_
    refine x_done (x_outV (sr (And.intro @Tryd.f21.eq_1 h5)) (by simp) (by simp) rfl)
theorem radd_len : ∀ (v : List Idt) (x : Idt) (laid : Bool), (raF v x laid).length ≤ v.length + 1
  | [], x, laid => by cases laid <;> simp [raF]
  | y :: v, x, laid => by
    rw [raF]
    split
    · have := radd_len v (if x.n < y.n then y else x) laid
      simp only [List.length_cons]; omega
    · split
      · have h2 : ∀ (v : List Idt) (x : Idt), (raF v x true).length ≤ v.length := by
          intro v
          induction v with
          | nil => intro x; simp [raF]
          | cons y v ih =>
            intro x
            rw [raF]
            split
            · have := ih (if x.n < y.n then y else x); simp only [List.length_cons]; omega
            · simp only [Bool.not_true, Bool.and_false, Bool.false_eq_true, if_false, List.length_cons]
              have := ih x
              omega
        have := h2 v x
        simp only [List.length_cons]; omega
      · have := radd_len v x laid
        simp only [List.length_cons]; omega
def rmaxF (a b : List Idt) : List Idt := b.foldl raddF a
def rmaxS : Fspec := fun _ ds r => ∃ a b : List Idt, a.length ≤ 500000 ∧ b.length ≤ 500000 ∧ ds = [encIds a, encIds b] ∧ r = .sl ((rmaxF a b).map encId)
theorem rmax_sound {plain : TypeId → Bool} {Γ : FuncId → Option Fspec} {Δ : FuncId → Option Pt} (hE : EnvOk ⟨Tryd.prog, plain, Γ, Δ, fun _ => none, 0⟩) (g_radd : Γ 19 = some raddS) : Sound Tryd.prog 22 rmaxS := by
  refine sound_of_awp hE Tryd.func22 rfl (by kernel_rfl) ?_
  rintro Φ ds r ⟨a, b, ha, hb, rfl, rfl⟩
  refine ⟨by simp [Tryd.f22], ?_⟩
  unfold st0 encIds
  refine W.out (E := ⟨Tryd.prog, plain, Γ, Δ, Φ, _⟩) ?_
  have hrb := encId_rows b
  refine go trivial ?_
  refine x_append rfl rfl rfl rfl rfl rfl (sv trivial) (by decide) (sc trivial) (sv trivial) (sx trivial) (okRowsId a) (sx trivial) (by first | rfl | (simp; done)) (by first | rfl | (simp; done)) (by first | omega | (simp; done) | (simp [spare_len]; omega)) (by first | omega | (simp; done) | (simp [spare_len]; omega)) (by first | omega | (simp; done) | (simp [spare_len]; omega)) (fun cap' hcap' => ?_)
  have hcap2 : a.length ≤ cap' := by simpa using hcap'
  have tk : (a.map encId ++ spare 2 (cap' - a.length)).take a.length = a.map encId := List.take_left' (by simp)
  have ln : (a.length ≤ (a.map encId ++ spare 2 (cap' - a.length)).length) = True := by simp
  have hx1 : ∀ h d, allO (allO (expo h d)) (a.map encId) = some (a.map encId) := fun h d => allO_rows h d (deepId a)
  refine go trivial ?_
  refine x_loopF 5 (.sl (a.map encId)) (fun σ => ∃ (i : Nat) (out : List Idt), σ.t 1 = .sl (b.map encId) ∧ σ.t 5 = .sl (out.map encId) ∧ σ.t 6 = .s (.int .i64 i) ∧ i ≤ b.length ∧ out.length ≤ 500000 + i ∧ rmaxF out (b.drop i) = rmaxF a b) (fun σ => b.length - ix (σ.t 6)) (se (And.intro tk (And.intro ln hx1))) (fun h2 hold => ⟨0, a, (by first | assumption | exact sxa trivial), (by first | assumption | exact sxa trivial), (by first | assumption | exact sxa trivial), (by first | rfl | omega | assumption | (simp [*]; done)), (by first | rfl | omega | assumption | (simp [*]; done)), (by first | rfl | omega | assumption | (simp [*]; done))⟩) ?_
  rintro t h n ⟨i, out, h1, h5, h6, hf0, hf1, hf2⟩
  simp only at h1 h5 h6
  refine go (And.intro h1 (And.intro h5 h6)) ?_
  refine x_condP (sv (And.intro h1 (And.intro h5 h6))) (fun hc => ?_) (fun hc => ?_)
  · have hi : i < b.length := by omega
    rw [List.drop_eq_getElem_cons hi, rmaxF, List.foldl_cons] at hf2
    have hl2 := radd_len out b[i] false
    generalize hmm : b[i] = m at *
    refine go (And.intro h1 (And.intro h5 (And.intro h6 (And.intro hrb (And.intro hmm @encId.eq_1))))) ?_
    refine x_callS rfl rfl rfl rfl (sv @encId.eq_1) g_radd (sv @encId.eq_1) (se @encId.eq_1) ⟨out, m, by omega, rfl, rfl⟩ (by simp) (by simp [touchA, touch]) ?_
    have hl3 : (raddF out m).length ≤ out.length + 1 := hl2
    refine go (And.intro h1 (And.intro h5 (And.intro h6 (And.intro hrb (And.intro hmm @encId.eq_1))))) ?_
    (refine ⟨⟨i + 1, raddF out m, ?_, ?_, ?_, ?_, ?_, ?_⟩, ?_⟩ <;> (first | omega | (dsimp only; omega) | (first | omega | assumption | (simp [*]; done)) | exact sxa @cast_succ | exact soa trivial))
  · have e : i = b.length := by omega
    subst e
    rw [List.drop_length] at hf2
    have hf' : out = rmaxF a b := hf2
    rw [← hf']
    refine go (And.intro h1 (And.intro h5 h6)) ?_
    refine x_done (x_outV (sr (And.intro @Tryd.f22.eq_1 h5)) (by simp) (by simp) rfl)
end Go.Proofs.YtfpijfedodljfaaDoor

set_option linter.unusedVariables false
set_option linter.unusedSimpArgs false
set_option maxRecDepth 100000
set_option maxHeartbeats 4000000
namespace Go.Proofs.YtfpijfedodljfaaDoor
open Go Go.RowKit Am

/-- A byte at a place, as a number. -/
def bAt (s : ByteArray) (i : Nat) : Int := ((byteAt s i).toNat : Int)
def badAt (s : ByteArray) (i : Nat) : Bool := !(decide (97 ≤ bAt s i) && decide (bAt s i ≤ 122)) && (decide (i = 0) || (decide (bAt s i < 48) || decide (57 < bAt s i)))
/-- The first n places from i on are good. -/
def goodFrom (s : ByteArray) : Nat → Nat → Bool
  | 0, _ => true
  | n + 1, i => !badAt s i && goodFrom s n (i + 1)
def authF (s : ByteArray) : Bool := goodFrom s s.size 0 && (decide (0 < (s.size : Int)) && decide ((s.size : Int) ≤ 24))
def authS : Fspec := fun _ ds r => ∃ s : ByteArray, s.size ≤ 1099511627776 ∧ ds = [.s (.string s)] ∧ r = .s (.bool (authF s))
theorem auth_sound {plain : TypeId → Bool} {Γ : FuncId → Option Fspec} {Δ : FuncId → Option Pt} (hE : EnvOk ⟨Tryd.prog, plain, Γ, Δ, fun _ => none, 0⟩) : Sound Tryd.prog 16 authS := by
  refine sound_of_awp hE Tryd.func16 rfl (by kernel_rfl) ?_
  rintro Φ ds r ⟨s, hs, rfl, rfl⟩
  refine ⟨by simp [Tryd.f16], ?_⟩
  unfold st0
  refine W.out (E := ⟨Tryd.prog, plain, Γ, Δ, Φ, _⟩) ?_
  refine go trivial ?_
  refine x_loop (fun σ => ∃ i : Nat, i ≤ s.size ∧ σ.t 0 = .s (.string s) ∧ σ.t 3 = .s (.int .i64 i) ∧ goodFrom s (s.size - i) i = goodFrom s s.size 0) (fun σ => s.size - ix (σ.t 3)) ⟨0, Nat.zero_le _, (sc trivial), (sc trivial), rfl⟩ ?_
  rintro t h n ⟨i, hi, h0, h3, hf⟩
  simp only at h0 h3
  refine go (And.intro h0 h3) ?_
  refine x_condP (sv trivial) (fun hc => ?_) (fun hc => ?_)
  · have hi' : i < s.size := by omega
    obtain ⟨m, hm⟩ : ∃ m, s.size - i = m + 1 := ⟨s.size - i - 1, by omega⟩
    rw [hm, goodFrom] at hf
    have e0 : ((i : Int) == 0) = decide (i = 0) := by rw [beq_eq_decide]; simp
    have eb : ((byteAt s i).toNat : Int) = bAt s i := rfl
    by_cases c1 : 97 ≤ bAt s i
    · by_cases c2 : bAt s i ≤ 122
      · have hb : badAt s i = false := by simp [badAt, c1, c2]
        rw [hb] at hf
        refine go (And.intro h0 (And.intro h3 (And.intro e0 (And.intro eb (And.intro c1 c2))))) ?_
        refine ⟨⟨i + 1, by omega, (sc h0), (sc (And.intro h3 @cast_succ)), by rw [show s.size - (i + 1) = m by omega]; simpa using hf⟩, ?_⟩
        exact so h3
      · skip
        by_cases c3 : i = 0
        · have c3' : (i = 0) = True := by simp [c3]
          · have hb : badAt s i = true := by simp [badAt, c1, c2, c3']
            rw [hb] at hf
            have hz : authF s = false := by simp only [authF, ← hf]; rfl
            refine go (And.intro h0 (And.intro h3 (And.intro e0 (And.intro eb (And.intro c1 (And.intro c2 c3')))))) ?_
            refine x_done (x_out (sr (And.intro @Tryd.f16.eq_1 hz)) (by simp) (by simp) rfl)
        · have c3' : (i = 0) = False := by simp [c3]
          by_cases c4 : bAt s i < 48
          · exact (by omega : False).elim
          · by_cases c5 : 57 < bAt s i
            · have hb : badAt s i = true := by simp [badAt, c1, c2, c3', c4, c5]
              rw [hb] at hf
              have hz : authF s = false := by simp only [authF, ← hf]; rfl
              refine go (And.intro h0 (And.intro h3 (And.intro e0 (And.intro eb (And.intro c1 (And.intro c2 (And.intro c3' (And.intro c4 c5)))))))) ?_
              refine x_done (x_out (sr (And.intro @Tryd.f16.eq_1 hz)) (by simp) (by simp) rfl)
            · exact (by omega : False).elim
    · skip
      by_cases c3 : i = 0
      · have c3' : (i = 0) = True := by simp [c3]
        · have hb : badAt s i = true := by simp [badAt, c1, c3']
          rw [hb] at hf
          have hz : authF s = false := by simp only [authF, ← hf]; rfl
          refine go (And.intro h0 (And.intro h3 (And.intro e0 (And.intro eb (And.intro c1 c3'))))) ?_
          refine x_done (x_out (sr (And.intro @Tryd.f16.eq_1 hz)) (by simp) (by simp) rfl)
      · have c3' : (i = 0) = False := by simp [c3]
        by_cases c4 : bAt s i < 48
        · have hb : badAt s i = true := by simp [badAt, c1, c3', c4]
          rw [hb] at hf
          have hz : authF s = false := by simp only [authF, ← hf]; rfl
          refine go (And.intro h0 (And.intro h3 (And.intro e0 (And.intro eb (And.intro c1 (And.intro c3' c4)))))) ?_
          refine x_done (x_out (sr (And.intro @Tryd.f16.eq_1 hz)) (by simp) (by simp) rfl)
        · by_cases c5 : 57 < bAt s i
          · have hb : badAt s i = true := by simp [badAt, c1, c3', c4, c5]
            rw [hb] at hf
            have hz : authF s = false := by simp only [authF, ← hf]; rfl
            refine go (And.intro h0 (And.intro h3 (And.intro e0 (And.intro eb (And.intro c1 (And.intro c3' (And.intro c4 c5))))))) ?_
            refine x_done (x_out (sr (And.intro @Tryd.f16.eq_1 hz)) (by simp) (by simp) rfl)
          · have hb : badAt s i = false := by simp [badAt, c1, c3', c4, c5]
            rw [hb] at hf
            refine go (And.intro h0 (And.intro h3 (And.intro e0 (And.intro eb (And.intro c1 (And.intro c3' (And.intro c4 c5))))))) ?_
            refine ⟨⟨i + 1, by omega, (sc h0), (sc (And.intro h3 @cast_succ)), by rw [show s.size - (i + 1) = m by omega]; simpa using hf⟩, ?_⟩
            exact so h3
  · have e : i = s.size := by omega
    subst e
    rw [Nat.sub_self, goodFrom] at hf
    by_cases d1 : 0 < (s.size : Int)
    · refine go (And.intro h0 (And.intro h3 d1)) ?_
      refine x_done (x_out (sr (And.intro @Tryd.f16.eq_1 (And.intro @authF.eq_1 (And.intro (hf).symm d1)))) (by simp) (by simp) rfl)
    · refine go (And.intro h0 (And.intro h3 d1)) ?_
      refine x_done (x_out (sr (And.intro @Tryd.f16.eq_1 (And.intro @authF.eq_1 (And.intro (hf).symm d1)))) (by simp) (by simp) rfl)
end Go.Proofs.YtfpijfedodljfaaDoor

set_option linter.unusedVariables false
set_option linter.unusedSimpArgs false
set_option maxRecDepth 100000
set_option maxHeartbeats 8000000
namespace Go.Proofs.YtfpijfedodljfaaDoor
open Go Go.RowKit Am

def idAt (v : List Idt) (i : Nat) : Idt := v[i]?.getD ⟨⟨#[]⟩, 0⟩
theorem idAt_lt (v : List Idt) {i : Nat} (h : i < v.length) : idAt v i = v[i] := by simp [idAt, h]
def chkAt (v : List Idt) (i : Nat) : Int :=
  if authF (idAt v i).a = false then 7 else if (idAt v i).n < 1 then 2 else
  if (decide (0 < i) && ((idAt v i).a.toList == (idAt v (i - 1)).a.toList)) = true then 8 else
  if (decide (0 < i) && Op.bytesLess (idAt v i).a.toList (idAt v (i - 1)).a.toList) = true then 3 else 0
def chkFrom (v : List Idt) : Nat → Nat → Int
  | 0, _ => 0
  | m + 1, i => if chkAt v i = 0 then chkFrom v m (i + 1) else chkAt v i
def chkF (v : List Idt) : Int := chkFrom v v.length 0
def chkS : Fspec := fun _ ds r => ∃ v : List Idt, v.length ≤ 1099511627776 ∧ (∀ x ∈ v, x.a.size ≤ 1099511627776) ∧ ds = [encIds v] ∧ r = .s (.int .i64 (chkF v))
theorem chk_sound {plain : TypeId → Bool} {Γ : FuncId → Option Fspec} {Δ : FuncId → Option Pt} (hE : EnvOk ⟨Tryd.prog, plain, Γ, Δ, fun _ => none, 0⟩) (g_auth : Γ 16 = some authS) : Sound Tryd.prog 26 chkS := by
  refine sound_of_awp hE Tryd.func26 rfl (by kernel_rfl) ?_
  rintro Φ ds r ⟨v, hv, hs, rfl, rfl⟩
  refine ⟨by simp [Tryd.f26], ?_⟩
  unfold st0 encIds
  refine W.out (E := ⟨Tryd.prog, plain, Γ, Δ, Φ, _⟩) ?_
  have hr := encId_rows v
  refine go trivial ?_
  refine x_loop (fun σ => ∃ i : Nat, i ≤ v.length ∧ σ.t 0 = .sl (v.map encId) ∧ σ.t 3 = .s (.int .i64 i) ∧ chkFrom v (v.length - i) i = chkFrom v v.length 0) (fun σ => v.length - ix (σ.t 3)) ⟨0, Nat.zero_le _, (sc trivial), (sc trivial), rfl⟩ ?_
  rintro t h n ⟨i, hi, h0, h3, hf⟩
  simp only at h0 h3
  refine go (And.intro h0 h3) ?_
  refine x_condP (sv trivial) (fun hc => ?_) (fun hc => ?_)
  · have hi' : i < v.length := by omega
    obtain ⟨m, hm⟩ : ∃ m, v.length - i = m + 1 := ⟨v.length - i - 1, by omega⟩
    rw [hm, chkFrom] at hf
    refine go (And.intro h0 (And.intro h3 (And.intro hr @encId.eq_1))) ?_
    refine x_callN rfl rfl rfl rfl (sv trivial) g_auth (sv trivial) (se trivial) ⟨v[i].a, hs _ (List.getElem_mem hi'), rfl, rfl⟩ rfl ?_
    have hat := idAt_lt v hi'
    have bad : ∀ q : Int, chkAt v i = q → q ≠ 0 → chkF v = q := fun q h1 h2 => by rw [h1, if_neg h2] at hf; exact hf.symm
    have good : chkAt v i = 0 → chkFrom v (v.length - (i + 1)) (i + 1) = chkFrom v v.length 0 := fun h1 => by rw [h1, if_pos rfl] at hf; rw [show v.length - (i + 1) = m by omega]; exact hf
    cases a1 : authF v[i].a
    · have hz := bad 7 (by simp [chkAt, hat, a1]) (by decide)
      refine go (And.intro h0 (And.intro h3 (And.intro hr (And.intro @encId.eq_1 a1)))) ?_
      refine x_done (x_out (sr (And.intro @Tryd.f26.eq_1 hz)) (by simp) (by simp) rfl)
    · by_cases a2 : v[i].n < 1
      · have hz := bad 2 (by simp [chkAt, hat, a1, a2]) (by decide)
        refine go (And.intro h0 (And.intro h3 (And.intro hr (And.intro @encId.eq_1 (And.intro a1 a2))))) ?_
        refine x_done (x_out (sr (And.intro @Tryd.f26.eq_1 hz)) (by simp) (by simp) rfl)
      · by_cases a3 : 0 < i
        · have a3' : (0 < (i : Int)) = True := by simp; omega
          have ej : (i : Int) - 1 = ((i - 1 : Nat) : Int) := by omega
          have hj' : i - 1 < v.length := by omega
          have hjt := idAt_lt v hj'
          cases a4 : (v[i].a.toList == v[i - 1].a.toList)
          · cases a5 : Op.bytesLess v[i].a.toList v[i - 1].a.toList
            · have hz := good (by simp only [chkAt, hat, hjt, a1, a2, a4, a5]; simp)
              refine go (And.intro h0 (And.intro h3 (And.intro hr (And.intro @encId.eq_1 (And.intro a1 (And.intro a2 (And.intro a3' (And.intro ej (And.intro a4 a5))))))))) ?_
              refine ⟨⟨i + 1, by omega, (sc h0), (sc (And.intro h3 @cast_succ)), hz⟩, ?_⟩
              exact so h3
            · have hz := bad 3 (by simp only [chkAt, hat, hjt, a1, a2, a4, a5]; simp [a3]) (by decide)
              refine go (And.intro h0 (And.intro h3 (And.intro hr (And.intro @encId.eq_1 (And.intro a1 (And.intro a2 (And.intro a3' (And.intro ej (And.intro a4 a5))))))))) ?_
              refine x_done (x_out (sr (And.intro @Tryd.f26.eq_1 hz)) (by simp) (by simp) rfl)
          · have hz := bad 8 (by simp only [chkAt, hat, hjt, a1, a2, a4]; simp [a3]) (by decide)
            refine go (And.intro h0 (And.intro h3 (And.intro hr (And.intro @encId.eq_1 (And.intro a1 (And.intro a2 (And.intro a3' (And.intro ej a4)))))))) ?_
            refine x_done (x_out (sr (And.intro @Tryd.f26.eq_1 hz)) (by simp) (by simp) rfl)
        · have a3' : (0 < (i : Int)) = False := by simp; omega
          have hz := good (by simp only [chkAt, hat, a1, a2]; simp [a3])
          refine go (And.intro h0 (And.intro h3 (And.intro hr (And.intro @encId.eq_1 (And.intro a1 (And.intro a2 a3')))))) ?_
          refine ⟨⟨i + 1, by omega, (sc h0), (sc (And.intro h3 @cast_succ)), hz⟩, ?_⟩
          exact so h3
  · have e : i = v.length := by omega
    subst e
    rw [Nat.sub_self, chkFrom] at hf
    have hz : chkF v = 0 := hf.symm
    refine go (And.intro h0 h3) ?_
    refine x_done (x_out (sr (And.intro @Tryd.f26.eq_1 hz)) (by simp) (by simp) rfl)
end Go.Proofs.YtfpijfedodljfaaDoor

set_option linter.unusedVariables false
set_option linter.unusedSimpArgs false
namespace Go.Proofs.YtfpijfedodljfaaDoor
open Go Go.RowKit Am

/-- A comparison that answers xs an order of keys does. -/
structure OrdC {α κ : Type} (key : α → κ) (c : α → α → Int) : Prop where
  z : ∀ a b, c a b = 0 ↔ key a = key b
  an : ∀ a b, c a b < 0 ↔ 0 < c b a
  tr : ∀ a b d, c a b < 0 → c b d < 0 → c a d < 0
namespace OrdC
variable {α κ : Type} {key : α → κ} {c : α → α → Int}
theorem congL (o : OrdC key c) {a b : α} (d : α) (h : key a = key b) (h1 : c b d < 0) : c a d < 0 := by
  have hz := (o.z a b).2 h
  have hz2 := (o.z b a).2 h.symm
  rcases Int.lt_trichotomy (c a d) 0 with h2 | h2 | h2
  · exact h2
  · have := (o.z a d).1 h2
    have := (o.z b d).2 (h.symm.trans this)
    omega
  · have h3 := (o.an d a).2 h2
    have := o.tr b d a h1 h3
    omega
theorem congR (o : OrdC key c) {a b : α} (d : α) (h : key a = key b) (h1 : c d b < 0) : c d a < 0 := by
  have hz2 := (o.z b a).2 h.symm
  rcases Int.lt_trichotomy (c d a) 0 with h2 | h2 | h2
  · exact h2
  · have := (o.z d a).1 h2
    have := (o.z d b).2 (this.trans h)
    omega
  · have h3 := (o.an a d).2 h2
    have := o.tr a d b h3 h1
    have := (o.z a b).2 h
    omega
theorem comap {β : Type} (o : OrdC key c) (f : β → α) : OrdC (fun x => key (f x)) (fun x y => c (f x) (f y)) :=
  ⟨fun a b => o.z _ _, fun a b => o.an _ _, fun a b d => o.tr _ _ _⟩
theorem lex {κ' : Type} {key' : α → κ'} {c' : α → α → Int} (o : OrdC key c) (o' : OrdC key' c') : OrdC (fun x => (key x, key' x)) (fun x y => orF [c x y, c' x y]) := by
  have e : ∀ x y, orF [c x y, c' x y] = if c x y = 0 then c' x y else c x y := by
    intro x y
    simp only [orF]
    split
    · split <;> simp_all
    · rfl
  refine ⟨fun a b => ?_, fun a b => ?_, fun a b d => ?_⟩
  · simp only [e, Prod.mk.injEq, ← o.z, ← o'.z]
    split <;> simp_all
  · have h1 := o.an a b; have h2 := o.an b a; have h3 := o'.an a b
    simp only [e]
    by_cases h : c a b = 0
    · have h4 : c b a = 0 := by omega
      simp [h, h4, h3]
    · have h4 : ¬ c b a = 0 := by omega
      simp [h, h4, h1]
  · simp only [e]
    intro h1 h2
    by_cases ha : c a b = 0
    · rw [if_pos ha] at h1
      by_cases hb : c b d = 0
      · rw [if_pos hb] at h2
        have hk := ((o.z a b).1 ha).trans ((o.z b d).1 hb)
        rw [if_pos ((o.z a d).2 hk)]
        exact o'.tr a b d h1 h2
      · rw [if_neg hb] at h2
        have := o.congL d ((o.z a b).1 ha) h2
        rw [if_neg (by omega)]
        exact this
    · rw [if_neg ha] at h1
      by_cases hb : c b d = 0
      · have := o.congR a ((o.z b d).1 hb).symm h1
        rw [if_neg (by omega)]
        exact this
      · rw [if_neg hb] at h2
        have := o.tr a b d h1 h2
        rw [if_neg (by omega)]
        exact this
end OrdC
theorem cmpBytes_z : ∀ a b : List UInt8, Lib.compareBytes a b = 0 ↔ a = b
  | [], [] => by simp [Lib.compareBytes]
  | [], b :: bs => by simp [Lib.compareBytes]
  | a :: xs, [] => by simp [Lib.compareBytes]
  | a :: xs, b :: bs => by
    simp only [Lib.compareBytes, List.cons.injEq]
    split
    · rename_i h
      have : a ≠ b := by rintro rfl; simp at h
      simp [this]
    · split
      · rename_i h
        have : a ≠ b := by rintro rfl; simp at h
        simp [this]
      · rename_i h1 h2
        have : a = b := UInt8.le_antisymm (UInt8.not_lt.1 h2) (UInt8.not_lt.1 h1)
        simp [this, cmpBytes_z xs bs]
theorem cmpBytes_as : ∀ a b : List UInt8, Lib.compareBytes a b < 0 ↔ 0 < Lib.compareBytes b a
  | [], [] => by simp [Lib.compareBytes]
  | [], b :: bs => by simp [Lib.compareBytes]
  | a :: xs, [] => by simp [Lib.compareBytes]
  | a :: xs, b :: bs => by
    simp only [Lib.compareBytes]
    by_cases h1 : a < b
    · have h2 : ¬ b < a := UInt8.not_lt.2 (UInt8.le_of_lt h1)
      simp [h1, h2]
    · by_cases h2 : b < a
      · simp [h1, h2]
      · simp [h1, h2, cmpBytes_as xs bs]
theorem cmpBytes_tr : ∀ a b d : List UInt8, Lib.compareBytes a b < 0 → Lib.compareBytes b d < 0 → Lib.compareBytes a d < 0
  | _, _, [], _, h => by rename_i b _; cases b <;> simp [Lib.compareBytes] at h
  | [], _, d :: ds, _, _ => by simp [Lib.compareBytes]
  | a :: xs, [], d :: ds, h, _ => by simp [Lib.compareBytes] at h
  | a :: xs, b :: bs, d :: ds, h1, h2 => by
    simp only [Lib.compareBytes] at h1 h2 ⊢
    by_cases hab : a < b
    · by_cases hbd : b < d
      · have : a < d := UInt8.lt_trans hab hbd
        simp [this]
      · by_cases hdb : d < b
        · simp [hbd, hdb] at h2
        · have e : b = d := UInt8.le_antisymm (UInt8.not_lt.1 hdb) (UInt8.not_lt.1 hbd)
          subst e
          simp [hab]
    · by_cases hba : b < a
      · simp [hab, hba] at h1
      · have e : a = b := UInt8.le_antisymm (UInt8.not_lt.1 hba) (UInt8.not_lt.1 hab)
        subst e
        simp only [hab, if_false] at h1
        by_cases had : a < d
        · simp [had]
        · by_cases hda : d < a
          · simp [had, hda] at h2
          · simp only [had, hda, if_false] at h2 ⊢
            exact cmpBytes_tr xs bs ds h1 h2
theorem ordB : OrdC (fun a : ByteArray => a) cmpB := ⟨fun a b => by rw [cmpB, cmpBytes_z]; exact ⟨Go.WideShapes.bytes_inj, fun h => by rw [h]⟩, fun a b => cmpBytes_as _ _, fun a b d => cmpBytes_tr _ _ _⟩
theorem ordI : OrdC (fun a : Int => a) cmpI := ⟨fun a b => by unfold cmpI; constructor <;> intro h <;> (try split at h) <;> (try split at h) <;> (try split) <;> (try split) <;> omega, fun a b => by unfold cmpI; constructor <;> intro h <;> (try split at h) <;> (try split at h) <;> (try split) <;> (try split) <;> omega, fun a b d h1 h2 => by unfold cmpI at *; (try split at h1) <;> (try split at h1) <;> (try split at h2) <;> (try split at h2) <;> (try split) <;> (try split) <;> omega⟩
end Go.Proofs.YtfpijfedodljfaaDoor

set_option linter.unusedVariables false
set_option linter.unusedSimpArgs false
namespace Go.Proofs.YtfpijfedodljfaaDoor
open Go Go.RowKit Am

theorem bsF_eq (c : Nat → Int) (p : Nat) : ∀ (d i j : Nat), j - i ≤ d → i ≤ p → p ≤ j → (∀ k, i ≤ k → k < p → c k < 0) → (∀ k, p ≤ k → k < j → ¬ c k < 0) → bsF c i j = p
  | 0, i, j, hd, h1, h2, _, _ => by
    rw [bsF, if_neg (by omega)]
    omega
  | d + 1, i, j, hd, h1, h2, h3, h4 => by
    rw [bsF]
    split
    · rename_i hij
      split
      · rename_i hc
        have : (i + j) / 2 < p := by
          rcases Nat.lt_or_ge ((i + j) / 2) p with h | h
          · exact h
          · exact absurd hc (h4 _ h (by omega))
        exact bsF_eq c p d _ _ (by omega) (by omega) h2 (fun k k1 k2 => h3 k (by omega) k2) h4
      · rename_i hc
        have : p ≤ (i + j) / 2 := by
          rcases Nat.lt_or_ge ((i + j) / 2) p with h | h
          · exact absurd (h3 _ (by omega) h) hc
          · exact h
        exact bsF_eq c p d _ _ (by omega) h1 this h3 (fun k k1 k2 => h4 k k1 (by omega))
    · omega
theorem bsF_lb (c : Nat → Int) (n : Nat) (mono : ∀ k m, k ≤ m → m < n → c m < 0 → c k < 0) : ∀ (d i j : Nat), j - i ≤ d → i ≤ j → j ≤ n → (∀ k, k < i → c k < 0) → (∀ k, j ≤ k → k < n → ¬ c k < 0) → (∀ k, k < bsF c i j → c k < 0) ∧ (∀ k, bsF c i j ≤ k → k < n → ¬ c k < 0)
  | 0, i, j, hd, h1, h2, h3, h4 => by
    rw [bsF, if_neg (by omega)]
    exact ⟨h3, fun k k1 => h4 k (by omega)⟩
  | d + 1, i, j, hd, h1, h2, h3, h4 => by
    rw [bsF]
    split
    · rename_i hij
      split
      · rename_i hc
        exact bsF_lb c n mono d _ _ (by omega) (by omega) h2 (fun k k1 => mono k _ (by omega) (by omega) hc) h4
      · rename_i hc
        exact bsF_lb c n mono d _ _ (by omega) (by omega) (by omega) h3 (fun k k1 k2 h => hc (mono _ k k1 k2 h))
    · exact ⟨h3, fun k k1 => h4 k (by omega)⟩
theorem lbeq (a b : ByteArray) : (a.toList == b.toList) = decide (a = b) := by
  rw [ByteArray.toList_eq, ByteArray.toList_eq]
  by_cases h : a = b
  · simp [h]
  · have : ¬ a.data.toList = b.data.toList := fun h1 => h (Go.WideShapes.bytes_inj h1)
    rw [beq_eq_false_iff_ne.2 this, decide_eq_false h]
theorem bless : ∀ x y : List UInt8, Op.bytesLess x y = decide (Lib.compareBytes x y < 0)
  | [], [] => by simp [Op.bytesLess, Lib.compareBytes]
  | _ :: _, [] => by simp [Op.bytesLess, Lib.compareBytes]
  | [], _ :: _ => by simp [Op.bytesLess, Lib.compareBytes]
  | a :: x, b :: y => by
    simp only [Op.bytesLess, Lib.compareBytes, bless x y]
    by_cases h1 : a < b
    · simp [h1]
    · by_cases h2 : b < a
      · have : ¬ a = b := by rintro rfl; simp at h2
        simp [h1, h2, this]
      · have : a = b := UInt8.le_antisymm (UInt8.not_lt.1 h2) (UInt8.not_lt.1 h1)
        simp [h1, h2, this]
end Go.Proofs.YtfpijfedodljfaaDoor

set_option linter.unusedVariables false
set_option linter.unusedSimpArgs false
set_option maxRecDepth 100000
set_option maxHeartbeats 8000000
namespace Go.Proofs.YtfpijfedodljfaaDoor
open Go Go.RowKit Am

abbrev vauthS : Fspec := authS
theorem vauth_sound {plain : TypeId → Bool} {Γ : FuncId → Option Fspec} {Δ : FuncId → Option Pt} (hE : EnvOk ⟨Tryd.prog, plain, Γ, Δ, fun _ => none, 0⟩) : Sound Tryd.prog 27 authS := by
  refine sound_of_awp hE Tryd.func27 rfl (by kernel_rfl) ?_
  rintro Φ ds r ⟨s, hs, rfl, rfl⟩
  refine ⟨by simp [Tryd.f27], ?_⟩
  unfold st0
  refine W.out (E := ⟨Tryd.prog, plain, Γ, Δ, Φ, _⟩) ?_
  refine go trivial ?_
  refine x_loop (fun σ => ∃ (i : Nat), σ.t 0 = .s (.string s) ∧ σ.t 6 = .s (.int .i64 s.size) ∧ σ.t 7 = .s (.int .i64 i) ∧ i ≤ s.size ∧ goodFrom s (s.size - i) i = goodFrom s s.size 0) (fun σ => s.size - ix (σ.t 7)) ⟨0, (by first | assumption | exact sxa trivial), (by first | assumption | exact sxa trivial), (by first | assumption | exact sxa trivial), (by first | rfl | omega | assumption | (simp [*]; done)), (by first | rfl | omega | assumption | (simp [*]; done))⟩ ?_
  rintro t h n ⟨i, h0, h6, h7, hf0, hf1⟩
  simp only at h0 h6 h7
  refine go (And.intro h0 (And.intro h6 h7)) ?_
  refine x_condP (sv (And.intro h0 (And.intro h6 h7))) (fun hc => ?_) (fun hc => ?_)
  · have hi' : i < s.size := by omega
    obtain ⟨m, hm⟩ : ∃ m, s.size - i = m + 1 := ⟨s.size - i - 1, by omega⟩
    rw [hm, goodFrom] at hf1
    have e0 : ((i : Int) == 0) = decide (i = 0) := by rw [beq_eq_decide]; simp
    have eb : ((byteAt s i).toNat : Int) = bAt s i := rfl
    have bad : badAt s i = true → authF s = false := fun hb => by rw [hb] at hf1; simp only [authF, ← hf1]; rfl
    have good : badAt s i = false → goodFrom s (s.size - (i + 1)) (i + 1) = goodFrom s s.size 0 := fun hb => by rw [hb] at hf1; rw [show s.size - (i + 1) = m by omega]; simpa using hf1
    by_cases c1 : bAt s i < 97
    · have c1' : ¬ 97 ≤ bAt s i := by omega
      by_cases c3 : i = 0
      · have c3' : (i = 0) = True := by simp [c3]
        have hz := bad (by simp [badAt, c1', c3'])
        refine go (And.intro h0 (And.intro h6 (And.intro h7 (And.intro e0 (And.intro eb (And.intro c1 c3')))))) ?_
        refine x_done (x_out (sr (And.intro @Tryd.f27.eq_1 hz)) (by simp) (by simp) rfl)
      · have c3' : (i = 0) = False := by simp [c3]
        by_cases c4 : bAt s i < 48
        · have hz := bad (by simp [badAt, c1', c3', c4])
          refine go (And.intro h0 (And.intro h6 (And.intro h7 (And.intro e0 (And.intro eb (And.intro c1 (And.intro c3' c4))))))) ?_
          refine x_done (x_out (sr (And.intro @Tryd.f27.eq_1 hz)) (by simp) (by simp) rfl)
        · by_cases c5 : 57 < bAt s i
          · have hz := bad (by simp [badAt, c1', c3', c4, c5])
            refine go (And.intro h0 (And.intro h6 (And.intro h7 (And.intro e0 (And.intro eb (And.intro c1 (And.intro c3' (And.intro c4 c5)))))))) ?_
            refine x_done (x_out (sr (And.intro @Tryd.f27.eq_1 hz)) (by simp) (by simp) rfl)
          · have hz := good (by simp [badAt, c1', c3', c4, c5])
            refine go (And.intro h0 (And.intro h6 (And.intro h7 (And.intro e0 (And.intro eb (And.intro c1 (And.intro c3' (And.intro c4 c5)))))))) ?_
            (refine ⟨⟨i + 1, ?_, ?_, ?_, ?_, ?_⟩, ?_⟩ <;> (first | omega | (dsimp only; omega) | ((exact hz)) | exact sxa @cast_succ | exact soa trivial))
    · have c1' : 97 ≤ bAt s i := by omega
      by_cases c2 : 122 < bAt s i
      · have c2' : ¬ bAt s i ≤ 122 := by omega
        by_cases c3 : i = 0
        · have c3' : (i = 0) = True := by simp [c3]
          have hz := bad (by simp [badAt, c1', c2', c3'])
          refine go (And.intro h0 (And.intro h6 (And.intro h7 (And.intro e0 (And.intro eb (And.intro c1 (And.intro c2 c3'))))))) ?_
          refine x_done (x_out (sr (And.intro @Tryd.f27.eq_1 hz)) (by simp) (by simp) rfl)
        · have c3' : (i = 0) = False := by simp [c3]
          have c4 : ¬ bAt s i < 48 := by omega
          have c5 : 57 < bAt s i := by omega
          have hz := bad (by simp [badAt, c1', c2', c3', c4, c5])
          refine go (And.intro h0 (And.intro h6 (And.intro h7 (And.intro e0 (And.intro eb (And.intro c1 (And.intro c2 (And.intro c3' (And.intro c4 c5))))))))) ?_
          refine x_done (x_out (sr (And.intro @Tryd.f27.eq_1 hz)) (by simp) (by simp) rfl)
      · have c2' : bAt s i ≤ 122 := by omega
        have hz := good (by simp [badAt, c1', c2'])
        refine go (And.intro h0 (And.intro h6 (And.intro h7 (And.intro e0 (And.intro eb (And.intro c1 c2)))))) ?_
        (refine ⟨⟨i + 1, ?_, ?_, ?_, ?_, ?_⟩, ?_⟩ <;> (first | omega | (dsimp only; omega) | ((exact hz)) | exact sxa @cast_succ | exact soa trivial))
  · have e : i = s.size := by omega
    subst e
    rw [Nat.sub_self, goodFrom] at hf1
    by_cases d1 : 0 < (s.size : Int)
    · have d2 : 1 ≤ (s.size : Int) := by omega
      refine go (And.intro h0 (And.intro h6 (And.intro h7 d2))) ?_
      refine x_done (x_out (sr (And.intro @Tryd.f27.eq_1 (And.intro @authF.eq_1 (And.intro (hf1).symm d1)))) (by simp) (by simp) rfl)
    · have d2 : ¬ 1 ≤ (s.size : Int) := by omega
      refine go (And.intro h0 (And.intro h6 (And.intro h7 d2))) ?_
      refine x_done (x_out (sr (And.intro @Tryd.f27.eq_1 (And.intro @authF.eq_1 (And.intro (hf1).symm d1)))) (by simp) (by simp) rfl)
theorem lflip (a b : ByteArray) : (a.toList == b.toList) = (b.toList == a.toList) := BEq.comm
theorem lgt (a b : ByteArray) : (!(Op.bytesLess a.toList b.toList || (a.toList == b.toList))) = Op.bytesLess b.toList a.toList := by
  rw [bless, bless, ByteArray.toList_eq, ByteArray.toList_eq]
  have h1 := cmpBytes_as a.data.toList b.data.toList
  have h2 := cmpBytes_z a.data.toList b.data.toList
  have h3 := cmpBytes_as b.data.toList a.data.toList
  by_cases h : a.data.toList = b.data.toList
  · have : Lib.compareBytes a.data.toList b.data.toList = 0 := h2.2 h
    have h4 : ¬ Lib.compareBytes b.data.toList a.data.toList < 0 := by omega
    simp only [h, beq_self_eq_true, Bool.or_true, Bool.not_true]
    rw [h] at h4
    simp only [h4, decide_false]
  · have h5 : (a.data.toList == b.data.toList) = false := beq_eq_false_iff_ne.2 h
    have h6 : ¬ Lib.compareBytes a.data.toList b.data.toList = 0 := fun e => h (h2.1 e)
    rw [h5, Bool.or_false]
    by_cases h7 : Lib.compareBytes a.data.toList b.data.toList < 0
    · have : ¬ Lib.compareBytes b.data.toList a.data.toList < 0 := by omega
      simp [h7, this]
    · have : Lib.compareBytes b.data.toList a.data.toList < 0 := by omega
      simp [h7, this]
theorem vchk_sound {plain : TypeId → Bool} {Γ : FuncId → Option Fspec} {Δ : FuncId → Option Pt} (hE : EnvOk ⟨Tryd.prog, plain, Γ, Δ, fun _ => none, 0⟩) (g_vauth : Γ 27 = some vauthS) : Sound Tryd.prog 25 chkS := by
  refine sound_of_awp hE Tryd.func25 rfl (by kernel_rfl) ?_
  rintro Φ ds r ⟨v, hv, hs, rfl, rfl⟩
  refine ⟨by simp [Tryd.f25], ?_⟩
  unfold st0 encIds
  refine W.out (E := ⟨Tryd.prog, plain, Γ, Δ, Φ, _⟩) ?_
  have hr := encId_rows v
  refine go trivial ?_
  refine x_loop (fun σ => ∃ (i : Nat), σ.t 0 = .sl (v.map encId) ∧ σ.t 5 = .sl (v.map encId) ∧ σ.t 6 = .s (.int .i64 v.length) ∧ σ.t 7 = .s (.int .i64 i) ∧ i ≤ v.length ∧ chkFrom v (v.length - i) i = chkFrom v v.length 0) (fun σ => v.length - ix (σ.t 7)) ⟨0, (by first | assumption | exact sxa trivial), (by first | assumption | exact sxa trivial), (by first | assumption | exact sxa trivial), (by first | assumption | exact sxa trivial), (by first | rfl | omega | assumption | (simp [*]; done)), (by first | rfl | omega | assumption | (simp [*]; done))⟩ ?_
  rintro t h n ⟨i, h0, h5, h6, h7, hf0, hf1⟩
  simp only at h0 h5 h6 h7
  refine go (And.intro h0 (And.intro h5 (And.intro h6 h7))) ?_
  refine x_condP (sv (And.intro h0 (And.intro h5 (And.intro h6 h7)))) (fun hc => ?_) (fun hc => ?_)
  · have hi' : i < v.length := by omega
    obtain ⟨m, hm⟩ : ∃ m, v.length - i = m + 1 := ⟨v.length - i - 1, by omega⟩
    rw [hm, chkFrom] at hf1
    refine go (And.intro h0 (And.intro h5 (And.intro h6 (And.intro h7 (And.intro hr @encId.eq_1))))) ?_
    refine x_callN rfl rfl rfl rfl (sv trivial) g_vauth (sv trivial) (se trivial) ⟨v[i].a, hs _ (List.getElem_mem hi'), rfl, rfl⟩ rfl ?_
    have hat := idAt_lt v hi'
    have bad : ∀ q : Int, chkAt v i = q → q ≠ 0 → chkF v = q := fun q h1 h2 => by rw [h1, if_neg h2] at hf1; exact hf1.symm
    have good : chkAt v i = 0 → chkFrom v (v.length - (i + 1)) (i + 1) = chkFrom v v.length 0 := fun h1 => by rw [h1, if_pos rfl] at hf1; rw [show v.length - (i + 1) = m by omega]; exact hf1
    cases a1 : authF v[i].a
    · have hz := bad 7 (by simp [chkAt, hat, a1]) (by decide)
      refine go (And.intro h0 (And.intro h5 (And.intro h6 (And.intro h7 (And.intro hr (And.intro @encId.eq_1 a1)))))) ?_
      refine x_done (x_out (sr (And.intro @Tryd.f25.eq_1 hz)) (by simp) (by simp) rfl)
    · by_cases a2 : v[i].n < 1
      · have hz := bad 2 (by simp [chkAt, hat, a1, a2]) (by decide)
        refine go (And.intro h0 (And.intro h5 (And.intro h6 (And.intro h7 (And.intro hr (And.intro @encId.eq_1 (And.intro a1 a2))))))) ?_
        refine x_done (x_out (sr (And.intro @Tryd.f25.eq_1 hz)) (by simp) (by simp) rfl)
      · by_cases a3 : 0 < i
        · have a3' : (0 < (i : Int)) = True := by simp; omega
          have ej : (i : Int) - 1 = ((i - 1 : Nat) : Int) := by omega
          have hj' : i - 1 < v.length := by omega
          have hjt := idAt_lt v hj'
          have l1 := lflip v[i].a v[i - 1].a
          have l2 := lgt v[i - 1].a v[i].a
          cases a4 : (v[i - 1].a.toList == v[i].a.toList)
          · rw [a4] at l1
            rw [a4, Bool.or_false] at l2
            cases a5 : Op.bytesLess v[i].a.toList v[i - 1].a.toList
            · rw [a5] at l2
              have hz := good (by simp only [chkAt, hat, hjt, a1, a2, l1, a5]; simp)
              refine go (And.intro h0 (And.intro h5 (And.intro h6 (And.intro h7 (And.intro hr (And.intro @encId.eq_1 (And.intro a1 (And.intro a2 (And.intro a3' (And.intro ej (And.intro a4 l2))))))))))) ?_
              (refine ⟨⟨i + 1, ?_, ?_, ?_, ?_, ?_, ?_⟩, ?_⟩ <;> (first | omega | (dsimp only; omega) | ((exact hz)) | exact sxa @cast_succ | exact soa trivial))
            · rw [a5] at l2
              have hz := bad 3 (by simp only [chkAt, hat, hjt, a1, a2, l1, a5]; simp [a3]) (by decide)
              refine go (And.intro h0 (And.intro h5 (And.intro h6 (And.intro h7 (And.intro hr (And.intro @encId.eq_1 (And.intro a1 (And.intro a2 (And.intro a3' (And.intro ej (And.intro a4 l2))))))))))) ?_
              refine x_done (x_out (sr (And.intro @Tryd.f25.eq_1 hz)) (by simp) (by simp) rfl)
          · rw [a4] at l1
            have hz := bad 8 (by simp only [chkAt, hat, hjt, a1, a2, l1]; simp [a3]) (by decide)
            refine go (And.intro h0 (And.intro h5 (And.intro h6 (And.intro h7 (And.intro hr (And.intro @encId.eq_1 (And.intro a1 (And.intro a2 (And.intro a3' (And.intro ej a4)))))))))) ?_
            refine x_done (x_out (sr (And.intro @Tryd.f25.eq_1 hz)) (by simp) (by simp) rfl)
        · have a3' : (0 < (i : Int)) = False := by simp; omega
          have hz := good (by simp only [chkAt, hat, a1, a2]; simp [a3])
          refine go (And.intro h0 (And.intro h5 (And.intro h6 (And.intro h7 (And.intro hr (And.intro @encId.eq_1 (And.intro a1 (And.intro a2 a3')))))))) ?_
          (refine ⟨⟨i + 1, ?_, ?_, ?_, ?_, ?_, ?_⟩, ?_⟩ <;> (first | omega | (dsimp only; omega) | ((exact hz)) | exact sxa @cast_succ | exact soa trivial))
  · have e : i = v.length := by omega
    subst e
    rw [Nat.sub_self, chkFrom] at hf1
    have hz : chkF v = 0 := hf1.symm
    refine go (And.intro h0 (And.intro h5 (And.intro h6 h7))) ?_
    refine x_done (x_out (sr (And.intro @Tryd.f25.eq_1 hz)) (by simp) (by simp) rfl)
end Go.Proofs.YtfpijfedodljfaaDoor
