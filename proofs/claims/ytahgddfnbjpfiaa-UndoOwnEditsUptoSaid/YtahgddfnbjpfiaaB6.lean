/- Texts that the law's proof stands on: V37, V38, V1, V2, V3, V4, V5, V6, V7, V8, V9, V10, V11, V12, V13, V14, V15. -/
import Derived.Test.YtahgddfnbjpfiaaB5
import Derived.Laws.Strings
set_option linter.unusedVariables false
set_option linter.unusedSimpArgs false
set_option maxRecDepth 100000
set_option maxHeartbeats 8000000
namespace Go.Proofs.Ytahgddfnbjpfiaa
open Go Go.RowKit Am

theorem okRowsId (l : List Idt) : okRows 2 (l.map encId) := okRows_map encId l 2 fun a => ⟨rfl, by simp [encId, cellish]⟩
theorem deepId (l : List Idt) : ∀ r ∈ l.map encId, ∀ q ∈ r, deepc q = true := deep_map encId l fun a => by simp [encId, deepc]
/-- The reference's Add, from one place on. -/
def raF : List Idt → Idt → Bool → List Idt
  | [], x, laid => if laid then [] else [x]
  | y :: v, x, laid => if y.a.toList == x.a.toList then raF v (if x.n < y.n then y else x) laid
      else if (!(Op.bytesLess y.a.toList x.a.toList || (y.a.toList == x.a.toList))) && !laid then x :: y :: raF v x true
      else y :: raF v x laid
def raddF (v : List Idt) (x : Idt) : List Idt := raF v x false
def raddS : Fspec := fun _ ds r => ∃ (v : List Idt) (x : Idt), v.length ≤ 1048576 ∧ ds = [encIds v, .agg (encId x)] ∧ r = .sl ((raddF v x).map encId)
theorem encId_okRow (x : Idt) : okRows 2 [encId x] := okRowsId [x]
theorem map_snoc {α β : Type} (f : α → β) (l : List α) (x : α) : (l ++ [x]).map f = l.map f ++ [f x] := by simp
theorem radd_sound {plain : TypeId → Bool} {Γ : FuncId → Option Fspec} {Δ : FuncId → Option Pt} (hE : EnvOk ⟨Try.prog, plain, Γ, Δ, fun _ => none, 0⟩) : Sound Try.prog 36 raddS := by
  refine sound_of_awp hE Try.func36 rfl (by kernel_rfl) ?_
  rintro Φ ds r ⟨v, x, hv, rfl, rfl⟩
  refine ⟨by simp [Try.f36], ?_⟩
  unfold st0 encIds
  refine W.out (E := ⟨Try.prog, plain, Γ, Δ, Φ, _⟩) ?_
  have hr := encId_rows v
  refine go trivial ?_
  refine x_loop (fun σ => ∃ (i : Nat) (b : Nat) (cap : Nat) (out : List Idt) (sp : List (List Am.V)) (y : Idt) (laid : Bool), σ.t 0 = .sl (v.map encId) ∧ σ.t 3 = .ptr 0 0 0 ∧ σ.t 5 = .loc b 0 out.length cap ∧ σ.t 6 = .s (.bool laid) ∧ σ.t 7 = .s (.int .i64 i) ∧ σ.h 0 = some ⟨2, [encId y], true⟩ ∧ σ.h b = some ⟨2, out.map encId ++ sp, true⟩ ∧ b < σ.n ∧ 0 < b ∧ i ≤ v.length ∧ out.length ≤ cap ∧ cap ≤ out.length + sp.length ∧ out.length ≤ 2 * i ∧ out ++ raF (v.drop i) y laid = raddF v x) (fun σ => v.length - ix (σ.t 7)) ⟨0, 1, 0, [], [], x, false, (by first | assumption | exact sxa trivial), (by first | assumption | exact sxa trivial), (by first | assumption | exact sxa trivial), (by first | assumption | exact sxa trivial), (by first | assumption | exact sxa trivial), (by first | assumption | exact sxa trivial), (by first | assumption | exact sxa trivial), (by first | omega | (dsimp only; omega) | exact soa trivial | omega | (simp; done)), (by first | omega | (dsimp only; omega) | exact soa trivial | omega | (simp; done)), (by first | rfl | omega | assumption | (simp [*]; done)), (by first | rfl | omega | assumption | (simp [*]; done)), (by first | rfl | omega | assumption | (simp [*]; done)), (by first | rfl | omega | assumption | (simp [*]; done)), (by first | rfl | omega | assumption | (simp [*]; done))⟩ ?_
  rintro t h n ⟨i, b, cap, out, sp, y, laid, h0, h3, h5, h6, h7, hh0, hhb, hn1, hn2, hf0, hf1, hf2, hf3, hf4⟩
  simp only at h0 h3 h5 h6 h7 hh0 hhb hn1 hn2
  refine go (And.intro h0 (And.intro h3 (And.intro h5 (And.intro h6 h7)))) ?_
  refine x_condP (sv (And.intro h0 (And.intro h3 (And.intro h5 (And.intro h6 h7))))) (fun hc => ?_) (fun hc => ?_)
  · have hi : i < v.length := by omega
    rw [List.drop_eq_getElem_cons hi, raF] at hf4
    generalize hmm : v[i] = m at *
    have e1 : (b = n) = False := by simp <;> omega
    have e2 : (b = n + 1) = False := by simp <;> omega
    have e3 : (n = b) = False := by simp <;> omega
    have e4 : (n + 1 = b) = False := by simp <;> omega
    have e5 : (0 = n) = False := by simp <;> omega
    have e6 : (0 = n + 1) = False := by simp
    have e7 : (0 = b) = False := by simp <;> omega
    have e8 : (n + 1 + 1 = n + 1) = False := by simp
    have e9 : (n + 1 = n + 1 + 1) = False := by simp
    have d1 : (n + 1 = n + 1 + 1 + 1) = False := by simp <;> omega
    have d2 : (n + 1 + 1 + 1 = n + 1) = False := by simp <;> omega
    have d3 : (0 = n + 1 + 1) = False := by simp
    have d4 : (0 = n + 1 + 1 + 1) = False := by simp
    cases c1 : (m.a.toList == y.a.toList)
    · cases c2 : Op.bytesLess m.a.toList y.a.toList
      · cases laid
        · rw [c1, c2] at hf4
          simp only [Bool.or_false, Bool.not_false, Bool.true_and, if_true, Bool.false_eq_true, if_false] at hf4
          refine go (And.intro h0 (And.intro h3 (And.intro h5 (And.intro h6 (And.intro h7 (And.intro hh0 (And.intro hhb (And.intro hr (And.intro hmm (And.intro @encId.eq_1 (And.intro c1 (And.intro c2 (And.intro e1 (And.intro e2 (And.intro e3 (And.intro e4 (And.intro e5 (And.intro e6 e7)))))))))))))))))) ?_
          refine x_appendO rfl rfl rfl rfl rfl rfl (sv (And.intro h5 (And.intro hhb (And.intro @encId.eq_1 (And.intro e1 (And.intro e2 (And.intro e3 (And.intro e4 (And.intro e5 (And.intro e6 e7)))))))))) (by decide) (sc (And.intro h5 (And.intro hhb (And.intro @encId.eq_1 (And.intro e1 (And.intro e2 (And.intro e3 (And.intro e4 (And.intro e5 (And.intro e6 e7)))))))))) (sv (And.intro h5 (And.intro hhb (And.intro @encId.eq_1 (And.intro e1 (And.intro e2 (And.intro e3 (And.intro e4 (And.intro e5 (And.intro e6 e7)))))))))) (sx (And.intro h5 (And.intro hhb (And.intro @encId.eq_1 (And.intro e1 (And.intro e2 (And.intro e3 (And.intro e4 (And.intro e5 (And.intro e6 e7)))))))))) (by first | rfl | (simp; done) | (simp [spare_len]; omega)) (by first | omega | (simp; done) | (simp [spare_len]; omega)) (by first | omega | (simp; done) | (simp [spare_len]; omega)) (sx (And.intro h5 (And.intro hhb (And.intro @encId.eq_1 (And.intro e1 (And.intro e2 (And.intro e3 (And.intro e4 (And.intro e5 (And.intro e6 e7)))))))))) (encId_okRow y) (by first | omega | (simp; done) | (simp [spare_len]; omega)) (fun cap' hcap' => ?_)
          refine go (And.intro h0 (And.intro h3 (And.intro h5 (And.intro h6 (And.intro h7 (And.intro hh0 (And.intro hhb (And.intro hr (And.intro hmm (And.intro @encId.eq_1 (And.intro e1 (And.intro e2 (And.intro e3 (And.intro e4 (And.intro e5 (And.intro e6 (And.intro e7 (And.intro e8 e9)))))))))))))))))) ?_
          have hc2 : out.length + 1 ≤ cap' := hcap'
          have hfin : (out ++ [y] ++ [m]) ++ raF (v.drop (i + 1)) y true = raddF v x := by rw [List.append_assoc, List.append_assoc]; exact hf4
          have hl1 : (out ++ [y] ++ [m]).length = out.length + 1 + 1 := by simp
          have hs0 := spare_len 2 (cap' - (out.length + [encId y].length))
          clear hf4
          refine x_appendO rfl rfl rfl rfl rfl rfl (sv (And.intro @encId.eq_1 (And.intro e1 (And.intro e2 (And.intro e3 (And.intro e4 (And.intro e5 (And.intro e6 (And.intro e7 (And.intro e8 (And.intro e9 (And.intro d1 (And.intro d2 (And.intro d3 d4)))))))))))))) (by decide) (sc (And.intro @encId.eq_1 (And.intro e1 (And.intro e2 (And.intro e3 (And.intro e4 (And.intro e5 (And.intro e6 (And.intro e7 (And.intro e8 (And.intro e9 (And.intro d1 (And.intro d2 (And.intro d3 d4)))))))))))))) (sv (And.intro @encId.eq_1 (And.intro e1 (And.intro e2 (And.intro e3 (And.intro e4 (And.intro e5 (And.intro e6 (And.intro e7 (And.intro e8 (And.intro e9 (And.intro d1 (And.intro d2 (And.intro d3 d4)))))))))))))) (sx (And.intro @encId.eq_1 (And.intro e1 (And.intro e2 (And.intro e3 (And.intro e4 (And.intro e5 (And.intro e6 (And.intro e7 (And.intro e8 (And.intro e9 (And.intro d1 (And.intro d2 (And.intro d3 d4)))))))))))))) (by first | rfl | (simp; done) | (simp [spare_len]; omega)) (by first | omega | (simp; done) | (simp [spare_len]; omega)) (by first | omega | (simp; done) | (simp [spare_len]; omega)) (sx (And.intro @encId.eq_1 (And.intro e1 (And.intro e2 (And.intro e3 (And.intro e4 (And.intro e5 (And.intro e6 (And.intro e7 (And.intro e8 (And.intro e9 (And.intro d1 (And.intro d2 (And.intro d3 d4)))))))))))))) (encId_okRow m) (by first | omega | (simp; done) | (simp [spare_len]; omega)) (fun cap' hcap' => ?_)
          refine go (And.intro h0 (And.intro h3 (And.intro h5 (And.intro h6 (And.intro h7 (And.intro hh0 (And.intro hhb (And.intro hr (And.intro hmm (And.intro @encId.eq_1 (And.intro e1 (And.intro e2 (And.intro e3 (And.intro e4 (And.intro e5 (And.intro e6 (And.intro e7 (And.intro e8 (And.intro e9 (And.intro d1 (And.intro d2 (And.intro d3 d4)))))))))))))))))))))) ?_
          have hc3 : out.length + 1 + 1 ≤ cap' := hcap'
          have hs1 := spare_len 2 (cap' - (out.length + 1 + 1))
          (refine ⟨⟨i + 1, n + 1 + 1 + 1, cap', out ++ [y] ++ [m], spare 2 (cap' - (out.length + 1 + 1)), y, true, ?_, ?_, ?_, ?_, ?_, ?_, ?_, ?_, ?_, ?_, ?_, ?_, ?_, ?_⟩, ?_⟩ <;> (first | omega | (dsimp only; omega) | (first | omega | assumption | (simp [*]; done)) | exact sxa (And.intro @cast_succ (And.intro @encId.eq_1 (And.intro hl1 (And.intro @map_snoc (And.intro e1 (And.intro e2 (And.intro e3 (And.intro e4 (And.intro e5 (And.intro e6 (And.intro e7 (And.intro e8 (And.intro e9 (And.intro d1 (And.intro d2 (And.intro d3 d4)))))))))))))))) | exact soa trivial))
        · rw [c1, c2] at hf4
          simp only [Bool.or_false, Bool.not_false, Bool.not_true, Bool.and_false, if_true, Bool.false_eq_true, if_false] at hf4
          have hfin : (out ++ [m]) ++ raF (v.drop (i + 1)) y true = raddF v x := by rw [List.append_assoc]; exact hf4
          have hl1 : (out ++ [m]).length = out.length + 1 := by simp
          refine go (And.intro h0 (And.intro h3 (And.intro h5 (And.intro h6 (And.intro h7 (And.intro hh0 (And.intro hhb (And.intro hr (And.intro hmm (And.intro @encId.eq_1 (And.intro c1 (And.intro c2 (And.intro e1 (And.intro e2 (And.intro e3 (And.intro e4 (And.intro e5 (And.intro e6 e7)))))))))))))))))) ?_
          refine x_appendO rfl rfl rfl rfl rfl rfl (sv (And.intro h5 (And.intro hhb (And.intro @encId.eq_1 (And.intro e1 (And.intro e2 (And.intro e3 (And.intro e4 (And.intro e5 (And.intro e6 e7)))))))))) (by decide) (sc (And.intro h5 (And.intro hhb (And.intro @encId.eq_1 (And.intro e1 (And.intro e2 (And.intro e3 (And.intro e4 (And.intro e5 (And.intro e6 e7)))))))))) (sv (And.intro h5 (And.intro hhb (And.intro @encId.eq_1 (And.intro e1 (And.intro e2 (And.intro e3 (And.intro e4 (And.intro e5 (And.intro e6 e7)))))))))) (sx (And.intro h5 (And.intro hhb (And.intro @encId.eq_1 (And.intro e1 (And.intro e2 (And.intro e3 (And.intro e4 (And.intro e5 (And.intro e6 e7)))))))))) (by first | rfl | (simp; done) | (simp [spare_len]; omega)) (by first | omega | (simp; done) | (simp [spare_len]; omega)) (by first | omega | (simp; done) | (simp [spare_len]; omega)) (sx (And.intro h5 (And.intro hhb (And.intro @encId.eq_1 (And.intro e1 (And.intro e2 (And.intro e3 (And.intro e4 (And.intro e5 (And.intro e6 e7)))))))))) (encId_okRow m) (by first | omega | (simp; done) | (simp [spare_len]; omega)) (fun cap' hcap' => ?_)
          refine go (And.intro h0 (And.intro h3 (And.intro h5 (And.intro h6 (And.intro h7 (And.intro hh0 (And.intro hhb (And.intro hr (And.intro hmm (And.intro @encId.eq_1 (And.intro e1 (And.intro e2 (And.intro e3 (And.intro e4 (And.intro e5 (And.intro e6 e7)))))))))))))))) ?_
          have hc2 : out.length + 1 ≤ cap' := hcap'
          have hs1 := spare_len 2 (cap' - (out.length + 1))
          clear hf4
          (refine ⟨⟨i + 1, n + 1, cap', out ++ [m], spare 2 (cap' - (out.length + 1)), y, true, ?_, ?_, ?_, ?_, ?_, ?_, ?_, ?_, ?_, ?_, ?_, ?_, ?_, ?_⟩, ?_⟩ <;> (first | omega | (dsimp only; omega) | (first | omega | assumption | (simp [*]; done)) | exact sxa (And.intro @cast_succ (And.intro @encId.eq_1 (And.intro hl1 (And.intro @map_snoc (And.intro e1 (And.intro e2 (And.intro e3 (And.intro e4 (And.intro e5 (And.intro e6 e7)))))))))) | exact soa trivial))
      · rw [c1, c2] at hf4
        simp only [Bool.or_false, Bool.not_true, Bool.false_and, Bool.false_eq_true, if_false] at hf4
        have hfin : (out ++ [m]) ++ raF (v.drop (i + 1)) y laid = raddF v x := by rw [List.append_assoc]; exact hf4
        have hl1 : (out ++ [m]).length = out.length + 1 := by simp
        refine go (And.intro h0 (And.intro h3 (And.intro h5 (And.intro h6 (And.intro h7 (And.intro hh0 (And.intro hhb (And.intro hr (And.intro hmm (And.intro @encId.eq_1 (And.intro c1 (And.intro c2 (And.intro e1 (And.intro e2 (And.intro e3 (And.intro e4 (And.intro e5 (And.intro e6 e7)))))))))))))))))) ?_
        refine x_appendO rfl rfl rfl rfl rfl rfl (sv (And.intro h5 (And.intro hhb (And.intro @encId.eq_1 (And.intro e1 (And.intro e2 (And.intro e3 (And.intro e4 (And.intro e5 (And.intro e6 e7)))))))))) (by decide) (sc (And.intro h5 (And.intro hhb (And.intro @encId.eq_1 (And.intro e1 (And.intro e2 (And.intro e3 (And.intro e4 (And.intro e5 (And.intro e6 e7)))))))))) (sv (And.intro h5 (And.intro hhb (And.intro @encId.eq_1 (And.intro e1 (And.intro e2 (And.intro e3 (And.intro e4 (And.intro e5 (And.intro e6 e7)))))))))) (sx (And.intro h5 (And.intro hhb (And.intro @encId.eq_1 (And.intro e1 (And.intro e2 (And.intro e3 (And.intro e4 (And.intro e5 (And.intro e6 e7)))))))))) (by first | rfl | (simp; done) | (simp [spare_len]; omega)) (by first | omega | (simp; done) | (simp [spare_len]; omega)) (by first | omega | (simp; done) | (simp [spare_len]; omega)) (sx (And.intro h5 (And.intro hhb (And.intro @encId.eq_1 (And.intro e1 (And.intro e2 (And.intro e3 (And.intro e4 (And.intro e5 (And.intro e6 e7)))))))))) (encId_okRow m) (by first | omega | (simp; done) | (simp [spare_len]; omega)) (fun cap' hcap' => ?_)
        refine go (And.intro h0 (And.intro h3 (And.intro h5 (And.intro h6 (And.intro h7 (And.intro hh0 (And.intro hhb (And.intro hr (And.intro hmm (And.intro @encId.eq_1 (And.intro e1 (And.intro e2 (And.intro e3 (And.intro e4 (And.intro e5 (And.intro e6 e7)))))))))))))))) ?_
        have hc2 : out.length + 1 ≤ cap' := hcap'
        have hs1 := spare_len 2 (cap' - (out.length + 1))
        clear hf4
        (refine ⟨⟨i + 1, n + 1, cap', out ++ [m], spare 2 (cap' - (out.length + 1)), y, laid, ?_, ?_, ?_, ?_, ?_, ?_, ?_, ?_, ?_, ?_, ?_, ?_, ?_, ?_⟩, ?_⟩ <;> (first | omega | (dsimp only; omega) | (first | omega | assumption | (simp [*]; done)) | exact sxa (And.intro @cast_succ (And.intro @encId.eq_1 (And.intro hl1 (And.intro @map_snoc (And.intro e1 (And.intro e2 (And.intro e3 (And.intro e4 (And.intro e5 (And.intro e6 e7)))))))))) | exact soa trivial))
    · rw [c1] at hf4
      simp only [if_true] at hf4
      by_cases c3 : y.n < m.n
      · rw [if_pos c3] at hf4
        refine go (And.intro h0 (And.intro h3 (And.intro h5 (And.intro h6 (And.intro h7 (And.intro hh0 (And.intro hhb (And.intro hr (And.intro hmm (And.intro @encId.eq_1 (And.intro c1 (And.intro c3 (And.intro e1 (And.intro e2 (And.intro e3 (And.intro e4 (And.intro e5 (And.intro e6 e7)))))))))))))))))) ?_
        (refine ⟨⟨i + 1, b, cap, out, sp, m, laid, ?_, ?_, ?_, ?_, ?_, ?_, ?_, ?_, ?_, ?_, ?_, ?_, ?_, ?_⟩, ?_⟩ <;> (first | omega | (dsimp only; omega) | ((exact hf4)) | exact sxa (And.intro @cast_succ (And.intro @encId.eq_1 (And.intro e1 (And.intro e2 (And.intro e3 (And.intro e4 (And.intro e5 (And.intro e6 e7)))))))) | exact soa trivial))
      · rw [if_neg c3] at hf4
        refine go (And.intro h0 (And.intro h3 (And.intro h5 (And.intro h6 (And.intro h7 (And.intro hh0 (And.intro hhb (And.intro hr (And.intro hmm (And.intro @encId.eq_1 (And.intro c1 (And.intro c3 (And.intro e1 (And.intro e2 (And.intro e3 (And.intro e4 (And.intro e5 (And.intro e6 e7)))))))))))))))))) ?_
        (refine ⟨⟨i + 1, b, cap, out, sp, y, laid, ?_, ?_, ?_, ?_, ?_, ?_, ?_, ?_, ?_, ?_, ?_, ?_, ?_, ?_⟩, ?_⟩ <;> (first | omega | (dsimp only; omega) | ((exact hf4)) | exact sxa (And.intro @cast_succ (And.intro @encId.eq_1 (And.intro e1 (And.intro e2 (And.intro e3 (And.intro e4 (And.intro e5 (And.intro e6 e7)))))))) | exact soa trivial))
  · have e : i = v.length := by omega
    subst e
    rw [List.drop_length, raF] at hf4
    have e5 : (0 = n) = False := by simp <;> omega
    have e1 : (b = n) = False := by simp <;> omega
    have e2 : (b = n + 1) = False := by simp <;> omega
    have e3 : (n = b) = False := by simp <;> omega
    have e7 : (0 = b) = False := by simp <;> omega
    cases laid
    · refine go (And.intro h0 (And.intro h3 (And.intro h5 (And.intro h6 (And.intro h7 (And.intro hh0 (And.intro hhb (And.intro @encId.eq_1 (And.intro e1 (And.intro e2 (And.intro e3 (And.intro e5 e7)))))))))))) ?_
      refine x_appendO rfl rfl rfl rfl rfl rfl (sv (And.intro h5 (And.intro hhb (And.intro @encId.eq_1 (And.intro e1 (And.intro e2 (And.intro e3 (And.intro e5 e7)))))))) (by decide) (sc (And.intro h5 (And.intro hhb (And.intro @encId.eq_1 (And.intro e1 (And.intro e2 (And.intro e3 (And.intro e5 e7)))))))) (sv (And.intro h5 (And.intro hhb (And.intro @encId.eq_1 (And.intro e1 (And.intro e2 (And.intro e3 (And.intro e5 e7)))))))) (sx (And.intro h5 (And.intro hhb (And.intro @encId.eq_1 (And.intro e1 (And.intro e2 (And.intro e3 (And.intro e5 e7)))))))) (by first | rfl | (simp; done) | (simp [spare_len]; omega)) (by first | omega | (simp; done) | (simp [spare_len]; omega)) (by first | omega | (simp; done) | (simp [spare_len]; omega)) (sx (And.intro h5 (And.intro hhb (And.intro @encId.eq_1 (And.intro e1 (And.intro e2 (And.intro e3 (And.intro e5 e7)))))))) (encId_okRow y) (by first | omega | (simp; done) | (simp [spare_len]; omega)) (fun cap' hcap' => ?_)
      have hc2 : out.length + 1 ≤ cap' := hcap'
      refine go (And.intro h0 (And.intro h3 (And.intro h5 (And.intro h6 (And.intro h7 (And.intro hh0 (And.intro hhb (And.intro @encId.eq_1 (And.intro e1 (And.intro e2 (And.intro e3 (And.intro e5 e7)))))))))))) ?_
      simp only [Bool.false_eq_true, if_false] at hf4
      rw [← hf4, map_snoc]
      have hl : (out ++ [y]).length = out.length + 1 := by simp
      have hdp : ∀ r ∈ out.map encId ++ [encId y], ∀ q ∈ r, deepc q = true := by have := deepId (out ++ [y]); rwa [map_snoc] at this
      refine x_done (x_outL (sp := spare 2 (cap' - (out.length + 1))) (sr (And.intro @Try.f36.eq_1 (And.intro h5 @encId.eq_1))) (sx trivial) (by simp) hdp)
    · refine go (And.intro h0 (And.intro h3 (And.intro h5 (And.intro h6 (And.intro h7 (And.intro hh0 hhb)))))) ?_
      simp only [if_true, List.append_nil] at hf4
      rw [← hf4]
      refine x_done (x_outL (sp := sp) (sr (And.intro @Try.f36.eq_1 h5)) (sx hhb) (by simp) (deepId _))
end Go.Proofs.Ytahgddfnbjpfiaa

set_option linter.unusedVariables false
set_option linter.unusedSimpArgs false
set_option maxRecDepth 100000
set_option maxHeartbeats 8000000
namespace Go.Proofs.Ytahgddfnbjpfiaa
open Go Go.RowKit Am

theorem radd_len : ∀ (v : List Idt) (x : Idt) (laid : Bool), (raF v x laid).length ≤ v.length + 1
  | [], x, laid => by cases laid <;> simp [raF]
  | y :: v, x, laid => by
    rw [raF]
    split
    · have := radd_len v (if x.n < y.n then y else x) laid
      simp only [List.length_cons]; omega
    · split
      · have h2 : ∀ (v : List Idt) (x : Idt), (raF v x true).length ≤ v.length := by
          intro v
          induction v with
          | nil => intro x; simp [raF]
          | cons y v ih =>
            intro x
            rw [raF]
            split
            · have := ih (if x.n < y.n then y else x); simp only [List.length_cons]; omega
            · simp only [Bool.not_true, Bool.and_false, Bool.false_eq_true, if_false, List.length_cons]
              have := ih x
              omega
        have := h2 v x
        simp only [List.length_cons]; omega
      · have := radd_len v x laid
        simp only [List.length_cons]; omega
def rmaxF (a b : List Idt) : List Idt := b.foldl raddF a
def rmaxS : Fspec := fun _ ds r => ∃ a b : List Idt, a.length ≤ 500000 ∧ b.length ≤ 500000 ∧ ds = [encIds a, encIds b] ∧ r = .sl ((rmaxF a b).map encId)
theorem rmax_sound {plain : TypeId → Bool} {Γ : FuncId → Option Fspec} {Δ : FuncId → Option Pt} (hE : EnvOk ⟨Try.prog, plain, Γ, Δ, fun _ => none, 0⟩) (g_radd : Γ 36 = some raddS) : Sound Try.prog 24 rmaxS := by
  refine sound_of_awp hE Try.func24 rfl (by kernel_rfl) ?_
  rintro Φ ds r ⟨a, b, ha, hb, rfl, rfl⟩
  refine ⟨by simp [Try.f24], ?_⟩
  unfold st0 encIds
  refine W.out (E := ⟨Try.prog, plain, Γ, Δ, Φ, _⟩) ?_
  have hrb := encId_rows b
  refine go trivial ?_
  refine x_append rfl rfl rfl rfl rfl rfl (sv trivial) (by decide) (sc trivial) (sv trivial) (sx trivial) (okRowsId a) (sx trivial) (by first | rfl | (simp; done)) (by first | rfl | (simp; done)) (by first | omega | (simp; done) | (simp [spare_len]; omega)) (by first | omega | (simp; done) | (simp [spare_len]; omega)) (by first | omega | (simp; done) | (simp [spare_len]; omega)) (fun cap' hcap' => ?_)
  have hcap2 : a.length ≤ cap' := by simpa using hcap'
  have tk : (a.map encId ++ spare 2 (cap' - a.length)).take a.length = a.map encId := List.take_left' (by simp)
  have ln : (a.length ≤ (a.map encId ++ spare 2 (cap' - a.length)).length) = True := by simp
  have hx1 : ∀ h d, allO (allO (expo h d)) (a.map encId) = some (a.map encId) := fun h d => allO_rows h d (deepId a)
  refine go trivial ?_
  refine x_loopF 5 (.sl (a.map encId)) (fun σ => ∃ (i : Nat) (out : List Idt), σ.t 1 = .sl (b.map encId) ∧ σ.t 5 = .sl (out.map encId) ∧ σ.t 6 = .s (.int .i64 i) ∧ i ≤ b.length ∧ out.length ≤ 500000 + i ∧ rmaxF out (b.drop i) = rmaxF a b) (fun σ => b.length - ix (σ.t 6)) (se (And.intro tk (And.intro ln hx1))) (fun h2 hold => ⟨0, a, (by first | assumption | exact sxa trivial), (by first | assumption | exact sxa trivial), (by first | assumption | exact sxa trivial), (by first | rfl | omega | assumption | (simp [*]; done)), (by first | rfl | omega | assumption | (simp [*]; done)), (by first | rfl | omega | assumption | (simp [*]; done))⟩) ?_
  rintro t h n ⟨i, out, h1, h5, h6, hf0, hf1, hf2⟩
  simp only at h1 h5 h6
  refine go (And.intro h1 (And.intro h5 h6)) ?_
  refine x_condP (sv (And.intro h1 (And.intro h5 h6))) (fun hc => ?_) (fun hc => ?_)
  · have hi : i < b.length := by omega
    rw [List.drop_eq_getElem_cons hi, rmaxF, List.foldl_cons] at hf2
    have hl2 := radd_len out b[i] false
    generalize hmm : b[i] = m at *
    refine go (And.intro h1 (And.intro h5 (And.intro h6 (And.intro hrb (And.intro hmm @encId.eq_1))))) ?_
    refine x_callS rfl rfl rfl rfl (sv @encId.eq_1) g_radd (sv @encId.eq_1) (se @encId.eq_1) ⟨out, m, by omega, rfl, rfl⟩ (by simp) (by simp [touchA, touch]) ?_
    have hl3 : (raddF out m).length ≤ out.length + 1 := hl2
    refine go (And.intro h1 (And.intro h5 (And.intro h6 (And.intro hrb (And.intro hmm @encId.eq_1))))) ?_
    (refine ⟨⟨i + 1, raddF out m, ?_, ?_, ?_, ?_, ?_, ?_⟩, ?_⟩ <;> (first | omega | (dsimp only; omega) | (first | omega | assumption | (simp [*]; done)) | exact sxa @cast_succ | exact soa trivial))
  · have e : i = b.length := by omega
    subst e
    rw [List.drop_length] at hf2
    have hf' : out = rmaxF a b := hf2
    rw [← hf']
    refine go (And.intro h1 (And.intro h5 h6)) ?_
    refine x_done (x_outV (sr (And.intro @Try.f24.eq_1 h5)) (by simp) (by simp) rfl)
end Go.Proofs.Ytahgddfnbjpfiaa

set_option linter.unusedVariables false
set_option linter.unusedSimpArgs false
namespace Go.Proofs.Ytahgddfnbjpfiaa
open Go Go.RowKit Am

/-- The number that bytes stand for, the least first. -/
def val : List UInt8 → Nat
  | [] => 0
  | c :: l => c.toNat + 256 * val l
/-- The bytes of a number, as many as it needs. -/
def dig (n : Nat) : List UInt8 := if h : n = 0 then [] else UInt8.ofNat n :: dig (n / 256)
termination_by n
decreasing_by omega
theorem dig_zero : dig 0 = [] := by rw [dig]; rfl
theorem dig_pos {n : Nat} (h : n ≠ 0) : dig n = UInt8.ofNat n :: dig (n / 256) := by
  conv => lhs; rw [dig]
  rw [dif_neg h]
theorem val_app : ∀ a b, val (a ++ b) = val a + 256 ^ a.length * val b
  | [], b => by simp [val]
  | c :: a, b => by
    rw [List.cons_append, val, val, val_app a b, List.length_cons, Nat.pow_succ]
    rw [Nat.mul_add, ← Nat.mul_assoc, Nat.mul_comm 256 (256 ^ a.length)]
    omega
theorem val_lt : ∀ l, val l < 256 ^ l.length
  | [] => by simp [val]
  | c :: l => by
    have h1 := val_lt l
    have h2 := c.toNat_lt
    rw [val, List.length_cons, Nat.pow_succ]
    omega
theorem val_dig (n : Nat) : val (dig n) = n := by
  induction n using Nat.strongRecOn with
  | ind n ih =>
    by_cases h : n = 0
    · subst h; rw [dig_zero]; rfl
    · rw [dig_pos h, val, ih (n / 256) (by omega)]
      simp
      omega
/-- No zero byte at the end. -/
def Can (l : List UInt8) : Prop := ∀ h : l ≠ [], l.getLast h ≠ 0
theorem can_nil : Can [] := fun h => absurd rfl h
theorem can_cons {c : UInt8} {l : List UInt8} (h : Can (c :: l)) : Can l := fun hl => by
  have := h (by simp)
  rwa [List.getLast_cons hl] at this
theorem can_pos : ∀ {l : List UInt8}, Can l → l ≠ [] → val l ≠ 0
  | [], _, h => absurd rfl h
  | [c], hc, _ => by
    have h1 : c ≠ 0 := hc (by simp)
    intro h2
    apply h1
    apply UInt8.toNat_inj.1
    simp [val] at h2
    exact h2
  | c :: d :: l, hc, _ => by
    have h1 := can_pos (can_cons hc) (by simp)
    rw [val]
    omega
theorem dig_val : ∀ {l : List UInt8}, Can l → dig (val l) = l
  | [], _ => dig_zero
  | c :: l, hc => by
    have h0 := can_pos hc (by simp)
    rw [dig_pos h0]
    have h1 := c.toNat_lt
    have h2 : val (c :: l) / 256 = val l := by rw [val]; omega
    have h3 : UInt8.ofNat (val (c :: l)) = c := by
      apply UInt8.toNat_inj.1
      rw [val]
      simp
    rw [h2, h3, dig_val (can_cons hc)]
theorem can_dig (n : Nat) : Can (dig n) := by
  induction n using Nat.strongRecOn with
  | ind n ih =>
    by_cases h : n = 0
    · subst h; rw [dig_zero]; exact can_nil
    · rw [dig_pos h]
      intro hne
      by_cases h2 : n / 256 = 0
      · have h3 : dig (n / 256) = [] := by rw [h2, dig_zero]
        have h4 : UInt8.ofNat n ≠ 0 := by
          intro e
          have := congrArg UInt8.toNat e
          simp at this
          omega
        simp only [h3, List.getLast_singleton]
        exact h4
      · have h3 : dig (n / 256) ≠ [] := by rw [dig_pos h2]; simp
        rw [List.getLast_cons h3]
        exact ih (n / 256) (by omega) h3
theorem dig_inj {a b : Nat} (h : dig a = dig b) : a = b := by rw [← val_dig a, ← val_dig b, h]
theorem dig_len_lt {a b : Nat} (h : (dig a).length < (dig b).length) : a < b := by
  have h1 := val_lt (dig a)
  rw [val_dig] at h1
  rcases Nat.lt_or_ge a b with h2 | h2
  · exact h2
  · exfalso
    have hne : dig b ≠ [] := by intro e; rw [e] at h; simp at h
    have h3 : 256 ^ ((dig b).length - 1) ≤ b := by
      have e : dig b = (dig b).dropLast ++ [(dig b).getLast hne] := (List.dropLast_concat_getLast hne).symm
      have h4 : val (dig b) = val (dig b).dropLast + 256 ^ (dig b).dropLast.length * val [(dig b).getLast hne] := by
        conv => lhs; rw [e]
        rw [val_app]
      rw [val_dig] at h4
      have h5 : 1 ≤ val [(dig b).getLast hne] := by
        have h6 := can_dig b hne
        simp only [val, Nat.mul_zero, Nat.add_zero]
        rcases Nat.eq_zero_or_pos ((dig b).getLast hne).toNat with h7 | h7
        · exact absurd (UInt8.toNat_inj.1 (by rw [h7]; rfl)) h6
        · exact h7
      have h8 : (dig b).dropLast.length = (dig b).length - 1 := by simp
      rw [h8] at h4
      calc 256 ^ ((dig b).length - 1) = 256 ^ ((dig b).length - 1) * 1 := by omega
        _ ≤ 256 ^ ((dig b).length - 1) * val [(dig b).getLast hne] := Nat.mul_le_mul_left _ h5
        _ ≤ b := by omega
    have h4 : 256 ^ (dig a).length ≤ 256 ^ ((dig b).length - 1) := Nat.pow_le_pow_right (by omega) (by omega)
    omega
/-- Strings of bytes. -/
def vl (s : ByteArray) : Nat := val s.data.toList
def natB (n : Nat) : ByteArray := ⟨(dig n).toArray⟩
theorem vl_natB (n : Nat) : vl (natB n) = n := val_dig n
theorem natB_list (n : Nat) : (natB n).data.toList = dig n := rfl
theorem natB_size (n : Nat) : (natB n).size = (dig n).length := rfl
theorem ba_ext {a b : ByteArray} (h : a.data.toList = b.data.toList) : a = b := by
  cases a; cases b
  simp at h
  rw [ByteArray.mk.injEq]
  exact h
theorem natB_of {s : ByteArray} (h : Can s.data.toList) : natB (vl s) = s := ba_ext (dig_val h)
/-- Dropping zero bytes at the end. -/
theorem val_take_zero {l : List UInt8} {n : Nat} (h : n < l.length) (hz : l[n] = 0) : val (l.take (n + 1)) = val (l.take n) := by
  rw [List.take_succ_eq_append_getElem h, val_app, hz]
  simp [val]
theorem can_take {l : List UInt8} {n : Nat} (h : n < l.length) (hz : l[n] ≠ 0) : Can (l.take (n + 1)) := fun hne => by
  have e : l.take (n + 1) = l.take n ++ [l[n]] := List.take_succ_eq_append_getElem h
  have : (l.take (n + 1)).getLast hne = l[n] := by simp only [e, List.getLast_append, List.getLast_singleton]; simp
  rw [this]; exact hz
theorem val_split (l : List UInt8) (i : Nat) : val l = val (l.take i) + 256 ^ (l.take i).length * val (l.drop i) := by
  rw [← val_app, List.take_append_drop]
theorem val_drop {l : List UInt8} {i : Nat} : val (l.drop i) = (l.getD i 0).toNat + 256 * val (l.drop (i + 1)) := by
  by_cases h : i < l.length
  · rw [List.drop_eq_getElem_cons h, val, List.getD_eq_getElem?_getD, List.getElem?_eq_getElem h]; rfl
  · rw [List.drop_of_length_le (by omega), List.drop_of_length_le (by omega), List.getD_eq_getElem?_getD, List.getElem?_eq_none (by omega)]; rfl
end Go.Proofs.Ytahgddfnbjpfiaa

set_option linter.unusedVariables false
set_option linter.unusedSimpArgs false
set_option maxRecDepth 100000
set_option maxHeartbeats 16000000
namespace Go.Proofs.Ytahgddfnbjpfiaa
open Go Go.RowKit Am

theorem list_len (s : ByteArray) : s.data.toList.length = s.size := rfl
theorem byteAt_get {s : ByteArray} {i : Nat} (h : i < s.data.toList.length) : byteAt s i = s.data.toList[i] := by
  rw [byteAt, List.getD_eq_getElem?_getD, List.getElem?_eq_getElem h]; rfl
theorem byteAt_out {s : ByteArray} {i : Nat} (h : s.size ≤ i) : byteAt s i = 0 := by
  rw [byteAt, List.getD_eq_getElem?_getD, List.getElem?_eq_none (by rw [list_len]; exact h)]; rfl
theorem extract_list (s : ByteArray) (a b : Nat) : (s.extract a b).data.toList = (s.data.toList.drop a).take (b - a) := by
  rw [ByteArray.data_extract, Array.toList_extract]
theorem extract0 {s : ByteArray} {n : Nat} : (s.extract 0 n).data.toList = s.data.toList.take n := by rw [extract_list]; simp
def normS : Fspec := fun _ ds r => ∃ s : ByteArray, s.size ≤ 1099511627776 ∧ ds = [.s (.string s)] ∧ r = .s (.string (natB (vl s)))
theorem norm_sound {plain : TypeId → Bool} {Γ : FuncId → Option Fspec} {Δ : FuncId → Option Pt} (hE : EnvOk ⟨Try.prog, plain, Γ, Δ, fun _ => none, 0⟩) : Sound Try.prog 65 normS := by
  refine sound_of_awp hE Try.func65 rfl (by kernel_rfl) ?_
  rintro Φ ds r ⟨s, hs, rfl, rfl⟩
  refine ⟨by simp [Try.f65], ?_⟩
  unfold st0
  refine W.out (E := ⟨Try.prog, plain, Γ, Δ, Φ, _⟩) ?_
  have hv0 : val (s.data.toList.take s.size) = vl s := by rw [← list_len, List.take_length]; rfl
  refine go trivial ?_
  refine x_loop (fun σ => ∃ (n : Nat), σ.t 0 = .s (.string s) ∧ σ.t 3 = .s (.int .i64 n) ∧ n ≤ s.size ∧ val (s.data.toList.take n) = vl s) (fun σ => ix (σ.t 3)) ⟨s.size, (by first | assumption | exact sxa trivial), (by first | assumption | exact sxa trivial), (by first | rfl | omega | assumption | (simp [*]; done)), (by first | rfl | omega | assumption | (simp [*]; done))⟩ ?_
  rintro t h n ⟨n, h0, h3, hf0, hf1⟩
  simp only at h0 h3
  have h3o := h3
  by_cases hz : n = 0
  · subst hz
    have hd : natB (vl s) = s.extract 0 0 := by
      rw [← hf1]
      refine ba_ext ?_
      rw [natB_list, extract0]
      exact dig_val can_nil
    refine go (And.intro h0 h3) ?_
    refine x_done (x_out (sr (And.intro @Try.f65.eq_1 hd)) (by simp) (by simp) rfl)
  · have hl : n - 1 < s.data.toList.length := by rw [list_len]; omega
    have z1 : (n : Int) - 1 = ((n - 1 : Nat) : Int) := by omega
    have z2 : (0 < (n : Int)) = True := eq_true (by omega)
    have z3 : n - 1 < s.size := by omega
    have hc := byteAt_get hl
    have en : n - 1 + 1 = n := by omega
    generalize hcq : byteAt s (n - 1) = c at *
    cases hq : ((c.toNat : Int) == 0)
    · have hc0 : s.data.toList[n - 1] ≠ 0 := by
        rw [← hc]
        intro e
        rw [e] at hq
        simp at hq
      have hcan := can_take hl hc0
      rw [en] at hcan
      have hd : natB (vl s) = s.extract 0 n := by
        rw [← hf1]
        refine ba_ext ?_
        rw [natB_list, extract0]
        exact dig_val hcan
      refine go (And.intro h0 (And.intro h3 (And.intro z1 (And.intro z2 (And.intro z3 (And.intro hcq (And.intro hq hf0))))))) ?_
      refine x_done (x_out (sr (And.intro @Try.f65.eq_1 hd)) (by simp) (by simp) rfl)
    · have hc0 : s.data.toList[n - 1] = 0 := by
        rw [← hc]
        apply UInt8.toNat_inj.1
        have : (c.toNat : Int) = 0 := by simpa using hq
        simp
        omega
      have hvt := val_take_zero hl hc0
      rw [en, hf1] at hvt
      refine go (And.intro h0 (And.intro h3 (And.intro z1 (And.intro z2 (And.intro z3 (And.intro hcq hq)))))) ?_
      (refine ⟨⟨n - 1, ?_, ?_, ?_, ?_⟩, ?_⟩ <;> (first | omega | (dsimp only; omega) | ((exact hvt.symm)) | exact sxa @cast_succ | exact soa trivial))
end Go.Proofs.Ytahgddfnbjpfiaa

set_option linter.unusedVariables false
set_option linter.unusedSimpArgs false
set_option maxRecDepth 100000
set_option maxHeartbeats 16000000
namespace Go.Proofs.Ytahgddfnbjpfiaa
open Go Go.RowKit Am

def atS : Fspec := fun _ ds r => ∃ (s : ByteArray) (i : Nat), s.size ≤ 1099511627776 ∧ i ≤ 2199023255552 ∧ ds = [.s (.string s), .s (.int .i64 i)] ∧ r = .s (.int .i64 (byteAt s i).toNat)
theorem at_sound {plain : TypeId → Bool} {Γ : FuncId → Option Fspec} {Δ : FuncId → Option Pt} (hE : EnvOk ⟨Try.prog, plain, Γ, Δ, fun _ => none, 0⟩) : Sound Try.prog 73 atS := by
  refine sound_of_awp hE Try.func73 rfl (by kernel_rfl) ?_
  rintro Φ ds r ⟨s, i, hs, hi, rfl, rfl⟩
  refine ⟨by simp [Try.f73], ?_⟩
  unfold st0
  refine W.out (E := ⟨Try.prog, plain, Γ, Δ, Φ, _⟩) ?_
  by_cases h : i < s.size
  · have h1 : ((i : Int) < (s.size : Int)) = True := eq_true (by omega)
    have hcl := (byteAt s i).toNat_lt
    generalize hcq : byteAt s i = c at *
    refine go (And.intro h (And.intro h1 hcq)) ?_
    refine x_done (x_out (sr @Try.f73.eq_1) (by simp) (by simp) rfl)
  · have h1 : ((i : Int) < (s.size : Int)) = False := eq_false (by omega)
    have h2 : byteAt s i = 0 := byteAt_out (by omega)
    rw [h2]
    refine go h1 ?_
    refine x_done (x_out (sr @Try.f73.eq_1) (by simp) (by simp) rfl)
/-- Which of two numbers is greater: from the last byte down. -/
def cmpN (a b : Nat) : Int := if a < b then -1 else if a = b then 0 else 1
theorem val_lt_at : ∀ {l m : List UInt8} {i : Nat} (hl : i < l.length) (hm : i < m.length), l.length = m.length → l.drop (i + 1) = m.drop (i + 1) → l[i].toNat < m[i].toNat → val l < val m := by
  intro l m i hl hm hlen hd hlt
  have e1 := val_split l i
  have e2 := val_split m i
  have g1 : (l.take i).length = i := by simp; omega
  have g2 : (m.take i).length = i := by simp; omega
  have h1 := val_lt (l.take i)
  rw [g1] at e1 h1
  rw [g2] at e2
  rw [List.drop_eq_getElem_cons hl, val, hd] at e1
  rw [List.drop_eq_getElem_cons hm, val] at e2
  generalize val (m.drop (i + 1)) = x at *
  have h2 : 256 ^ i * (l[i].toNat + 256 * x) + 256 ^ i ≤ 256 ^ i * (m[i].toNat + 256 * x) := by
    rw [← Nat.mul_succ]
    exact Nat.mul_le_mul_left _ (by omega)
  omega
def ix1 : Am.V → Nat
  | .s (.int _ n) => (n + 1).toNat
  | _ => 0
def cmpS : Fspec := fun _ ds r => ∃ a b : ByteArray, a.size ≤ 1099511627776 ∧ b.size ≤ 1099511627776 ∧ ds = [.s (.string a), .s (.string b)] ∧ r = .s (.int .i64 (cmpN (vl a) (vl b)))
theorem dig_size {s : ByteArray} : (dig (vl s)).length ≤ s.size := by
  rcases Nat.lt_or_ge s.size (dig (vl s)).length with h | h
  · exfalso
    have h1 : vl s < 256 ^ s.size := val_lt s.data.toList
    have hne : dig (vl s) ≠ [] := by intro e; rw [e] at h; simp at h
    have e : dig (vl s) = (dig (vl s)).dropLast ++ [(dig (vl s)).getLast hne] := (List.dropLast_concat_getLast hne).symm
    have h4 : val (dig (vl s)) = val (dig (vl s)).dropLast + 256 ^ (dig (vl s)).dropLast.length * val [(dig (vl s)).getLast hne] := by
      conv => lhs; rw [e]
      rw [val_app]
    rw [val_dig] at h4
    have h5 : 1 ≤ val [(dig (vl s)).getLast hne] := by
      have h6 := can_dig (vl s) hne
      simp only [val, Nat.mul_zero, Nat.add_zero]
      rcases Nat.eq_zero_or_pos ((dig (vl s)).getLast hne).toNat with h7 | h7
      · exact absurd (UInt8.toNat_inj.1 (by rw [h7]; rfl)) h6
      · exact h7
    have h8 : (dig (vl s)).dropLast.length = (dig (vl s)).length - 1 := by simp
    rw [h8] at h4
    have h9 : 256 ^ s.size ≤ 256 ^ ((dig (vl s)).length - 1) := Nat.pow_le_pow_right (by omega) (by omega)
    have h10 : 256 ^ ((dig (vl s)).length - 1) * 1 ≤ 256 ^ ((dig (vl s)).length - 1) * val [(dig (vl s)).getLast hne] := Nat.mul_le_mul_left _ h5
    omega
  · exact h
theorem cmp_sound {plain : TypeId → Bool} {Γ : FuncId → Option Fspec} {Δ : FuncId → Option Pt} (hE : EnvOk ⟨Try.prog, plain, Γ, Δ, fun _ => none, 0⟩) (g_norm : Γ 65 = some normS) : Sound Try.prog 66 cmpS := by
  refine sound_of_awp hE Try.func66 rfl (by kernel_rfl) ?_
  rintro Φ ds r ⟨a, b, ha, hb, rfl, rfl⟩
  refine ⟨by simp [Try.f66], ?_⟩
  unfold st0
  refine W.out (E := ⟨Try.prog, plain, Γ, Δ, Φ, _⟩) ?_
  have ha2 := dig_size (s := a)
  have hb2 := dig_size (s := b)
  refine go trivial ?_
  refine x_callN rfl rfl rfl rfl (sv trivial) g_norm (sv trivial) (se trivial) ⟨a, ha, rfl, rfl⟩ rfl ?_
  refine go trivial ?_
  refine x_callN rfl rfl rfl rfl (sv trivial) g_norm (sv trivial) (se trivial) ⟨b, hb, rfl, rfl⟩ rfl ?_
  generalize vl a = x at *
  generalize vl b = y at *
  have hx : ∀ i, byteAt (natB x) i = (dig x).getD i 0 := fun i => rfl
  have hy : ∀ i, byteAt (natB y) i = (dig y).getD i 0 := fun i => rfl
  have sx : (natB x).size = (dig x).length := rfl
  have sy : (natB y).size = (dig y).length := rfl
  by_cases h1 : (dig x).length < (dig y).length
  · have e1 : cmpN x y = -1 := by rw [cmpN, if_pos (dig_len_lt h1)]
    have h2 : (((dig x).length : Int) < ((dig y).length : Int)) = True := eq_true (by omega)
    refine go (And.intro sx (And.intro sy h2)) ?_
    refine x_done (x_out (sr (And.intro @Try.f66.eq_1 e1)) (by simp) (by simp) rfl)
  by_cases h3 : (dig y).length < (dig x).length
  · have e1 : cmpN x y = 1 := by
      have := dig_len_lt h3
      rw [cmpN, if_neg (by omega), if_neg (by omega)]
    have h2 : (((dig x).length : Int) < ((dig y).length : Int)) = False := eq_false (by omega)
    have h4 : (((dig y).length : Int) < ((dig x).length : Int)) = True := eq_true (by omega)
    refine go (And.intro sx (And.intro sy (And.intro h2 h4))) ?_
    refine x_done (x_out (sr (And.intro @Try.f66.eq_1 e1)) (by simp) (by simp) rfl)
  have hlen : (dig x).length = (dig y).length := by omega
  have h2 : (((dig x).length : Int) < ((dig y).length : Int)) = False := eq_false (by omega)
  have h4 : (((dig y).length : Int) < ((dig x).length : Int)) = False := eq_false (by omega)
  refine go (And.intro sx (And.intro sy (And.intro h2 h4))) ?_
  refine x_loop (fun σ => ∃ (i : Nat), σ.t 5 = .s (.string (natB x)) ∧ σ.t 6 = .s (.string (natB y)) ∧ σ.t 7 = .s (.int .i64 ((i : Int) - 1)) ∧ i ≤ (dig x).length ∧ (dig x).drop i = (dig y).drop i) (fun σ => ix1 (σ.t 7)) ⟨(dig x).length, (by first | assumption | exact sxa trivial), (by first | assumption | exact sxa trivial), (by first | assumption | exact sxa trivial), (by first | rfl | omega | assumption | (simp [*]; done)), (by first | rfl | omega | assumption | (simp [*]; done))⟩ ?_
  rintro t h n ⟨i, h5, h6, h7, hf0, hf1⟩
  simp only at h5 h6 h7
  have h7o := h7
  by_cases hi : i = 0
  · subst hi
    have hxy : x = y := dig_inj (by simpa using hf1)
    have e1 : cmpN x y = 0 := by rw [cmpN, if_neg (by omega), if_pos hxy]
    have z1 : ((0 : Int) ≤ ((0 : Nat) : Int) - 1) = False := eq_false (by omega)
    refine go (And.intro h5 (And.intro h6 (And.intro h7 z1))) ?_
    refine x_done (x_out (sr (And.intro @Try.f66.eq_1 e1)) (by simp) (by simp) rfl)
  · have z1 : (0 : Int) ≤ (i : Int) - 1 := by omega
    have z2 : (i : Int) - 1 = ((i - 1 : Nat) : Int) := by omega
    have lx : i - 1 < (dig x).length := by omega
    have ly : i - 1 < (dig y).length := by omega
    have gx : (dig x).getD (i - 1) 0 = (dig x)[i - 1] := by rw [List.getD_eq_getElem?_getD, List.getElem?_eq_getElem lx]; rfl
    have gy : (dig y).getD (i - 1) 0 = (dig y)[i - 1] := by rw [List.getD_eq_getElem?_getD, List.getElem?_eq_getElem ly]; rfl
    have en : i - 1 + 1 = i := by omega
    have hdx := List.drop_eq_getElem_cons lx
    have hdy := List.drop_eq_getElem_cons ly
    have k1 := val_lt_at lx ly hlen (by rw [en]; exact hf1)
    have k2 := val_lt_at ly lx hlen.symm (by rw [en]; exact hf1.symm)
    rw [val_dig, val_dig] at k1 k2
    rw [en] at hdx hdy
    generalize hcx : (dig x)[i - 1] = c at *
    generalize hcy : (dig y)[i - 1] = d at *
    rw [z2] at h7
    by_cases q1 : c.toNat < d.toNat
    · have e1 : cmpN x y = -1 := by rw [cmpN, if_pos (k1 q1)]
      have q2 : ((c.toNat : Int) < (d.toNat : Int)) = True := eq_true (by omega)
      refine go (And.intro h5 (And.intro h6 (And.intro h7 (And.intro hx (And.intro hy (And.intro sx (And.intro sy (And.intro gx (And.intro gy (And.intro lx (And.intro ly q2))))))))))) ?_
      refine x_done (x_out (sr (And.intro @Try.f66.eq_1 e1)) (by simp) (by simp) rfl)
    have q2 : ((c.toNat : Int) < (d.toNat : Int)) = False := eq_false (by omega)
    by_cases q3 : d.toNat < c.toNat
    · have e1 : cmpN x y = 1 := by
        have := k2 q3
        rw [cmpN, if_neg (by omega), if_neg (by omega)]
      have q4 : ((d.toNat : Int) < (c.toNat : Int)) = True := eq_true (by omega)
      refine go (And.intro h5 (And.intro h6 (And.intro h7 (And.intro hx (And.intro hy (And.intro sx (And.intro sy (And.intro gx (And.intro gy (And.intro lx (And.intro ly (And.intro q2 q4)))))))))))) ?_
      refine x_done (x_out (sr (And.intro @Try.f66.eq_1 e1)) (by simp) (by simp) rfl)
    have q4 : ((d.toNat : Int) < (c.toNat : Int)) = False := eq_false (by omega)
    have hcd : c = d := UInt8.toNat_inj.1 (by omega)
    have hms : ix1 (.s (.int .i64 (((i - 1 : Nat) : Int) - 1))) < ix1 (.s (.int .i64 ((i - 1 : Nat) : Int))) := by simp only [ix1]; omega
    have hnx : (dig x).drop (i - 1) = (dig y).drop (i - 1) := by rw [hdx, hdy, hf1, hcd]
    refine go (And.intro h5 (And.intro h6 (And.intro h7 (And.intro hx (And.intro hy (And.intro sx (And.intro sy (And.intro gx (And.intro gy (And.intro lx (And.intro ly (And.intro q2 q4)))))))))))) ?_
    (refine ⟨⟨i - 1, ?_, ?_, ?_, ?_, ?_⟩, ?_⟩ <;> (first | omega | (dsimp only; omega) | ((exact hnx)) | exact sxa @cast_succ | exact soa trivial))
end Go.Proofs.Ytahgddfnbjpfiaa

set_option linter.unusedVariables false
set_option linter.unusedSimpArgs false
set_option maxRecDepth 100000
set_option maxHeartbeats 16000000
namespace Go.Proofs.Ytahgddfnbjpfiaa
open Go Go.RowKit Am

abbrev encB (c : UInt8) : List V := [.s (.int .u8 (c.toNat : Int))]
theorem okRowB (c : UInt8) : okRows 1 [encB c] := okRows_map encB [c] 1 fun a => ⟨rfl, by simp [cellish]⟩
theorem bytesB : ∀ l : List UInt8, bytesOf (l.map encB) = some (l.map fun c => (c.toNat : Int))
  | [] => rfl
  | c :: l => by
    show (bytesOf (l.map encB)).map ((c.toNat : Int) :: ·) = _
    rw [bytesB l]; rfl
theorem strB (l : List UInt8) : strOf (l.map fun c => (c.toNat : Int)) = ⟨l.toArray⟩ := by
  unfold strOf
  congr 2
  rw [List.map_map]
  conv => rhs; rw [← List.map_id l]
  exact List.map_congr_left fun c _ => by simp
theorem wrap8 (n : Nat) : IntKind.u8.wrap (n : Int) = ((UInt8.ofNat n).toNat : Int) := by
  simp [IntKind.wrap, IntKind.bits, IntKind.signed]
def adC (a b : ByteArray) : Nat → Nat
  | 0 => 0
  | i + 1 => (adC a b i + ((byteAt a i).toNat + (byteAt b i).toNat)) / 256
def adL (a b : ByteArray) : Nat → List UInt8
  | 0 => []
  | i + 1 => adL a b i ++ [UInt8.ofNat (adC a b i + ((byteAt a i).toNat + (byteAt b i).toNat))]
theorem adL_len (a b : ByteArray) : ∀ i, (adL a b i).length = i
  | 0 => rfl
  | i + 1 => by rw [adL, List.length_append, adL_len a b i]; rfl
theorem adC_le (a b : ByteArray) : ∀ i, adC a b i ≤ 1
  | 0 => Nat.zero_le _
  | i + 1 => by
    have h1 := adC_le a b i
    have h2 := (byteAt a i).toNat_lt
    have h3 := (byteAt b i).toNat_lt
    rw [adC]
    omega
theorem val_take_succ (s : ByteArray) (i : Nat) : val (s.data.toList.take (i + 1)) = val (s.data.toList.take i) + 256 ^ i * (byteAt s i).toNat := by
  by_cases h : i < s.data.toList.length
  · rw [List.take_succ_eq_append_getElem h, val_app, List.length_take, byteAt_get h]
    simp only [val, Nat.mul_zero, Nat.add_zero]
    rw [Nat.min_eq_left (by omega)]
  · rw [List.take_of_length_le (by omega), List.take_of_length_le (by omega), byteAt_out (by rw [← list_len]; omega)]
    simp
theorem val_take_all (s : ByteArray) {i : Nat} (h : s.size ≤ i) : val (s.data.toList.take i) = vl s := by
  rw [List.take_of_length_le (by rw [list_len]; exact h)]; rfl
theorem ad_inv (a b : ByteArray) : ∀ i, val (adL a b i) + 256 ^ i * adC a b i = val (a.data.toList.take i) + val (b.data.toList.take i)
  | 0 => by simp [adL, adC, val]
  | i + 1 => by
    have ih := ad_inv a b i
    rw [val_take_succ, val_take_succ, adL, adC, val_app, adL_len]
    generalize (byteAt a i).toNat = x at *
    generalize (byteAt b i).toNat = y at *
    generalize adC a b i = c at *
    have e1 : val [UInt8.ofNat (c + (x + y))] = (c + (x + y)) % 256 := by simp [val]
    have e2 : 256 ^ (i + 1) * ((c + (x + y)) / 256) = 256 ^ i * (256 * ((c + (x + y)) / 256)) := by rw [Nat.pow_succ, Nat.mul_assoc]
    have e3 : 256 ^ i * ((c + (x + y)) % 256) + 256 ^ i * (256 * ((c + (x + y)) / 256)) = 256 ^ i * (c + (x + y)) := by
      rw [← Nat.mul_add]
      congr 1
      omega
    have e4 : 256 ^ i * (c + (x + y)) = 256 ^ i * c + (256 ^ i * x + 256 ^ i * y) := by rw [Nat.mul_add, Nat.mul_add]
    rw [e1, e2]
    omega
def add1S : Fspec := fun _ ds r => ∃ a b : ByteArray, a.size ≤ 1099511627770 ∧ b.size ≤ 1099511627770 ∧ ds = [.s (.string a), .s (.string b)] ∧ r = .s (.string (natB (vl a + vl b)))
theorem add1_sound {plain : TypeId → Bool} {Γ : FuncId → Option Fspec} {Δ : FuncId → Option Pt} (hE : EnvOk ⟨Try.prog, plain, Γ, Δ, fun _ => none, 0⟩) (g_norm : Γ 65 = some normS) (g_at : Γ 73 = some atS) : Sound Try.prog 69 add1S := by
  refine sound_of_awp hE Try.func69 rfl (by kernel_rfl) ?_
  rintro Φ ds r ⟨a, b, ha, hb, rfl, rfl⟩
  refine ⟨by simp [Try.f69], ?_⟩
  unfold st0
  refine W.out (E := ⟨Try.prog, plain, Γ, Δ, Φ, _⟩) ?_
  refine go trivial ?_
  obtain ⟨M, hM1, hM2, hM3⟩ : ∃ M, a.size ≤ M ∧ b.size ≤ M ∧ M ≤ 1099511627770 := ⟨max a.size b.size, by omega, by omega, by omega⟩
  have hl0 : (adL a b 0).map encB = [] := rfl
  have hc0 : adC a b 0 = 0 := rfl
  refine x_loop (fun σ => ∃ (i : Nat) (q : Nat) (cq : Nat) (sq : List (List Am.V)), σ.t 0 = .s (.string a) ∧ σ.t 1 = .s (.string b) ∧ σ.t 5 = .loc q 0 i cq ∧ σ.t 6 = .s (.int .i64 (adC a b i)) ∧ σ.t 7 = .s (.int .i64 i) ∧ σ.h q = some ⟨1, (adL a b i).map encB ++ sq, true⟩ ∧ q < σ.n ∧ i ≤ M + 1 ∧ i ≤ cq ∧ cq ≤ i + sq.length) (fun σ => M + 1 - ix (σ.t 7)) ⟨0, 0, _, [], (by first | assumption | exact sxa trivial), (by first | assumption | exact sxa trivial), (by first | assumption | exact sxa trivial), (by first | assumption | exact sxa trivial), (by first | assumption | exact sxa trivial), (by first | assumption | exact sxa trivial), (by first | omega | (dsimp only; omega) | exact soa trivial | omega | (simp; done)), (by first | rfl | omega | assumption | (simp [*]; done)), (by first | rfl | omega | assumption | (simp [*]; done)), (by first | rfl | omega | assumption | (simp [*]; done))⟩ ?_
  rintro t h n ⟨i, q, cq, sq, h0, h1, h5, h6, h7, hhq, hn1, hf0, hf1, hf2⟩
  simp only at h0 h1 h5 h6 h7 hhq hn1
  have hcl := adC_le a b i
  refine x_cut (fun σ => σ.t 0 = .s (.string a) ∧ σ.t 1 = .s (.string b) ∧ σ.t 5 = .loc q 0 i cq ∧ σ.t 6 = .s (.int .i64 (adC a b i)) ∧ σ.t 7 = .s (.int .i64 i) ∧ σ.h q = some ⟨1, (adL a b i).map encB ++ sq, true⟩ ∧ q < σ.n ∧ i ≤ M) ?_ ?_
  · by_cases c1 : i < a.size
    · have d1 : ((i : Int) < (a.size : Int)) = True := eq_true (by omega)
      refine go (And.intro h0 (And.intro h1 (And.intro h5 (And.intro h6 (And.intro h7 d1))))) ?_
      (refine ⟨?_, ?_, ?_, ?_, ?_, ?_, ?_, ?_⟩ <;> (first | omega | (dsimp only; omega) | exact sxa @cast_succ | exact soa trivial | (omega)))
    have d1 : ((i : Int) < (a.size : Int)) = False := eq_false (by omega)
    by_cases c2 : i < b.size
    · have d3 : ((i : Int) < (b.size : Int)) = True := eq_true (by omega)
      refine go (And.intro h0 (And.intro h1 (And.intro h5 (And.intro h6 (And.intro h7 (And.intro d1 d3)))))) ?_
      (refine ⟨?_, ?_, ?_, ?_, ?_, ?_, ?_, ?_⟩ <;> (first | omega | (dsimp only; omega) | exact sxa @cast_succ | exact soa trivial | (omega)))
    have d3 : ((i : Int) < (b.size : Int)) = False := eq_false (by omega)
    by_cases c3 : 0 < adC a b i
    · have d4 : ((0 : Int) < (adC a b i : Int)) = True := eq_true (by omega)
      have hM : i ≤ M := by
        rcases Nat.lt_or_ge M i with h | h
        · exfalso
          have e : i = M + 1 := by omega
          subst e
          have h2 := adC_le a b M
          rw [adC, byteAt_out (by omega : a.size ≤ M), byteAt_out (by omega : b.size ≤ M)] at c3
          simp at c3
          omega
        · exact h
      refine go (And.intro h0 (And.intro h1 (And.intro h5 (And.intro h6 (And.intro h7 (And.intro d1 (And.intro d3 d4))))))) ?_
      (refine ⟨?_, ?_, ?_, ?_, ?_, ?_, ?_, ?_⟩ <;> (first | omega | (dsimp only; omega) | exact sxa @cast_succ | exact soa trivial | (omega)))
    have d4 : ((0 : Int) < (adC a b i : Int)) = False := eq_false (by omega)
    have hv := ad_inv a b i
    rw [show adC a b i = 0 by omega, Nat.mul_zero, Nat.add_zero, val_take_all a (by omega), val_take_all b (by omega)] at hv
    have hll := adL_len a b i
    generalize adL a b i = L at *
    have tk : (L.map encB ++ sq).take i = L.map encB := List.take_left' (by simpa using hll)
    have ln : i ≤ (L.map encB ++ sq).length := by simp; omega
    have b1 := bytesB L
    have b2 := strB L
    have hb3 : vl ⟨L.toArray⟩ = vl a + vl b := hv
    have hsz : (⟨L.toArray⟩ : ByteArray).size ≤ 1099511627776 := by show L.length ≤ _; omega
    refine go (And.intro h0 (And.intro h1 (And.intro h5 (And.intro h6 (And.intro h7 (And.intro d1 (And.intro d3 (And.intro d4 (And.intro hhq (And.intro tk (And.intro ln (And.intro b1 b2)))))))))))) ?_
    refine x_callN rfl rfl rfl rfl (sv trivial) g_norm (sv trivial) (se trivial) ⟨⟨L.toArray⟩, hsz, rfl, rfl⟩ rfl ?_
    rw [hb3]
    refine go trivial ?_
    refine x_done (x_out (sr @Try.f69.eq_1) (by simp) (by simp) rfl)
  rintro t2 g2 n2 ⟨h0, h1, h5, h6, h7, hhq, hn1, hf0⟩
  simp only at h0 h1 h5 h6 h7 hhq hn1
  have hcl2 := adC_le a b i
  have x1 := (byteAt a i).toNat_lt
  have x2 := (byteAt b i).toNat_lt
  have e1 : (q = n2) = False := by simp; omega
  have e2 : (q = n2 + 1) = False := by simp; omega
  have e3 : (n2 = q) = False := by simp; omega
  have e4 : (n2 + 1 = q) = False := by simp; omega
  refine go (And.intro h0 (And.intro h1 (And.intro h5 (And.intro h6 h7)))) ?_
  refine x_callN rfl rfl rfl rfl (sv (And.intro h0 h7)) g_at (sv (And.intro h0 h7)) (se (And.intro h0 h7)) ⟨a, i, by omega, by omega, rfl, rfl⟩ rfl ?_
  refine go (And.intro h0 (And.intro h1 (And.intro h5 (And.intro h6 h7)))) ?_
  refine x_callN rfl rfl rfl rfl (sv (And.intro h1 h7)) g_at (sv (And.intro h1 h7)) (se (And.intro h1 h7)) ⟨b, i, by omega, by omega, rfl, rfl⟩ rfl ?_
  have hcs : adC a b (i + 1) = (adC a b i + ((byteAt a i).toNat + (byteAt b i).toNat)) / 256 := rfl
  have hls : (adL a b (i + 1)).map encB = (adL a b i).map encB ++ [encB (UInt8.ofNat (adC a b i + ((byteAt a i).toNat + (byteAt b i).toNat)))] := by rw [adL]; simp
  have z1 : (adC a b i : Int) + (((byteAt a i).toNat : Int) + ((byteAt b i).toNat : Int)) = ((adC a b i + ((byteAt a i).toNat + (byteAt b i).toNat) : Nat) : Int) := by omega
  have hll := adL_len a b i
  generalize hw : adC a b i + ((byteAt a i).toNat + (byteAt b i).toNat) = w at *
  have z2 : (w : Int).tmod 256 = ((w % 256 : Nat) : Int) := rfl
  have z3 : (w : Int).tdiv 256 = ((w / 256 : Nat) : Int) := rfl
  have z4 := wrap8 (w % 256)
  have z5 : UInt8.ofNat (w % 256) = UInt8.ofNat w := UInt8.toNat_inj.1 (by simp)
  rw [z5] at z4
  refine go (And.intro h0 (And.intro h1 (And.intro h5 (And.intro h6 (And.intro h7 (And.intro z1 (And.intro z2 (And.intro z3 z4)))))))) ?_
  refine x_appendO rfl rfl rfl rfl rfl rfl (sv (And.intro h5 (And.intro hhq (And.intro hll (And.intro e1 (And.intro e2 (And.intro e3 e4))))))) (by decide) (sc (And.intro h5 (And.intro hhq (And.intro hll (And.intro e1 (And.intro e2 (And.intro e3 e4))))))) (sv (And.intro h5 (And.intro hhq (And.intro hll (And.intro e1 (And.intro e2 (And.intro e3 e4))))))) (sx (And.intro h5 (And.intro hhq (And.intro hll (And.intro e1 (And.intro e2 (And.intro e3 e4))))))) (by first | rfl | (simp; done) | (simp [spare_len]; omega)) (by first | omega | (simp; done) | (simp [spare_len]; omega)) (by first | omega | (simp; done) | (simp [spare_len]; omega)) (sx (And.intro h5 (And.intro hhq (And.intro hll (And.intro e1 (And.intro e2 (And.intro e3 e4))))))) (okRowB (UInt8.ofNat w)) (by first | omega | (simp; done) | (simp [spare_len]; omega)) (fun cap' hcap' => ?_)
  refine go (And.intro h0 (And.intro h1 (And.intro h5 (And.intro h6 (And.intro h7 (And.intro z3 (And.intro e1 (And.intro e2 (And.intro e3 e4))))))))) ?_
  have hc2 : i + 1 ≤ cap' := hcap'
  rw [← hcs]
  clear z1 z2 z4 z5 hw
  (refine ⟨⟨i + 1, n2 + 1, cap', spare 1 (cap' - (i + 1)), ?_, ?_, ?_, ?_, ?_, ?_, ?_, ?_, ?_, ?_⟩, ?_⟩ <;> (first | omega | (dsimp only; omega) | ((simp only [spare_len]; omega)) | exact sxa (And.intro @cast_succ (And.intro hls (And.intro hcs (And.intro e1 (And.intro e2 (And.intro e3 e4)))))) | exact soa trivial))
end Go.Proofs.Ytahgddfnbjpfiaa

set_option linter.unusedVariables false
set_option linter.unusedSimpArgs false
set_option maxRecDepth 100000
set_option maxHeartbeats 16000000
namespace Go.Proofs.Ytahgddfnbjpfiaa
open Go Go.RowKit Am

def sbC (a b : ByteArray) : Nat → Nat
  | 0 => 0
  | i + 1 => if (byteAt a i).toNat < (byteAt b i).toNat + sbC a b i then 1 else 0
def sbL (a b : ByteArray) : Nat → List UInt8
  | 0 => []
  | i + 1 => sbL a b i ++ [UInt8.ofNat ((byteAt a i).toNat + 256 * sbC a b (i + 1) - ((byteAt b i).toNat + sbC a b i))]
theorem sbL_len (a b : ByteArray) : ∀ i, (sbL a b i).length = i
  | 0 => rfl
  | i + 1 => by rw [sbL, List.length_append, sbL_len a b i]; rfl
theorem sbC_le (a b : ByteArray) (i : Nat) : sbC a b i ≤ 1 := by
  cases i with
  | zero => exact Nat.zero_le _
  | succ i => rw [sbC]; split <;> omega
theorem sb_inv (a b : ByteArray) : ∀ i, val (a.data.toList.take i) + 256 ^ i * sbC a b i = val (sbL a b i) + val (b.data.toList.take i)
  | 0 => by simp [sbL, sbC, val]
  | i + 1 => by
    have ih := sb_inv a b i
    have hc := sbC_le a b i
    have hx := (byteAt a i).toNat_lt
    have hy := (byteAt b i).toNat_lt
    rw [val_take_succ, val_take_succ, sbL, val_app, sbL_len]
    have hC : sbC a b (i + 1) = if (byteAt a i).toNat < (byteAt b i).toNat + sbC a b i then 1 else 0 := rfl
    generalize (byteAt a i).toNat = x at *
    generalize (byteAt b i).toNat = y at *
    generalize sbC a b i = c at *
    generalize sbC a b (i + 1) = d at *
    have hd : x + 256 * d = (x + 256 * d - (y + c)) + (y + c) ∧ x + 256 * d - (y + c) < 256 := by split at hC <;> omega
    generalize x + 256 * d - (y + c) = w at *
    have e1 : val [UInt8.ofNat w] = w := by simp [val]; omega
    have e2 : 256 ^ (i + 1) * d = 256 ^ i * (256 * d) := by rw [Nat.pow_succ, Nat.mul_assoc]
    have e3 : 256 ^ i * x + 256 ^ i * (256 * d) = 256 ^ i * w + (256 ^ i * y + 256 ^ i * c) := by
      rw [← Nat.mul_add, ← Nat.mul_add, ← Nat.mul_add, hd.1]
    rw [e1, e2]
    omega
theorem sb_end (a b : ByteArray) (h : vl b ≤ vl a) : val (sbL a b a.size) = vl a - vl b := by
  have hi := sb_inv a b a.size
  have hc := sbC_le a b a.size
  have e1 : val (a.data.toList.take a.size) = vl a := val_take_all a (Nat.le_refl _)
  have e2 := val_lt (sbL a b a.size)
  rw [sbL_len] at e2
  have e3 : vl b = val (b.data.toList.take a.size) + 256 ^ (b.data.toList.take a.size).length * val (b.data.toList.drop a.size) := val_split _ _
  have e4 : vl a < 256 ^ a.size := val_lt a.data.toList
  rw [e1] at hi
  by_cases hb : b.size ≤ a.size
  · have e5 : val (b.data.toList.take a.size) = vl b := val_take_all b hb
    rw [e5] at hi
    rcases Nat.lt_or_ge 0 (sbC a b a.size) with h1 | h1
    · have : sbC a b a.size = 1 := by omega
      rw [this] at hi
      omega
    · have : sbC a b a.size = 0 := by omega
      rw [this] at hi
      omega
  · have e6 : (b.data.toList.take a.size).length = a.size := by rw [List.length_take, list_len]; omega
    rw [e6] at e3
    have e7 : val (b.data.toList.drop a.size) = 0 := by
      rcases Nat.eq_zero_or_pos (val (b.data.toList.drop a.size)) with h1 | h1
      · exact h1
      · have : 256 ^ a.size * 1 ≤ 256 ^ a.size * val (b.data.toList.drop a.size) := Nat.mul_le_mul_left _ h1
        omega
    rw [e7, Nat.mul_zero, Nat.add_zero] at e3
    rw [← e3] at hi
    rcases Nat.lt_or_ge 0 (sbC a b a.size) with h1 | h1
    · have : sbC a b a.size = 1 := by omega
      rw [this] at hi
      omega
    · have : sbC a b a.size = 0 := by omega
      rw [this] at hi
      omega
def sub1S : Fspec := fun _ ds r => ∃ a b : ByteArray, a.size ≤ 1099511627770 ∧ b.size ≤ 1099511627770 ∧ ds = [.s (.string a), .s (.string b)] ∧ r = .tup (if vl a < vl b then [.s (.string ⟨#[]⟩), .s (.bool false)] else [.s (.string (natB (vl a - vl b))), .s (.bool true)])
theorem sub1_sound {plain : TypeId → Bool} {Γ : FuncId → Option Fspec} {Δ : FuncId → Option Pt} (hE : EnvOk ⟨Try.prog, plain, Γ, Δ, fun _ => none, 0⟩) (g_norm : Γ 65 = some normS) (g_at : Γ 73 = some atS) (g_cmp : Γ 66 = some cmpS) : Sound Try.prog 68 sub1S := by
  refine sound_of_awp hE Try.func68 rfl (by kernel_rfl) ?_
  rintro Φ ds r ⟨a, b, ha, hb, rfl, rfl⟩
  refine ⟨by simp [Try.f68], ?_⟩
  unfold st0
  refine W.out (E := ⟨Try.prog, plain, Γ, Δ, Φ, _⟩) ?_
  refine go trivial ?_
  refine x_callN rfl rfl rfl rfl (sv trivial) g_cmp (sv trivial) (se trivial) ⟨a, b, by omega, by omega, rfl, rfl⟩ rfl ?_
  by_cases hlt : vl a < vl b
  · have hc : cmpN (vl a) (vl b) = -1 := by rw [cmpN, if_pos hlt]
    rw [hc, if_pos hlt]
    refine go trivial ?_
    refine x_done (x_outT (sr @Try.f68.eq_1) rfl)
  have hc : (cmpN (vl a) (vl b) < 0) = False := by
    rw [cmpN, if_neg hlt]
    split <;> simp
  have hend := sb_end a b (by omega)
  rw [if_neg hlt]
  refine go hc ?_
  have hl0 : (sbL a b 0).map encB = [] := rfl
  have hc0 : sbC a b 0 = 0 := rfl
  refine x_loop (fun σ => ∃ (i : Nat) (q : Nat) (cq : Nat) (sq : List (List Am.V)), σ.t 0 = .s (.string a) ∧ σ.t 1 = .s (.string b) ∧ σ.t 6 = .loc q 0 i cq ∧ σ.t 7 = .s (.int .i64 (sbC a b i)) ∧ σ.t 8 = .s (.int .i64 i) ∧ σ.h q = some ⟨1, (sbL a b i).map encB ++ sq, true⟩ ∧ q < σ.n ∧ i ≤ a.size ∧ i ≤ cq ∧ cq ≤ i + sq.length) (fun σ => a.size - ix (σ.t 8)) ⟨0, 0, _, [], (by first | assumption | exact sxa trivial), (by first | assumption | exact sxa trivial), (by first | assumption | exact sxa trivial), (by first | assumption | exact sxa trivial), (by first | assumption | exact sxa trivial), (by first | assumption | exact sxa trivial), (by first | omega | (dsimp only; omega) | exact soa trivial | omega | (simp; done)), (by first | rfl | omega | assumption | (simp [*]; done)), (by first | rfl | omega | assumption | (simp [*]; done)), (by first | rfl | omega | assumption | (simp [*]; done))⟩ ?_
  rintro t h n ⟨i, q, cq, sq, h0, h1, h6, h7, h8, hhq, hn1, hf0, hf1, hf2⟩
  simp only at h0 h1 h6 h7 h8 hhq hn1
  have hcl := sbC_le a b i
  refine go (And.intro h0 (And.intro h1 (And.intro h6 (And.intro h7 h8)))) ?_
  refine x_condP (sv (And.intro h0 (And.intro h1 (And.intro h6 (And.intro h7 h8))))) (fun hc => ?_) (fun hc => ?_)
  · have hi : i < a.size := by omega
    have x1 := (byteAt a i).toNat_lt
    have x2 := (byteAt b i).toNat_lt
    have e1 : (q = n) = False := by simp; omega
    have e2 : (q = n + 1) = False := by simp; omega
    have e3 : (n = q) = False := by simp; omega
    have e4 : (n + 1 = q) = False := by simp; omega
    refine go (And.intro h0 (And.intro h1 (And.intro h6 (And.intro h7 h8)))) ?_
    refine x_callN rfl rfl rfl rfl (sv (And.intro h0 h8)) g_at (sv (And.intro h0 h8)) (se (And.intro h0 h8)) ⟨a, i, by omega, by omega, rfl, rfl⟩ rfl ?_
    refine go (And.intro h0 (And.intro h1 (And.intro h6 (And.intro h7 h8)))) ?_
    refine x_callN rfl rfl rfl rfl (sv (And.intro h1 h8)) g_at (sv (And.intro h1 h8)) (se (And.intro h1 h8)) ⟨b, i, by omega, by omega, rfl, rfl⟩ rfl ?_
    have hcs : sbC a b (i + 1) = if (byteAt a i).toNat < (byteAt b i).toNat + sbC a b i then 1 else 0 := rfl
    have hls : (sbL a b (i + 1)).map encB = (sbL a b i).map encB ++ [encB (UInt8.ofNat ((byteAt a i).toNat + 256 * sbC a b (i + 1) - ((byteAt b i).toNat + sbC a b i)))] := by rw [sbL]; simp
    have hll := sbL_len a b i
    by_cases hq : (byteAt a i).toNat < (byteAt b i).toNat + sbC a b i
    · rw [if_pos hq] at hcs
      rw [hcs] at hls
      have z1 : (((byteAt a i).toNat : Int) - ((byteAt b i).toNat : Int) - (sbC a b i : Int) < 0) = True := eq_true (by omega)
      have z2 : ((byteAt a i).toNat : Int) - ((byteAt b i).toNat : Int) - (sbC a b i : Int) + 256 = (((byteAt a i).toNat + 256 * 1 - ((byteAt b i).toNat + sbC a b i) : Nat) : Int) := by omega
      generalize (byteAt a i).toNat + 256 * 1 - ((byteAt b i).toNat + sbC a b i) = w at *
      have z3 := wrap8 w
      refine go (And.intro h0 (And.intro h1 (And.intro h6 (And.intro h7 (And.intro h8 (And.intro z1 (And.intro z2 z3))))))) ?_
      refine x_appendO rfl rfl rfl rfl rfl rfl (sv (And.intro h6 (And.intro hhq (And.intro hll (And.intro e1 (And.intro e2 (And.intro e3 e4))))))) (by decide) (sc (And.intro h6 (And.intro hhq (And.intro hll (And.intro e1 (And.intro e2 (And.intro e3 e4))))))) (sv (And.intro h6 (And.intro hhq (And.intro hll (And.intro e1 (And.intro e2 (And.intro e3 e4))))))) (sx (And.intro h6 (And.intro hhq (And.intro hll (And.intro e1 (And.intro e2 (And.intro e3 e4))))))) (by first | rfl | (simp; done) | (simp [spare_len]; omega)) (by first | omega | (simp; done) | (simp [spare_len]; omega)) (by first | omega | (simp; done) | (simp [spare_len]; omega)) (sx (And.intro h6 (And.intro hhq (And.intro hll (And.intro e1 (And.intro e2 (And.intro e3 e4))))))) (okRowB (UInt8.ofNat w)) (by first | omega | (simp; done) | (simp [spare_len]; omega)) (fun cap' hcap' => ?_)
      refine go (And.intro h0 (And.intro h1 (And.intro h6 (And.intro h7 (And.intro h8 (And.intro e1 (And.intro e2 (And.intro e3 e4)))))))) ?_
      have hc2 : i + 1 ≤ cap' := hcap'
      clear z1 z2 z3
      (refine ⟨⟨i + 1, n + 1, cap', spare 1 (cap' - (i + 1)), ?_, ?_, ?_, ?_, ?_, ?_, ?_, ?_, ?_, ?_⟩, ?_⟩ <;> (first | omega | (dsimp only; omega) | ((simp only [spare_len]; omega)) | exact sxa (And.intro @cast_succ (And.intro hls (And.intro hcs (And.intro e1 (And.intro e2 (And.intro e3 e4)))))) | exact soa trivial))
    · rw [if_neg hq] at hcs
      rw [hcs] at hls
      have z1 : (((byteAt a i).toNat : Int) - ((byteAt b i).toNat : Int) - (sbC a b i : Int) < 0) = False := eq_false (by omega)
      have z2 : ((byteAt a i).toNat : Int) - ((byteAt b i).toNat : Int) - (sbC a b i : Int) = (((byteAt a i).toNat + 256 * 0 - ((byteAt b i).toNat + sbC a b i) : Nat) : Int) := by omega
      rw [z2] at z1
      generalize (byteAt a i).toNat + 256 * 0 - ((byteAt b i).toNat + sbC a b i) = w at *
      have z3 := wrap8 w
      refine go (And.intro h0 (And.intro h1 (And.intro h6 (And.intro h7 (And.intro h8 (And.intro z2 (And.intro z1 z3))))))) ?_
      refine x_appendO rfl rfl rfl rfl rfl rfl (sv (And.intro h6 (And.intro hhq (And.intro hll (And.intro e1 (And.intro e2 (And.intro e3 e4))))))) (by decide) (sc (And.intro h6 (And.intro hhq (And.intro hll (And.intro e1 (And.intro e2 (And.intro e3 e4))))))) (sv (And.intro h6 (And.intro hhq (And.intro hll (And.intro e1 (And.intro e2 (And.intro e3 e4))))))) (sx (And.intro h6 (And.intro hhq (And.intro hll (And.intro e1 (And.intro e2 (And.intro e3 e4))))))) (by first | rfl | (simp; done) | (simp [spare_len]; omega)) (by first | omega | (simp; done) | (simp [spare_len]; omega)) (by first | omega | (simp; done) | (simp [spare_len]; omega)) (sx (And.intro h6 (And.intro hhq (And.intro hll (And.intro e1 (And.intro e2 (And.intro e3 e4))))))) (okRowB (UInt8.ofNat w)) (by first | omega | (simp; done) | (simp [spare_len]; omega)) (fun cap' hcap' => ?_)
      refine go (And.intro h0 (And.intro h1 (And.intro h6 (And.intro h7 (And.intro h8 (And.intro e1 (And.intro e2 (And.intro e3 e4)))))))) ?_
      have hc2 : i + 1 ≤ cap' := hcap'
      clear z1 z2 z3
      (refine ⟨⟨i + 1, n + 1, cap', spare 1 (cap' - (i + 1)), ?_, ?_, ?_, ?_, ?_, ?_, ?_, ?_, ?_, ?_⟩, ?_⟩ <;> (first | omega | (dsimp only; omega) | ((simp only [spare_len]; omega)) | exact sxa (And.intro @cast_succ (And.intro hls (And.intro hcs (And.intro e1 (And.intro e2 (And.intro e3 e4)))))) | exact soa trivial))
  · have ei : i = a.size := by omega
    subst ei
    have hll := sbL_len a b a.size
    generalize sbL a b a.size = L at *
    have tk : (L.map encB ++ sq).take a.size = L.map encB := List.take_left' (by simpa using hll)
    have ln : a.size ≤ (L.map encB ++ sq).length := by simp; omega
    have b1 := bytesB L
    have b2 := strB L
    have hb3 : vl ⟨L.toArray⟩ = vl a - vl b := hend
    have hsz : (⟨L.toArray⟩ : ByteArray).size ≤ 1099511627776 := by show L.length ≤ _; omega
    refine go (And.intro h0 (And.intro h1 (And.intro h6 (And.intro h7 (And.intro hhq (And.intro tk (And.intro ln (And.intro b1 b2)))))))) ?_
    refine x_callN rfl rfl rfl rfl (sv trivial) g_norm (sv trivial) (se trivial) ⟨⟨L.toArray⟩, hsz, rfl, rfl⟩ rfl ?_
    rw [hb3]
    refine go trivial ?_
    refine x_done (x_outT (sr @Try.f68.eq_1) rfl)
end Go.Proofs.Ytahgddfnbjpfiaa

set_option linter.unusedVariables false
set_option linter.unusedSimpArgs false
set_option maxRecDepth 100000
set_option maxHeartbeats 16000000
namespace Go.Proofs.Ytahgddfnbjpfiaa
open Go Go.RowKit Am

section
variable {E : Env} {ops : Array Oper} {o : Oper} {rest : List Oper} {Q : Exit → St → Prop} {t : Nat → V} {h : Hp} {n d : Nat}
theorem x_make {T e z b8 m m' : Nat} {l k : Operand} {zv : Value} (ho : o.op = .makeSlice T l k) (hg : o.guard = none) (hd : o.dst = some d) (hq : seqo E.P T = .slice e z b8) (hz : zro E.P e = some zv) (hl : asN (ev t l) = some m) (hk : asN (ev t k) = some m') (h1 : m ≤ m') (h2 : m' * b8 ≤ 281474976710656) (h3 : m' ≤ 281474976710656) (h4 : (cellsZ zv).length = z)
    (k : WO E ops rest Q ⟨upd t d (.loc n 0 m m'), upd h n (some ⟨z, List.replicate m' (cellsZ zv), true⟩), n + 1⟩) : WO E ops (o :: rest) Q ⟨t, h, n⟩ := by
  refine x_eff hg ⟨?_⟩
  rw [ho, hd]
  unfold aop amakeSlice
  simp only [hq, hz, hl, hk]
  exact ⟨h1, h2, h3, h4, x_putS k⟩
end
abbrev encI (n : Nat) : List V := [.s (.int .i64 (n : Int))]
def valN : List Nat → Nat
  | [] => 0
  | c :: l => c + 256 * valN l
theorem valN_set : ∀ (S : List Nat) (p v : Nat), p < S.length → valN (S.set p v) + 256 ^ p * S.getD p 0 = valN S + 256 ^ p * v
  | [], p, v, h => by simp at h
  | c :: S, 0, v, _ => by simp [valN]; omega
  | c :: S, p + 1, v, h => by
    have ih := valN_set S p v (by simpa using h)
    rw [List.set_cons_succ, valN, valN, List.getD_cons_succ]
    have e1 : 256 ^ (p + 1) * S.getD p 0 = 256 * (256 ^ p * S.getD p 0) := by rw [Nat.pow_succ, Nat.mul_comm (256 ^ p) 256, Nat.mul_assoc]
    have e2 : 256 ^ (p + 1) * v = 256 * (256 ^ p * v) := by rw [Nat.pow_succ, Nat.mul_comm (256 ^ p) 256, Nat.mul_assoc]
    rw [e1, e2]
    omega
theorem valN_get : ∀ (S : List Nat) (p : Nat), 256 ^ p * S.getD p 0 ≤ valN S
  | [], p => by simp [valN]
  | c :: S, 0 => by simp [valN]
  | c :: S, p + 1 => by
    have ih := valN_get S p
    rw [valN, List.getD_cons_succ, Nat.pow_succ, Nat.mul_comm (256 ^ p) 256, Nat.mul_assoc]
    omega
theorem valN_rep (n : Nat) : valN (List.replicate n 0) = 0 := by
  induction n with
  | zero => rfl
  | succ n ih => rw [List.replicate_succ, valN, ih]
theorem valN_val : ∀ (S : List Nat), (∀ x ∈ S, x < 256) → val (S.map UInt8.ofNat) = valN S
  | [], _ => rfl
  | c :: S, h => by
    rw [List.map_cons, val, valN, valN_val S fun x hx => h x (by simp [hx])]
    have := h c (by simp)
    simp
    omega
theorem set_small {S : List Nat} {p v : Nat} (h : ∀ x ∈ S, x < 256) (hv : v < 256) : ∀ x ∈ S.set p v, x < 256 := fun x hx => by
  rcases List.mem_or_eq_of_mem_set hx with h1 | h1
  · exact h x h1
  · rw [h1]; exact hv
theorem rowI_get {S : List Nat} {p : Nat} (h : p < S.length) : (S.map encI).getD p [] = encI (S.getD p 0) := by
  simp [List.getD_eq_getElem?_getD, h]
theorem rowI_set {S : List Nat} {p : Nat} (v : Nat) : (S.map encI).set p (encI v) = (S.set p v).map encI := by rw [List.map_set]
theorem rowI_rep (n : Nat) : List.replicate n [V.s (Value.int .i64 0)] = (List.replicate n 0).map encI := by
  rw [List.map_replicate]; rfl
def mul1S : Fspec := fun _ ds r => ∃ a b : ByteArray, a.size ≤ 549755813880 ∧ b.size ≤ 549755813880 ∧ ds = [.s (.string a), .s (.string b)] ∧ r = .s (.string (natB (vl a * vl b)))
theorem mul_next {x y i k over w : Nat} {Sv Sv' g P : Nat} (h1 : Sv + 256 ^ (i + k) * over = P) (hs : Sv' + 256 ^ (i + k) * g = Sv + 256 ^ (i + k) * (w % 256)) (hw : w = g + x * y + over) :
    Sv' + 256 ^ (i + (k + 1)) * (w / 256) = P + 256 ^ (i + k) * (x * y) := by
  have e1 : 256 ^ (i + (k + 1)) * (w / 256) = 256 ^ (i + k) * (256 * (w / 256)) := by rw [← Nat.add_assoc, Nat.pow_succ, Nat.mul_assoc]
  have e2 : 256 ^ (i + k) * (w % 256) + 256 ^ (i + k) * (256 * (w / 256)) = 256 ^ (i + k) * w := by
    rw [← Nat.mul_add]; congr 1; omega
  have e3 : 256 ^ (i + k) * w = 256 ^ (i + k) * g + 256 ^ (i + k) * (x * y) + 256 ^ (i + k) * over := by rw [hw, Nat.mul_add, Nat.mul_add]
  omega
/-- One row of the product, so far. -/
def mp (a b : ByteArray) (i k : Nat) : Nat := val (a.data.toList.take i) * vl b + 256 ^ i * ((byteAt a i).toNat * val (b.data.toList.take k))
theorem mp_zero (a b : ByteArray) (i : Nat) : mp a b i 0 = val (a.data.toList.take i) * vl b := by simp [mp, val]
theorem mp_succ (a b : ByteArray) (i k : Nat) : mp a b i (k + 1) = mp a b i k + 256 ^ (i + k) * ((byteAt a i).toNat * (byteAt b k).toNat) := by
  rw [mp, mp, val_take_succ, Nat.mul_add, Nat.mul_add, Nat.pow_add]
  have : 256 ^ i * ((byteAt a i).toNat * (256 ^ k * (byteAt b k).toNat)) = 256 ^ i * 256 ^ k * ((byteAt a i).toNat * (byteAt b k).toNat) := by
    rw [Nat.mul_left_comm (byteAt a i).toNat, Nat.mul_assoc]
  omega
theorem mp_all (a b : ByteArray) (i k : Nat) (h : b.size ≤ k) : mp a b i k = val (a.data.toList.take (i + 1)) * vl b := by
  rw [mp, val_take_all b h, val_take_succ, Nat.add_mul, Nat.mul_assoc]
theorem mp_lt (a b : ByteArray) (i : Nat) (h : i < a.size) : val (a.data.toList.take (i + 1)) * vl b < 256 ^ (i + b.size + 1) ∨ b.size = 0 := by
  rcases Nat.eq_zero_or_pos b.size with h0 | h0
  · exact .inr h0
  · left
    have h1 := val_lt (a.data.toList.take (i + 1))
    have h2 : vl b < 256 ^ b.size := val_lt b.data.toList
    rw [List.length_take, list_len, Nat.min_eq_left (by omega)] at h1
    have e : 256 ^ (i + b.size + 1) = 256 ^ (i + 1) * 256 ^ b.size := by rw [← Nat.pow_add]; congr 1; omega
    rw [e]
    calc val (a.data.toList.take (i + 1)) * vl b ≤ val (a.data.toList.take (i + 1)) * 256 ^ b.size := Nat.mul_le_mul_left _ (by omega)
      _ < 256 ^ (i + 1) * 256 ^ b.size := Nat.mul_lt_mul_of_pos_right h1 (Nat.pow_pos (by omega))
end Go.Proofs.Ytahgddfnbjpfiaa

set_option linter.unusedVariables false
set_option linter.unusedSimpArgs false
set_option maxRecDepth 100000
set_option maxHeartbeats 16000000
namespace Go.Proofs.Ytahgddfnbjpfiaa
open Go Go.RowKit Am

theorem mp_lt' (a b : ByteArray) (i : Nat) (h : i < a.size) : val (a.data.toList.take (i + 1)) * vl b < 256 ^ (i + b.size + 1) := by
  rcases mp_lt a b i h with h1 | h1
  · exact h1
  · have h2 : vl b < 256 ^ b.size := val_lt b.data.toList
    rw [h1] at h2
    have : vl b = 0 := by simpa using h2
    rw [this, Nat.mul_zero]
    exact Nat.pow_pos (by omega)
/-- The last carry is gone. -/
theorem mul_last {S : List Nat} {p over P : Nat} (h : valN S + 256 ^ p * over = P) (hP : P < 256 ^ (p + 1)) : S.getD p 0 + over < 256 := by
  have h1 := valN_get S p
  rw [Nat.pow_succ] at hP
  have h2 : 256 ^ p * (S.getD p 0 + over) < 256 ^ p * 256 := by rw [Nat.mul_add]; omega
  exact Nat.lt_of_mul_lt_mul_left h2
theorem mul1_sound {plain : TypeId → Bool} {Γ : FuncId → Option Fspec} {Δ : FuncId → Option Pt} (hE : EnvOk ⟨Try.prog, plain, Γ, Δ, fun _ => none, 0⟩) (g_norm : Γ 65 = some normS) (g_at : Γ 73 = some atS) : Sound Try.prog 72 mul1S := by
  refine sound_of_awp hE Try.func72 rfl (by kernel_rfl) ?_
  rintro Φ ds r ⟨a, b, ha, hb, rfl, rfl⟩
  refine ⟨by simp [Try.f72], ?_⟩
  unfold st0
  refine W.out (E := ⟨Try.prog, plain, Γ, Δ, Φ, _⟩) ?_
  obtain ⟨N, hN⟩ : ∃ N, N = a.size + b.size + 1 := ⟨_, rfl⟩
  have z0 : (a.size : Int) + (b.size : Int) + 1 = (N : Int) := by omega
  refine go z0 ?_
  refine x_make (e := 3) (z := 1) (b8 := 8) (zv := .int .i64 0) rfl rfl rfl (sc trivial) (sc trivial) (m := N) (m' := N) ((sc trivial)) ((sc trivial)) (Nat.le_refl _) (by omega) (by omega) rfl ?_
  have hr0 := rowI_rep N
  have v0 : valN (List.replicate N 0) = 0 := valN_rep N
  have l0 : (List.replicate N 0).length = N := List.length_replicate
  have s0 : ∀ x ∈ List.replicate N 0, x < 256 := fun x hx => by rw [(List.mem_replicate.1 hx).2]; omega
  have c0 : cellsZ (.int .i64 0) = [.s (.int .i64 0)] := rfl
  rw [c0, hr0]
  generalize List.replicate N 0 = S0 at *
  have m0 : valN S0 = val (a.data.toList.take 0) * vl b := by rw [v0]; simp [val]
  refine go trivial ?_
  refine x_loop (fun σ => ∃ (i : Nat) (S : List Nat), σ.t 0 = .s (.string a) ∧ σ.t 1 = .s (.string b) ∧ σ.t 5 = .loc 0 0 N N ∧ σ.t 6 = .s (.int .i64 i) ∧ σ.h 0 = some ⟨1, S.map encI, true⟩ ∧ 0 < σ.n ∧ i ≤ a.size ∧ S.length = N ∧ (∀ x ∈ S, x < 256) ∧ valN S = val (a.data.toList.take i) * vl b) (fun σ => a.size - ix (σ.t 6)) ⟨0, S0, (by first | assumption | exact sxa trivial), (by first | assumption | exact sxa trivial), (by first | assumption | exact sxa trivial), (by first | assumption | exact sxa trivial), (by first | assumption | exact sxa trivial), (by first | omega | (dsimp only; omega) | exact soa trivial | omega | (simp; done)), (by first | rfl | omega | assumption | (simp [*]; done)), (by first | rfl | omega | assumption | (simp [*]; done)), (by first | rfl | omega | assumption | (simp [*]; done)), (by first | rfl | omega | assumption | (simp [*]; done))⟩ ?_
  rintro t h n ⟨i, S, h0, h1, h5, h6, hh0, hn1, hf0, hf1, hf2, hf3⟩
  simp only at h0 h1 h5 h6 hh0 hn1
  refine go (And.intro h0 (And.intro h1 (And.intro h5 h6))) ?_
  refine x_condP (sv (And.intro h0 (And.intro h1 (And.intro h5 h6)))) (fun hc => ?_) (fun hc => ?_)
  · have hi : i < a.size := by omega
    have hmp0 : valN S + 256 ^ (i + 0) * 0 = mp a b i 0 := by rw [mp_zero, hf3]; omega
    have hlast := mp_lt' a b i hi
    have hall := mp_all a b i
    refine go (And.intro h0 (And.intro h1 (And.intro h5 h6))) ?_
    refine x_loop (fun σ => ∃ (k : Nat) (over : Nat) (S : List Nat), σ.t 0 = .s (.string a) ∧ σ.t 1 = .s (.string b) ∧ σ.t 5 = .loc 0 0 N N ∧ σ.t 6 = .s (.int .i64 i) ∧ σ.t 7 = .s (.int .i64 over) ∧ σ.t 8 = .s (.int .i64 k) ∧ σ.h 0 = some ⟨1, S.map encI, true⟩ ∧ 0 < σ.n ∧ k ≤ b.size + 1 ∧ (k = b.size + 1 → over = 0) ∧ over ≤ 255 ∧ S.length = N ∧ (∀ x ∈ S, x < 256) ∧ valN S + 256 ^ (i + k) * over = mp a b i k) (fun σ => b.size + 1 - ix (σ.t 8)) ⟨0, 0, S, (by first | assumption | exact sxa trivial), (by first | assumption | exact sxa trivial), (by first | assumption | exact sxa trivial), (by first | assumption | exact sxa trivial), (by first | assumption | exact sxa trivial), (by first | assumption | exact sxa trivial), (by first | assumption | exact sxa trivial), (by first | omega | (dsimp only; omega) | exact soa trivial | omega | (simp; done)), (by first | rfl | omega | assumption | (simp [*]; done)), (by first | rfl | omega | assumption | (simp [*]; done)), (by first | rfl | omega | assumption | (simp [*]; done)), (by first | rfl | omega | assumption | (simp [*]; done)), (by first | rfl | omega | assumption | (simp [*]; done)), (by first | rfl | omega | assumption | (simp [*]; done))⟩ ?_
    rintro t2 g2 n2 ⟨k, over, S, h0, h1, h5, h6, h7, h8, hh0, hn1, hf0, hf1, hf2, hf3, hf4, hf5⟩
    simp only at h0 h1 h5 h6 h7 h8 hh0 hn1
    refine x_cut (fun σ => σ.t 0 = .s (.string a) ∧ σ.t 1 = .s (.string b) ∧ σ.t 5 = .loc 0 0 N N ∧ σ.t 6 = .s (.int .i64 i) ∧ σ.t 7 = .s (.int .i64 over) ∧ σ.t 8 = .s (.int .i64 k) ∧ σ.h 0 = some ⟨1, S.map encI, true⟩ ∧ 0 < σ.n ∧ k ≤ b.size) ?_ ?_
    · by_cases c1 : k < b.size
      · have d1 : ((k : Int) < (b.size : Int)) = True := eq_true (by omega)
        refine go (And.intro h0 (And.intro h1 (And.intro h5 (And.intro h6 (And.intro h7 (And.intro h8 d1)))))) ?_
        (refine ⟨?_, ?_, ?_, ?_, ?_, ?_, ?_, ?_, ?_⟩ <;> (first | omega | (dsimp only; omega) | exact sxa @cast_succ | exact soa trivial | (omega)))
      have d1 : ((k : Int) < (b.size : Int)) = False := eq_false (by omega)
      by_cases c2 : 0 < over
      · have d2 : ((0 : Int) < (over : Int)) = True := eq_true (by omega)
        have hk2 : k ≤ b.size := by
          rcases Nat.lt_or_ge b.size k with h | h
          · have := hf1 (by omega); omega
          · exact h
        refine go (And.intro h0 (And.intro h1 (And.intro h5 (And.intro h6 (And.intro h7 (And.intro h8 (And.intro d1 d2))))))) ?_
        (refine ⟨?_, ?_, ?_, ?_, ?_, ?_, ?_, ?_, ?_⟩ <;> (first | omega | (dsimp only; omega) | exact sxa @cast_succ | exact soa trivial | (omega)))
      have d2 : ((0 : Int) < (over : Int)) = False := eq_false (by omega)
      have hv : valN S = val (a.data.toList.take (i + 1)) * vl b := by
        rw [hall k (by omega), show over = 0 by omega] at hf5
        omega
      refine go (And.intro h0 (And.intro h1 (And.intro h5 (And.intro h6 (And.intro h7 (And.intro h8 (And.intro d1 d2))))))) ?_
      (refine ⟨⟨i + 1, S, ?_, ?_, ?_, ?_, ?_, ?_, ?_, ?_, ?_, ?_⟩, ?_⟩ <;> (first | omega | (dsimp only; omega) | (assumption) | exact sxa @cast_succ | exact soa trivial))
    rintro t3 g3 n3 ⟨h0, h1, h5, h6, h7, h8, hh0, hn1, hf0⟩
    simp only at h0 h1 h5 h6 h7 h8 hh0 hn1
    have x1 := (byteAt a i).toNat_lt
    have x2 := (byteAt b k).toNat_lt
    have hp : i + k < S.length := by omega
    have hp2 : i + k < N := by omega
    have hSl : (S.map encI).length = N := by simpa using hf3
    have q0 := rowI_get hp
    have zp : (i : Int) + (k : Int) = ((i + k : Nat) : Int) := by omega
    refine go (And.intro h0 (And.intro h1 (And.intro h5 (And.intro h6 (And.intro h7 (And.intro h8 (And.intro hh0 (And.intro zp (And.intro q0 (And.intro hp2 hSl)))))))))) ?_
    refine x_callD rfl rfl rfl rfl rfl (sv (And.intro h0 h6)) g_at (sv (And.intro h0 h6)) (se (And.intro h0 h6)) ⟨a, i, by omega, by omega, rfl, rfl⟩ rfl ?_
    refine go (And.intro h0 (And.intro h1 (And.intro h5 (And.intro h6 (And.intro h7 h8))))) ?_
    refine x_callD rfl rfl rfl rfl rfl (sv (And.intro h1 h8)) g_at (sv (And.intro h1 h8)) (se (And.intro h1 h8)) ⟨b, k, by omega, by omega, rfl, rfl⟩ rfl ?_
    have hg : S.getD (i + k) 0 < 256 := by
      rw [List.getD_eq_getElem?_getD, List.getElem?_eq_getElem hp]
      exact hf4 _ (List.getElem_mem hp)
    have hxy : (byteAt a i).toNat * (byteAt b k).toNat ≤ 255 * 255 := Nat.mul_le_mul (by omega) (by omega)
    have zm : ((byteAt a i).toNat : Int) * ((byteAt b k).toNat : Int) = (((byteAt a i).toNat * (byteAt b k).toNat : Nat) : Int) := by simp
    have hmps := mp_succ a b i k
    have hset := valN_set S (i + k) ((S.getD (i + k) 0 + (byteAt a i).toNat * (byteAt b k).toNat + over) % 256) hp
    have hnx := mul_next hf5 hset rfl
    rw [← hmps] at hnx
    have hsm := set_small hf4 (p := i + k) (v := (S.getD (i + k) 0 + (byteAt a i).toNat * (byteAt b k).toNat + over) % 256) (by omega)
    have hsl : (S.set (i + k) ((S.getD (i + k) 0 + (byteAt a i).toNat * (byteAt b k).toNat + over) % 256)).length = N := by rw [List.length_set]; exact hf3
    have hend : k = b.size → S.getD (i + k) 0 + (byteAt a i).toNat * (byteAt b k).toNat + over < 256 := fun e => by
      have h1 := hf5
      rw [hall k (by omega)] at h1
      have h2 := mul_last h1 (by rw [e]; exact hlast)
      have h3 : (byteAt b k).toNat = 0 := by rw [byteAt_out (by omega)]; rfl
      rw [h3, Nat.mul_zero]
      omega
    have hst := rowI_set (S := S) (p := i + k) ((S.getD (i + k) 0 + (byteAt a i).toNat * (byteAt b k).toNat + over) % 256)
    generalize hxyq : (byteAt a i).toNat * (byteAt b k).toNat = xy at *
    generalize hgq : S.getD (i + k) 0 = g at *
    have zw : (g : Int) + (xy : Int) + (over : Int) = ((g + xy + over : Nat) : Int) := by omega
    have hwle : g + xy + over ≤ 65535 := by omega
    generalize hwq : g + xy + over = w at *
    have zr : (w : Int).tmod 256 = ((w % 256 : Nat) : Int) := rfl
    have zq : (w : Int).tdiv 256 = ((w / 256 : Nat) : Int) := rfl
    refine go (And.intro h0 (And.intro h1 (And.intro h5 (And.intro h6 (And.intro h7 (And.intro h8 (And.intro hh0 (And.intro zp (And.intro zm (And.intro zw (And.intro zr (And.intro zq (And.intro q0 (And.intro hp2 (And.intro hSl hst))))))))))))))) ?_
    have hfin : k + 1 = b.size + 1 → w / 256 = 0 := fun e => by have := hend (by omega); omega
    clear hend hset hmps hwq hgq hxyq zm zw zr zq zp q0 hp2
    (refine ⟨⟨k + 1, w / 256, S.set (i + k) (w % 256), ?_, ?_, ?_, ?_, ?_, ?_, ?_, ?_, ?_, ?_, ?_, ?_, ?_, ?_⟩, ?_⟩ <;> (first | omega | (dsimp only; omega) | (assumption) | exact sxa (And.intro @cast_succ hst) | exact soa trivial))
  · have ei : i = a.size := by omega
    subst ei
    rw [val_take_all a (Nat.le_refl _)] at hf3
    skip
    skip
    refine go (And.intro h0 (And.intro h1 (And.intro h5 h6))) ?_
    have hS0 : (S.take 0).map (fun x => encB (UInt8.ofNat x)) = [] := rfl
    have hSl : (S.map encI).length = N := by simpa using hf1
    have hSsm := hf2
    have hSval := hf3
    have hSlen := hf1
    refine x_loop (fun σ => ∃ (j : Nat) (q : Nat) (cq : Nat) (sq : List (List Am.V)), σ.t 10 = .loc q 0 j cq ∧ σ.t 62 = .loc 0 0 N N ∧ σ.t 63 = .s (.int .i64 N) ∧ σ.t 64 = .s (.int .i64 j) ∧ σ.h 0 = some ⟨1, S.map encI, true⟩ ∧ σ.h q = some ⟨1, (S.take j).map (fun x => encB (UInt8.ofNat x)) ++ sq, true⟩ ∧ 0 < q ∧ q < σ.n ∧ j ≤ N ∧ j ≤ cq ∧ cq ≤ j + sq.length) (fun σ => N - ix (σ.t 64)) ⟨0, _, _, [], (by first | assumption | exact sxa trivial), (by first | assumption | exact sxa trivial), (by first | assumption | exact sxa trivial), (by first | assumption | exact sxa trivial), (by first | assumption | exact sxa trivial), (by first | assumption | exact sxa trivial), (by first | omega | (dsimp only; omega) | exact soa trivial | omega | (simp; done)), (by first | omega | (dsimp only; omega) | exact soa trivial | omega | (simp; done)), (by first | rfl | omega | assumption | (simp [*]; done)), (by first | rfl | omega | assumption | (simp [*]; done)), (by first | rfl | omega | assumption | (simp [*]; done))⟩ ?_
    rintro t2 g2 n2 ⟨j, q, cq, sq, h10, h62, h63, h64, hh0, hhq, hn1, hn2, hf0, hf1, hf2⟩
    simp only at h10 h62 h63 h64 hh0 hhq hn1 hn2
    refine go (And.intro h10 (And.intro h62 (And.intro h63 h64))) ?_
    refine x_condP (sv (And.intro h10 (And.intro h62 (And.intro h63 h64)))) (fun hc => ?_) (fun hc => ?_)
    · have hj : j < N := by omega
      have hp : j < S.length := by omega
      have q0 := rowI_get hp
      have hg : S.getD j 0 = S[j] := by rw [List.getD_eq_getElem?_getD, List.getElem?_eq_getElem hp]; rfl
      have htl : (S.take j).length = j := by simp; omega
      have hml : ((S.take j).map (fun x => encB (UInt8.ofNat x))).length = j := by rw [List.length_map]; exact htl
      have hsu : (S.take (j + 1)).map (fun x => encB (UInt8.ofNat x)) = (S.take j).map (fun x => encB (UInt8.ofNat x)) ++ [encB (UInt8.ofNat (S.getD j 0))] := by
        rw [List.take_succ_eq_append_getElem hp, List.map_append, hg]; rfl
      generalize S.getD j 0 = g at *
      have z1 := wrap8 g
      have e1 : (q = n2) = False := by simp; omega
      have e2 : (q = n2 + 1) = False := by simp; omega
      have e3 : (n2 = q) = False := by simp; omega
      have e4 : (n2 + 1 = q) = False := by simp; omega
      have e5 : (0 = q) = False := by simp; omega
      have e6 : (q = 0) = False := by simp; omega
      have e7 : (0 = n2) = False := by simp; omega
      have e8 : (n2 = 0) = False := by simp; omega
      have e9 : (0 = n2 + 1) = False := by simp
      refine go (And.intro h10 (And.intro h62 (And.intro h63 (And.intro h64 (And.intro hh0 (And.intro q0 (And.intro hSl (And.intro hj (And.intro z1 (And.intro e1 (And.intro e2 (And.intro e3 (And.intro e4 (And.intro e5 (And.intro e6 (And.intro e7 (And.intro e8 e9))))))))))))))))) ?_
      refine x_appendO rfl rfl rfl rfl rfl rfl (sv (And.intro h10 (And.intro hhq (And.intro hml (And.intro e1 (And.intro e2 (And.intro e3 (And.intro e4 (And.intro e5 (And.intro e6 (And.intro e7 (And.intro e8 e9)))))))))))) (by decide) (sc (And.intro h10 (And.intro hhq (And.intro hml (And.intro e1 (And.intro e2 (And.intro e3 (And.intro e4 (And.intro e5 (And.intro e6 (And.intro e7 (And.intro e8 e9)))))))))))) (sv (And.intro h10 (And.intro hhq (And.intro hml (And.intro e1 (And.intro e2 (And.intro e3 (And.intro e4 (And.intro e5 (And.intro e6 (And.intro e7 (And.intro e8 e9)))))))))))) (sx (And.intro h10 (And.intro hhq (And.intro hml (And.intro e1 (And.intro e2 (And.intro e3 (And.intro e4 (And.intro e5 (And.intro e6 (And.intro e7 (And.intro e8 e9)))))))))))) (by first | rfl | (simp; done) | (simp [spare_len]; omega)) (by first | omega | (simp; done) | (simp [spare_len]; omega)) (by first | omega | (simp; done) | (simp [spare_len]; omega)) (sx (And.intro h10 (And.intro hhq (And.intro hml (And.intro e1 (And.intro e2 (And.intro e3 (And.intro e4 (And.intro e5 (And.intro e6 (And.intro e7 (And.intro e8 e9)))))))))))) (okRowB (UInt8.ofNat g)) (by first | omega | (simp; done) | (simp [spare_len]; omega)) (fun cap' hcap' => ?_)
      refine go (And.intro h10 (And.intro h62 (And.intro h63 (And.intro h64 (And.intro hh0 (And.intro e1 (And.intro e2 (And.intro e3 (And.intro e4 (And.intro e5 (And.intro e6 (And.intro e7 (And.intro e8 e9))))))))))))) ?_
      have hc2 : j + 1 ≤ cap' := hcap'
      clear z1 q0 hg htl hml
      (refine ⟨⟨j + 1, n2 + 1, cap', spare 1 (cap' - (j + 1)), ?_, ?_, ?_, ?_, ?_, ?_, ?_, ?_, ?_, ?_, ?_⟩, ?_⟩ <;> (first | omega | (dsimp only; omega) | ((simp only [spare_len]; omega)) | exact sxa (And.intro @cast_succ (And.intro hsu (And.intro e1 (And.intro e2 (And.intro e3 (And.intro e4 (And.intro e5 (And.intro e6 (And.intro e7 (And.intro e8 e9)))))))))) | exact soa trivial))
    · have ej : j = N := by omega
      subst ej
      have hSt : S.take j = S := List.take_of_length_le (by omega)
      rw [hSt] at hhq
      have hmm : S.map (fun x => encB (UInt8.ofNat x)) = (S.map UInt8.ofNat).map encB := by rw [List.map_map]; rfl
      rw [hmm] at hhq
      have hvv := valN_val S hSsm
      have hLl : (S.map UInt8.ofNat).length = j := by simpa using hSlen
      generalize S.map UInt8.ofNat = L at *
      have tk : (L.map encB ++ sq).take j = L.map encB := List.take_left' (by simpa using hLl)
      have ln : j ≤ (L.map encB ++ sq).length := by simp; omega
      have b1 := bytesB L
      have b2 := strB L
      have hb3 : vl ⟨L.toArray⟩ = vl a * vl b := by
        show val L = _
        rw [hvv, hSval]
      have hsz : (⟨L.toArray⟩ : ByteArray).size ≤ 1099511627776 := by show L.length ≤ _; omega
      refine go (And.intro h10 (And.intro h62 (And.intro hhq (And.intro tk (And.intro ln (And.intro b1 b2)))))) ?_
      refine x_callN rfl rfl rfl rfl (sv trivial) g_norm (sv trivial) (se trivial) ⟨⟨L.toArray⟩, hsz, rfl, rfl⟩ rfl ?_
      rw [hb3]
      refine go trivial ?_
      refine x_done (x_out (sr @Try.f72.eq_1) (by simp) (by simp) rfl)
end Go.Proofs.Ytahgddfnbjpfiaa

set_option linter.unusedVariables false
set_option linter.unusedSimpArgs false
set_option maxRecDepth 100000
set_option maxHeartbeats 16000000
namespace Go.Proofs.Ytahgddfnbjpfiaa
open Go Go.RowKit Am

theorem dig_len_le {n k : Nat} (h : n < 256 ^ k) : (dig n).length ≤ k := by
  have h2 := dig_size (s := ⟨(List.replicate k (255 : UInt8)).toArray⟩)
  rcases Nat.lt_or_ge k (dig n).length with h1 | h1
  · exfalso
    have e : (dig (256 ^ k - 1)).length ≤ k := by
      have hv : ∀ k, val (List.replicate k (255 : UInt8)) = 256 ^ k - 1 := by
        intro k
        induction k with
        | zero => rfl
        | succ k ih =>
          rw [List.replicate_succ, val, ih, Nat.pow_succ]
          have : 0 < 256 ^ k := Nat.pow_pos (by omega)
          show 255 + _ = _
          omega
      have h3 : vl ⟨(List.replicate k (255 : UInt8)).toArray⟩ = 256 ^ k - 1 := hv k
      rw [h3] at h2
      have h4 : (⟨(List.replicate k (255 : UInt8)).toArray⟩ : ByteArray).size = k := by show (List.replicate k _).length = k; simp
      omega
    have h5 : 256 ^ k - 1 < n := dig_len_lt (by omega)
    omega
  · exact h1
theorem vl_lt (s : ByteArray) : vl s < 256 ^ s.size := val_lt s.data.toList
def smallS : Fspec := fun _ ds r => ∃ (a : ByteArray) (n : Nat), a.size ≤ 549755813880 ∧ n < 256 ∧ ds = [.s (.string a), .s (.int .i64 n)] ∧ r = .s (.string (natB (vl a * n)))
theorem small_sound {plain : TypeId → Bool} {Γ : FuncId → Option Fspec} {Δ : FuncId → Option Pt} (hE : EnvOk ⟨Try.prog, plain, Γ, Δ, fun _ => none, 0⟩) (g_mul : Γ 72 = some mul1S) : Sound Try.prog 67 smallS := by
  refine sound_of_awp hE Try.func67 rfl (by kernel_rfl) ?_
  rintro Φ ds r ⟨a, n, ha, hn, rfl, rfl⟩
  refine ⟨by simp [Try.f67], ?_⟩
  unfold st0
  refine W.out (E := ⟨Try.prog, plain, Γ, Δ, Φ, _⟩) ?_
  have z1 := wrap8 n
  have b1 := bytesB [UInt8.ofNat n]
  have b2 := strB [UInt8.ofNat n]
  simp only [List.map_cons, List.map_nil] at b1 b2
  have hv : vl ⟨[UInt8.ofNat n].toArray⟩ = n := by show val [UInt8.ofNat n] = n; simp [val]; omega
  refine go (And.intro z1 (And.intro b1 b2)) ?_
  refine x_callN rfl rfl rfl rfl (sv trivial) g_mul (sv trivial) (se trivial) ⟨a, ⟨[UInt8.ofNat n].toArray⟩, ha, (by show [UInt8.ofNat n].length ≤ _; simp), rfl, rfl⟩ rfl ?_
  rw [hv]
  refine go trivial ?_
  refine x_done (x_out (sr @Try.f67.eq_1) (by simp) (by simp) rfl)
/-- What the bytes from place i on hold of a quotient. -/
def div1S : Fspec := fun _ ds r => ∃ a b : ByteArray, a.size ≤ 274877906940 ∧ b.size ≤ 274877906940 ∧ ds = [.s (.string a), .s (.string b)] ∧ r = .tup (if vl b = 0 then [.s (.string ⟨#[]⟩), .s (.string ⟨#[]⟩), .s (.bool false)] else [.s (.string (natB (vl a / vl b))), .s (.string (natB (vl a % vl b))), .s (.bool true)])
theorem natB_zero : natB 0 = ⟨#[]⟩ := by rw [natB, dig_zero]
theorem natB_empty (n : Nat) : ((natB n).toList == (⟨#[]⟩ : ByteArray).toList) = decide (n = 0) := by
  rw [Bool.eq_iff_iff, beq_iff_eq, decide_eq_true_iff, ByteArray.toList_eq, ByteArray.toList_eq, natB_list]
  constructor
  · intro h
    have : dig n = [] := h
    rw [← val_dig n, this]; rfl
  · rintro rfl
    rw [dig_zero]
theorem ba_app (a b : ByteArray) : (a ++ b).data.toList = a.data.toList ++ b.data.toList := by simp
theorem rowB_rep (n : Nat) : List.replicate n [V.s (Value.int .u8 0)] = (List.replicate n (0 : UInt8)).map encB := by
  rw [List.map_replicate]; rfl
theorem rowB_get {l : List UInt8} {i : Nat} (h : i < l.length) : (l.map encB).getD i [] = encB (l.getD i 0) := by
  simp [List.getD_eq_getElem?_getD, h]
theorem rowB_set {l : List UInt8} {i : Nat} (c : UInt8) : (l.map encB).set i (encB c) = (l.set i c).map encB := by rw [List.map_set]
theorem set_drop {l : List UInt8} {i : Nat} (c : UInt8) (h : i < l.length) : (l.set i c).drop i = c :: l.drop (i + 1) := by
  rw [List.drop_eq_getElem_cons (by simpa using h), List.getElem_set_self]
  congr 1
  rw [List.drop_set]
  simp
theorem cmpN_le (x y : Nat) : (cmpN x y ≤ 0) ↔ x ≤ y := by
  rw [cmpN]
  split
  · simp; omega
  · split
    · simp; omega
    · simp; omega
end Go.Proofs.Ytahgddfnbjpfiaa

set_option linter.unusedVariables false
set_option linter.unusedSimpArgs false
set_option maxRecDepth 100000
set_option maxHeartbeats 16000000
namespace Go.Proofs.Ytahgddfnbjpfiaa
open Go Go.RowKit Am

theorem div1_sound {plain : TypeId → Bool} {Γ : FuncId → Option Fspec} {Δ : FuncId → Option Pt} (hE : EnvOk ⟨Try.prog, plain, Γ, Δ, fun _ => none, 0⟩) (g_norm : Γ 65 = some normS) (g_small : Γ 67 = some smallS) (g_cmp : Γ 66 = some cmpS) (g_sub : Γ 68 = some sub1S) : Sound Try.prog 60 div1S := by
  refine sound_of_awp hE Try.func60 rfl (by kernel_rfl) ?_
  rintro Φ ds r ⟨a, b, ha, hb, rfl, rfl⟩
  refine ⟨by simp [Try.f60], ?_⟩
  unfold st0
  refine W.out (E := ⟨Try.prog, plain, Γ, Δ, Φ, _⟩) ?_
  have hem := natB_empty (vl b)
  refine go trivial ?_
  refine x_callN rfl rfl rfl rfl (sv trivial) g_norm (sv trivial) (se trivial) ⟨b, by omega, rfl, rfl⟩ rfl ?_
  by_cases hz : vl b = 0
  · rw [if_pos hz]
    have h1 : decide (vl b = 0) = true := decide_eq_true hz
    refine go (And.intro hem h1) ?_
    refine x_done (x_outT (sr @Try.f60.eq_1) rfl)
  have h1 : decide (vl b = 0) = false := decide_eq_false hz
  rw [if_neg hz]
  have hbl := vl_lt b
  refine go (And.intro hem h1) ?_
  refine x_make (e := 5) (z := 1) (b8 := 1) (zv := .int .u8 0) rfl rfl rfl (sc trivial) (sc trivial) (m := a.size) (m' := a.size) ((sc trivial)) ((sc trivial)) (Nat.le_refl _) (by omega) (by omega) rfl ?_
  have c0 : cellsZ (.int .u8 0) = [.s (.int .u8 0)] := rfl
  rw [c0, rowB_rep]
  have q0l : (List.replicate a.size (0 : UInt8)).length = a.size := List.length_replicate
  generalize List.replicate a.size (0 : UInt8) = Q0 at *
  have hr0 : natB 0 = ⟨#[]⟩ := natB_zero
  have hd0 : val (a.data.toList.drop a.size) = val (Q0.drop a.size) * vl b + 0 := by
    rw [List.drop_of_length_le (by rw [list_len]; exact Nat.le_refl _), List.drop_of_length_le (by omega)]; simp [val]
  refine go trivial ?_
  refine x_loop (fun σ => ∃ (i : Nat) (Qt : List UInt8) (ρ : Nat), σ.t 0 = .s (.string a) ∧ σ.t 1 = .s (.string b) ∧ σ.t 7 = .loc 0 0 a.size a.size ∧ σ.t 8 = .s (.string (natB ρ)) ∧ σ.t 9 = .s (.int .i64 ((i : Int) - 1)) ∧ σ.h 0 = some ⟨1, Qt.map encB, true⟩ ∧ 0 < σ.n ∧ i ≤ a.size ∧ Qt.length = a.size ∧ ρ < vl b ∧ val (a.data.toList.drop i) = val (Qt.drop i) * vl b + ρ) (fun σ => ix1 (σ.t 9)) ⟨a.size, Q0, 0, (by first | assumption | exact sxa trivial), (by first | assumption | exact sxa trivial), (by first | assumption | exact sxa trivial), (by first | assumption | exact sxa trivial), (by first | assumption | exact sxa trivial), (by first | assumption | exact sxa trivial), (by first | omega | (dsimp only; omega) | exact soa trivial | omega | (simp; done)), (by first | rfl | omega | assumption | (simp [*]; done)), (by first | rfl | omega | assumption | (simp [*]; done)), (by first | rfl | omega | assumption | (simp [*]; done)), (by first | rfl | omega | assumption | (simp [*]; done))⟩ ?_
  rintro t h n ⟨i, Qt, ρ, h0, h1, h7, h8, h9, hh0, hn1, hf0, hf1, hf2, hf3⟩
  simp only at h0 h1 h7 h8 h9 hh0 hn1
  by_cases hi : i = 0
  · subst hi
    have z1 : ((0 : Int) ≤ ((0 : Nat) : Int) - 1) = False := eq_false (by omega)
    have hva : vl a = val Qt * vl b + ρ := hf3
    have hq1 : vl a / vl b = val Qt := by
      rw [hva, Nat.add_comm, Nat.add_mul_div_right _ _ (by omega), Nat.div_eq_of_lt hf2, Nat.zero_add]
    have hq2 : vl a % vl b = ρ := by
      rw [hva, Nat.add_comm, Nat.add_mul_mod_self_right, Nat.mod_eq_of_lt hf2]
    rw [hq1, hq2]
    have tk : (Qt.map encB).take a.size = Qt.map encB := List.take_of_length_le (by simp; omega)
    have ln : a.size ≤ (Qt.map encB).length := by simp; omega
    have b1 := bytesB Qt
    have b2 := strB Qt
    have hsz : (⟨Qt.toArray⟩ : ByteArray).size ≤ 1099511627776 := by show Qt.length ≤ _; omega
    have hb3 : vl ⟨Qt.toArray⟩ = val Qt := rfl
    refine go (And.intro h0 (And.intro h1 (And.intro h7 (And.intro h8 (And.intro h9 (And.intro z1 (And.intro hh0 (And.intro tk (And.intro ln (And.intro b1 b2)))))))))) ?_
    refine x_callN rfl rfl rfl rfl (sv trivial) g_norm (sv trivial) (se trivial) ⟨⟨Qt.toArray⟩, hsz, rfl, rfl⟩ rfl ?_
    rw [hb3]
    refine go (And.intro h0 (And.intro h1 (And.intro h7 (And.intro h8 h9)))) ?_
    refine x_done (x_outT (sr @Try.f60.eq_1) rfl)
  have hQ0 := hf1
  have z1 : (0 : Int) ≤ (i : Int) - 1 := by omega
  have z2 : (i : Int) - 1 = ((i - 1 : Nat) : Int) := by omega
  have z3 : ((i - 1 : Nat) : Int) + 1 = (i : Int) := by omega
  rw [z2] at h9
  have w1 : i - 1 ≤ i := by omega
  have hl : i - 1 < a.data.toList.length := by rw [list_len]; omega
  have hxl : (a.extract (i - 1) i).data.toList = [byteAt a (i - 1)] := by
    rw [extract_list, show i - (i - 1) = 1 by omega, List.drop_eq_getElem_cons hl, byteAt_get hl]; rfl
  have hxs : (a.extract (i - 1) i).size = 1 := by show (a.extract (i - 1) i).data.toList.length = 1; rw [hxl]; rfl
  have hrl : (natB ρ).size ≤ b.size := dig_len_le (Nat.lt_trans hf2 hbl)
  have hle : 1 + (natB ρ).size ≤ 9223372036854775807 := by omega
  have hv : vl (a.extract (i - 1) i ++ natB ρ) = (byteAt a (i - 1)).toNat + 256 * ρ := by
    show val _ = _
    rw [ba_app, hxl, natB_list]
    show val (byteAt a (i - 1) :: dig ρ) = _
    rw [val, val_dig]
  have hsz : (a.extract (i - 1) i ++ natB ρ).size ≤ 1099511627776 := by rw [ByteArray.size_append]; omega
  have hd := val_drop (l := a.data.toList) (i := i - 1)
  rw [show i - 1 + 1 = i by omega, hf3] at hd
  have hcl := (byteAt a (i - 1)).toNat_lt
  have hgd : (a.data.toList.getD (i - 1) 0) = byteAt a (i - 1) := rfl
  rw [hgd] at hd
  refine go (And.intro h0 (And.intro h1 (And.intro h7 (And.intro h8 (And.intro h9 (And.intro z3 (And.intro w1 (And.intro hf0 (And.intro hxs hle))))))))) ?_
  refine x_callN rfl rfl rfl rfl (sv trivial) g_norm (sv trivial) (se trivial) ⟨a.extract (i - 1) i ++ natB ρ, hsz, rfl, rfl⟩ rfl ?_
  rw [hv]
  generalize hR : (byteAt a (i - 1)).toNat + 256 * ρ = R at *
  have hRb : R < 256 * vl b := by omega
  have hRl : (natB R).size ≤ b.size + 1 := dig_len_le (by rw [Nat.pow_succ]; omega)
  have i0 : 0 * vl b ≤ R := by omega
  have i1 : R < (255 + 1) * vl b := by omega
  refine go (And.intro h0 (And.intro h1 (And.intro h7 h9))) ?_
  refine x_loop (fun σ => ∃ (lo : Nat) (hg : Nat), σ.t 0 = .s (.string a) ∧ σ.t 1 = .s (.string b) ∧ σ.t 7 = .loc 0 0 a.size a.size ∧ σ.t 8 = .s (.string (natB R)) ∧ σ.t 9 = .s (.int .i64 ((i - 1 : Nat) : Int)) ∧ σ.t 10 = .s (.int .i64 lo) ∧ σ.t 11 = .s (.int .i64 hg) ∧ σ.h 0 = some ⟨1, Qt.map encB, true⟩ ∧ 0 < σ.n ∧ lo ≤ hg ∧ hg ≤ 255 ∧ lo * vl b ≤ R ∧ R < (hg + 1) * vl b) (fun σ => ix (σ.t 11) - ix (σ.t 10)) ⟨0, 255, (by first | assumption | exact sxa trivial), (by first | assumption | exact sxa trivial), (by first | assumption | exact sxa trivial), (by first | assumption | exact sxa trivial), (by first | assumption | exact sxa trivial), (by first | assumption | exact sxa trivial), (by first | assumption | exact sxa trivial), (by first | assumption | exact sxa trivial), (by first | omega | (dsimp only; omega) | exact soa trivial | omega | (simp; done)), (by first | rfl | omega | assumption | (simp [*]; done)), (by first | rfl | omega | assumption | (simp [*]; done)), (by first | rfl | omega | assumption | (simp [*]; done)), (by first | rfl | omega | assumption | (simp [*]; done))⟩ ?_
  rintro t2 g2 n2 ⟨lo, hg, h0, h1, h7, h8, h9, h10, h11, hh0, hn1, hf0, hf1, hf2, hf3⟩
  simp only at h0 h1 h7 h8 h9 h10 h11 hh0 hn1
  refine go (And.intro h0 (And.intro h1 (And.intro h7 (And.intro h8 (And.intro h9 (And.intro h10 h11)))))) ?_
  refine x_condP (sv (And.intro h0 (And.intro h1 (And.intro h7 (And.intro h8 (And.intro h9 (And.intro h10 h11))))))) (fun hc => ?_) (fun hc => ?_)
  · have hlt : lo < hg := by omega
    have y1 : (lo : Int) + (hg : Int) + 1 = ((lo + hg + 1 : Nat) : Int) := by omega
    have y2 : ((lo + hg + 1 : Nat) : Int).tdiv 2 = (((lo + hg + 1) / 2 : Nat) : Int) := rfl
    have y3 : lo < (lo + hg + 1) / 2 ∧ (lo + hg + 1) / 2 ≤ hg := by omega
    generalize (lo + hg + 1) / 2 = mid at *
    refine go (And.intro h0 (And.intro h1 (And.intro h7 (And.intro h8 (And.intro h9 (And.intro h10 (And.intro h11 (And.intro y1 y2)))))))) ?_
    refine x_callN rfl rfl rfl rfl (sv h1) g_small (sv h1) (se h1) ⟨b, mid, by omega, by omega, rfl, rfl⟩ rfl ?_
    have hml : (natB (vl b * mid)).size ≤ b.size + 1 := dig_len_le (by
      rw [Nat.pow_succ]
      calc vl b * mid ≤ vl b * 255 := Nat.mul_le_mul_left _ (by omega)
        _ < 256 ^ b.size * 256 := by omega)
    refine go (And.intro h0 (And.intro h1 (And.intro h7 (And.intro h8 (And.intro h9 (And.intro h10 h11)))))) ?_
    refine x_callN rfl rfl rfl rfl (sv h8) g_cmp (sv h8) (se h8) ⟨natB (vl b * mid), natB R, by omega, by omega, rfl, rfl⟩ rfl ?_
    rw [vl_natB, vl_natB]
    by_cases hq : vl b * mid ≤ R
    · have y4 : (cmpN (vl b * mid) R ≤ 0) = True := eq_true ((cmpN_le _ _).2 hq)
      have y5 : mid * vl b ≤ R := by rw [Nat.mul_comm]; exact hq
      refine go (And.intro h0 (And.intro h1 (And.intro h7 (And.intro h8 (And.intro h9 (And.intro h10 (And.intro h11 y4))))))) ?_
      (refine ⟨⟨mid, hg, ?_, ?_, ?_, ?_, ?_, ?_, ?_, ?_, ?_, ?_, ?_, ?_, ?_⟩, ?_⟩ <;> (first | omega | (dsimp only; omega) | (assumption) | exact sxa @cast_succ | exact soa trivial))
    · have y4 : (cmpN (vl b * mid) R ≤ 0) = False := eq_false (fun h => hq ((cmpN_le _ _).1 h))
      have y5 : (mid : Int) - 1 = ((mid - 1 : Nat) : Int) := by omega
      have y6 : R < (mid - 1 + 1) * vl b := by rw [show mid - 1 + 1 = mid by omega, Nat.mul_comm]; omega
      refine go (And.intro h0 (And.intro h1 (And.intro h7 (And.intro h8 (And.intro h9 (And.intro h10 (And.intro h11 (And.intro y4 y5)))))))) ?_
      (refine ⟨⟨lo, mid - 1, ?_, ?_, ?_, ?_, ?_, ?_, ?_, ?_, ?_, ?_, ?_, ?_, ?_⟩, ?_⟩ <;> (first | omega | (dsimp only; omega) | (assumption) | exact sxa (And.intro @cast_succ y5) | exact soa trivial))
  · have el : hg = lo := by omega
    subst el
    skip
    have hml : vl b * hg ≤ R := by rw [Nat.mul_comm]; exact hf2
    have hml2 : R < vl b * hg + vl b := by rw [Nat.add_mul, Nat.one_mul, Nat.mul_comm hg] at hf3; exact hf3
    have hmz : (natB (vl b * hg)).size ≤ b.size + 1 := dig_len_le (by
      rw [Nat.pow_succ]
      omega)
    have hnx : val (a.data.toList.drop (i - 1)) = val ((Qt.set (i - 1) (UInt8.ofNat hg)).drop (i - 1)) * vl b + (R - vl b * hg) := by
      rw [hd, set_drop _ (by omega), val, show i - 1 + 1 = i by omega]
      have : (UInt8.ofNat hg).toNat = hg := by simp; omega
      rw [this, Nat.add_mul, Nat.mul_comm hg, Nat.mul_assoc]
      generalize val (Qt.drop i) * vl b = Z at *
      generalize vl b * hg = Y at *
      omega
    have hms : ix1 (.s (.int .i64 (((i - 1 : Nat) : Int) - 1))) < ix1 (.s (.int .i64 ((i - 1 : Nat) : Int))) := by simp only [ix1]; omega
    have z4 := wrap8 hg
    have hst := rowB_set (l := Qt) (i := i - 1) (UInt8.ofNat hg)
    have hQl : (Qt.map encB).length = a.size := by simpa using hQ0
    have hp2 : i - 1 < a.size := by omega
    have hsl : (Qt.set (i - 1) (UInt8.ofNat hg)).length = a.size := by rw [List.length_set]; assumption
    refine go (And.intro h0 (And.intro h1 (And.intro h7 (And.intro h8 (And.intro h9 (And.intro h10 h11)))))) ?_
    refine x_callN rfl rfl rfl rfl (sv h1) g_small (sv h1) (se h1) ⟨b, hg, by omega, by omega, rfl, rfl⟩ rfl ?_
    refine go (And.intro h0 (And.intro h1 (And.intro h7 (And.intro h8 (And.intro h9 (And.intro h10 h11)))))) ?_
    have hsb : V.tup [.s (.string (natB (R - vl b * hg))), .s (.bool true)] = V.tup (if vl (natB R) < vl (natB (vl b * hg)) then [.s (.string ⟨#[]⟩), .s (.bool false)] else [.s (.string (natB (vl (natB R) - vl (natB (vl b * hg))))), .s (.bool true)]) := by
      rw [vl_natB, vl_natB, if_neg (by omega)]
    refine x_callN rfl rfl rfl rfl (sv h8) g_sub (sv h8) (se h8) ⟨natB R, natB (vl b * hg), by omega, by omega, rfl, hsb⟩ rfl ?_
    refine go (And.intro h0 (And.intro h1 (And.intro h7 (And.intro h8 (And.intro h9 (And.intro h10 (And.intro h11 (And.intro hh0 (And.intro z4 (And.intro hst (And.intro hQl hp2))))))))))) ?_
    have hlt : R - vl b * hg < vl b := by omega
    (refine ⟨⟨i - 1, Qt.set (i - 1) (UInt8.ofNat hg), R - vl b * hg, ?_, ?_, ?_, ?_, ?_, ?_, ?_, ?_, ?_, ?_, ?_⟩, ?_⟩ <;> (first | omega | (dsimp only; omega) | (assumption) | exact sxa (And.intro @cast_succ hst) | exact soa trivial))
end Go.Proofs.Ytahgddfnbjpfiaa

set_option linter.unusedVariables false
set_option linter.unusedSimpArgs false
set_option maxRecDepth 100000
set_option maxHeartbeats 16000000
namespace Go.Proofs.Ytahgddfnbjpfiaa
open Go Go.RowKit Am

/-- The number that a string slot holds. -/
def ixS : Am.V → Nat
  | .s (.string s) => vl s
  | _ => 0
theorem ixS_nat (n : Nat) : ixS (.s (.string (natB n))) = n := vl_natB n
theorem natB_le {m n : Nat} (h : m ≤ n) : (natB m).size ≤ (natB n).size := dig_len_le (Nat.lt_of_le_of_lt h (by have := vl_lt (natB n); rwa [vl_natB] at this))
theorem natB_sz (a : ByteArray) : (natB (vl a)).size ≤ a.size := dig_size
def gcdS : Fspec := fun _ ds r => ∃ a b : ByteArray, a.size ≤ 274877906940 ∧ b.size ≤ 274877906940 ∧ ds = [.s (.string a), .s (.string b)] ∧ r = .s (.string (natB (Nat.gcd (vl a) (vl b))))
theorem gcd_sound {plain : TypeId → Bool} {Γ : FuncId → Option Fspec} {Δ : FuncId → Option Pt} (hE : EnvOk ⟨Try.prog, plain, Γ, Δ, fun _ => none, 0⟩) (g_norm : Γ 65 = some normS) (g_div : Γ 60 = some div1S) : Sound Try.prog 59 gcdS := by
  refine sound_of_awp hE Try.func59 rfl (by kernel_rfl) ?_
  rintro Φ ds r ⟨a, b, ha, hb, rfl, rfl⟩
  refine ⟨by simp [Try.f59], ?_⟩
  unfold st0
  refine W.out (E := ⟨Try.prog, plain, Γ, Δ, Φ, _⟩) ?_
  have sa := natB_sz a
  have sb := natB_sz b
  refine go trivial ?_
  refine x_callN rfl rfl rfl rfl (sv trivial) g_norm (sv trivial) (se trivial) ⟨a, by omega, rfl, rfl⟩ rfl ?_
  refine go trivial ?_
  refine x_callN rfl rfl rfl rfl (sv trivial) g_norm (sv trivial) (se trivial) ⟨b, by omega, rfl, rfl⟩ rfl ?_
  refine go trivial ?_
  refine x_loop (fun σ => ∃ (X : Nat) (Y : Nat), σ.t 5 = .s (.string (natB X)) ∧ σ.t 6 = .s (.string (natB Y)) ∧ (natB X).size ≤ 274877906940 ∧ (natB Y).size ≤ 274877906940 ∧ X.gcd Y = (vl a).gcd (vl b)) (fun σ => ixS (σ.t 6)) ⟨vl a, vl b, (by first | assumption | exact sxa trivial), (by first | assumption | exact sxa trivial), (by first | rfl | omega | assumption | (simp [*]; done)), (by first | rfl | omega | assumption | (simp [*]; done)), (by first | rfl | omega | assumption | (simp [*]; done))⟩ ?_
  rintro t h n ⟨X, Y, h5, h6, hf0, hf1, hf2⟩
  simp only at h5 h6
  have hem := natB_empty Y
  by_cases hz : Y = 0
  · have h1 : decide (Y = 0) = true := decide_eq_true hz
    have hg : (vl a).gcd (vl b) = X := by rw [← hf2, hz, Nat.gcd_zero_right]
    rw [hg]
    refine go (And.intro h5 (And.intro h6 (And.intro hem h1))) ?_
    refine x_done (x_out (sr @Try.f59.eq_1) (by simp) (by simp) rfl)
  have h1 : decide (Y = 0) = false := decide_eq_false hz
  have hdv : V.tup [.s (.string (natB (X / Y))), .s (.string (natB (X % Y))), .s (.bool true)] = .tup (if vl (natB Y) = 0 then [.s (.string ⟨#[]⟩), .s (.string ⟨#[]⟩), .s (.bool false)] else [.s (.string (natB (vl (natB X) / vl (natB Y)))), .s (.string (natB (vl (natB X) % vl (natB Y)))), .s (.bool true)]) := by
    rw [vl_natB, vl_natB, if_neg hz]
  have hlt : X % Y < Y := Nat.mod_lt _ (by omega)
  have hsz := natB_le (Nat.le_of_lt hlt)
  have hms : ixS (.s (.string (natB (X % Y)))) < ixS (.s (.string (natB Y))) := by rw [ixS_nat, ixS_nat]; exact hlt
  have hnx : Y.gcd (X % Y) = (vl a).gcd (vl b) := by rw [← hf2, Nat.gcd_comm X Y, Nat.gcd_rec Y X, Nat.gcd_comm]
  refine go (And.intro h5 (And.intro h6 (And.intro hem h1))) ?_
  refine x_callN rfl rfl rfl rfl (sv (And.intro h5 h6)) g_div (sv (And.intro h5 h6)) (se (And.intro h5 h6)) ⟨natB X, natB Y, hf0, hf1, rfl, hdv⟩ rfl ?_
  refine go (And.intro h5 h6) ?_
  (refine ⟨⟨Y, X % Y, ?_, ?_, ?_, ?_, ?_⟩, ?_⟩ <;> (first | omega | (dsimp only; omega) | (omega) | exact sxa @cast_succ | exact soa trivial))
end Go.Proofs.Ytahgddfnbjpfiaa

set_option linter.unusedVariables false
set_option linter.unusedSimpArgs false
set_option maxRecDepth 100000
set_option maxHeartbeats 16000000
namespace Go.Proofs.Ytahgddfnbjpfiaa
open Go Go.RowKit Am

def ofS : Fspec := fun _ ds r => ∃ n : Nat, n < 18446744073709551616 ∧ ds = [.s (.int .u64 n)] ∧ r = .s (.string (natB n))
theorem of_sound {plain : TypeId → Bool} {Γ : FuncId → Option Fspec} {Δ : FuncId → Option Pt} (hE : EnvOk ⟨Try.prog, plain, Γ, Δ, fun _ => none, 0⟩) : Sound Try.prog 71 ofS := by
  refine sound_of_awp hE Try.func71 rfl (by kernel_rfl) ?_
  rintro Φ ds r ⟨N, hN, rfl, rfl⟩
  refine ⟨by simp [Try.f71], ?_⟩
  unfold st0
  refine W.out (E := ⟨Try.prog, plain, Γ, Δ, Φ, _⟩) ?_
  refine go trivial ?_
  have hd8 : (dig N).length ≤ 8 := dig_len_le (by omega)
  have hl0 : (([] : List UInt8).map encB) = [] := rfl
  have hln0 : ([] : List UInt8).length = 0 := rfl
  refine x_loop (fun σ => ∃ (m : Nat) (L : List UInt8) (k : Nat) (q : Nat) (cq : Nat) (sq : List (List Am.V)), σ.t 0 = .s (.int .u64 m) ∧ σ.t 3 = .loc q 0 k cq ∧ σ.h q = some ⟨1, L.map encB ++ sq, true⟩ ∧ q < σ.n ∧ L.length = k ∧ k ≤ cq ∧ cq ≤ k + sq.length ∧ m ≤ N ∧ dig N = L ++ dig m) (fun σ => ix1 (σ.t 0)) ⟨N, [], 0, 0, _, [], (by first | assumption | exact sxa trivial), (by first | assumption | exact sxa trivial), (by first | assumption | exact sxa trivial), (by first | omega | (dsimp only; omega) | exact soa trivial | omega | (simp; done)), (by first | rfl | omega | assumption | (simp [*]; done)), (by first | rfl | omega | assumption | (simp [*]; done)), (by first | rfl | omega | assumption | (simp [*]; done)), (by first | rfl | omega | assumption | (simp [*]; done)), (by first | rfl | omega | assumption | (simp [*]; done))⟩ ?_
  rintro t h n ⟨m, L, k, q, cq, sq, h0, h3, hhq, hn1, hf0, hf1, hf2, hf3, hf4⟩
  simp only at h0 h3 hhq hn1
  by_cases hm : m = 0
  · have d1 : ((0 : Int) < (m : Int)) = False := eq_false (by omega)
    have hLd : dig N = L := by rw [hf4, hm, dig_zero, List.append_nil]
    have tk : (L.map encB ++ sq).take k = L.map encB := List.take_left' (by simpa using hf0)
    have ln : k ≤ (L.map encB ++ sq).length := by simp; omega
    have b1 := bytesB L
    have b2 := strB L
    have hnb : natB N = ⟨L.toArray⟩ := by rw [natB, hLd]
    rw [hnb]
    refine go (And.intro h0 (And.intro h3 (And.intro hhq (And.intro d1 (And.intro tk (And.intro ln (And.intro b1 b2))))))) ?_
    refine x_done (x_out (sr @Try.f71.eq_1) (by simp) (by simp) rfl)
  have d1 : ((0 : Int) < (m : Int)) = True := eq_true (by omega)
  have hdm : dig N = (L ++ [UInt8.ofNat m]) ++ dig (m / 256) := by rw [hf4, dig_pos hm]; simp
  have hk8 : k + 1 ≤ 8 := by
    have h2 := congrArg List.length hdm
    simp only [List.length_append, List.length_cons, List.length_nil] at h2
    omega
  have hls : (L ++ [UInt8.ofNat m]).map encB = L.map encB ++ [encB (UInt8.ofNat m)] := by simp
  have hml : (L.map encB).length = k := by simpa using hf0
  have e1 : (q = n) = False := by simp; omega
  have e2 : (q = n + 1) = False := by simp; omega
  have e3 : (n = q) = False := by simp; omega
  have e4 : (n + 1 = q) = False := by simp; omega
  have z2 : (m : Int).tmod 256 = ((m % 256 : Nat) : Int) := rfl
  have z3 : (m : Int).tdiv 256 = ((m / 256 : Nat) : Int) := rfl
  have z4 := wrap8 (m % 256)
  have z5 : UInt8.ofNat (m % 256) = UInt8.ofNat m := UInt8.toNat_inj.1 (by simp)
  have hln : (L ++ [UInt8.ofNat m]).length = k + 1 := by simp; omega
  have hms : ix1 (.s (.int .u64 ((m / 256 : Nat) : Int))) < ix1 (.s (.int .u64 (m : Int))) := by simp only [ix1]; omega
  rw [z5] at z4
  refine go (And.intro h0 (And.intro h3 (And.intro z2 (And.intro z3 (And.intro z4 d1))))) ?_
  refine x_appendO rfl rfl rfl rfl rfl rfl (sv (And.intro h3 (And.intro hhq (And.intro hml (And.intro e1 (And.intro e2 (And.intro e3 e4))))))) (by decide) (sc (And.intro h3 (And.intro hhq (And.intro hml (And.intro e1 (And.intro e2 (And.intro e3 e4))))))) (sv (And.intro h3 (And.intro hhq (And.intro hml (And.intro e1 (And.intro e2 (And.intro e3 e4))))))) (sx (And.intro h3 (And.intro hhq (And.intro hml (And.intro e1 (And.intro e2 (And.intro e3 e4))))))) (by first | rfl | (simp; done) | (simp [spare_len]; omega)) (by first | omega | (simp; done) | (simp [spare_len]; omega)) (by first | omega | (simp; done) | (simp [spare_len]; omega)) (sx (And.intro h3 (And.intro hhq (And.intro hml (And.intro e1 (And.intro e2 (And.intro e3 e4))))))) (okRowB (UInt8.ofNat m)) (by first | omega | (simp; done) | (simp [spare_len]; omega)) (fun cap' hcap' => ?_)
  refine go (And.intro h0 (And.intro h3 (And.intro z2 (And.intro z3 (And.intro e1 (And.intro e2 (And.intro e3 e4))))))) ?_
  have hc2 : k + 1 ≤ cap' := hcap'
  have hc3 : cap' ≤ k + 1 + (spare 1 (cap' - (k + 1))).length := by simp only [spare_len]; omega
  have hc4 : m / 256 ≤ N := by omega
  clear z2 z4 z5
  (refine ⟨⟨m / 256, L ++ [UInt8.ofNat m], k + 1, n + 1, cap', spare 1 (cap' - (k + 1)), ?_, ?_, ?_, ?_, ?_, ?_, ?_, ?_, ?_⟩, ?_⟩ <;> (first | omega | (dsimp only; omega) | (assumption) | exact sxa (And.intro @cast_succ (And.intro hls (And.intro e1 (And.intro e2 (And.intro e3 e4))))) | exact soa trivial))
end Go.Proofs.Ytahgddfnbjpfiaa

set_option linter.unusedVariables false
set_option linter.unusedSimpArgs false
set_option maxRecDepth 100000
set_option maxHeartbeats 16000000
namespace Go.Proofs.Ytahgddfnbjpfiaa
open Go Go.RowKit Am

/-- The integer of a sign and a magnitude. -/
def zv (ng : Bool) (s : ByteArray) : Int := if ng then -(vl s : Int) else (vl s : Int)
/-- An integer in canonical form. -/
def encZ (z : Int) : List Am.V := [.s (.bool (decide (z < 0))), .s (.string (natB z.natAbs))]
theorem encZ_zv (ng : Bool) (s : ByteArray) : encZ (zv ng s) = [.s (.bool (ng && !decide (vl s = 0))), .s (.string (natB (vl s)))] := by
  cases ng
  · have h1 : zv false s = (vl s : Int) := rfl
    have h2 : decide ((vl s : Int) < 0) = false := decide_eq_false (by omega)
    rw [encZ, h1, h2]; rfl
  · have h1 : zv true s = -(vl s : Int) := rfl
    have h2 : decide (-(vl s : Int) < 0) = !decide (vl s = 0) := by
      by_cases h : vl s = 0
      · rw [h]; rfl
      · rw [decide_eq_true (by omega : -(vl s : Int) < 0), decide_eq_false h]; rfl
    rw [encZ, h1, h2, show (-(vl s : Int)).natAbs = vl s by omega]; rfl
def ofiS : Fspec := fun _ ds r => ∃ (ng : Bool) (a : ByteArray), a.size ≤ 1099511627776 ∧ ds = [.s (.bool ng), .s (.string a)] ∧ r = .agg (encZ (zv ng a))
theorem ofi_sound {plain : TypeId → Bool} {Γ : FuncId → Option Fspec} {Δ : FuncId → Option Pt} (hE : EnvOk ⟨Try.prog, plain, Γ, Δ, fun _ => none, 0⟩) (g_norm : Γ 65 = some normS) : Sound Try.prog 58 ofiS := by
  refine sound_of_awp hE Try.func58 rfl (by kernel_rfl) ?_
  rintro Φ ds r ⟨ng, a, ha, rfl, rfl⟩
  refine ⟨by simp [Try.f58], ?_⟩
  unfold st0
  refine W.out (E := ⟨Try.prog, plain, Γ, Δ, Φ, _⟩) ?_
  have hem := natB_empty (vl a)
  rw [encZ_zv]
  refine go trivial ?_
  refine x_callN rfl rfl rfl rfl (sv trivial) g_norm (sv trivial) (se trivial) ⟨a, ha, rfl, rfl⟩ rfl ?_
  cases ng
  · refine go trivial ?_
    refine x_done (x_out (sr @Try.f58.eq_1) (by simp) (by simp) rfl)
  by_cases hz : vl a = 0
  · have h1 : decide (vl a = 0) = true := decide_eq_true hz
    rw [h1]
    refine go (And.intro hem h1) ?_
    refine x_done (x_out (sr @Try.f58.eq_1) (by simp) (by simp) rfl)
  · have h1 : decide (vl a = 0) = false := decide_eq_false hz
    rw [h1]
    refine go (And.intro hem h1) ?_
    refine x_done (x_out (sr @Try.f58.eq_1) (by simp) (by simp) rfl)
def normiS : Fspec := fun _ ds r => ∃ (ng : Bool) (a : ByteArray), a.size ≤ 1099511627776 ∧ ds = [.agg [.s (.bool ng), .s (.string a)]] ∧ r = .agg (encZ (zv ng a))
theorem normi_sound {plain : TypeId → Bool} {Γ : FuncId → Option Fspec} {Δ : FuncId → Option Pt} (hE : EnvOk ⟨Try.prog, plain, Γ, Δ, fun _ => none, 0⟩) (g_of : Γ 58 = some ofiS) : Sound Try.prog 53 normiS := by
  refine sound_of_awp hE Try.func53 rfl (by kernel_rfl) ?_
  rintro Φ ds r ⟨ng, a, ha, rfl, rfl⟩
  refine ⟨by simp [Try.f53], ?_⟩
  unfold st0
  refine W.out (E := ⟨Try.prog, plain, Γ, Δ, Φ, _⟩) ?_
  refine go trivial ?_
  refine x_callN rfl rfl rfl rfl (sv trivial) g_of (sv trivial) (se trivial) ⟨ng, a, ha, rfl, rfl⟩ rfl ?_
  rw [encZ_zv]
  refine go trivial ?_
  refine x_done (x_out (sr @Try.f53.eq_1) (by simp) (by simp) rfl)
def negiS : Fspec := fun _ ds r => ∃ (ng : Bool) (a : ByteArray), a.size ≤ 1099511627776 ∧ ds = [.agg [.s (.bool ng), .s (.string a)]] ∧ r = .agg (encZ (-(zv ng a)))
theorem zv_not (ng : Bool) (a : ByteArray) : zv (!ng) a = -(zv ng a) := by cases ng <;> simp [zv]
theorem negi_sound {plain : TypeId → Bool} {Γ : FuncId → Option Fspec} {Δ : FuncId → Option Pt} (hE : EnvOk ⟨Try.prog, plain, Γ, Δ, fun _ => none, 0⟩) (g_of : Γ 58 = some ofiS) : Sound Try.prog 70 negiS := by
  refine sound_of_awp hE Try.func70 rfl (by kernel_rfl) ?_
  rintro Φ ds r ⟨ng, a, ha, rfl, rfl⟩
  refine ⟨by simp [Try.f70], ?_⟩
  unfold st0
  refine W.out (E := ⟨Try.prog, plain, Γ, Δ, Φ, _⟩) ?_
  rw [← zv_not]
  refine go trivial ?_
  refine x_callN rfl rfl rfl rfl (sv trivial) g_of (sv trivial) (se trivial) ⟨!ng, a, ha, rfl, rfl⟩ rfl ?_
  rw [encZ_zv]
  refine go trivial ?_
  refine x_done (x_out (sr @Try.f70.eq_1) (by simp) (by simp) rfl)
def signiS : Fspec := fun _ ds r => ∃ (ng : Bool) (a : ByteArray), a.size ≤ 1099511627776 ∧ ds = [.agg [.s (.bool ng), .s (.string a)]] ∧ r = .s (.int .i64 (zv ng a).sign)
theorem signi_sound {plain : TypeId → Bool} {Γ : FuncId → Option Fspec} {Δ : FuncId → Option Pt} (hE : EnvOk ⟨Try.prog, plain, Γ, Δ, fun _ => none, 0⟩) (g_norm : Γ 65 = some normS) : Sound Try.prog 61 signiS := by
  refine sound_of_awp hE Try.func61 rfl (by kernel_rfl) ?_
  rintro Φ ds r ⟨ng, a, ha, rfl, rfl⟩
  refine ⟨by simp [Try.f61], ?_⟩
  unfold st0
  refine W.out (E := ⟨Try.prog, plain, Γ, Δ, Φ, _⟩) ?_
  have hem := natB_empty (vl a)
  refine go trivial ?_
  refine x_callN rfl rfl rfl rfl (sv trivial) g_norm (sv trivial) (se trivial) ⟨a, ha, rfl, rfl⟩ rfl ?_
  by_cases hz : vl a = 0
  · have h1 : decide (vl a = 0) = true := decide_eq_true hz
    have hs : (zv ng a).sign = 0 := by cases ng <;> simp [zv, hz]
    rw [hs]
    refine go (And.intro hem h1) ?_
    refine x_done (x_out (sr @Try.f61.eq_1) (by simp) (by simp) rfl)
  have h1 : decide (vl a = 0) = false := decide_eq_false hz
  cases ng
  · have hs : (zv false a).sign = 1 := Int.sign_eq_one_of_pos (by show (0 : Int) < (vl a : Int); omega)
    rw [hs]
    refine go (And.intro hem h1) ?_
    refine x_done (x_out (sr @Try.f61.eq_1) (by simp) (by simp) rfl)
  · have hs : (zv true a).sign = -1 := Int.sign_eq_neg_one_of_neg (by show -(vl a : Int) < 0; omega)
    rw [hs]
    refine go (And.intro hem h1) ?_
    refine x_done (x_out (sr @Try.f61.eq_1) (by simp) (by simp) rfl)
end Go.Proofs.Ytahgddfnbjpfiaa

set_option linter.unusedVariables false
set_option linter.unusedSimpArgs false
set_option maxRecDepth 100000
set_option maxHeartbeats 16000000
namespace Go.Proofs.Ytahgddfnbjpfiaa
open Go Go.RowKit Am

theorem natB_add_sz (a b : ByteArray) {k : Nat} (ha : a.size ≤ k) (hb : b.size ≤ k) : (natB (vl a + vl b)).size ≤ k + 1 := dig_len_le (by
  have h1 := Nat.lt_of_lt_of_le (vl_lt a) (Nat.pow_le_pow_right (by omega : 0 < 256) ha)
  have h2 := Nat.lt_of_lt_of_le (vl_lt b) (Nat.pow_le_pow_right (by omega : 0 < 256) hb)
  rw [Nat.pow_succ]
  omega)
theorem natB_sub_sz (a b : ByteArray) {k : Nat} (ha : a.size ≤ k) : (natB (vl a - vl b)).size ≤ k := dig_len_le (by
  have h1 := Nat.lt_of_lt_of_le (vl_lt a) (Nat.pow_le_pow_right (by omega : 0 < 256) ha)
  omega)
def addiS : Fspec := fun _ ds r => ∃ (m : Bool) (a : ByteArray) (k : Bool) (b : ByteArray), a.size ≤ 1099511627700 ∧ b.size ≤ 1099511627700 ∧ ds = [.agg [.s (.bool m), .s (.string a)], .agg [.s (.bool k), .s (.string b)]] ∧ r = .agg (encZ (zv m a + zv k b))
theorem addi_sound {plain : TypeId → Bool} {Γ : FuncId → Option Fspec} {Δ : FuncId → Option Pt} (hE : EnvOk ⟨Try.prog, plain, Γ, Δ, fun _ => none, 0⟩) (g_of : Γ 58 = some ofiS) (g_add : Γ 69 = some add1S) (g_sub : Γ 68 = some sub1S) : Sound Try.prog 62 addiS := by
  refine sound_of_awp hE Try.func62 rfl (by kernel_rfl) ?_
  rintro Φ ds r ⟨m, a, k, b, ha, hb, rfl, rfl⟩
  refine ⟨by simp [Try.f62], ?_⟩
  unfold st0
  refine W.out (E := ⟨Try.prog, plain, Γ, Δ, Φ, _⟩) ?_
  have sz1 := natB_add_sz a b ha hb
  have sz2 := natB_sub_sz a b ha
  have sz3 := natB_sub_sz b a hb
  by_cases hmk : m = k
  · subst hmk
    have h1 : (m == m) = true := by simp
    have hz : zv m a + zv m b = zv m (natB (vl a + vl b)) := by cases m <;> simp [zv, vl_natB] <;> omega
    rw [hz]
    refine go h1 ?_
    refine x_callD rfl rfl rfl rfl rfl (sv trivial) g_add (sv trivial) (se trivial) ⟨a, b, by omega, by omega, rfl, rfl⟩ rfl ?_
    refine go h1 ?_
    refine x_callD rfl rfl rfl rfl rfl (sv trivial) g_of (sv trivial) (se trivial) ⟨m, natB (vl a + vl b), by omega, rfl, rfl⟩ rfl ?_
    rw [encZ_zv]
    refine go h1 ?_
    refine x_done (x_out (sr @Try.f62.eq_1) (by simp) (by simp) rfl)
  have h1 : (m == k) = false := by simp [hmk]
  refine go h1 ?_
  by_cases hlt : vl a < vl b
  · have hz : zv m a + zv k b = zv k (natB (vl b - vl a)) := by cases m <;> cases k <;> simp [zv, vl_natB] at hmk ⊢ <;> omega
    rw [hz]
    have e1 : V.tup [.s (.string ⟨#[]⟩), .s (.bool false)] = V.tup (if vl a < vl b then [.s (.string ⟨#[]⟩), .s (.bool false)] else [.s (.string (natB (vl a - vl b))), .s (.bool true)]) := by rw [if_pos hlt]
    have e2 : V.tup [.s (.string (natB (vl b - vl a))), .s (.bool true)] = V.tup (if vl b < vl a then [.s (.string ⟨#[]⟩), .s (.bool false)] else [.s (.string (natB (vl b - vl a))), .s (.bool true)]) := by rw [if_neg (by omega)]
    refine x_callN rfl rfl rfl rfl (sv trivial) g_sub (sv trivial) (se trivial) ⟨a, b, by omega, by omega, rfl, e1⟩ rfl ?_
    refine go h1 ?_
    refine x_callN rfl rfl rfl rfl (sv trivial) g_sub (sv trivial) (se trivial) ⟨b, a, by omega, by omega, rfl, e2⟩ rfl ?_
    refine go h1 ?_
    refine x_callN rfl rfl rfl rfl (sv trivial) g_of (sv trivial) (se trivial) ⟨k, natB (vl b - vl a), by omega, rfl, rfl⟩ rfl ?_
    rw [encZ_zv]
    refine go h1 ?_
    refine x_done (x_out (sr @Try.f62.eq_1) (by simp) (by simp) rfl)
  · have hz : zv m a + zv k b = zv m (natB (vl a - vl b)) := by cases m <;> cases k <;> simp [zv, vl_natB] at hmk ⊢ <;> omega
    rw [hz]
    have e1 : V.tup [.s (.string (natB (vl a - vl b))), .s (.bool true)] = V.tup (if vl a < vl b then [.s (.string ⟨#[]⟩), .s (.bool false)] else [.s (.string (natB (vl a - vl b))), .s (.bool true)]) := by rw [if_neg hlt]
    refine x_callN rfl rfl rfl rfl (sv trivial) g_sub (sv trivial) (se trivial) ⟨a, b, by omega, by omega, rfl, e1⟩ rfl ?_
    refine go h1 ?_
    refine x_callN rfl rfl rfl rfl (sv trivial) g_of (sv trivial) (se trivial) ⟨m, natB (vl a - vl b), by omega, rfl, rfl⟩ rfl ?_
    rw [encZ_zv]
    refine go h1 ?_
    refine x_done (x_out (sr @Try.f62.eq_1) (by simp) (by simp) rfl)
end Go.Proofs.Ytahgddfnbjpfiaa

set_option linter.unusedVariables false
set_option linter.unusedSimpArgs false
set_option maxRecDepth 100000
set_option maxHeartbeats 16000000
namespace Go.Proofs.Ytahgddfnbjpfiaa
open Go Go.RowKit Am

theorem zv_enc (z : Int) : zv (decide (z < 0)) (natB z.natAbs) = z := by
  rw [zv, vl_natB]
  by_cases h : z < 0
  · rw [if_pos (decide_eq_true h)]; omega
  · rw [if_neg (by simp [h])]; omega
theorem zv_sz (k : Bool) (b : ByteArray) : (natB (zv k b).natAbs).size ≤ b.size := by
  have h : (zv k b).natAbs = vl b := by cases k <;> simp [zv]
  rw [h]; exact natB_sz b
theorem zvn_sz (k : Bool) (b : ByteArray) : (natB (-(zv k b)).natAbs).size ≤ b.size := by rw [Int.natAbs_neg]; exact zv_sz k b
def subiS : Fspec := fun _ ds r => ∃ (m : Bool) (a : ByteArray) (k : Bool) (b : ByteArray), a.size ≤ 1099511627700 ∧ b.size ≤ 1099511627700 ∧ ds = [.agg [.s (.bool m), .s (.string a)], .agg [.s (.bool k), .s (.string b)]] ∧ r = .agg (encZ (zv m a - zv k b))
theorem subi_sound {plain : TypeId → Bool} {Γ : FuncId → Option Fspec} {Δ : FuncId → Option Pt} (hE : EnvOk ⟨Try.prog, plain, Γ, Δ, fun _ => none, 0⟩) (g_neg : Γ 70 = some negiS) (g_add : Γ 62 = some addiS) : Sound Try.prog 63 subiS := by
  refine sound_of_awp hE Try.func63 rfl (by kernel_rfl) ?_
  rintro Φ ds r ⟨m, a, k, b, ha, hb, rfl, rfl⟩
  refine ⟨by simp [Try.f63], ?_⟩
  unfold st0
  refine W.out (E := ⟨Try.prog, plain, Γ, Δ, Φ, _⟩) ?_
  have sz := zvn_sz k b
  have hz : V.agg (encZ (zv m a - zv k b)) = V.agg (encZ (zv m a + zv (decide (-(zv k b) < 0)) (natB (-(zv k b)).natAbs))) := by rw [zv_enc, Int.sub_eq_add_neg]
  have hf : encZ (zv m a - zv k b) = [.s (.bool (decide ((zv m a - zv k b) < 0))), .s (.string (natB (zv m a - zv k b).natAbs))] := rfl
  refine go trivial ?_
  refine x_callD rfl rfl rfl rfl rfl (sv trivial) g_neg (sv trivial) (se trivial) ⟨k, b, by omega, rfl, rfl⟩ rfl ?_
  refine go trivial ?_
  refine x_callD rfl rfl rfl rfl rfl (sv trivial) g_add (sv trivial) (se trivial) ⟨m, a, decide (-(zv k b) < 0), natB (-(zv k b)).natAbs, ha, by omega, rfl, hz⟩ rfl ?_
  rw [hf]
  refine go trivial ?_
  refine x_done (x_out (sr @Try.f63.eq_1) (by simp) (by simp) rfl)
end Go.Proofs.Ytahgddfnbjpfiaa

set_option linter.unusedVariables false
set_option linter.unusedSimpArgs false
set_option maxRecDepth 100000
set_option maxHeartbeats 16000000
namespace Go.Proofs.Ytahgddfnbjpfiaa
open Go Go.RowKit Am

def fromS : Fspec := fun _ ds r => ∃ n : Nat, n < 9223372036854775808 ∧ ds = [.s (.int .i64 n)] ∧ r = .agg (encZ (n : Int))
theorem from_sound {plain : TypeId → Bool} {Γ : FuncId → Option Fspec} {Δ : FuncId → Option Pt} (hE : EnvOk ⟨Try.prog, plain, Γ, Δ, fun _ => none, 0⟩) (g_of : Γ 58 = some ofiS) (g_o : Γ 71 = some ofS) : Sound Try.prog 64 fromS := by
  refine sound_of_awp hE Try.func64 rfl (by kernel_rfl) ?_
  rintro Φ ds r ⟨n, hn, rfl, rfl⟩
  refine ⟨by simp [Try.f64], ?_⟩
  unfold st0
  refine W.out (E := ⟨Try.prog, plain, Γ, Δ, Φ, _⟩) ?_
  have h1 : ((n : Int) < 0) = False := eq_false (by omega)
  have hw : IntKind.u64.wrap (n : Int) = (n : Int) := by
    show (n : Int) % 18446744073709551616 = n
    omega
  have hsz : (natB n).size ≤ 8 := dig_len_le (by omega)
  have hz : (n : Int) = zv false (natB n) := by simp [zv, vl_natB]
  have hr : encZ (n : Int) = encZ (zv false (natB n)) := by rw [← hz]
  rw [hr]
  refine go (And.intro h1 hw) ?_
  refine x_callN rfl rfl rfl rfl (sv trivial) g_o (sv trivial) (se trivial) ⟨n, by omega, rfl, rfl⟩ rfl ?_
  refine go (And.intro h1 hw) ?_
  refine x_callN rfl rfl rfl rfl (sv trivial) g_of (sv trivial) (se trivial) ⟨false, natB n, by omega, rfl, rfl⟩ rfl ?_
  rw [encZ_zv]
  refine go trivial ?_
  refine x_done (x_out (sr @Try.f64.eq_1) (by simp) (by simp) rfl)
end Go.Proofs.Ytahgddfnbjpfiaa
