/- Texts that the law's proof stands on: V32. -/
import Derived.Test.YtgohmphhgglmbaaB7
set_option linter.unusedVariables false
set_option linter.unusedSimpArgs false
set_option maxRecDepth 100000
set_option maxHeartbeats 16000000
namespace Go.Proofs.Ytgohmphhgglmbaa
open Go Go.RowKit Am

def edtOk (B : Nat) (es : List Edt) : Prop := es.length ≤ B ∧ ∀ e ∈ es, e.field.size ≤ B ∧ e.value.size ≤ B ∧ e.deps.length ≤ B ∧ ∀ x ∈ e.deps, x.a.size ≤ B
def incLawS : Fspec := fun _ ds r => ∃ (l : List Rgs) (es : List Edt) (k : Int), smallR 1048576 l ∧ edtOk 1048576 es ∧ 0 ≤ k ∧ k < 256 ∧ ds = [.sl (l.map encR), .sl (es.map encE), .s (.int .u8 k)] ∧ r = .s (.bool true)
theorem edtOk.fine {es : List Edt} (h : edtOk 1048576 es) : es.length ≤ 1099511627776 ∧ ∀ e ∈ es, e.field.size ≤ 1099511627776 ∧ e.value.size ≤ 1099511627776 ∧ e.deps.length ≤ 1099511627776 ∧ ∀ x ∈ e.deps, x.a.size ≤ 1099511627776 :=
  ⟨by have := h.1; omega, fun e he => by
    obtain ⟨h1, h2, h3, h4⟩ := h.2 e he
    exact ⟨by omega, by omega, by omega, fun x hx => by have := h4 x hx; omega⟩⟩
theorem same_of {B : Nat} {L : List Rgs} (h : smallR B L) (hB : B ≤ 1000) : L.length ≤ 1099511627776 ∧ ∀ x ∈ L, x.w.length ≤ 1099511627776 := ⟨by have := h.1; omega, fun x hx => by have := h.2 x hx; omega⟩
def fl (es : List Edt) (i : Nat) : List Edt := (es.take i).filter isSet
theorem fl_len (es : List Edt) : fl es es.length = es.filter isSet := by simp [fl]
theorem fl_t {es : List Edt} {i : Nat} (hi : i < es.length) (h : isSet es[i] = true) : fl es (i + 1) = fl es i ++ [es[i]] := by
  rw [fl, List.take_succ_eq_append_getElem hi, List.filter_append]
  simp [fl, h]
theorem fl_f {es : List Edt} {i : Nat} (hi : i < es.length) (h : isSet es[i] = false) : fl es (i + 1) = fl es i := by
  rw [fl, List.take_succ_eq_append_getElem hi, List.filter_append]
  simp [fl, h]
theorem okRowE (e : Edt) : okRows 18 [encE e] := okRows_map encE [e] 18 fun a => ⟨rfl, by simp [encE, cellish]⟩
theorem incLaw_sound {plain : TypeId → Bool} {Γ : FuncId → Option Fspec} {Δ : FuncId → Option Pt} (hE : EnvOk ⟨Try.prog, plain, Γ, Δ, fun _ => none, 0⟩) (hpl : plain 31 = true) (g_alive : Γ 9 = some aliveS) (g_right : Γ 10 = some rightS) (g_fine : Γ 11 = some fineS) (g_same : Γ 12 = some sameS) (g_app : Γ 13 = some appS) : Sound Try.prog 7 incLawS := by
  refine sound_of_awp hE Try.func7 rfl (by kernel_rfl) ?_
  rintro Φ ds r ⟨l, es, k, hl, hes, hk0, hk1, rfl, rfl⟩
  refine ⟨by simp [Try.f7], ?_⟩
  unfold st0
  refine W.out (E := ⟨Try.prog, plain, Γ, Δ, Φ, _⟩) ?_
  have hre := encE_rows' es
  have hel := hes.1
  refine go trivial ?_
  refine x_callN rfl rfl rfl rfl (sv trivial) g_alive (sv trivial) (se trivial) ⟨rfl, rfl⟩ rfl ?_
  refine go trivial ?_
  refine x_callN rfl rfl rfl rfl (sv trivial) g_right (sv trivial) (se trivial) ⟨l, hl, rfl, rfl⟩ rfl ?_
  cases hr : (rightF l == 0)
  · refine go hr ?_
    refine x_callN rfl rfl rfl rfl (sv trivial) g_fine (sv trivial) (se trivial) ⟨es, hes.fine.1, hes.fine.2, rfl, rfl⟩ rfl ?_
    cases hf : fineF es
    · refine go (And.intro hr hf) ?_
      refine x_done (x_out (sr @Try.f7.eq_1) (by simp) (by simp) rfl)
    · have hR := right_p hr
      have hF := fine_small hf
      obtain ⟨q, hq, hq2⟩ : ∃ q : Nat, k.tmod ((es.length : Int) + 1) = (q : Int) ∧ q ≤ es.length := by
        have h1 : 0 ≤ k.tmod ((es.length : Int) + 1) := Int.tmod_nonneg _ hk0
        have h2 : k.tmod ((es.length : Int) + 1) < (es.length : Int) + 1 := Int.tmod_lt_of_pos _ (by omega)
        exact ⟨(k.tmod ((es.length : Int) + 1)).toNat, by omega, by omega⟩
      refine goR (And.intro hr (And.intro hf hq)) ?_
      refine x_seq ?_
      refine goR (And.intro hr (And.intro hf hq)) ?_
      refine x_seq ?_
      refine goR (And.intro hr (And.intro hf hq)) ?_
      refine x_cutF 8 (fun σ => ∃ (b : Nat) (cap : Nat) (sp : List (List V)), σ.t 0 = .sl (l.map encR) ∧ σ.t 1 = .sl (es.map encE) ∧ σ.t 7 = .s (.int .i64 q) ∧ σ.t 8 = .loc b 0 (es.filter isSet).length cap ∧ σ.h b = some ⟨18, (es.filter isSet).map encE ++ sp, true⟩ ∧ (es.filter isSet).length ≤ cap ∧ (es.filter isSet).length ≤ es.length) ?_ ?_
      · refine go (And.intro hr (And.intro hf hq)) ?_
        have fl0 : fl es 0 = [] := rfl
        refine x_loopG 8 18 (fun σ => ∃ (i : Nat) (b : Nat) (cap : Nat) (sp : List (List V)), σ.t 0 = .sl (l.map encR) ∧ σ.t 1 = .sl (es.map encE) ∧ σ.t 7 = .s (.int .i64 q) ∧ σ.t 8 = .loc b 0 (fl es i).length cap ∧ σ.t 28 = .sl (es.map encE) ∧ σ.t 29 = .s (.int .i64 es.length) ∧ σ.t 30 = .s (.int .i64 i) ∧ σ.h b = some ⟨18, (fl es i).map encE ++ sp, true⟩ ∧ b < σ.n ∧ i ≤ es.length ∧ (fl es i).length ≤ cap ∧ cap ≤ (fl es i).length + sp.length ∧ (fl es i).length ≤ i) (fun σ => es.length - ix (σ.t 30)) (sca trivial) ⟨0, _, 0, [], (by first | assumption | exact sxa trivial), (by first | assumption | exact sxa trivial), (by first | assumption | exact sxa trivial), (by first | assumption | exact sxa trivial), (by first | assumption | exact sxa trivial), (by first | assumption | exact sxa trivial), (by first | assumption | exact sxa trivial), (by first | assumption | exact sxa trivial), (by first | omega | (dsimp only; omega) | exact soa trivial | omega | (simp; done)), (by first | rfl | omega | assumption | (simp [*]; done)), (by first | rfl | omega | assumption | (simp [*]; done)), (by first | rfl | omega | assumption | (simp [*]; done)), (by first | rfl | omega | assumption | (simp [*]; done))⟩ ?_
        rintro t h n ⟨i, b, cap, sp, h0, h1, h7, h8, h28, h29, h30, hhb, hn1, hf0, hf1, hf2, hf3⟩
        simp only at h0 h1 h7 h8 h28 h29 h30 hhb hn1
        refine go (And.intro h0 (And.intro h1 (And.intro h7 (And.intro h8 (And.intro h28 (And.intro h29 h30)))))) ?_
        refine x_condP (sv (And.intro h0 (And.intro h1 (And.intro h7 (And.intro h8 (And.intro h28 (And.intro h29 h30))))))) (fun hc => ?_) (fun hc => ?_)
        · have hi : i < es.length := by omega
          have ft := fl_t hi
          have ff := fl_f hi
          generalize hee : es[i] = e at *
          have e1 : (b = n) = False := by simp; omega
          have e2 : (b = n + 1) = False := by simp; omega
          have e3 : (n = b) = False := by simp; omega
          have e4 : (n + 1 = b) = False := by simp; omega
          cases hk : (e.kind == 3)
          · have hfl := ff hk
            refine go (And.intro h0 (And.intro h1 (And.intro h7 (And.intro h8 (And.intro h28 (And.intro h29 (And.intro h30 (And.intro hhb (And.intro hre (And.intro hee (And.intro @encE_kind (And.intro e1 (And.intro e2 hk))))))))))))) ?_
            (refine ⟨⟨i + 1, b, cap, sp, ?_, ?_, ?_, ?_, ?_, ?_, ?_, ?_, ?_, ?_, ?_, ?_, ?_⟩, ?_⟩ <;> (first | omega | (dsimp only; omega) | ((simp only [hfl]; omega)) | exact sxa (And.intro @cast_succ (And.intro hfl (And.intro e1 e2))) | exact soa trivial))
          · have hfl := ft hk
            have hl2 : (fl es (i + 1)).length = (fl es i).length + 1 := by rw [hfl]; simp
            have hm2 : (fl es (i + 1)).map encE = (fl es i).map encE ++ [encE e] := by rw [hfl]; simp
            clear hfl ft ff
            refine go (And.intro h0 (And.intro h1 (And.intro h7 (And.intro h8 (And.intro h28 (And.intro h29 (And.intro h30 (And.intro hhb (And.intro hre (And.intro hee (And.intro @encE_kind (And.intro e1 (And.intro e2 (And.intro e3 (And.intro e4 hk))))))))))))))) ?_
            refine x_appendO rfl rfl rfl rfl rfl rfl (sv (And.intro h8 (And.intro hhb (And.intro e1 (And.intro e2 (And.intro e3 e4)))))) (by decide) (sc (And.intro h8 (And.intro hhb (And.intro e1 (And.intro e2 (And.intro e3 e4)))))) (sv (And.intro h8 (And.intro hhb (And.intro e1 (And.intro e2 (And.intro e3 e4)))))) (sx (And.intro h8 (And.intro hhb (And.intro e1 (And.intro e2 (And.intro e3 e4)))))) (by first | rfl | (simp; done) | (simp [spare_len]; omega)) (by first | omega | (simp; done) | (simp [spare_len]; omega)) (by first | omega | (simp; done) | (simp [spare_len]; omega)) (sx (And.intro h8 (And.intro hhb (And.intro e1 (And.intro e2 (And.intro e3 e4)))))) (okRowE e) (by first | omega | (simp; done) | (simp [spare_len]; omega)) (fun cap' hcap' => ?_)
            refine go (And.intro h0 (And.intro h1 (And.intro h7 (And.intro h8 (And.intro h28 (And.intro h29 (And.intro h30 (And.intro hhb (And.intro hre (And.intro hee (And.intro @encE_kind (And.intro e1 (And.intro e2 (And.intro e3 (And.intro e4 hk))))))))))))))) ?_
            have hc2 : (fl es i).length + 1 ≤ cap' := hcap'
            (refine ⟨⟨i + 1, n + 1 + 1, cap', spare 18 (cap' - ((fl es i).length + 1)), ?_, ?_, ?_, ?_, ?_, ?_, ?_, ?_, ?_, ?_, ?_, ?_, ?_⟩, ?_⟩ <;> (first | omega | (dsimp only; omega) | ((simp only [hl2, spare_len]; omega)) | exact sxa (And.intro @cast_succ (And.intro hl2 (And.intro hm2 (And.intro @encE_kind (And.intro e1 (And.intro e2 (And.intro e3 e4))))))) | exact soa trivial))
        · have e : i = es.length := by omega
          subst e
          rw [fl_len] at *
          skip
          refine go (And.intro h0 (And.intro h1 (And.intro h7 (And.intro h8 (And.intro h28 (And.intro h29 h30)))))) ?_
          (refine ⟨b, cap, sp, ?_, ?_, ?_, ?_, ?_, ?_, ?_⟩ <;> (first | omega | (dsimp only; omega) | exact sxa @cast_succ | exact soa trivial | (omega)))
      rintro t h n ⟨b, cap, sp, h0, h1, h7, h8, hhb, hf0, hf1⟩
      simp only at h0 h1 h7 h8 hhb
      have hx1 : ∀ h d, allO (allO (expo h d)) ((es.filter isSet).map encE) = some ((es.filter isSet).map encE) := fun h d => allO_rows h d (deep_map encE _ (fun a => by simp [encE, deepc]))
      have tk : ((es.filter isSet).map encE ++ sp).take (es.filter isSet).length = (es.filter isSet).map encE := List.take_left' (by simp)
      refine ⟨.sl ((es.filter isSet).map encE), ?_, fun h2 hold => ?_⟩
      · rw [h8]
        have ln : ((es.filter isSet).length ≤ ((es.filter isSet).map encE ++ sp).length) = True := by simp
        exact se (And.intro hhb (And.intro hx1 (And.intro tk ln)))
      clear hold
      generalize hS : es.filter isSet = S at *
      have hdeps := hF.2
      have hSd : ∀ e ∈ S, e.deps.length ≤ 500000 := by
        intro e he
        rw [← hS] at he
        have := hdeps e (List.mem_filter.1 he).1
        omega
      have hes0 := hF.1
      refine go (And.intro h0 (And.intro h1 h7)) ?_
      refine x_callS rfl rfl rfl rfl (sv trivial) g_app (sv trivial) (se trivial) ⟨l, es, hR.small.mono (by omega), by omega, fun e he => by have := hdeps e he; omega, rfl, rfl⟩ (by simp) (by simp [touchA, touch]) ?_
      have tq : (es.map encE).take q = (es.take q).map encE := List.map_take.symm
      have dq : (es.map encE).drop q = (es.drop q).map encE := List.map_drop.symm
      have dq2 : ((es.drop q).map encE).take (es.length - q) = (es.drop q).map encE := List.take_of_length_le (by simp)
      refine go (And.intro h0 (And.intro h1 (And.intro h7 (And.intro hre (And.intro tq (And.intro dq dq2)))))) ?_
      refine x_callDS rfl rfl rfl rfl rfl (sv tq) g_app (sv tq) (se tq) ⟨l, es.take q, hR.small.mono (by omega), by simp; omega, fun e he => by have := hdeps e (List.mem_of_mem_take he); omega, rfl, rfl⟩ (by simp) (by simp [touchA, touch]) ?_
      refine go (And.intro h0 (And.intro h1 (And.intro h7 (And.intro hre (And.intro tq (And.intro dq dq2)))))) ?_
      have hsm1 := app_small (es.take q) hR.small
      have hl1 : (es.take q).length ≤ 30 := by simp; omega
      refine x_callDS rfl rfl rfl rfl rfl (sv dq) g_app (sv dq) (se dq) ⟨appF l (es.take q), es.drop q, hsm1.mono (by omega), by simp; omega, fun e he => by have := hdeps e (List.mem_of_mem_drop he); omega, rfl, rfl⟩ (by simp) (by simp [touchA, touch]) ?_
      refine go (And.intro h0 (And.intro h1 (And.intro h7 (And.intro hre (And.intro tq (And.intro dq dq2)))))) ?_
      rw [appF_append, List.take_append_drop]
      have hsm2 := app_small es hR.small
      have hsm3 := same_of hsm2 (by omega)
      refine x_callD rfl rfl rfl rfl rfl (sv trivial) g_same (sv trivial) (se trivial) ⟨appF l es, appF l es, hsm3.1, hsm3.1, hsm3.2, hsm3.2, rfl, rfl⟩ rfl ?_
      rw [sameF_refl]
      refine go (And.intro h0 (And.intro h1 (And.intro h7 (And.intro hre (And.intro tq (And.intro dq dq2)))))) ?_
      have hS2 : S.length ≤ 500000 := by omega
      refine x_callDS rfl rfl rfl rfl rfl (sv trivial) g_app (sv trivial) (se trivial) ⟨l, S, hR.small.mono (by omega), hS2, hSd, rfl, rfl⟩ (by simp) (by simp [touchA, touch]) ?_
      have hSa : appF l S = appF l es := by rw [← hS]; exact appF_filter es l
      rw [hSa]
      refine go (And.intro h0 (And.intro h1 (And.intro h7 (And.intro hre (And.intro tq (And.intro dq dq2)))))) ?_
      refine x_callD rfl rfl rfl rfl rfl (sv trivial) g_same (sv trivial) (se trivial) ⟨appF l es, appF l es, hsm3.1, hsm3.1, hsm3.2, hsm3.2, rfl, rfl⟩ rfl ?_
      rw [sameF_refl]
      refine go (And.intro h0 (And.intro h1 (And.intro h7 (And.intro hre (And.intro tq (And.intro dq dq2)))))) ?_
      refine x_done (x_out (sr @Try.f7.eq_1) (by simp) (by simp) rfl)
  · refine go hr ?_
    refine x_done (x_out (sr @Try.f7.eq_1) (by simp) (by simp) rfl)
end Go.Proofs.Ytgohmphhgglmbaa
