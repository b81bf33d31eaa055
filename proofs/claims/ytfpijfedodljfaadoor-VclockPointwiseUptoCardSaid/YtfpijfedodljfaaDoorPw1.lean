/- Texts that the law's proof stands on: V46. -/
import Derived.Test.YtfpijfedodljfaaDoorB7
set_option linter.unusedVariables false
set_option linter.unusedSimpArgs false
set_option maxRecDepth 100000
set_option maxHeartbeats 8000000
namespace Go.Proofs.YtfpijfedodljfaaDoor
open Go Go.RowKit Am

theorem cont_merge {a b : List Idt} (ha : Val a) (hb : Val b) (x : Idt) : contF (mergeF a b) x = (contF a x || contF b x) := by
  obtain ⟨g1, g2, g3⟩ := merge_all ha hb
  rw [cont_has g1, cont_has ha, cont_has hb, hasF, hasF, hasF, g3]
  have h1 := imax_l (m := uptoF a x.a) (n := uptoF b x.a)
  have h2 := imax_r (m := uptoF a x.a) (n := uptoF b x.a)
  by_cases h0 : 1 ≤ x.n
  · simp only [h0, decide_true, Bool.true_and]
    by_cases h3 : x.n ≤ uptoF a x.a
    · have : x.n ≤ imax (uptoF a x.a) (uptoF b x.a) := by omega
      simp [h3, this]
    · by_cases h4 : x.n ≤ uptoF b x.a
      · have : x.n ≤ imax (uptoF a x.a) (uptoF b x.a) := by omega
        simp [h4, this]
      · have : ¬ x.n ≤ imax (uptoF a x.a) (uptoF b x.a) := by unfold imax; split <;> omega
        simp [h3, h4, this]
  · simp [h0]
theorem same_merge {a b : List Idt} (ha : Val a) (hb : Val b) : sameIF (mergeF a b) b = covF b a := by
  obtain ⟨g1, g2, g3⟩ := merge_all ha hb
  have h1 : sameIF (mergeF a b) b = true ↔ covF b a = true := by
    rw [same_iff, cov_iff hb ha]
    constructor
    · intro h c
      have := g3 c
      rw [h] at this
      rw [this]; exact imax_l
    · intro h
      refine val_ext g1 hb fun c => ?_
      rw [g3]
      have := h c
      unfold imax
      split <;> omega
  cases h2 : covF b a with
  | true => exact h1.2 h2
  | false =>
    cases h3 : sameIF (mergeF a b) b with
    | false => rfl
    | true => rw [h1.1 h3] at h2; cases h2
theorem cont_half {a : List Idt} (ha : Val a) {x : Idt} (h1 : 1 < x.n) (h2 : contF a x = true) : contF a ⟨x.a, x.n.tdiv 2⟩ = true := by
  rw [cont_has ha, hasF] at h2 ⊢
  simp only [Bool.and_eq_true, decide_eq_true_eq] at h2 ⊢
  have : x.n.tdiv 2 = x.n / 2 := Int.tdiv_eq_ediv_of_nonneg (by omega)
  rw [this]
  omega
theorem half_rng {n : Int} (h : -9223372036854775808 ≤ n ∧ n ≤ 9223372036854775807) : -9223372036854775808 ≤ n.tdiv 2 ∧ n.tdiv 2 < 9223372036854775808 := by
  by_cases h0 : 0 ≤ n
  · rw [Int.tdiv_eq_ediv_of_nonneg h0]; omega
  · have h1 : n.tdiv 2 = -((-n).tdiv 2) := by rw [Int.neg_tdiv]; omega
    rw [h1, Int.tdiv_eq_ediv_of_nonneg (by omega)]
    omega
def pwLawS : Fspec := fun _ ds r => ∃ (a b : List Idt) (x : Idt), smV a ∧ smV b ∧ x.a.size ≤ 1048576 ∧ (-9223372036854775808 ≤ x.n ∧ x.n ≤ 9223372036854775807) ∧ ds = [encIds a, encIds b, .agg (encId x)] ∧ r = .s (.bool true)
theorem pwLaw_sound {plain : TypeId → Bool} {Γ : FuncId → Option Fspec} {Δ : FuncId → Option Pt} (hE : EnvOk ⟨Tryd.prog, plain, Γ, Δ, fun _ => none, 0⟩) (g_rgt : Γ 10 = some rgtS) (g_fix : Γ 11 = some fixS) (g_merge : Γ 21 = some mergeS) (g_sameI : Γ 18 = some sameIS) (g_cov : Γ 20 = some covS) (g_cont : Γ 12 = some contS) : Sound Tryd.prog 6 pwLawS := by
  refine sound_of_awp hE Tryd.func6 rfl (by kernel_rfl) ?_
  rintro Φ ds r ⟨a, b, x, ha, hb, hxs, hxr, rfl, rfl⟩
  refine ⟨by simp [Tryd.f6], ?_⟩
  unfold st0 encIds
  refine W.out (E := ⟨Tryd.prog, plain, Γ, Δ, Φ, _⟩) ?_
  have hrb := encId_rows b
  refine go @encId.eq_1 ?_
  refine x_callN rfl rfl rfl rfl (sv trivial) g_rgt (sv trivial) (se trivial) ⟨[a, b], by simp, sm2 ha hb, rfl, rfl⟩ rfl ?_
  cases hr : rgtF [a, b]
  · refine go (And.intro hr @encId.eq_1) ?_
    refine x_callN rfl rfl rfl rfl (sv trivial) g_fix (sv trivial) (se trivial) ⟨rfl, rfl⟩ rfl ?_
    refine go trivial ?_
    refine x_done (x_out (sr @Tryd.f6.eq_1) (by simp) (by simp) rfl)
  · by_cases hx : 100 < (x.a.size : Int)
    · refine go (And.intro hr (And.intro hx @encId.eq_1)) ?_
      refine x_callN rfl rfl rfl rfl (sv trivial) g_fix (sv trivial) (se trivial) ⟨rfl, rfl⟩ rfl ?_
      refine go trivial ?_
      refine x_done (x_out (sr @Tryd.f6.eq_1) (by simp) (by simp) rfl)
    · have va := rgt_all hr a (by simp)
      have vb := rgt_all hr b (by simp)
      have hal := va.len
      have hbl := vb.len
      have ml := merge_len b a
      have cm := cont_merge va.val vb.val x
      have sm := same_merge va.val vb.val
      have hh : 1 < x.n → contF a x = true → contF a ⟨x.a, x.n.tdiv 2⟩ = true := cont_half va.val
      have hq := half_rng hxr
      refine go (And.intro hr (And.intro hx @encId.eq_1)) ?_
      refine x_callS rfl rfl rfl rfl (sv trivial) g_merge (sv trivial) (se trivial) ⟨a, b, by omega, by omega, rfl, rfl⟩ (by simp) (by simp [touchA, touch]) ?_
      generalize mergeF a b = m at *
      refine go @encId.eq_1 ?_
      refine x_callD rfl rfl rfl rfl rfl (sv @encId.eq_1) g_cont (sv @encId.eq_1) (se @encId.eq_1) ⟨m, x, by omega, rfl, rfl⟩ rfl ?_
      rw [cm]
      refine go @encId.eq_1 ?_
      refine x_callD rfl rfl rfl rfl rfl (sv @encId.eq_1) g_cont (sv @encId.eq_1) (se @encId.eq_1) ⟨a, x, by omega, rfl, rfl⟩ rfl ?_
      have hfin : ∀ (q : Bool), contF a x = q → True := fun _ _ => trivial
      cases hax : contF a x
      · refine go @encId.eq_1 ?_
        refine x_callD rfl rfl rfl rfl rfl (sv @encId.eq_1) g_cont (sv @encId.eq_1) (se @encId.eq_1) ⟨b, x, by omega, rfl, rfl⟩ rfl ?_
        refine go @encId.eq_1 ?_
        refine x_loop (fun σ => ∃ (j : Nat) (w : Bool), σ.t 0 = .sl (a.map encId) ∧ σ.t 1 = .sl (b.map encId) ∧ σ.t 5 = .ptr 0 0 0 ∧ σ.t 7 = .sl (m.map encId) ∧ σ.t 8 = .s (.bool w) ∧ σ.t 39 = .sl (b.map encId) ∧ σ.t 40 = .s (.int .i64 b.length) ∧ σ.t 41 = .s (.int .i64 j) ∧ σ.h 0 = some ⟨2, [encId x], true⟩ ∧ 0 < σ.n ∧ j ≤ b.length ∧ (w && (b.drop j).all (fun y => contF a y)) = covF a b) (fun σ => b.length - ix (σ.t 41)) ⟨0, true, (by first | assumption | exact sxa trivial), (by first | assumption | exact sxa trivial), (by first | assumption | exact sxa trivial), (by first | assumption | exact sxa trivial), (by first | assumption | exact sxa trivial), (by first | assumption | exact sxa trivial), (by first | assumption | exact sxa trivial), (by first | assumption | exact sxa trivial), (by first | assumption | exact sxa trivial), (by first | omega | (dsimp only; omega) | exact soa trivial | omega | (simp; done)), (by first | rfl | omega | assumption | (simp [*]; done)), (by first | rfl | omega | assumption | (simp [*]; done))⟩ ?_
        rintro t h n ⟨j, w, h0, h1, h5, h7, h8, h39, h40, h41, hh0, hn1, hf0, hf1⟩
        simp only at h0 h1 h5 h7 h8 h39 h40 h41 hh0 hn1
        refine go (And.intro h0 (And.intro h1 (And.intro h5 (And.intro h7 (And.intro h8 (And.intro h39 (And.intro h40 h41))))))) ?_
        refine x_condP (sv (And.intro h0 (And.intro h1 (And.intro h5 (And.intro h7 (And.intro h8 (And.intro h39 (And.intro h40 h41)))))))) (fun hc => ?_) (fun hc => ?_)
        · have hj : j < b.length := by omega
          rw [List.drop_eq_getElem_cons hj, List.all_cons] at hf1
          generalize hmm : b[j] = y at *
          have e5 : (0 = n) = False := by simp; omega
          have e6 : (n = 0) = False := by simp; omega
          cases w
          · simp only [Bool.false_and] at hf1
            refine go (And.intro h0 (And.intro h1 (And.intro h5 (And.intro h7 (And.intro h8 (And.intro h39 (And.intro h40 (And.intro h41 (And.intro hh0 (And.intro hrb (And.intro hmm (And.intro @encId.eq_1 (And.intro e5 e6))))))))))))) ?_
            (refine ⟨⟨j + 1, false, ?_, ?_, ?_, ?_, ?_, ?_, ?_, ?_, ?_, ?_, ?_, ?_⟩, ?_⟩ <;> (first | omega | (dsimp only; omega) | ((simp only [Bool.false_and]; exact hf1)) | exact sxa (And.intro @cast_succ (And.intro @encId.eq_1 (And.intro e5 e6))) | exact soa trivial))
          · rw [Bool.true_and] at hf1
            refine go (And.intro h0 (And.intro h1 (And.intro h5 (And.intro h7 (And.intro h8 (And.intro h39 (And.intro h40 (And.intro h41 (And.intro hh0 (And.intro hrb (And.intro hmm (And.intro @encId.eq_1 (And.intro e5 e6))))))))))))) ?_
            refine x_callN rfl rfl rfl rfl (sv (And.intro @encId.eq_1 h0)) g_cont (sv (And.intro @encId.eq_1 h0)) (se (And.intro @encId.eq_1 h0)) ⟨a, y, by omega, rfl, rfl⟩ rfl ?_
            refine go (And.intro h0 (And.intro h1 (And.intro h5 (And.intro h7 (And.intro h8 (And.intro h39 (And.intro h40 (And.intro h41 (And.intro hh0 (And.intro hrb (And.intro hmm (And.intro @encId.eq_1 (And.intro e5 e6))))))))))))) ?_
            (refine ⟨⟨j + 1, contF a y, ?_, ?_, ?_, ?_, ?_, ?_, ?_, ?_, ?_, ?_, ?_, ?_⟩, ?_⟩ <;> (first | omega | (dsimp only; omega) | ((exact hf1)) | exact sxa (And.intro @cast_succ (And.intro @encId.eq_1 (And.intro e5 e6))) | exact soa trivial))
        · have e : j = b.length := by omega
          subst e
          rw [List.drop_length, List.all_nil, Bool.and_true] at hf1
          rw [hf1] at h8
          have e5 : (0 = n) = False := by simp; omega
          have e6 : (n = 0) = False := by simp; omega
          skip
          refine go (And.intro h0 (And.intro h1 (And.intro h5 (And.intro h7 (And.intro h8 (And.intro h39 (And.intro h40 h41))))))) ?_
          refine x_callN rfl rfl rfl rfl (sv (And.intro h0 h1)) g_cov (sv (And.intro h0 h1)) (se (And.intro h0 h1)) ⟨a, b, by omega, by omega, rfl, rfl⟩ rfl ?_
          by_cases c1 : 1 < x.n
          · refine go (And.intro h0 (And.intro h1 (And.intro h5 (And.intro h7 (And.intro h8 (And.intro hh0 (And.intro @encId.eq_1 (And.intro e5 (And.intro e6 c1))))))))) ?_
            refine x_callN rfl rfl rfl rfl (sv (And.intro @encId.eq_1 h0)) g_cont (sv (And.intro @encId.eq_1 h0)) (se (And.intro @encId.eq_1 h0)) ⟨a, x, by omega, rfl, rfl⟩ rfl ?_
            rw [hax]
            refine go (And.intro h0 (And.intro h1 (And.intro h5 (And.intro h7 (And.intro hh0 (And.intro @encId.eq_1 (And.intro e5 e6))))))) ?_
            refine x_callN rfl rfl rfl rfl (sv trivial) g_fix (sv trivial) (se trivial) ⟨rfl, rfl⟩ rfl ?_
            refine go (And.intro h0 (And.intro h1 (And.intro h5 (And.intro h7 (And.intro hh0 (And.intro @encId.eq_1 (And.intro e5 e6))))))) ?_
            refine x_callN rfl rfl rfl rfl (sv h7) g_sameI (sv h7) (se h7) ⟨m, b, by omega, by omega, rfl, rfl⟩ rfl ?_
            rw [sm]
            refine go (And.intro h0 (And.intro h1 (And.intro h5 (And.intro h7 (And.intro hh0 (And.intro @encId.eq_1 (And.intro e5 e6))))))) ?_
            refine x_callN rfl rfl rfl rfl (sv (And.intro h0 h1)) g_cov (sv (And.intro h0 h1)) (se (And.intro h0 h1)) ⟨b, a, by omega, by omega, rfl, rfl⟩ rfl ?_
            refine go trivial ?_
            refine x_done (x_out (sr @Tryd.f6.eq_1) (by simp) (by simp) rfl)
          · refine go (And.intro h0 (And.intro h1 (And.intro h5 (And.intro h7 (And.intro h8 (And.intro hh0 (And.intro @encId.eq_1 (And.intro e5 (And.intro e6 c1))))))))) ?_
            refine x_callN rfl rfl rfl rfl (sv trivial) g_fix (sv trivial) (se trivial) ⟨rfl, rfl⟩ rfl ?_
            refine go (And.intro h0 (And.intro h1 (And.intro h5 (And.intro h7 (And.intro hh0 (And.intro @encId.eq_1 (And.intro e5 e6))))))) ?_
            refine x_callN rfl rfl rfl rfl (sv h7) g_sameI (sv h7) (se h7) ⟨m, b, by omega, by omega, rfl, rfl⟩ rfl ?_
            rw [sm]
            refine go (And.intro h0 (And.intro h1 (And.intro h5 (And.intro h7 (And.intro hh0 (And.intro @encId.eq_1 (And.intro e5 e6))))))) ?_
            refine x_callN rfl rfl rfl rfl (sv (And.intro h0 h1)) g_cov (sv (And.intro h0 h1)) (se (And.intro h0 h1)) ⟨b, a, by omega, by omega, rfl, rfl⟩ rfl ?_
            refine go trivial ?_
            refine x_done (x_out (sr @Tryd.f6.eq_1) (by simp) (by simp) rfl)
      · refine go @encId.eq_1 ?_
        refine x_loop (fun σ => ∃ (j : Nat) (w : Bool), σ.t 0 = .sl (a.map encId) ∧ σ.t 1 = .sl (b.map encId) ∧ σ.t 5 = .ptr 0 0 0 ∧ σ.t 7 = .sl (m.map encId) ∧ σ.t 8 = .s (.bool w) ∧ σ.t 39 = .sl (b.map encId) ∧ σ.t 40 = .s (.int .i64 b.length) ∧ σ.t 41 = .s (.int .i64 j) ∧ σ.h 0 = some ⟨2, [encId x], true⟩ ∧ 0 < σ.n ∧ j ≤ b.length ∧ (w && (b.drop j).all (fun y => contF a y)) = covF a b) (fun σ => b.length - ix (σ.t 41)) ⟨0, true, (by first | assumption | exact sxa trivial), (by first | assumption | exact sxa trivial), (by first | assumption | exact sxa trivial), (by first | assumption | exact sxa trivial), (by first | assumption | exact sxa trivial), (by first | assumption | exact sxa trivial), (by first | assumption | exact sxa trivial), (by first | assumption | exact sxa trivial), (by first | assumption | exact sxa trivial), (by first | omega | (dsimp only; omega) | exact soa trivial | omega | (simp; done)), (by first | rfl | omega | assumption | (simp [*]; done)), (by first | rfl | omega | assumption | (simp [*]; done))⟩ ?_
        rintro t h n ⟨j, w, h0, h1, h5, h7, h8, h39, h40, h41, hh0, hn1, hf0, hf1⟩
        simp only at h0 h1 h5 h7 h8 h39 h40 h41 hh0 hn1
        refine go (And.intro h0 (And.intro h1 (And.intro h5 (And.intro h7 (And.intro h8 (And.intro h39 (And.intro h40 h41))))))) ?_
        refine x_condP (sv (And.intro h0 (And.intro h1 (And.intro h5 (And.intro h7 (And.intro h8 (And.intro h39 (And.intro h40 h41)))))))) (fun hc => ?_) (fun hc => ?_)
        · have hj : j < b.length := by omega
          rw [List.drop_eq_getElem_cons hj, List.all_cons] at hf1
          generalize hmm : b[j] = y at *
          have e5 : (0 = n) = False := by simp; omega
          have e6 : (n = 0) = False := by simp; omega
          cases w
          · simp only [Bool.false_and] at hf1
            refine go (And.intro h0 (And.intro h1 (And.intro h5 (And.intro h7 (And.intro h8 (And.intro h39 (And.intro h40 (And.intro h41 (And.intro hh0 (And.intro hrb (And.intro hmm (And.intro @encId.eq_1 (And.intro e5 e6))))))))))))) ?_
            (refine ⟨⟨j + 1, false, ?_, ?_, ?_, ?_, ?_, ?_, ?_, ?_, ?_, ?_, ?_, ?_⟩, ?_⟩ <;> (first | omega | (dsimp only; omega) | ((simp only [Bool.false_and]; exact hf1)) | exact sxa (And.intro @cast_succ (And.intro @encId.eq_1 (And.intro e5 e6))) | exact soa trivial))
          · rw [Bool.true_and] at hf1
            refine go (And.intro h0 (And.intro h1 (And.intro h5 (And.intro h7 (And.intro h8 (And.intro h39 (And.intro h40 (And.intro h41 (And.intro hh0 (And.intro hrb (And.intro hmm (And.intro @encId.eq_1 (And.intro e5 e6))))))))))))) ?_
            refine x_callN rfl rfl rfl rfl (sv (And.intro @encId.eq_1 h0)) g_cont (sv (And.intro @encId.eq_1 h0)) (se (And.intro @encId.eq_1 h0)) ⟨a, y, by omega, rfl, rfl⟩ rfl ?_
            refine go (And.intro h0 (And.intro h1 (And.intro h5 (And.intro h7 (And.intro h8 (And.intro h39 (And.intro h40 (And.intro h41 (And.intro hh0 (And.intro hrb (And.intro hmm (And.intro @encId.eq_1 (And.intro e5 e6))))))))))))) ?_
            (refine ⟨⟨j + 1, contF a y, ?_, ?_, ?_, ?_, ?_, ?_, ?_, ?_, ?_, ?_, ?_, ?_⟩, ?_⟩ <;> (first | omega | (dsimp only; omega) | ((exact hf1)) | exact sxa (And.intro @cast_succ (And.intro @encId.eq_1 (And.intro e5 e6))) | exact soa trivial))
        · have e : j = b.length := by omega
          subst e
          rw [List.drop_length, List.all_nil, Bool.and_true] at hf1
          rw [hf1] at h8
          have e5 : (0 = n) = False := by simp; omega
          have e6 : (n = 0) = False := by simp; omega
          skip
          refine go (And.intro h0 (And.intro h1 (And.intro h5 (And.intro h7 (And.intro h8 (And.intro h39 (And.intro h40 h41))))))) ?_
          refine x_callN rfl rfl rfl rfl (sv (And.intro h0 h1)) g_cov (sv (And.intro h0 h1)) (se (And.intro h0 h1)) ⟨a, b, by omega, by omega, rfl, rfl⟩ rfl ?_
          by_cases c1 : 1 < x.n
          · refine go (And.intro h0 (And.intro h1 (And.intro h5 (And.intro h7 (And.intro h8 (And.intro hh0 (And.intro @encId.eq_1 (And.intro e5 (And.intro e6 c1))))))))) ?_
            refine x_callN rfl rfl rfl rfl (sv (And.intro @encId.eq_1 h0)) g_cont (sv (And.intro @encId.eq_1 h0)) (se (And.intro @encId.eq_1 h0)) ⟨a, x, by omega, rfl, rfl⟩ rfl ?_
            rw [hax]
            have h3 := hh c1 hax
            refine go (And.intro h0 (And.intro h1 (And.intro h5 (And.intro h7 (And.intro hh0 (And.intro @encId.eq_1 (And.intro e5 e6))))))) ?_
            refine x_callN rfl rfl rfl rfl (sv (And.intro @encId.eq_1 h0)) g_cont (sv (And.intro @encId.eq_1 h0)) (se (And.intro @encId.eq_1 h0)) ⟨a, ⟨x.a, x.n.tdiv 2⟩, by omega, rfl, rfl⟩ rfl ?_
            rw [h3]
            refine go (And.intro h0 (And.intro h1 (And.intro h5 (And.intro h7 (And.intro hh0 (And.intro @encId.eq_1 (And.intro e5 e6))))))) ?_
            refine x_callN rfl rfl rfl rfl (sv trivial) g_fix (sv trivial) (se trivial) ⟨rfl, rfl⟩ rfl ?_
            refine go (And.intro h0 (And.intro h1 (And.intro h5 (And.intro h7 (And.intro hh0 (And.intro @encId.eq_1 (And.intro e5 e6))))))) ?_
            refine x_callN rfl rfl rfl rfl (sv h7) g_sameI (sv h7) (se h7) ⟨m, b, by omega, by omega, rfl, rfl⟩ rfl ?_
            rw [sm]
            refine go (And.intro h0 (And.intro h1 (And.intro h5 (And.intro h7 (And.intro hh0 (And.intro @encId.eq_1 (And.intro e5 e6))))))) ?_
            refine x_callN rfl rfl rfl rfl (sv (And.intro h0 h1)) g_cov (sv (And.intro h0 h1)) (se (And.intro h0 h1)) ⟨b, a, by omega, by omega, rfl, rfl⟩ rfl ?_
            refine go trivial ?_
            refine x_done (x_out (sr @Tryd.f6.eq_1) (by simp) (by simp) rfl)
          · refine go (And.intro h0 (And.intro h1 (And.intro h5 (And.intro h7 (And.intro h8 (And.intro hh0 (And.intro @encId.eq_1 (And.intro e5 (And.intro e6 c1))))))))) ?_
            refine x_callN rfl rfl rfl rfl (sv trivial) g_fix (sv trivial) (se trivial) ⟨rfl, rfl⟩ rfl ?_
            refine go (And.intro h0 (And.intro h1 (And.intro h5 (And.intro h7 (And.intro hh0 (And.intro @encId.eq_1 (And.intro e5 e6))))))) ?_
            refine x_callN rfl rfl rfl rfl (sv h7) g_sameI (sv h7) (se h7) ⟨m, b, by omega, by omega, rfl, rfl⟩ rfl ?_
            rw [sm]
            refine go (And.intro h0 (And.intro h1 (And.intro h5 (And.intro h7 (And.intro hh0 (And.intro @encId.eq_1 (And.intro e5 e6))))))) ?_
            refine x_callN rfl rfl rfl rfl (sv (And.intro h0 h1)) g_cov (sv (And.intro h0 h1)) (se (And.intro h0 h1)) ⟨b, a, by omega, by omega, rfl, rfl⟩ rfl ?_
            refine go trivial ?_
            refine x_done (x_out (sr @Tryd.f6.eq_1) (by simp) (by simp) rfl)
end Go.Proofs.YtfpijfedodljfaaDoor
