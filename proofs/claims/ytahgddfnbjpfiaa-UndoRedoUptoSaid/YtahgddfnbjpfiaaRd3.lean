/- Texts that the law's proof stands on: V70. -/
import Derived.Test.YtahgddfnbjpfiaaRd2
set_option linter.unusedVariables false
set_option linter.unusedSimpArgs false
set_option maxRecDepth 100000
set_option maxHeartbeats 16000000
namespace Go.Proofs.Ytahgddfnbjpfiaa
open Go Go.RowKit Am

/-- A law over a list of edits and a number. -/
def lawEKS : Fspec := fun _ ds r => ∃ (es : List Edt) (k : Int), smA es ∧ 0 ≤ k ∧ k ≤ 255 ∧ ds = [.sl (es.map encE), .s (.int .u8 k)] ∧ r = .s (.bool true)
theorem redoLaw_sound {plain : TypeId → Bool} {Γ : FuncId → Option Fspec} {Δ : FuncId → Option Pt} (hE : EnvOk ⟨Try.prog, plain, Γ, Δ, fun _ => none, 0⟩) (hpl : plain 29 = true) (g_alive : Γ 9 = some aliveS) (g_sorted : Γ 10 = some sortedS) (g_fork : Γ 13 = some forkS) (g_next : Γ 14 = some nextS) (g_has : Γ 15 = some hasS) (g_live : Γ 11 = some live2S) : Sound Try.prog 6 lawEKS := by
  refine sound_of_awp hE Try.func6 rfl (by kernel_rfl) ?_
  rintro Φ ds r ⟨es, k, hs, hk0, hk1, rfl, rfl⟩
  refine ⟨by simp [Try.f6], ?_⟩
  unfold st0
  refine W.out (E := ⟨Try.prog, plain, Γ, Δ, Φ, _⟩) ?_
  refine go trivial ?_
  refine x_callN rfl rfl rfl rfl (sv trivial) g_alive (sv trivial) (se trivial) ⟨rfl, rfl⟩ rfl ?_
  refine go trivial ?_
  refine x_callN rfl rfl rfl rfl (sv trivial) g_sorted (sv trivial) (se trivial) ⟨es, hs, rfl, rfl⟩ rfl ?_
  cases hq : srtF es
  · rw [if_neg (by decide)]
    have z0 : ((0 : Int) == 0) = true := rfl
    refine go z0 ?_
    refine x_done (x_out (sr @Try.f6.eq_1) (by simp) (by simp) rfl)
  have z1 : ((1 : Int) == 0) = false := rfl
  have S := srt_of hq
  have hl40 := S.len
  rw [if_pos rfl]
  by_cases d0 : es.length = 0
  · have d1 : ((es.length : Int) == 0) = true := by simp [d0]
    refine go (And.intro z1 d1) ?_
    refine x_done (x_out (sr @Try.f6.eq_1) (by simp) (by simp) rfl)
  have d1 : ((es.length : Int) == 0) = false := by simp [d0]
  by_cases d2 : 30 < (es.length : Int)
  · refine go (And.intro z1 (And.intro d1 d2)) ?_
    refine x_done (x_out (sr @Try.f6.eq_1) (by simp) (by simp) rfl)
  refine go (And.intro z1 (And.intro d1 d2)) ?_
  refine x_callN rfl rfl rfl rfl (sv trivial) g_fork (sv trivial) (se trivial) ⟨es, by omega, rfl, rfl⟩ rfl ?_
  cases hf : forkF es
  rotate_left
  · refine go (And.intro z1 (And.intro d1 d2)) ?_
    refine x_done (x_out (sr @Try.f6.eq_1) (by simp) (by simp) rfl)
  have hnf0 := fork_none hf
  obtain ⟨q, hq1, hq2⟩ : ∃ q : Nat, k.tmod (es.length : Int) = (q : Int) ∧ q < es.length := by
    have h1 : 0 ≤ k.tmod (es.length : Int) := Int.tmod_nonneg _ hk0
    have h2 : k.tmod (es.length : Int) < (es.length : Int) := Int.tmod_lt_of_pos _ (by omega)
    exact ⟨(k.tmod (es.length : Int)).toNat, by omega, by omega⟩
  refine go (And.intro hq1 d1) ?_
  have hsN : ∀ e ∈ es, SmN e := fun e he => by
    have v := S.va e he
    have := v.c1; have := v.c2; have := v.n1; have := v.n2
    exact ⟨by omega, by omega, by omega, by omega⟩
  refine x_callS rfl rfl rfl rfl (sv trivial) g_next (sv trivial) (se trivial) ⟨es, q, hq2, by omega, hsN, rfl, rfl⟩ (by simp) (by simp [touchA, touch]) ?_
  have hre := encE_rows es
  have hrq : ((es.map encE).getD q []) = encE es[q] := getD_map _ _ _ hq2
  have N : Nx es (nx0 es[q]) (nextF es es[q]) := nx_of es (nx0 es[q]) S.va Val.nil
  have hud : (nextF es es[q]).deps.length ≤ es.length := by
    have h1 := N.dl
    have h2 : (nx0 es[q]).deps.length = 0 := rfl
    omega
  have huc : 0 ≤ (nextF es es[q]).clock := N.c0
  have hun : 1 ≤ (nextF es es[q]).id.n := N.n0
  have hbk := back_eq es es[q] N.a
  have hRd := redo_of S hq2 (fun i j hi hj h => by
    rcases Nat.lt_trichotomy i j with h1 | h1 | h1
    · have := hnf0 j hj i h1
      rw [(idE_iff _ _).2 h.symm] at this
      cases this
    · exact h1
    · have := hnf0 i hi j h1
      rw [(idE_iff _ _).2 h] at this
      cases this)
  have hcl : es[q].clock ≤ 1000000000 := (S.va _ (List.getElem_mem hq2)).c2
  clear N hnf0
  obtain ⟨u, hu⟩ : ∃ u, u = nextF es es[q] := ⟨_, rfl⟩
  obtain ⟨e, he⟩ : ∃ e, e = es[q] := ⟨_, rfl⟩
  rw [← hu] at hud huc hun hbk hRd ⊢
  rw [← he] at hrq hRd
  have ui : ∀ x : Idt, encId x = [.s (.string x.a), .s (.int .i64 x.n)] := fun _ => rfl
  have ud : ∀ l : List Idt, encIds l = .sl (l.map encId) := fun _ => rfl
  by_cases d3 : 900000000 < u.clock
  · refine go (And.intro @encE.eq_1 d3) ?_
    refine x_done (x_out (sr @Try.f6.eq_1) (by simp) (by simp) rfl)
  by_cases d4 : 900000000 < u.id.n
  · refine go (And.intro @encE.eq_1 (And.intro d3 d4)) ?_
    refine x_done (x_out (sr @Try.f6.eq_1) (by simp) (by simp) rfl)
  by_cases d5 : 4 < e.kind
  · refine go (And.intro @encE.eq_1 (And.intro d3 (And.intro d4 (And.intro d5 (And.intro hre hrq))))) ?_
    refine x_done (x_out (sr @Try.f6.eq_1) (by simp) (by simp) rfl)
  by_cases d6 : e.clock ≤ u.floor
  · refine go (And.intro @encE.eq_1 (And.intro d3 (And.intro d4 (And.intro d5 (And.intro d6 (And.intro hre hrq)))))) ?_
    refine x_done (x_out (sr @Try.f6.eq_1) (by simp) (by simp) rfl)
  refine go (And.intro @encE.eq_1 (And.intro d3 (And.intro d4 (And.intro d5 (And.intro d6 (And.intro hre hrq)))))) ?_
  refine x_callD rfl rfl rfl rfl rfl (sv (And.intro ui ud)) g_has (sv (And.intro ui ud)) (se (And.intro ui ud)) ⟨u.deps, e.id, by omega, rfl, rfl⟩ rfl ?_
  cases d7 : hasF u.deps e.id
  · refine go (And.intro @encE.eq_1 (And.intro d3 (And.intro d4 (And.intro d5 (And.intro d6 (And.intro d7 (And.intro hre hrq))))))) ?_
    refine x_done (x_out (sr @Try.f6.eq_1) (by simp) (by simp) rfl)
  have hR := hRd (by omega) (by omega) d7
  have hbd : (nextF (es ++ [u]) u).deps.length ≤ 1048576 := by
    rw [hbk]
    have h1 := radd_len u.deps u.id false
    have h2 : (nxS (tgT u u.id) u).deps.length ≤ u.deps.length + 1 := h1
    omega
  have hsn : ∀ x ∈ es ++ [u], SmN x := fun x hx => by
    rcases List.mem_append.1 hx with hx | hx
    · exact hsN x hx
    · simp at hx
      subst hx
      exact ⟨by omega, by omega, by omega, by omega⟩
  clear hbk hRd
  refine goR (And.intro @encE.eq_1 (And.intro d3 (And.intro d4 (And.intro d5 (And.intro d6 (And.intro d7 (And.intro hre hrq))))))) ?_
  exact redoTail1 hE g_next g_live hs.l hl40 hq2 (by omega) hbd hsn rfl hR (sv trivial) (sv trivial) (sv trivial) (sc @encE.eq_1) (by omega)
end Go.Proofs.Ytahgddfnbjpfiaa
