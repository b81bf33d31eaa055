/- Texts that the law's proof stands on: V63. -/
import Derived.Test.YtahgddfnbjpfiaaB30
set_option linter.unusedVariables false
set_option linter.unusedSimpArgs false
set_option maxRecDepth 100000
set_option maxHeartbeats 16000000
namespace Go.Proofs.Ytahgddfnbjpfiaa
open Go Go.RowKit Am

/-- Does an undo name an edit above its floor? -/
def namF (u e : Edt) : Bool := (u.kind == 4) && (idE u.target e.id && decide (u.floor < e.clock))
theorem un_nam {u e : Edt} (h : unF u e = true) : namF u e = true := by
  unfold unF undF at h
  simp only [Bool.and_eq_true, decide_eq_true_eq] at h
  obtain ⟨⟨h1, h2⟩, h3⟩ := h
  unfold namF
  simp only [Bool.and_eq_true, beq_iff_eq, decide_eq_true_eq]
  exact ⟨h1, h2, h3.2⟩
theorem alive_none (un : Edt → Edt → Bool) (e : Edt) : ∀ l : List Edt, (∀ u ∈ l, un u e = false) → aliveF un e l = true
  | [], _ => rfl
  | u :: l, h => by rw [aliveF, h u (by simp), alive_none un e l fun v hv => h v (by simp [hv])]; rfl
theorem alive_nam {e : Edt} {l : List Edt} (h : (l.any fun u => namF u e) = false) : aliveF unF e l = true := by
  refine alive_none _ _ _ fun u hu => ?_
  cases hx : unF u e with
  | false => rfl
  | true =>
    rw [List.any_eq_false] at h
    exact absurd (un_nam hx) (h u hu)
theorem alive_kind {e : Edt} (l : List Edt) (h : 4 < e.kind) : aliveF unF e l = true := by
  refine alive_none _ _ _ fun u hu => ?_
  unfold unF undF
  have : decide (e.kind ≤ 4) = false := decide_eq_false (by omega)
  simp [this]
theorem untLaw_sound {plain : TypeId → Bool} {Γ : FuncId → Option Fspec} {Δ : FuncId → Option Pt} (hE : EnvOk ⟨Try.prog, plain, Γ, Δ, fun _ => none, 0⟩) (hpl : plain 29 = true) (g_alive : Γ 9 = some aliveS) (g_sorted : Γ 10 = some sortedS) (g_live : Γ 11 = some live2S) : Sound Try.prog 5 lawES := by
  refine sound_of_awp hE Try.func5 rfl (by kernel_rfl) ?_
  rintro Φ ds r ⟨es, hs, rfl, rfl⟩
  refine ⟨by simp [Try.f5], ?_⟩
  unfold st0
  refine W.out (E := ⟨Try.prog, plain, Γ, Δ, Φ, _⟩) ?_
  refine go trivial ?_
  refine x_callN rfl rfl rfl rfl (sv trivial) g_alive (sv trivial) (se trivial) ⟨rfl, rfl⟩ rfl ?_
  refine go trivial ?_
  refine x_callN rfl rfl rfl rfl (sv trivial) g_sorted (sv trivial) (se trivial) ⟨es, hs, rfl, rfl⟩ rfl ?_
  cases hq : srtF es
  · rw [if_neg (by decide)]
    have z0 : ((0 : Int) == 0) = true := rfl
    refine go z0 ?_
    refine x_done (x_out (sr @Try.f5.eq_1) (by simp) (by simp) rfl)
  have z1 : ((1 : Int) == 0) = false := rfl
  have S := srt_of hq
  have hl40 := S.len
  rw [if_pos rfl]
  refine go z1 ?_
  refine x_callS rfl rfl rfl rfl (sv trivial) g_live (sv trivial) (se trivial) ⟨es, hs.l, rfl, rfl⟩ (by simp) (by simp [touchA, touch]) ?_
  have hlen := allL_len unF es
  have hget := allL_get unF es
  generalize hL : allL unF es = L at *
  have hr := encB_rows L
  have hre := encE_rows es
  have hne : ((L.length : Int) != (es.length : Int)) = false := by rw [hlen]; simp
  refine go hne ?_
  refine x_loop (fun σ => ∃ (i : Nat), σ.t 0 = .sl (es.map encE) ∧ σ.t 3 = .sl (L.map encBo) ∧ σ.t 4 = .s (.int .i64 i) ∧ i ≤ es.length) (fun σ => es.length - ix (σ.t 4)) ⟨0, (by first | assumption | exact sxa trivial), (by first | assumption | exact sxa trivial), (by first | assumption | exact sxa trivial), (by first | rfl | omega | assumption | (simp [*]; done))⟩ ?_
  rintro t h n ⟨i, h0, h3, h4, hf0⟩
  simp only at h0 h3 h4
  refine go (And.intro h0 (And.intro h3 h4)) ?_
  refine x_condP (sv (And.intro h0 (And.intro h3 h4))) (fun hc => ?_) (fun hc => ?_)
  · have hi : i < es.length := by omega
    have hiL : i < L.length := by omega
    have hrow : ((es.map encE).getD i []) = encE es[i] := getD_map _ _ _ hi
    have hrL : ((L.map encBo).getD i []) = [.s (.bool L[i])] := getD_map _ _ _ hiL
    have hv : L[i] = aliveF unF es[i] (es.drop (i + 1)) := by
      have := hget i hi
      rw [List.getElem?_eq_getElem hiL] at this
      exact Option.some.inj this
    have hx1 : 4 < es[i].kind → L[i] = true := fun h => by rw [hv]; exact alive_kind _ h
    have hx2 : i = es.length - 1 → L[i] = true := fun h => by rw [hv, List.drop_of_length_le (by omega)]; rfl
    have hx3 : ((es.drop (i + 1)).any fun u => namF u es[i]) = false → L[i] = true := fun h => by rw [hv]; exact alive_nam h
    clear hv
    generalize L[i] = x at *
    generalize hee : es[i] = e at *
    have gid : ∀ u : Edt, (u.target.a.toList == e.id.a.toList && u.target.n == e.id.n) = idE u.target e.id := fun _ => rfl
    refine goR trivial ?_
    refine x_seq ?_
    refine goR trivial ?_
    refine x_cut (fun σ => ∃ (fr : Bool), σ.t 0 = .sl (es.map encE) ∧ σ.t 3 = .sl (L.map encBo) ∧ σ.t 4 = .s (.int .i64 i) ∧ σ.t 5 = .s (.bool fr) ∧ (fr = true → x = true)) ?_ ?_
    · by_cases c1 : 4 < e.kind
      · have hxx := hx1 c1
        refine go (And.intro h0 (And.intro h3 (And.intro h4 (And.intro hre (And.intro hrow (And.intro @encE.eq_1 c1)))))) ?_
        (refine ⟨true, ?_, ?_, ?_, ?_, ?_⟩ <;> (first | omega | (dsimp only; omega) | exact sxa @cast_succ | exact soa trivial | (first | omega | assumption | (simp [*]; done))))
      · by_cases c2 : i = es.length - 1
        · have c3 : ((i : Int) == (es.length : Int) - 1) = true := by simp; omega
          have hxx := hx2 c2
          refine go (And.intro h0 (And.intro h3 (And.intro h4 (And.intro hre (And.intro hrow (And.intro @encE.eq_1 (And.intro c1 c3))))))) ?_
          (refine ⟨true, ?_, ?_, ?_, ?_, ?_⟩ <;> (first | omega | (dsimp only; omega) | exact sxa @cast_succ | exact soa trivial | (first | omega | assumption | (simp [*]; done))))
        · have c3 : ((i : Int) == (es.length : Int) - 1) = false := by simp; omega
          refine go (And.intro h0 (And.intro h3 (And.intro h4 (And.intro hre (And.intro hrow (And.intro @encE.eq_1 (And.intro c1 c3))))))) ?_
          (refine ⟨false, ?_, ?_, ?_, ?_, ?_⟩ <;> (first | omega | (dsimp only; omega) | exact sxa @cast_succ | exact soa trivial | (first | omega | assumption | (simp [*]; done))))
    rintro t h n ⟨fr, h0, h3, h4, h5, hf0⟩
    simp only at h0 h3 h4 h5
    clear hx1 hx2
    refine go (And.intro h0 (And.intro h3 (And.intro h4 h5))) ?_
    refine x_loop (fun σ => ∃ (k : Nat) (nm : Bool), σ.t 0 = .sl (es.map encE) ∧ σ.t 3 = .sl (L.map encBo) ∧ σ.t 4 = .s (.int .i64 i) ∧ σ.t 5 = .s (.bool fr) ∧ σ.t 6 = .s (.bool nm) ∧ σ.t 7 = .s (.int .i64 k) ∧ k ≤ es.length ∧ (nm || (es.drop k).any (fun u => namF u e)) = (es.drop (i + 1)).any (fun u => namF u e)) (fun σ => es.length - ix (σ.t 7)) ⟨i + 1, false, (by first | assumption | exact sxa trivial), (by first | assumption | exact sxa trivial), (by first | assumption | exact sxa trivial), (by first | assumption | exact sxa trivial), (by first | assumption | exact sxa trivial), (by first | assumption | exact sxa trivial), (by first | rfl | omega | assumption | (simp [*]; done)), (by first | rfl | omega | assumption | (simp [*]; done))⟩ ?_
    rintro t h n ⟨k, nm, h0, h3, h4, h5, h6, h7, hf0, hf1⟩
    simp only at h0 h3 h4 h5 h6 h7
    refine go (And.intro h0 (And.intro h3 (And.intro h4 (And.intro h5 (And.intro h6 h7))))) ?_
    refine x_condP (sv (And.intro h0 (And.intro h3 (And.intro h4 (And.intro h5 (And.intro h6 h7)))))) (fun hc => ?_) (fun hc => ?_)
    · have hk : k < es.length := by omega
      rw [List.drop_eq_getElem_cons hk, List.any_cons] at hf1
      have hrk : ((es.map encE).getD k []) = encE es[k] := getD_map _ _ _ hk
      generalize heu : es[k] = u at *
      cases nm
      · rw [Bool.false_or] at hf1
        cases d1 : (u.kind == 4)
        · have hn : namF u e = false := by simp only [namF, d1]; rfl
          rw [hn] at hf1
          refine go (And.intro h0 (And.intro h3 (And.intro h4 (And.intro h5 (And.intro h6 (And.intro h7 (And.intro hre (And.intro hrow (And.intro hrk (And.intro @encE.eq_1 (And.intro hpl (And.intro gid d1)))))))))))) ?_
          (refine ⟨⟨k + 1, false, ?_, ?_, ?_, ?_, ?_, ?_, ?_, ?_⟩, ?_⟩ <;> (first | omega | (dsimp only; omega) | (first | omega | assumption | (simp [*]; done)) | exact sxa @cast_succ | exact soa trivial))
        · cases d2 : idE u.target e.id
          · have hn : namF u e = false := by simp only [namF, d1, d2]; rfl
            rw [hn] at hf1
            refine go (And.intro h0 (And.intro h3 (And.intro h4 (And.intro h5 (And.intro h6 (And.intro h7 (And.intro hre (And.intro hrow (And.intro hrk (And.intro @encE.eq_1 (And.intro hpl (And.intro gid (And.intro d1 d2))))))))))))) ?_
            (refine ⟨⟨k + 1, false, ?_, ?_, ?_, ?_, ?_, ?_, ?_, ?_⟩, ?_⟩ <;> (first | omega | (dsimp only; omega) | (first | omega | assumption | (simp [*]; done)) | exact sxa @cast_succ | exact soa trivial))
          · by_cases d3 : u.floor < e.clock
            · have hn : namF u e = true := by simp only [namF, d1, d2, d3]; rfl
              rw [hn] at hf1
              refine go (And.intro h0 (And.intro h3 (And.intro h4 (And.intro h5 (And.intro h6 (And.intro h7 (And.intro hre (And.intro hrow (And.intro hrk (And.intro @encE.eq_1 (And.intro hpl (And.intro gid (And.intro d1 (And.intro d2 d3)))))))))))))) ?_
              (refine ⟨⟨k + 1, true, ?_, ?_, ?_, ?_, ?_, ?_, ?_, ?_⟩, ?_⟩ <;> (first | omega | (dsimp only; omega) | (first | omega | assumption | (simp [*]; done)) | exact sxa @cast_succ | exact soa trivial))
            · have hn : namF u e = false := by simp only [namF, d1, d2, d3]; rfl
              rw [hn] at hf1
              refine go (And.intro h0 (And.intro h3 (And.intro h4 (And.intro h5 (And.intro h6 (And.intro h7 (And.intro hre (And.intro hrow (And.intro hrk (And.intro @encE.eq_1 (And.intro hpl (And.intro gid (And.intro d1 (And.intro d2 d3)))))))))))))) ?_
              (refine ⟨⟨k + 1, false, ?_, ?_, ?_, ?_, ?_, ?_, ?_, ?_⟩, ?_⟩ <;> (first | omega | (dsimp only; omega) | (first | omega | assumption | (simp [*]; done)) | exact sxa @cast_succ | exact soa trivial))
      · rw [Bool.true_or] at hf1
        refine go (And.intro h0 (And.intro h3 (And.intro h4 (And.intro h5 (And.intro h6 h7))))) ?_
        (refine ⟨⟨k + 1, true, ?_, ?_, ?_, ?_, ?_, ?_, ?_, ?_⟩, ?_⟩ <;> (first | omega | (dsimp only; omega) | (first | omega | assumption | (simp [*]; done)) | exact sxa @cast_succ | exact soa trivial))
    · have ek : k = es.length := by omega
      subst ek
      rw [List.drop_length, List.any_nil, Bool.or_false] at hf1
      skip
      cases fr
      · cases nm
        · have hxx := hx3 hf1.symm
          subst hxx
          refine go (And.intro h0 (And.intro h3 (And.intro h4 (And.intro h5 (And.intro h6 (And.intro h7 (And.intro hr hrL))))))) ?_
          (refine ⟨⟨i + 1, ?_, ?_, ?_, ?_⟩, ?_⟩ <;> (first | omega | (dsimp only; omega) | (first | omega | assumption | (simp [*]; done)) | exact sxa @cast_succ | exact soa trivial))
        · refine go (And.intro h0 (And.intro h3 (And.intro h4 (And.intro h5 (And.intro h6 h7))))) ?_
          (refine ⟨⟨i + 1, ?_, ?_, ?_, ?_⟩, ?_⟩ <;> (first | omega | (dsimp only; omega) | (first | omega | assumption | (simp [*]; done)) | exact sxa @cast_succ | exact soa trivial))
      · have hxx : x = true := by first | exact hf0 rfl | simp_all
        subst hxx
        refine go (And.intro h0 (And.intro h3 (And.intro h4 (And.intro h5 (And.intro h6 (And.intro h7 (And.intro hr hrL))))))) ?_
        (refine ⟨⟨i + 1, ?_, ?_, ?_, ?_⟩, ?_⟩ <;> (first | omega | (dsimp only; omega) | (first | omega | assumption | (simp [*]; done)) | exact sxa @cast_succ | exact soa trivial))
  · have e : i = es.length := by omega
    subst e
    refine go (And.intro h0 (And.intro h3 h4)) ?_
    refine x_done (x_out (sr @Try.f5.eq_1) (by simp) (by simp) rfl)
end Go.Proofs.Ytahgddfnbjpfiaa
