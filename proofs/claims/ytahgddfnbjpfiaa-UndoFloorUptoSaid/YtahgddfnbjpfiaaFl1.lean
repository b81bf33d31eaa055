/- Texts that the law's proof stands on: V66. -/
import Derived.Test.YtahgddfnbjpfiaaB30
set_option linter.unusedVariables false
set_option linter.unusedSimpArgs false
set_option maxRecDepth 100000
set_option maxHeartbeats 16000000
namespace Go.Proofs.Ytahgddfnbjpfiaa
open Go Go.RowKit Am

/-- An edit whose floor covers all that is earlier. -/
def upE (e : Edt) : Edt := { e with floor := e.clock - 1 }
/-- The first i floors are raised. -/
def hiL (es : List Edt) (i : Nat) : List Edt := (es.take i).map upE ++ es.drop i
theorem hi_len (es : List Edt) (i : Nat) : (hiL es i).length = es.length := by simp [hiL]; omega
theorem hi_0 (es : List Edt) : hiL es 0 = es := by simp [hiL]
theorem hi_all (es : List Edt) : hiL es es.length = es.map upE := by simp [hiL]
theorem hi_at {es : List Edt} {i : Nat} (hi : i < es.length) (sp : List (List Am.V)) : ((hiL es i).map encE ++ sp).getD i [] = encE es[i] := by
  have h1 : (hiL es i)[i]'(by rw [hi_len]; exact hi) = es[i] := by
    simp only [hiL]
    rw [List.getElem_append_right (by simp; omega)]
    simp [Nat.min_eq_left (Nat.le_of_lt hi)]
  rw [List.getD_eq_getElem?_getD, List.getElem?_append_left (by simp [hi_len]; exact hi), List.getElem?_map, List.getElem?_eq_getElem (by rw [hi_len]; exact hi), h1]
  rfl
theorem hi_set {es : List Edt} {i : Nat} (hi : i < es.length) (sp : List (List Am.V)) : ((hiL es i).map encE ++ sp).set i (encE (upE es[i])) = (hiL es (i + 1)).map encE ++ sp := by
  rw [List.set_append_left _ _ (by simp [hi_len]; exact hi)]
  congr 1
  rw [← List.map_set]
  congr 1
  simp only [hiL]
  rw [List.take_succ_eq_append_getElem hi, List.map_append, List.set_append_right _ _ (by simp; omega)]
  have hd : (es.drop i).set 0 (upE es[i]) = upE es[i] :: es.drop (i + 1) := by rw [List.drop_eq_getElem_cons hi]; rfl
  simp [Nat.min_eq_left (Nat.le_of_lt hi), hd]
theorem up_alive {e : Edt} : ∀ l : List Edt, (∀ u ∈ l, e.clock < u.clock) → aliveF unF (upE e) (l.map upE) = true
  | [], _ => rfl
  | u :: l, h => by
    have h1 := h u (by simp)
    have h2 : unF (upE u) (upE e) = false := by
      unfold unF undF upE
      have : ¬ u.clock - 1 < e.clock := by omega
      simp [this]
    rw [List.map_cons, aliveF, h2, up_alive l fun v hv => h v (by simp [hv])]
    rfl
theorem floorLaw_sound {plain : TypeId → Bool} {Γ : FuncId → Option Fspec} {Δ : FuncId → Option Pt} (hE : EnvOk ⟨Try.prog, plain, Γ, Δ, fun _ => none, 0⟩) (g_alive : Γ 9 = some aliveS) (g_sorted : Γ 10 = some sortedS) (g_live : Γ 11 = some live2S) : Sound Try.prog 7 lawES := by
  refine sound_of_awp hE Try.func7 rfl (by kernel_rfl) ?_
  rintro Φ ds r ⟨es, hs, rfl, rfl⟩
  refine ⟨by simp [Try.f7], ?_⟩
  unfold st0
  refine W.out (E := ⟨Try.prog, plain, Γ, Δ, Φ, _⟩) ?_
  refine go trivial ?_
  refine x_callN rfl rfl rfl rfl (sv trivial) g_alive (sv trivial) (se trivial) ⟨rfl, rfl⟩ rfl ?_
  refine go trivial ?_
  refine x_callN rfl rfl rfl rfl (sv trivial) g_sorted (sv trivial) (se trivial) ⟨es, hs, rfl, rfl⟩ rfl ?_
  cases hq : srtF es
  · rw [if_neg (by decide)]
    have z0 : ((0 : Int) == 0) = true := rfl
    refine go z0 ?_
    refine x_done (x_out (sr @Try.f7.eq_1) (by simp) (by simp) rfl)
  have z1 : ((1 : Int) == 0) = false := rfl
  have S := srt_of hq
  have hl40 := S.len
  rw [if_pos rfl]
  have hre := encE_rows es
  refine go z1 ?_
  refine x_append rfl rfl rfl rfl rfl rfl (sv trivial) (by decide) (sc trivial) (sv trivial) (sx trivial) (okRowsE es) (sx trivial) (by first | rfl | (simp; done)) (by first | rfl | (simp; done)) (by first | omega | (simp; done) | (simp [spare_len]; omega)) (by first | omega | (simp; done) | (simp [spare_len]; omega)) (by first | omega | (simp; done) | (simp [spare_len]; omega)) (fun cap' hcap' => ?_)
  have hc1 : es.length ≤ cap' := by simpa using hcap'
  have h00 := hi_0 es
  have hll := hi_len es
  have hs0 := spare_len 18 (cap' - es.length)
  refine go trivial ?_
  refine x_loop (fun σ => ∃ (i : Nat) (b : Nat) (cap : Nat) (sp : List (List Am.V)), σ.t 0 = .sl (es.map encE) ∧ σ.t 3 = .loc b 0 es.length cap ∧ σ.t 4 = .s (.int .i64 i) ∧ σ.h b = some ⟨18, (hiL es i).map encE ++ sp, true⟩ ∧ b < σ.n ∧ i ≤ es.length ∧ es.length ≤ cap ∧ cap ≤ es.length + sp.length) (fun σ => es.length - ix (σ.t 4)) ⟨0, _, cap', spare 18 (cap' - es.length), (by first | assumption | exact sxa trivial), (by first | assumption | exact sxa trivial), (by first | assumption | exact sxa trivial), (by first | assumption | exact sxa trivial), (by first | omega | (dsimp only; omega) | exact soa trivial | omega | (simp; done)), (by first | rfl | omega | assumption | (simp [*]; done)), (by first | rfl | omega | assumption | (simp [*]; done)), (by first | rfl | omega | assumption | (simp [*]; done))⟩ ?_
  rintro t h n ⟨i, b, cap, sp, h0, h3, h4, hhb, hn1, hf0, hf1, hf2⟩
  simp only at h0 h3 h4 hhb hn1
  refine go (And.intro h0 (And.intro h3 h4)) ?_
  refine x_condP (sv (And.intro h0 (And.intro h3 h4))) (fun hc => ?_) (fun hc => ?_)
  · have hi : i < es.length := by omega
    have hrow := hi_at hi sp
    have hset := hi_set hi sp
    have ln : ((hiL es i).map encE ++ sp).length = es.length + sp.length := by simp [hll]
    have hil : (i < es.length + sp.length) = True := by simp <;> omega
    have hva := S.va _ (List.getElem_mem hi)
    have v1 := hva.c1
    have v2 := hva.c2
    have v3 := hva.n1
    generalize es[i] = e at *
    simp only [encE, upE] at hset
    generalize (hiL es i).map encE ++ sp = R at *
    refine go (And.intro h0 (And.intro h3 (And.intro h4 (And.intro hhb (And.intro hrow (And.intro @encE.eq_1 (And.intro ln hil))))))) ?_
    (refine ⟨⟨i + 1, b, cap, sp, ?_, ?_, ?_, ?_, ?_, ?_, ?_, ?_⟩, ?_⟩ <;> (first | omega | (dsimp only; omega) | (first | omega | assumption | (simp [*]; done)) | exact sxa (And.intro @cast_succ hset) | exact soa trivial))
  · have ei : i = es.length := by omega
    subst ei
    rw [hi_all] at hhb
    have hsm : smL (es.map upE) := ⟨by rw [List.length_map]; exact hs.1, fun u hu => by
      obtain ⟨v, hv, rfl⟩ := List.mem_map.1 hu
      exact hs.l.2 v hv⟩
    have hHl : (es.map upE).length = es.length := List.length_map ..
    have hx1 : ∀ h d, allO (allO (expo h d)) ((es.map upE).map encE) = some ((es.map upE).map encE) := fun h d => allO_rows h d (deep_map encE _ (fun a => by simp [encE, deepc]))
    have tk : ((es.map upE).map encE ++ sp).take es.length = (es.map upE).map encE := List.take_left' (by simp)
    have ln : (es.length ≤ ((es.map upE).map encE ++ sp).length) = True := by simp
    have hlen := allL_len unF (es.map upE)
    have hget := fun i h => allL_get unF (es.map upE) i h
    have hup : ∀ i (hi : i < es.length), (allL unF (es.map upE))[i]? = some (aliveF unF (upE es[i]) ((es.drop (i + 1)).map upE)) := fun i hi => by
      rw [hget i (by rw [hHl]; exact hi), List.getElem_map, List.map_drop]
    clear hget
    generalize es.map upE = H at *
    refine go (And.intro h0 (And.intro h3 h4)) ?_
    refine x_callF rfl rfl rfl rfl (sv (And.intro h3 (And.intro hhb (And.intro hx1 (And.intro tk ln))))) g_live (sv (And.intro h3 (And.intro hhb (And.intro hx1 (And.intro tk ln))))) (se (And.intro h3 (And.intro hhb (And.intro hx1 (And.intro tk ln))))) ⟨H, hsm, rfl, rfl⟩ (by simp) (fun h2 hold => ?_)
    clear hold hhb hx1 tk ln hll hsm
    generalize allL unF H = L at *
    have hLl : L.length = es.length := by omega
    have hr := encB_rows L
    have hne : ((L.length : Int) != (es.length : Int)) = false := by rw [hLl]; simp
    refine go (And.intro h0 (And.intro h3 (And.intro h4 hne))) ?_
    refine x_loop (fun σ => ∃ (i : Nat), σ.t 0 = .sl (es.map encE) ∧ σ.t 5 = .sl (L.map encBo) ∧ σ.t 6 = .s (.int .i64 i) ∧ i ≤ L.length) (fun σ => L.length - ix (σ.t 6)) ⟨0, (by first | assumption | exact sxa trivial), (by first | assumption | exact sxa trivial), (by first | assumption | exact sxa trivial), (by first | rfl | omega | assumption | (simp [*]; done))⟩ ?_
    rintro t2 g2 n2 ⟨i, h0, h5, h6, hf0⟩
    simp only at h0 h5 h6
    refine go (And.intro h0 (And.intro h5 h6)) ?_
    refine x_condP (sv (And.intro h0 (And.intro h5 h6))) (fun hc => ?_) (fun hc => ?_)
    · have hi : i < es.length := by omega
      have hiL : i < L.length := by omega
      have hrow : ((es.map encE).getD i []) = encE es[i] := getD_map _ _ _ hi
      have hrL : ((L.map encBo).getD i []) = [.s (.bool L[i])] := getD_map _ _ _ hiL
      have hv : L[i] = aliveF unF (upE es[i]) ((es.drop (i + 1)).map upE) := by
        have := hup i hi
        rw [List.getElem?_eq_getElem hiL] at this
        exact Option.some.inj this
      have hck : ∀ k (hk : k < es.length), i ≤ k → es[i].clock ≤ es[k].clock := fun k hk h => S.clock k i hk h
      have hal : (∀ j (hj : j < es.length), i < j → j < es.length → ¬ es[j].clock = es[i].clock) → L[i] = true := fun h => by
        rw [hv]
        refine up_alive _ fun u hu => ?_
        obtain ⟨j, hj, rfl⟩ := List.getElem_of_mem hu
        rw [List.length_drop] at hj
        rw [List.getElem_drop]
        have q1 := hck (i + 1 + j) (by omega) (by omega)
        have q2 := h (i + 1 + j) (by omega) (by omega) (by omega)
        omega
      clear hv hup
      generalize L[i] = x at *
      refine go (And.intro h0 (And.intro h5 h6)) ?_
      refine x_loop (fun σ => ∃ (k : Nat), σ.t 0 = .sl (es.map encE) ∧ σ.t 5 = .sl (L.map encBo) ∧ σ.t 6 = .s (.int .i64 i) ∧ σ.t 7 = .s (.int .i64 k) ∧ i < k ∧ k ≤ es.length ∧ (∀ j (hj : j < es.length), i < j → j < k → ¬ es[j].clock = es[i].clock)) (fun σ => es.length - ix (σ.t 7)) ⟨i + 1, (by first | assumption | exact sxa trivial), (by first | assumption | exact sxa trivial), (by first | assumption | exact sxa trivial), (by first | assumption | exact sxa trivial), (by first | rfl | omega | assumption | (simp [*]; done)), (by first | rfl | omega | assumption | (simp [*]; done)), (by first | rfl | omega | assumption | (simp [*]; done))⟩ ?_
      rintro t3 g3 n3 ⟨k, h0, h5, h6, h7, hf0, hf1, hf2⟩
      simp only at h0 h5 h6 h7
      refine go (And.intro h0 (And.intro h5 (And.intro h6 h7))) ?_
      refine x_condP (sv (And.intro h0 (And.intro h5 (And.intro h6 h7)))) (fun hc => ?_) (fun hc => ?_)
      · have hk : k < es.length := by omega
        have hrk : ((es.map encE).getD k []) = encE es[k] := getD_map _ _ _ hk
        by_cases c1 : es[k].clock = es[i].clock
        · have c2 : (es[k].clock == es[i].clock) = true := by simpa using c1
          clear hf2 hal hck
          refine go (And.intro h0 (And.intro h5 (And.intro h6 (And.intro h7 (And.intro hre (And.intro hrow (And.intro hrk (And.intro @encE.eq_1 c2)))))))) ?_
          refine x_done (x_out (sr @Try.f7.eq_1) (by simp) (by simp) rfl)
        · have c2 : (es[k].clock == es[i].clock) = false := by simpa using c1
          have hnx : ∀ j (hj : j < es.length), i < j → j < k + 1 → ¬ es[j].clock = es[i].clock := fun j hj q1 q2 => by
            by_cases e : j = k
            · subst e; exact c1
            · exact hf2 j hj q1 (by omega)
          clear hf2 hal hck
          refine go (And.intro h0 (And.intro h5 (And.intro h6 (And.intro h7 (And.intro hre (And.intro hrow (And.intro hrk (And.intro @encE.eq_1 c2)))))))) ?_
          (refine ⟨⟨k + 1, ?_, ?_, ?_, ?_, ?_, ?_, ?_⟩, ?_⟩ <;> (first | omega | (dsimp only; omega) | (first | omega | assumption | (simp [*]; done)) | exact sxa @cast_succ | exact soa trivial))
      · have ek : k = es.length := by omega
        subst ek
        have hxx := hal hf2
        subst hxx
        clear hf2 hal hck
        skip
        refine go (And.intro h0 (And.intro h5 (And.intro h6 (And.intro h7 (And.intro hr hrL))))) ?_
        (refine ⟨⟨i + 1, ?_, ?_, ?_, ?_⟩, ?_⟩ <;> (first | omega | (dsimp only; omega) | (first | omega | assumption | (simp [*]; done)) | exact sxa @cast_succ | exact soa trivial))
    · have ei : i = L.length := by omega
      subst ei
      refine go (And.intro h0 (And.intro h5 h6)) ?_
      refine x_done (x_out (sr @Try.f7.eq_1) (by simp) (by simp) rfl)
end Go.Proofs.Ytahgddfnbjpfiaa
