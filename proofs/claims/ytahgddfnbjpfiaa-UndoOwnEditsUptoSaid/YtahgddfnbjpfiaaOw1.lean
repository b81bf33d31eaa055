/- Texts that the law's proof stands on: V64. -/
import Derived.Test.YtahgddfnbjpfiaaB30
set_option linter.unusedVariables false
set_option linter.unusedSimpArgs false
set_option maxRecDepth 100000
set_option maxHeartbeats 16000000
namespace Go.Proofs.Ytahgddfnbjpfiaa
open Go Go.RowKit Am

/-- The edits of an author. -/
def sameA (e : Edt) (u : Edt) : Bool := u.id.a.toList == e.id.a.toList
theorem un_same {u e : Edt} (h : unF u e = true) : sameA e u = true := by
  unfold unF undF at h
  simp only [Bool.and_eq_true] at h
  exact h.2.1.1.1.1
theorem sameA_eq {u e : Edt} (h : sameA e u = true) : u.id.a = e.id.a := by
  unfold sameA at h
  rw [lbeq] at h
  exact of_decide_eq_true h
theorem sameA_congr {e e' : Edt} (h : e.id.a = e'.id.a) : sameA e = sameA e' := by
  funext u; unfold sameA; rw [h]
theorem alive_filter (e0 : Edt) : ∀ (l : List Edt) (e : Edt), sameA e0 e = true → aliveF unF e (l.filter (sameA e0)) = aliveF unF e l
  | [], e, _ => rfl
  | u :: l, e, h => by
    rw [aliveF]
    cases hu : sameA e0 u with
    | true => rw [List.filter_cons_of_pos hu, aliveF, alive_filter e0 l u hu, alive_filter e0 l e h]
    | false =>
      rw [List.filter_cons_of_neg (by simp [hu]), alive_filter e0 l e h]
      cases hx : unF u e with
      | false => simp
      | true =>
        have h1 := un_same hx
        rw [← sameA_congr (sameA_eq h)] at hu
        rw [hu] at h1; cases h1
theorem own_at {es : List Edt} {i : Nat} (hi : i < es.length) (e : Edt) (he : es[i] = e) : es.filter (sameA e) = (es.take i).filter (sameA e) ++ e :: (es.drop (i + 1)).filter (sameA e) := by
  have h1 : sameA e e = true := by unfold sameA; simp
  conv => lhs; rw [← List.take_append_drop i es]
  rw [List.filter_append, List.drop_eq_getElem_cons hi, he, List.filter_cons_of_pos h1]
theorem filter_take_succ (p : Edt → Bool) {l : List Edt} {k : Nat} (hk : k < l.length) : (l.take (k + 1)).filter p = (l.take k).filter p ++ (if p l[k] = true then [l[k]] else []) := by
  rw [List.take_succ_eq_append_getElem hk, List.filter_append]
  congr 1
  by_cases h : p l[k] = true <;> simp [h]
theorem ownLaw_sound {plain : TypeId → Bool} {Γ : FuncId → Option Fspec} {Δ : FuncId → Option Pt} (hE : EnvOk ⟨Try.prog, plain, Γ, Δ, fun _ => none, 0⟩) (g_alive : Γ 9 = some aliveS) (g_sorted : Γ 10 = some sortedS) (g_live : Γ 11 = some live2S) : Sound Try.prog 4 lawES := by
  refine sound_of_awp hE Try.func4 rfl (by kernel_rfl) ?_
  rintro Φ ds r ⟨es, hs, rfl, rfl⟩
  refine ⟨by simp [Try.f4], ?_⟩
  unfold st0
  refine W.out (E := ⟨Try.prog, plain, Γ, Δ, Φ, _⟩) ?_
  refine go trivial ?_
  refine x_callN rfl rfl rfl rfl (sv trivial) g_alive (sv trivial) (se trivial) ⟨rfl, rfl⟩ rfl ?_
  refine go trivial ?_
  refine x_callN rfl rfl rfl rfl (sv trivial) g_sorted (sv trivial) (se trivial) ⟨es, hs, rfl, rfl⟩ rfl ?_
  cases hq : srtF es
  · rw [if_neg (by decide)]
    have z0 : ((0 : Int) == 0) = true := rfl
    refine go z0 ?_
    refine x_done (x_out (sr @Try.f4.eq_1) (by simp) (by simp) rfl)
  have z1 : ((1 : Int) == 0) = false := rfl
  have S := srt_of hq
  have hl40 := S.len
  rw [if_pos rfl]
  refine go z1 ?_
  refine x_callS rfl rfl rfl rfl (sv trivial) g_live (sv trivial) (se trivial) ⟨es, hs.l, rfl, rfl⟩ (by simp) (by simp [touchA, touch]) ?_
  have hlen := allL_len unF es
  have hget := allL_get unF es
  generalize hL : allL unF es = L at *
  have hr := encB_rows L
  have hre := encE_rows es
  refine go trivial ?_
  refine x_loop (fun σ => ∃ (i : Nat), σ.t 0 = .sl (es.map encE) ∧ σ.t 3 = .sl (L.map encBo) ∧ σ.t 4 = .s (.int .i64 i) ∧ i ≤ es.length) (fun σ => es.length - ix (σ.t 4)) ⟨0, (by first | assumption | exact sxa trivial), (by first | assumption | exact sxa trivial), (by first | assumption | exact sxa trivial), (by first | rfl | omega | assumption | (simp [*]; done))⟩ ?_
  rintro t h n ⟨i, h0, h3, h4, hf0⟩
  simp only at h0 h3 h4
  refine go (And.intro h0 (And.intro h3 h4)) ?_
  refine x_condP (sv (And.intro h0 (And.intro h3 h4))) (fun hc => ?_) (fun hc => ?_)
  · have hi : i < es.length := by omega
    have hiL : i < L.length := by omega
    have hrow : ((es.map encE).getD i []) = encE es[i] := getD_map _ _ _ hi
    have hrL : ((L.map encBo).getD i []) = [.s (.bool L[i])] := getD_map _ _ _ hiL
    have hv : L[i] = aliveF unF es[i] (es.drop (i + 1)) := by
      have := hget i hi
      rw [List.getElem?_eq_getElem hiL] at this
      exact Option.some.inj this
    have hoa := own_at hi _ rfl
    have hfs := fun k hk => filter_take_succ (sameA es[i]) (l := es) (k := k) hk
    have hal := alive_filter es[i] (es.drop (i + 1)) es[i] (by unfold sameA; simp)
    generalize hee : es[i] = e at *
    refine goR trivial ?_
    refine x_seq ?_
    refine goR trivial ?_
    refine x_seq ?_
    refine goR (And.intro h0 (And.intro h3 h4)) ?_
    refine x_seq ?_
    refine goR (And.intro h0 (And.intro h3 h4)) ?_
    refine x_cutF 5 (fun σ => ∃ (b : Nat) (cap : Nat) (sp : List (List Am.V)), σ.t 0 = .sl (es.map encE) ∧ σ.t 3 = .sl (L.map encBo) ∧ σ.t 4 = .s (.int .i64 i) ∧ σ.t 5 = .loc b 0 (es.filter (sameA e)).length cap ∧ σ.t 6 = .s (.int .i64 ((es.take i).filter (sameA e)).length) ∧ σ.h b = some ⟨18, (es.filter (sameA e)).map encE ++ sp, true⟩ ∧ (es.filter (sameA e)).length ≤ cap) ?_ ?_
    · clear hoa hal hv
      refine go (And.intro h0 (And.intro h3 h4)) ?_
      refine x_loopG 5 18 (fun σ => ∃ (k : Nat) (b : Nat) (cap : Nat) (at0 : Nat) (sp : List (List Am.V)), σ.t 0 = .sl (es.map encE) ∧ σ.t 3 = .sl (L.map encBo) ∧ σ.t 4 = .s (.int .i64 i) ∧ σ.t 5 = .loc b 0 ((es.take k).filter (sameA e)).length cap ∧ σ.t 6 = .s (.int .i64 at0) ∧ σ.t 7 = .s (.int .i64 k) ∧ σ.h b = some ⟨18, ((es.take k).filter (sameA e)).map encE ++ sp, true⟩ ∧ b < σ.n ∧ k ≤ es.length ∧ ((es.take k).filter (sameA e)).length ≤ cap ∧ cap ≤ ((es.take k).filter (sameA e)).length + sp.length ∧ ((es.take k).filter (sameA e)).length ≤ k ∧ (i < k → at0 = ((es.take i).filter (sameA e)).length)) (fun σ => es.length - ix (σ.t 7)) (sca trivial) ⟨0, _, 0, 0, [], (by first | assumption | exact sxa trivial), (by first | assumption | exact sxa trivial), (by first | assumption | exact sxa trivial), (by first | assumption | exact sxa trivial), (by first | assumption | exact sxa trivial), (by first | assumption | exact sxa trivial), (by first | assumption | exact sxa trivial), (by first | omega | (dsimp only; omega) | exact soa trivial | omega | (simp; done)), (by first | rfl | omega | assumption | (simp [*]; done)), (by first | rfl | omega | assumption | (simp [*]; done)), (by first | rfl | omega | assumption | (simp [*]; done)), (by first | rfl | omega | assumption | (simp [*]; done)), (by first | rfl | omega | assumption | (simp [*]; done))⟩ ?_
      rintro t h n ⟨k, b, cap, at0, sp, h0, h3, h4, h5, h6, h7, hhb, hn1, hf0, hf1, hf2, hf3, hf4⟩
      simp only at h0 h3 h4 h5 h6 h7 hhb hn1
      refine go (And.intro h0 (And.intro h3 (And.intro h4 (And.intro h5 (And.intro h6 h7))))) ?_
      refine x_condP (sv (And.intro h0 (And.intro h3 (And.intro h4 (And.intro h5 (And.intro h6 h7)))))) (fun hc => ?_) (fun hc => ?_)
      · have hk : k < es.length := by omega
        have hrk : ((es.map encE).getD k []) = encE es[k] := getD_map _ _ _ hk
        have hsx := hfs k hk
        clear hfs
        have e1 : (b = n) = False := by simp <;> omega
        have e3 : (n = b) = False := by simp <;> omega
        generalize heu : es[k] = u at *
        cases c1 : (u.id.a.toList == e.id.a.toList)
        · have hsa : sameA e u = false := c1
          rw [hsa, if_neg (by decide), List.append_nil] at hsx
          have hnk : ¬ i = k := fun h => by
            subst h
            rw [hee] at heu
            rw [← heu] at c1
            simp at c1
          rw [← hsx] at hhb hf1 hf2 hf3
          have h5' := h5
          rw [← hsx] at h5'
          clear h5 hsx
          refine go (And.intro h0 (And.intro h3 (And.intro h4 (And.intro h5' (And.intro h6 (And.intro h7 (And.intro hre (And.intro hrow (And.intro hrk (And.intro @encE.eq_1 c1)))))))))) ?_
          have hik : i < k + 1 → at0 = ((es.take i).filter (sameA e)).length := fun h => hf4 (by omega)
          (refine ⟨⟨k + 1, b, cap, at0, sp, ?_, ?_, ?_, ?_, ?_, ?_, ?_, ?_, ?_, ?_, ?_, ?_, ?_⟩, ?_⟩ <;> (first | omega | (dsimp only; omega) | (first | omega | assumption | (simp [*]; done)) | exact sxa @cast_succ | exact soa trivial))
        · have hsa : sameA e u = true := c1
          rw [hsa, if_pos rfl] at hsx
          have hl2 : ((es.take (k + 1)).filter (sameA e)).length = ((es.take k).filter (sameA e)).length + 1 := by rw [hsx]; simp
          have hm2 : ((es.take (k + 1)).filter (sameA e)).map encE = ((es.take k).filter (sameA e)).map encE ++ [encE u] := by rw [hsx]; simp
          clear hsx
          by_cases c2 : (k : Int) = (i : Int)
          · have c2' : ((k : Int) == (i : Int)) = true := by simpa using c2
            have hki : k = i := by omega
            have hik : i < k + 1 → ((es.take k).filter (sameA e)).length = ((es.take i).filter (sameA e)).length := fun _ => by rw [hki]
            clear hki
            refine go (And.intro h0 (And.intro h3 (And.intro h4 (And.intro h5 (And.intro h6 (And.intro h7 (And.intro hhb (And.intro hre (And.intro hrow (And.intro hrk (And.intro @encE.eq_1 (And.intro c1 (And.intro c2' (And.intro e1 e3)))))))))))))) ?_
            refine x_appendO rfl rfl rfl rfl rfl rfl (sv (And.intro h5 (And.intro hhb (And.intro @encE.eq_1 (And.intro e1 e3))))) (by decide) (sc (And.intro h5 (And.intro hhb (And.intro @encE.eq_1 (And.intro e1 e3))))) (sv (And.intro h5 (And.intro hhb (And.intro @encE.eq_1 (And.intro e1 e3))))) (sx (And.intro h5 (And.intro hhb (And.intro @encE.eq_1 (And.intro e1 e3))))) (by first | rfl | (simp; done) | (simp [spare_len]; omega)) (by first | omega | (simp; done) | (simp [spare_len]; omega)) (by first | omega | (simp; done) | (simp [spare_len]; omega)) (sx (And.intro h5 (And.intro hhb (And.intro @encE.eq_1 (And.intro e1 e3))))) (okRowsE [u]) (by first | omega | (simp; done) | (simp [spare_len]; omega)) (fun cap' hcap' => ?_)
            refine go (And.intro h0 (And.intro h3 (And.intro h4 (And.intro h5 (And.intro h6 (And.intro h7 (And.intro hhb (And.intro @encE.eq_1 (And.intro e1 e3))))))))) ?_
            have hc2 : ((es.take k).filter (sameA e)).length + 1 ≤ cap' := hcap'
            have hs1 := spare_len 18 (cap' - (((es.take k).filter (sameA e)).length + 1))
            clear c2 c2'
            (refine ⟨⟨k + 1, n + 1, cap', ((es.take k).filter (sameA e)).length, spare 18 (cap' - (((es.take k).filter (sameA e)).length + 1)), ?_, ?_, ?_, ?_, ?_, ?_, ?_, ?_, ?_, ?_, ?_, ?_, ?_⟩, ?_⟩ <;> (first | omega | (dsimp only; omega) | (first | omega | assumption | (simp [*]; done)) | exact sxa (And.intro @cast_succ (And.intro @encE.eq_1 (And.intro hl2 (And.intro hm2 (And.intro e1 e3))))) | exact soa trivial))
          · have c2' : ((k : Int) == (i : Int)) = false := by simpa using c2
            have hik : i < k + 1 → at0 = ((es.take i).filter (sameA e)).length := fun h => hf4 (by omega)
            refine go (And.intro h0 (And.intro h3 (And.intro h4 (And.intro h5 (And.intro h6 (And.intro h7 (And.intro hhb (And.intro hre (And.intro hrow (And.intro hrk (And.intro @encE.eq_1 (And.intro c1 (And.intro c2' (And.intro e1 e3)))))))))))))) ?_
            refine x_appendO rfl rfl rfl rfl rfl rfl (sv (And.intro h5 (And.intro hhb (And.intro @encE.eq_1 (And.intro e1 e3))))) (by decide) (sc (And.intro h5 (And.intro hhb (And.intro @encE.eq_1 (And.intro e1 e3))))) (sv (And.intro h5 (And.intro hhb (And.intro @encE.eq_1 (And.intro e1 e3))))) (sx (And.intro h5 (And.intro hhb (And.intro @encE.eq_1 (And.intro e1 e3))))) (by first | rfl | (simp; done) | (simp [spare_len]; omega)) (by first | omega | (simp; done) | (simp [spare_len]; omega)) (by first | omega | (simp; done) | (simp [spare_len]; omega)) (sx (And.intro h5 (And.intro hhb (And.intro @encE.eq_1 (And.intro e1 e3))))) (okRowsE [u]) (by first | omega | (simp; done) | (simp [spare_len]; omega)) (fun cap' hcap' => ?_)
            refine go (And.intro h0 (And.intro h3 (And.intro h4 (And.intro h5 (And.intro h6 (And.intro h7 (And.intro hhb (And.intro @encE.eq_1 (And.intro e1 e3))))))))) ?_
            have hc2 : ((es.take k).filter (sameA e)).length + 1 ≤ cap' := hcap'
            have hs1 := spare_len 18 (cap' - (((es.take k).filter (sameA e)).length + 1))
            (refine ⟨⟨k + 1, n + 1, cap', at0, spare 18 (cap' - (((es.take k).filter (sameA e)).length + 1)), ?_, ?_, ?_, ?_, ?_, ?_, ?_, ?_, ?_, ?_, ?_, ?_, ?_⟩, ?_⟩ <;> (first | omega | (dsimp only; omega) | (first | omega | assumption | (simp [*]; done)) | exact sxa (And.intro @cast_succ (And.intro @encE.eq_1 (And.intro hl2 (And.intro hm2 (And.intro e1 e3))))) | exact soa trivial))
      · have ek : k = es.length := by omega
        subst ek
        have hat := hf4 hi
        rw [List.take_length] at h5 hhb hf1 hf2
        rw [hat] at h6
        skip
        refine go (And.intro h0 (And.intro h3 (And.intro h4 (And.intro h5 (And.intro h6 h7))))) ?_
        (refine ⟨b, cap, sp, ?_, ?_, ?_, ?_, ?_, ?_, ?_⟩ <;> (first | omega | (dsimp only; omega) | exact sxa @cast_succ | exact soa trivial | (omega)))
    rintro t h n ⟨b, cap, sp, h0, h3, h4, h5, h6, hhb, hf0⟩
    simp only at h0 h3 h4 h5 h6 hhb
    have hx1 : ∀ h d, allO (allO (expo h d)) ((es.filter (sameA e)).map encE) = some ((es.filter (sameA e)).map encE) := fun h d => allO_rows h d (deep_map encE _ (fun a => by simp [encE, deepc]))
    have tk : ((es.filter (sameA e)).map encE ++ sp).take (es.filter (sameA e)).length = (es.filter (sameA e)).map encE := List.take_left' (by simp)
    refine ⟨.sl ((es.filter (sameA e)).map encE), ?_, fun h2 hold => ?_⟩
    · rw [h5]
      have ln : ((es.filter (sameA e)).length ≤ ((es.filter (sameA e)).map encE ++ sp).length) = True := by simp
      exact se (And.intro hhb (And.intro hx1 (And.intro tk ln)))
    clear hold hhb hx1 tk hfs h5 hf0 hrow
    obtain ⟨W0, hW0⟩ : ∃ W0, W0 = es.filter (sameA e) := ⟨_, rfl⟩
    obtain ⟨P0, hP0⟩ : ∃ P0, P0 = (es.take i).filter (sameA e) := ⟨_, rfl⟩
    rw [← hW0] at hoa ⊢
    rw [← hP0] at hoa h6
    have hsm : smL W0 := ⟨by rw [hW0]; exact Nat.le_trans (List.length_filter_le _ _) hs.1, fun u hu => hs.l.2 u (by rw [hW0] at hu; exact (List.mem_filter.1 hu).1)⟩
    have hgl := allL_len unF W0
    have hgg := allL_get unF W0
    have hpl : P0.length < W0.length := by rw [hoa]; simp
    have hx2 : (allL unF W0)[P0.length]? = some L[i] := by
      rw [hgg P0.length hpl, hv, ← hal]
      have h1 : W0[P0.length] = e := by simp [hoa]
      have h2 : W0.drop (P0.length + 1) = (es.drop (i + 1)).filter (sameA e) := by rw [hoa, List.drop_append]; simp
      rw [h1, h2]
    clear hoa hal hv hgg hW0 hP0
    refine go (And.intro h0 (And.intro h3 (And.intro h4 h6))) ?_
    refine x_callS rfl rfl rfl rfl (sv trivial) g_live (sv trivial) (se trivial) ⟨W0, hsm, rfl, rfl⟩ (by simp) (by simp [touchA, touch]) ?_
    generalize allL unF W0 = M at *
    have hpm : P0.length < M.length := by omega
    have hrm := encB_rows M
    have hrx : ((M.map encBo).getD P0.length []) = [.s (.bool L[i])] := by
      rw [getD_map _ _ _ hpm]
      rw [List.getElem?_eq_getElem hpm] at hx2
      rw [Option.some.inj hx2]
    generalize L[i] = x at *
    have q1 : ((L.length : Int) != (es.length : Int)) = false := by rw [hlen]; simp
    have q2 : ((M.length : Int) != (W0.length : Int)) = false := by rw [hgl]; simp
    refine go (And.intro h0 (And.intro h3 (And.intro h4 (And.intro h6 (And.intro hr (And.intro hre (And.intro hrm (And.intro hrx (And.intro hrL (And.intro q1 q2)))))))))) ?_
    (refine ⟨⟨i + 1, ?_, ?_, ?_, ?_⟩, ?_⟩ <;> (first | omega | (dsimp only; omega) | (first | omega | assumption | (simp [*]; done)) | exact sxa @cast_succ | exact soa trivial))
  · have e : i = es.length := by omega
    subst e
    refine go (And.intro h0 (And.intro h3 h4)) ?_
    refine x_done (x_out (sr @Try.f4.eq_1) (by simp) (by simp) rfl)
end Go.Proofs.Ytahgddfnbjpfiaa
