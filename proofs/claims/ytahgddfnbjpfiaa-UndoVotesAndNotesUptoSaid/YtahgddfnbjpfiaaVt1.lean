/- Texts that the law's proof stands on: V65. -/
import Derived.Test.YtahgddfnbjpfiaaB30
set_option linter.unusedVariables false
set_option linter.unusedSimpArgs false
set_option maxRecDepth 100000
set_option maxHeartbeats 16000000
namespace Go.Proofs.Ytahgddfnbjpfiaa
open Go Go.RowKit Am

/-- Is an edit of a kind that can be undone? -/
def keepE (e : Edt) : Bool := decide (e.kind ≤ 4)
/-- The status of the edits that can be undone. -/
def wantL : List Edt → List Bool
  | [] => []
  | e :: l => if keepE e = true then aliveF unF e l :: wantL l else wantL l
theorem un_keep {u e : Edt} (h : unF u e = true) : keepE u = true := by
  unfold unF at h
  simp only [Bool.and_eq_true, decide_eq_true_eq] at h
  unfold keepE
  exact decide_eq_true (by omega)
theorem alive_keep (e : Edt) : ∀ l : List Edt, aliveF unF e (l.filter keepE) = aliveF unF e l
  | [] => rfl
  | u :: l => by
    cases h : keepE u with
    | true => rw [List.filter_cons_of_pos h, aliveF, aliveF, alive_keep u l, alive_keep e l]
    | false =>
      rw [List.filter_cons_of_neg (by simp [h]), aliveF, alive_keep e l]
      cases hx : unF u e with
      | false => simp
      | true => rw [un_keep hx] at h; cases h
theorem all_keep : ∀ l : List Edt, allL unF (l.filter keepE) = wantL l
  | [] => rfl
  | e :: l => by
    rw [wantL]
    cases h : keepE e with
    | true => rw [List.filter_cons_of_pos h, if_pos rfl, allL, alive_keep e l, all_keep l]
    | false => rw [List.filter_cons_of_neg (by simp [h]), if_neg (by decide), all_keep l]
theorem alive_kind4 {e : Edt} (l : List Edt) (h : keepE e = false) : aliveF unF e l = true := by
  have h1 : 4 < e.kind := by
    unfold keepE at h
    have := of_decide_eq_false h
    omega
  have : ∀ u ∈ l, unF u e = false := fun u _ => by
    unfold unF undF
    have : decide (e.kind ≤ 4) = false := decide_eq_false (by omega)
    simp [this]
  clear h h1
  induction l with
  | nil => rfl
  | cons u l ih => rw [aliveF, this u (by simp), ih fun v hv => this v (by simp [hv])]; rfl
theorem touch_rows (h : Hp) (d : Nat) {α : Type} (f : α → List Am.V) (hf : ∀ a, ∀ v ∈ f a, deepc v = true) (l : List α) : (l.map f).flatMap (fun r => r.flatMap (touch h d)) = [] := by
  rw [List.flatMap_eq_nil_iff]
  intro r hr
  obtain ⟨a, _, rfl⟩ := List.mem_map.1 hr
  rw [List.flatMap_eq_nil_iff]
  exact fun v hv => touch_deep h d (hf a v hv)
theorem touch_loc {h : Hp} {b len cap : Nat} {α : Type} {f : α → List Am.V} (hf : ∀ a, ∀ v ∈ f a, deepc v = true) {l : List α} (hr : rowsOf h (.loc b 0 len cap) = some (l.map f)) : touchA h (.loc b 0 len cap) = [b] := by
  show touch h (1 + 1) (.loc b 0 len cap) = [b]
  rw [touch]
  simp only [hr, touch_rows h 1 f hf l]
theorem votesLaw_sound {plain : TypeId → Bool} {Γ : FuncId → Option Fspec} {Δ : FuncId → Option Pt} (hE : EnvOk ⟨Try.prog, plain, Γ, Δ, fun _ => none, 0⟩) (g_alive : Γ 9 = some aliveS) (g_sorted : Γ 10 = some sortedS) (g_live : Γ 11 = some live2S) : Sound Try.prog 8 lawES := by
  refine sound_of_awp hE Try.func8 rfl (by kernel_rfl) ?_
  rintro Φ ds r ⟨es, hs, rfl, rfl⟩
  refine ⟨by simp [Try.f8], ?_⟩
  unfold st0
  refine W.out (E := ⟨Try.prog, plain, Γ, Δ, Φ, _⟩) ?_
  refine go trivial ?_
  refine x_callN rfl rfl rfl rfl (sv trivial) g_alive (sv trivial) (se trivial) ⟨rfl, rfl⟩ rfl ?_
  refine go trivial ?_
  refine x_callN rfl rfl rfl rfl (sv trivial) g_sorted (sv trivial) (se trivial) ⟨es, hs, rfl, rfl⟩ rfl ?_
  cases hq : srtF es
  · rw [if_neg (by decide)]
    have z0 : ((0 : Int) == 0) = true := rfl
    refine go z0 ?_
    refine x_done (x_out (sr @Try.f8.eq_1) (by simp) (by simp) rfl)
  have z1 : ((1 : Int) == 0) = false := rfl
  have S := srt_of hq
  have hl40 := S.len
  rw [if_pos rfl]
  refine go z1 ?_
  refine x_callS rfl rfl rfl rfl (sv trivial) g_live (sv trivial) (se trivial) ⟨es, hs.l, rfl, rfl⟩ (by simp) (by simp [touchA, touch]) ?_
  have hlen := allL_len unF es
  have hget := allL_get unF es
  generalize hL : allL unF es = L at *
  have hr := encB_rows L
  have hre := encE_rows es
  refine go trivial ?_
  refine x_loopG2 3 18 4 1 (fun σ => ∃ (i : Nat) (b : Nat) (cap : Nat) (sm : List Edt) (sp : List (List Am.V)) (b2 : Nat) (cap2 : Nat) (wt : List Bool) (sp2 : List (List Am.V)), σ.t 0 = .sl (es.map encE) ∧ σ.t 3 = .loc b 0 sm.length cap ∧ σ.t 4 = .loc b2 0 wt.length cap2 ∧ σ.t 5 = .sl (L.map encBo) ∧ σ.t 6 = .s (.int .i64 i) ∧ σ.h b = some ⟨18, sm.map encE ++ sp, true⟩ ∧ σ.h b2 = some ⟨1, wt.map encBo ++ sp2, true⟩ ∧ b < σ.n ∧ b2 < σ.n ∧ i ≤ es.length ∧ ¬ b = b2 ∧ sm.length ≤ cap ∧ cap ≤ sm.length + sp.length ∧ wt.length ≤ cap2 ∧ cap2 ≤ wt.length + sp2.length ∧ sm.length ≤ i ∧ wt.length ≤ i ∧ sm ++ (es.drop i).filter keepE = es.filter keepE ∧ wt ++ wantL (es.drop i) = wantL es) (fun σ => es.length - ix (σ.t 6)) (sca trivial) (by decide) (sca trivial) ⟨0, _, 0, [], [], _, 0, [], [], (by first | assumption | exact sxa trivial), (by first | assumption | exact sxa trivial), (by first | assumption | exact sxa trivial), (by first | assumption | exact sxa trivial), (by first | assumption | exact sxa trivial), (by first | assumption | exact sxa trivial), (by first | assumption | exact sxa trivial), (by first | omega | (dsimp only; omega) | exact soa trivial | omega | (simp; done)), (by first | omega | (dsimp only; omega) | exact soa trivial | omega | (simp; done)), (by first | rfl | omega | assumption | (simp [*]; done)), (by first | rfl | omega | assumption | (simp [*]; done)), (by first | rfl | omega | assumption | (simp [*]; done)), (by first | rfl | omega | assumption | (simp [*]; done)), (by first | rfl | omega | assumption | (simp [*]; done)), (by first | rfl | omega | assumption | (simp [*]; done)), (by first | rfl | omega | assumption | (simp [*]; done)), (by first | rfl | omega | assumption | (simp [*]; done)), (by first | rfl | omega | assumption | (simp [*]; done)), (by first | rfl | omega | assumption | (simp [*]; done))⟩ ?_
  rintro t h n ⟨i, b, cap, sm, sp, b2, cap2, wt, sp2, h0, h3, h4, h5, h6, hhb, hhb2, hn1, hn2, hf0, hf1, hf2, hf3, hf4, hf5, hf6, hf7, hf8, hf9⟩
  simp only at h0 h3 h4 h5 h6 hhb hhb2 hn1 hn2
  refine go (And.intro h0 (And.intro h3 (And.intro h4 (And.intro h5 h6)))) ?_
  refine x_condP (sv (And.intro h0 (And.intro h3 (And.intro h4 (And.intro h5 h6))))) (fun hc => ?_) (fun hc => ?_)
  · have hi : i < es.length := by omega
    have hiL : i < L.length := by omega
    have hrow : ((es.map encE).getD i []) = encE es[i] := getD_map _ _ _ hi
    have hrL : ((L.map encBo).getD i []) = [.s (.bool L[i])] := getD_map _ _ _ hiL
    have hv : L[i] = aliveF unF es[i] (es.drop (i + 1)) := by
      have := hget i hi
      rw [List.getElem?_eq_getElem hiL] at this
      exact Option.some.inj this
    rw [List.drop_eq_getElem_cons hi] at hf8 hf9
    rw [wantL, ← hv] at hf9
    have hk0 : keepE es[i] = false → L[i] = true := fun h => by rw [hv]; exact alive_kind4 _ h
    clear hv
    generalize L[i] = x at *
    generalize hee : es[i] = e at *
    have e1 : (b = n) = False := by simp <;> omega
    have e2 : (b2 = n) = False := by simp <;> omega
    have e3 : (n = b) = False := by simp <;> omega
    have e4 : (n = b2) = False := by simp <;> omega
    have e5 : (b = b2) = False := by simp <;> omega
    have e6 : (b2 = b) = False := by simp <;> omega
    by_cases c1 : e.kind ≤ 4
    · have hk : keepE e = true := decide_eq_true c1
      rw [List.filter_cons_of_pos hk] at hf8
      rw [hk, if_pos rfl] at hf9
      have n1 : (b2 = n + 1) = False := by simp <;> omega
      have n2 : (n + 1 = b2) = False := by simp <;> omega
      have n3 : (b = n + 1) = False := by simp <;> omega
      have n4 : (n + 1 = n + 1 + 1) = False := by simp <;> omega
      have n5 : (n + 1 + 1 = n + 1) = False := by simp <;> omega
      have n6 : (b2 = n + 1 + 1) = False := by simp <;> omega
      have n7 : (n + 1 + 1 = b2) = False := by simp <;> omega
      refine go (And.intro h0 (And.intro h3 (And.intro h4 (And.intro h5 (And.intro h6 (And.intro hre (And.intro hrow (And.intro @encE.eq_1 c1)))))))) ?_
      refine x_appendO rfl rfl rfl rfl rfl rfl (sv (And.intro h3 (And.intro hhb (And.intro @encE.eq_1 (And.intro e1 e3))))) (by decide) (sc (And.intro h3 (And.intro hhb (And.intro @encE.eq_1 (And.intro e1 e3))))) (sv (And.intro h3 (And.intro hhb (And.intro @encE.eq_1 (And.intro e1 e3))))) (sx (And.intro h3 (And.intro hhb (And.intro @encE.eq_1 (And.intro e1 e3))))) (by first | rfl | (simp; done) | (simp [spare_len]; omega)) (by first | omega | (simp; done) | (simp [spare_len]; omega)) (by first | omega | (simp; done) | (simp [spare_len]; omega)) (sx (And.intro h3 (And.intro hhb (And.intro @encE.eq_1 (And.intro e1 e3))))) (okRowsE [e]) (by first | omega | (simp; done) | (simp [spare_len]; omega)) (fun cap' hcap' => ?_)
      have hc2 : sm.length + 1 ≤ cap' := hcap'
      refine go (And.intro h0 (And.intro h3 (And.intro h4 (And.intro h5 (And.intro h6 (And.intro hr (And.intro hrL (And.intro hhb2 (And.intro e1 (And.intro e2 (And.intro e3 (And.intro e4 (And.intro e5 (And.intro e6 (And.intro n1 (And.intro n2 (And.intro n3 (And.intro n4 (And.intro n5 (And.intro n6 n7)))))))))))))))))))) ?_
      have hs1 := spare_len 18 (cap' - (sm.length + 1))
      obtain ⟨cp, hcp⟩ : ∃ cp, cap' = cp := ⟨_, rfl⟩
      rw [hcp] at hc2 hs1
      simp only [hcp]
      clear hcap'
      refine x_appendO rfl rfl rfl rfl rfl rfl (sv (And.intro hhb2 (And.intro @encBo.eq_1 (And.intro e1 (And.intro e2 (And.intro e3 (And.intro e4 (And.intro e5 (And.intro e6 (And.intro n1 (And.intro n2 (And.intro n3 (And.intro n4 (And.intro n5 (And.intro n6 n7))))))))))))))) (by decide) (sc (And.intro hhb2 (And.intro @encBo.eq_1 (And.intro e1 (And.intro e2 (And.intro e3 (And.intro e4 (And.intro e5 (And.intro e6 (And.intro n1 (And.intro n2 (And.intro n3 (And.intro n4 (And.intro n5 (And.intro n6 n7))))))))))))))) (sv (And.intro hhb2 (And.intro @encBo.eq_1 (And.intro e1 (And.intro e2 (And.intro e3 (And.intro e4 (And.intro e5 (And.intro e6 (And.intro n1 (And.intro n2 (And.intro n3 (And.intro n4 (And.intro n5 (And.intro n6 n7))))))))))))))) (sx (And.intro hhb2 (And.intro @encBo.eq_1 (And.intro e1 (And.intro e2 (And.intro e3 (And.intro e4 (And.intro e5 (And.intro e6 (And.intro n1 (And.intro n2 (And.intro n3 (And.intro n4 (And.intro n5 (And.intro n6 n7))))))))))))))) (by first | rfl | (simp; done) | (simp [spare_len]; omega)) (by first | omega | (simp; done) | (simp [spare_len]; omega)) (by first | omega | (simp; done) | (simp [spare_len]; omega)) (sx (And.intro hhb2 (And.intro @encBo.eq_1 (And.intro e1 (And.intro e2 (And.intro e3 (And.intro e4 (And.intro e5 (And.intro e6 (And.intro n1 (And.intro n2 (And.intro n3 (And.intro n4 (And.intro n5 (And.intro n6 n7))))))))))))))) (okRowsB [x]) (by first | omega | (simp; done) | (simp [spare_len]; omega)) (fun cap' hcap' => ?_)
      have hc3 : wt.length + 1 ≤ cap' := hcap'
      have hs2 := spare_len 1 (cap' - (wt.length + 1))
      have n8 : (n + 1 = n + 1 + 1 + 1) = False := by simp <;> omega
      have n9 : (n + 1 + 1 + 1 = n + 1) = False := by simp <;> omega
      have m1 : (sm ++ [e]).length = sm.length + 1 := by simp
      have m2 : (sm ++ [e]).map encE = sm.map encE ++ [encE e] := by simp
      have m3 : (wt ++ [x]).length = wt.length + 1 := by simp
      have m4 : (wt ++ [x]).map encBo = wt.map encBo ++ [encBo x] := by simp
      have m5 : (sm ++ [e]) ++ (es.drop (i + 1)).filter keepE = es.filter keepE := by rw [List.append_assoc]; exact hf8
      have m6 : (wt ++ [x]) ++ wantL (es.drop (i + 1)) = wantL es := by rw [List.append_assoc]; exact hf9
      clear hf8 hf9
      refine go (And.intro h0 (And.intro h3 (And.intro h4 (And.intro h5 (And.intro h6 (And.intro hhb2 (And.intro @encBo.eq_1 (And.intro e1 (And.intro e2 (And.intro e3 (And.intro e4 (And.intro e5 (And.intro e6 (And.intro n1 (And.intro n2 (And.intro n3 (And.intro n4 (And.intro n5 (And.intro n6 (And.intro n7 (And.intro n8 n9))))))))))))))))))))) ?_
      (refine ⟨⟨i + 1, n + 1, cp, sm ++ [e], spare 18 (cp - (sm.length + 1)), n + 1 + 1 + 1, cap', wt ++ [x], spare 1 (cap' - (wt.length + 1)), ?_, ?_, ?_, ?_, ?_, ?_, ?_, ?_, ?_, ?_, ?_, ?_, ?_, ?_, ?_, ?_, ?_, ?_, ?_⟩, ?_⟩ <;> (first | omega | (dsimp only; omega) | (first | omega | assumption | (simp [*]; done)) | exact sxa (And.intro @cast_succ (And.intro @encE.eq_1 (And.intro @encBo.eq_1 (And.intro m1 (And.intro m2 (And.intro m3 (And.intro m4 (And.intro e1 (And.intro e2 (And.intro e3 (And.intro e4 (And.intro e5 (And.intro e6 (And.intro n1 (And.intro n2 (And.intro n3 (And.intro n4 (And.intro n5 (And.intro n6 (And.intro n7 (And.intro n8 n9))))))))))))))))))))) | exact soa trivial))
    · have hk : keepE e = false := decide_eq_false c1
      have hx := hk0 hk
      subst hx
      rw [List.filter_cons_of_neg (by simp [hk])] at hf8
      rw [hk, if_neg (by decide)] at hf9
      refine go (And.intro h0 (And.intro h3 (And.intro h4 (And.intro h5 (And.intro h6 (And.intro hre (And.intro hrow (And.intro hr (And.intro hrL (And.intro @encE.eq_1 c1)))))))))) ?_
      (refine ⟨⟨i + 1, b, cap, sm, sp, b2, cap2, wt, sp2, ?_, ?_, ?_, ?_, ?_, ?_, ?_, ?_, ?_, ?_, ?_, ?_, ?_, ?_, ?_, ?_, ?_, ?_, ?_⟩, ?_⟩ <;> (first | omega | (dsimp only; omega) | (first | omega | assumption | (simp [*]; done)) | exact sxa @cast_succ | exact soa trivial))
  · have ei : i = es.length := by omega
    subst ei
    rw [List.drop_length, List.filter_nil, List.append_nil] at hf8
    rw [List.drop_length, wantL, List.append_nil] at hf9
    subst hf9
    have hsm : smL sm := by
      rw [hf8]
      exact ⟨Nat.le_trans (List.length_filter_le _ _) hs.1, fun u hu => hs.l.2 u (List.mem_filter.1 hu).1⟩
    have hall : allL unF sm = wantL es := by rw [hf8]; exact all_keep es
    clear hf8
    generalize hW : wantL es = wt at *
    clear hW
    have hrw := encB_rows wt
    have e5 : (b = b2) = False := by simp <;> omega
    have e6 : (b2 = b) = False := by simp <;> omega
    have hx1 : ∀ h d, allO (allO (expo h d)) (sm.map encE) = some (sm.map encE) := fun h d => allO_rows h d (deep_map encE _ (fun a => by simp [encE, deepc]))
    have tk : (sm.map encE ++ sp).take sm.length = sm.map encE := List.take_left' (by simp)
    have ln : (sm.length ≤ (sm.map encE ++ sp).length) = True := by simp
    refine go (And.intro h0 (And.intro h3 (And.intro h4 (And.intro h5 h6)))) ?_
    refine x_callF rfl rfl rfl rfl (sv (And.intro h3 (And.intro hhb (And.intro hx1 (And.intro tk ln))))) g_live (sv (And.intro h3 (And.intro hhb (And.intro hx1 (And.intro tk ln))))) (se (And.intro h3 (And.intro hhb (And.intro hx1 (And.intro tk ln))))) ⟨sm, hsm, rfl, rfl⟩ (by simp) (fun h2 hold => ?_)
    rw [hall]
    have hw : h2 b2 = some ⟨1, wt.map encBo ++ sp2, true⟩ := by
      rw [hold b2 (by
        have r1 : rowsOf h (.loc b 0 sm.length cap) = some (sm.map encE) := by simp [rowsOf, hhb, tk]
        simp only [List.flatMap_cons, List.flatMap_nil, touch_loc (fun a v hv => by simp only [encE, List.mem_cons, List.not_mem_nil, or_false] at hv; rcases hv with rfl | rfl | rfl | rfl | rfl | rfl | rfl | rfl | rfl | rfl | rfl | rfl | rfl | rfl | rfl | rfl | rfl | rfl <;> simp [deepc]) r1]
        simp; omega)]
      exact hhb2
    clear hold hhb hhb2 hall hx1 tk ln
    have hwl : wt.length ≤ es.length := by omega
    refine go (And.intro h4 hw) ?_
    refine x_loop (fun σ => ∃ (i : Nat), σ.t 4 = .loc b2 0 wt.length cap2 ∧ σ.t 7 = .sl (wt.map encBo) ∧ σ.t 8 = .s (.int .i64 i) ∧ σ.h b2 = some ⟨1, wt.map encBo ++ sp2, true⟩ ∧ b2 < σ.n ∧ i ≤ wt.length) (fun σ => wt.length - ix (σ.t 8)) ⟨0, (by first | assumption | exact sxa trivial), (by first | assumption | exact sxa trivial), (by first | assumption | exact sxa trivial), (by first | assumption | exact sxa trivial), (by first | omega | (dsimp only; omega) | exact soa trivial | omega | (simp; done)), (by first | rfl | omega | assumption | (simp [*]; done))⟩ ?_
    rintro t2 g2 n2 ⟨i, h4, h7, h8, hhb2, hn1, hf0⟩
    simp only at h4 h7 h8 hhb2 hn1
    refine go (And.intro h4 (And.intro h7 h8)) ?_
    refine x_condP (sv (And.intro h4 (And.intro h7 h8))) (fun hc => ?_) (fun hc => ?_)
    · have hi : i < wt.length := by omega
      have hrow : ((wt.map encBo).getD i []) = [.s (.bool wt[i])] := getD_map _ _ _ hi
      have hrow2 : ((wt.map encBo ++ sp2).getD i []) = [.s (.bool wt[i])] := by
        rw [List.getD_eq_getElem?_getD, List.getElem?_append_left (by simpa using hi), ← List.getD_eq_getElem?_getD]
        exact hrow
      have ln2 : (wt.map encBo ++ sp2).length = wt.length + sp2.length := by simp
      have hil : (i < wt.length + sp2.length) = True := by simp <;> omega
      generalize wt[i] = x at *
      refine go (And.intro h4 (And.intro h7 (And.intro h8 (And.intro hhb2 (And.intro hrw (And.intro hrow (And.intro hrow2 (And.intro ln2 hil)))))))) ?_
      (refine ⟨⟨i + 1, ?_, ?_, ?_, ?_, ?_, ?_⟩, ?_⟩ <;> (first | omega | (dsimp only; omega) | (first | omega | assumption | (simp [*]; done)) | exact sxa @cast_succ | exact soa trivial))
    · have e : i = wt.length := by omega
      subst e
      refine go (And.intro h4 (And.intro h7 h8)) ?_
      refine x_done (x_out (sr @Try.f8.eq_1) (by simp) (by simp) rfl)
end Go.Proofs.Ytahgddfnbjpfiaa
