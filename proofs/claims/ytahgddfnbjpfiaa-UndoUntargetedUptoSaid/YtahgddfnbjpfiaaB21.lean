/- Texts that the law's proof stands on: V51, V41, V52. -/
import Derived.Test.YtahgddfnbjpfiaaB16
import Derived.Test.YtahgddfnbjpfiaaB20
set_option linter.unusedVariables false
set_option linter.unusedSimpArgs false
set_option maxRecDepth 100000
set_option maxHeartbeats 8000000
namespace Go.Proofs.Ytahgddfnbjpfiaa
open Go Go.RowKit Am

abbrev encS (x : ByteArray) : List Am.V := [.s (.string x)]
/-- The names from one place on: what is left to look at, the place, where the name began, the names so far. -/
def nmF (s : ByteArray) : Nat → Nat → Nat → List ByteArray → List ByteArray × Bool
  | 0, _, _, out => (out, true)
  | m + 1, i, fr, out => if (decide ((i : Int) < (s.size : Int)) && !(bAt s i == 44)) = true then nmF s m (i + 1) fr out else
      if authF (s.extract fr i) = false then ([], false) else
      if (decide (0 < out.length) && !Op.bytesLess (out.getLastD ⟨#[]⟩).toList (s.extract fr i).toList) = true then ([], false) else nmF s m (i + 1) (i + 1) (out ++ [s.extract fr i])
def namesF (s : ByteArray) : List ByteArray × Bool := nmF s (s.size + 1) 0 0 []
def namesS : Fspec := fun _ ds r => ∃ s : ByteArray, s.size ≤ 1048576 ∧ ds = [.s (.string s)] ∧ r = .tup [.sl ((namesF s).1.map encS), .s (.bool (namesF s).2)]
theorem okRowsS (l : List ByteArray) : okRows 1 (l.map encS) := okRows_map encS l 1 fun a => ⟨rfl, by simp [encS, cellish]⟩
theorem deepS (l : List ByteArray) : ∀ r ∈ l.map encS, ∀ q ∈ r, deepc q = true := deep_map encS l fun a => by simp [encS, deepc]
theorem encS_rows (v : List ByteArray) : (∀ r ∈ v.map encS, r.length = 1) = True := rows_map _ _ _ fun _ => rfl
theorem snocS (l : List ByteArray) (x : ByteArray) : (l ++ [x]).map encS = l.map encS ++ [encS x] := by simp
theorem lastS {out : List ByteArray} (h : 0 < out.length) (sp : List (List Am.V)) : (out.map encS ++ sp).getD (out.length - 1) [] = [.s (.string (out.getLastD ⟨#[]⟩))] := by
  rw [List.getD_eq_getElem?_getD, List.getElem?_append_left (by simp; omega), List.getElem?_map, List.getElem?_eq_getElem (by omega)]
  rw [List.getLastD_eq_getLast?, List.getLast?_eq_getElem?, List.getElem?_eq_getElem (by omega)]
  rfl
theorem names_sound {plain : TypeId → Bool} {Γ : FuncId → Option Fspec} {Δ : FuncId → Option Pt} (hE : EnvOk ⟨Try.prog, plain, Γ, Δ, fun _ => none, 0⟩) (g_auth : Γ 27 = some authS) : Sound Try.prog 45 namesS := by
  refine sound_of_awp hE Try.func45 rfl (by kernel_rfl) ?_
  rintro Φ ds r ⟨s, hs, rfl, rfl⟩
  refine ⟨by simp [Try.f45], ?_⟩
  unfold st0
  refine W.out (E := ⟨Try.prog, plain, Γ, Δ, Φ, _⟩) ?_
  refine go trivial ?_
  refine x_loop (fun σ => ∃ (i : Nat) (fr : Nat) (b : Nat) (cap : Nat) (out : List ByteArray) (sp : List (List Am.V)), σ.t 0 = .s (.string s) ∧ σ.t 4 = .loc b 0 out.length cap ∧ σ.t 5 = .s (.int .i64 fr) ∧ σ.t 6 = .s (.int .i64 i) ∧ σ.h b = some ⟨1, out.map encS ++ sp, true⟩ ∧ b < σ.n ∧ i ≤ s.size + 1 ∧ fr ≤ i ∧ out.length ≤ cap ∧ cap ≤ out.length + sp.length ∧ out.length ≤ i ∧ nmF s (s.size + 1 - i) i fr out = namesF s) (fun σ => s.size + 1 - ix (σ.t 6)) ⟨0, 0, 0, 0, [], [], (by first | assumption | exact sxa trivial), (by first | assumption | exact sxa trivial), (by first | assumption | exact sxa trivial), (by first | assumption | exact sxa trivial), (by first | assumption | exact sxa trivial), (by first | omega | (dsimp only; omega) | exact soa trivial | omega | (simp; done)), (by first | rfl | omega | assumption | (simp [*]; done)), (by first | rfl | omega | assumption | (simp [*]; done)), (by first | rfl | omega | assumption | (simp [*]; done)), (by first | rfl | omega | assumption | (simp [*]; done)), (by first | rfl | omega | assumption | (simp [*]; done)), (by first | rfl | omega | assumption | (simp [*]; done))⟩ ?_
  rintro t h n ⟨i, fr, b, cap, out, sp, h0, h4, h5, h6, hhb, hn1, hf0, hf1, hf2, hf3, hf4, hf5⟩
  simp only at h0 h4 h5 h6 hhb hn1
  refine go (And.intro h0 (And.intro h4 (And.intro h5 h6))) ?_
  refine x_condP (sv (And.intro h0 (And.intro h4 (And.intro h5 h6)))) (fun hc => ?_) (fun hc => ?_)
  · have hi : i ≤ s.size := by omega
    obtain ⟨m, hm⟩ : ∃ m, s.size + 1 - i = m + 1 := ⟨s.size - i, by omega⟩
    rw [hm, nmF] at hf5
    have hm2 : s.size + 1 - (i + 1) = m := by omega
    have eb : ((byteAt s i).toNat : Int) = bAt s i := rfl
    have e1 : (b = n) = False := by simp <;> omega
    have e2 : (b = n + 1) = False := by simp <;> omega
    have e3 : (n = b) = False := by simp <;> omega
    have hl : ∀ x : ByteArray, (out ++ [x]).length = out.length + 1 := fun x => by simp
    have hgo : nmF s m (i + 1) (i + 1) (out ++ [s.extract fr i]) = namesF s → nmF s (s.size + 1 - (i + 1)) (i + 1) (i + 1) (out ++ [s.extract fr i]) = namesF s := fun h => by rw [hm2]; exact h
    by_cases c0 : (decide ((i : Int) < (s.size : Int)) && !(bAt s i == 44)) = true
    · rw [if_pos c0] at hf5
      rw [Bool.and_eq_true, decide_eq_true_eq] at c0
      obtain ⟨c1, c2⟩ := c0
      have c3 : (bAt s i != 44) = true := by simpa [bne] using c2
      have hz : nmF s (s.size + 1 - (i + 1)) (i + 1) fr out = namesF s := by rw [hm2]; exact hf5
      clear hf5
      refine go (And.intro h0 (And.intro h4 (And.intro h5 (And.intro h6 (And.intro c1 (And.intro eb c3)))))) ?_
      (refine ⟨⟨i + 1, fr, b, cap, out, sp, ?_, ?_, ?_, ?_, ?_, ?_, ?_, ?_, ?_, ?_, ?_, ?_⟩, ?_⟩ <;> (first | omega | (dsimp only; omega) | (first | omega | assumption | (simp [*]; done)) | exact sxa @cast_succ | exact soa trivial))
    · rw [if_neg c0] at hf5
      by_cases c1 : (i : Int) < (s.size : Int)
      · have c3 : (bAt s i != 44) = false := by simpa [bne, c1] using c0
        have hsz : fr ≤ i ∧ i ≤ s.size := ⟨by omega, hi⟩
        obtain ⟨x, hx⟩ : ∃ x, x = s.extract fr i := ⟨_, rfl⟩
        have hxs : x.size ≤ 1048576 := by rw [hx, ByteArray.size_extract]; omega
        rw [← hx] at hf5 hgo
        refine go (And.intro h0 (And.intro h4 (And.intro h5 (And.intro h6 (And.intro eb (And.intro c1 (And.intro c3 (And.intro hsz (hx).symm)))))))) ?_
        refine x_callN rfl rfl rfl rfl (sv trivial) g_auth (sv trivial) (se trivial) ⟨x, by omega, rfl, rfl⟩ rfl ?_
        cases c4 : authF x
        · rw [c4, if_pos rfl] at hf5
          refine go (And.intro h0 (And.intro h4 (And.intro h5 (And.intro h6 (And.intro eb (And.intro c1 (And.intro c3 (hx).symm))))))) ?_
          rw [← hf5]
          refine x_done (x_outT (sr @Try.f45.eq_1) (se trivial))
        · rw [c4, if_neg (by decide)] at hf5
          by_cases c5 : 0 < out.length
          · have c5' : (0 : Int) < (out.length : Int) := by omega
            have ej : (out.length : Int) - 1 = ((out.length - 1 : Nat) : Int) := by omega
            have hlast := lastS c5 sp
            generalize out.getLastD ⟨#[]⟩ = y at *
            have hb1 : (out.length - 1 < (out.map encS ++ sp).length) = True := by simp; omega
            cases c6 : Op.bytesLess y.toList x.toList
            · rw [c6, if_pos (by simp [c5])] at hf5
              refine go (And.intro h0 (And.intro h4 (And.intro h5 (And.intro h6 (And.intro hhb (And.intro eb (And.intro c1 (And.intro c3 (And.intro (hx).symm (And.intro c5' (And.intro ej (And.intro hlast (And.intro hb1 c6))))))))))))) ?_
              rw [← hf5]
              refine x_done (x_outT (sr @Try.f45.eq_1) (se trivial))
            · rw [c6, if_neg (by simp)] at hf5
              have hfin := hgo hf5
              clear hf5 hgo
              refine go (And.intro h0 (And.intro h4 (And.intro h5 (And.intro h6 (And.intro hhb (And.intro eb (And.intro c1 (And.intro c3 (And.intro (hx).symm (And.intro c5' (And.intro ej (And.intro hlast (And.intro hb1 c6))))))))))))) ?_
              refine x_appendO rfl rfl rfl rfl rfl rfl (sv (And.intro h4 (And.intro hhb (And.intro @encS.eq_1 (And.intro e1 (And.intro e2 e3)))))) (by decide) (sc (And.intro h4 (And.intro hhb (And.intro @encS.eq_1 (And.intro e1 (And.intro e2 e3)))))) (sv (And.intro h4 (And.intro hhb (And.intro @encS.eq_1 (And.intro e1 (And.intro e2 e3)))))) (sx (And.intro h4 (And.intro hhb (And.intro @encS.eq_1 (And.intro e1 (And.intro e2 e3)))))) (by first | rfl | (simp; done) | (simp [spare_len]; omega)) (by first | omega | (simp; done) | (simp [spare_len]; omega)) (by first | omega | (simp; done) | (simp [spare_len]; omega)) (sx (And.intro h4 (And.intro hhb (And.intro @encS.eq_1 (And.intro e1 (And.intro e2 e3)))))) (okRowsS [x]) (by first | omega | (simp; done) | (simp [spare_len]; omega)) (fun cap' hcap' => ?_)
              refine go (And.intro h0 (And.intro h4 (And.intro h5 (And.intro h6 (And.intro hhb (And.intro @encS.eq_1 (And.intro e1 (And.intro e2 e3)))))))) ?_
              have hc2 : out.length + 1 ≤ cap' := hcap'
              have hs1 := spare_len 1 (cap' - (out.length + 1))
              (refine ⟨⟨i + 1, i + 1, n + 1, cap', out ++ [x], spare 1 (cap' - (out.length + 1)), ?_, ?_, ?_, ?_, ?_, ?_, ?_, ?_, ?_, ?_, ?_, ?_⟩, ?_⟩ <;> (first | omega | (dsimp only; omega) | (first | omega | assumption | (simp [*]; done)) | exact sxa (And.intro @cast_succ (And.intro @encS.eq_1 (And.intro hl (And.intro @snocS (And.intro e1 (And.intro e2 e3)))))) | exact soa trivial))
          · have c5' : ¬ (0 : Int) < (out.length : Int) := by omega
            rw [if_neg (by simp [c5])] at hf5
            have hfin := hgo hf5
            clear hf5 hgo
            refine go (And.intro h0 (And.intro h4 (And.intro h5 (And.intro h6 (And.intro hhb (And.intro eb (And.intro c1 (And.intro c3 (And.intro (hx).symm c5'))))))))) ?_
            refine x_appendO rfl rfl rfl rfl rfl rfl (sv (And.intro h4 (And.intro hhb (And.intro @encS.eq_1 (And.intro e1 (And.intro e2 e3)))))) (by decide) (sc (And.intro h4 (And.intro hhb (And.intro @encS.eq_1 (And.intro e1 (And.intro e2 e3)))))) (sv (And.intro h4 (And.intro hhb (And.intro @encS.eq_1 (And.intro e1 (And.intro e2 e3)))))) (sx (And.intro h4 (And.intro hhb (And.intro @encS.eq_1 (And.intro e1 (And.intro e2 e3)))))) (by first | rfl | (simp; done) | (simp [spare_len]; omega)) (by first | omega | (simp; done) | (simp [spare_len]; omega)) (by first | omega | (simp; done) | (simp [spare_len]; omega)) (sx (And.intro h4 (And.intro hhb (And.intro @encS.eq_1 (And.intro e1 (And.intro e2 e3)))))) (okRowsS [x]) (by first | omega | (simp; done) | (simp [spare_len]; omega)) (fun cap' hcap' => ?_)
            refine go (And.intro h0 (And.intro h4 (And.intro h5 (And.intro h6 (And.intro hhb (And.intro @encS.eq_1 (And.intro e1 (And.intro e2 e3)))))))) ?_
            have hc2 : out.length + 1 ≤ cap' := hcap'
            have hs1 := spare_len 1 (cap' - (out.length + 1))
            (refine ⟨⟨i + 1, i + 1, n + 1, cap', out ++ [x], spare 1 (cap' - (out.length + 1)), ?_, ?_, ?_, ?_, ?_, ?_, ?_, ?_, ?_, ?_, ?_, ?_⟩, ?_⟩ <;> (first | omega | (dsimp only; omega) | (first | omega | assumption | (simp [*]; done)) | exact sxa (And.intro @cast_succ (And.intro @encS.eq_1 (And.intro hl (And.intro @snocS (And.intro e1 (And.intro e2 e3)))))) | exact soa trivial))
      · skip
        have hsz : fr ≤ i ∧ i ≤ s.size := ⟨by omega, hi⟩
        obtain ⟨x, hx⟩ : ∃ x, x = s.extract fr i := ⟨_, rfl⟩
        have hxs : x.size ≤ 1048576 := by rw [hx, ByteArray.size_extract]; omega
        rw [← hx] at hf5 hgo
        refine go (And.intro h0 (And.intro h4 (And.intro h5 (And.intro h6 (And.intro eb (And.intro c1 (And.intro hsz (hx).symm))))))) ?_
        refine x_callN rfl rfl rfl rfl (sv trivial) g_auth (sv trivial) (se trivial) ⟨x, by omega, rfl, rfl⟩ rfl ?_
        cases c4 : authF x
        · rw [c4, if_pos rfl] at hf5
          refine go (And.intro h0 (And.intro h4 (And.intro h5 (And.intro h6 (And.intro eb (And.intro c1 (hx).symm)))))) ?_
          rw [← hf5]
          refine x_done (x_outT (sr @Try.f45.eq_1) (se trivial))
        · rw [c4, if_neg (by decide)] at hf5
          by_cases c5 : 0 < out.length
          · have c5' : (0 : Int) < (out.length : Int) := by omega
            have ej : (out.length : Int) - 1 = ((out.length - 1 : Nat) : Int) := by omega
            have hlast := lastS c5 sp
            generalize out.getLastD ⟨#[]⟩ = y at *
            have hb1 : (out.length - 1 < (out.map encS ++ sp).length) = True := by simp; omega
            cases c6 : Op.bytesLess y.toList x.toList
            · rw [c6, if_pos (by simp [c5])] at hf5
              refine go (And.intro h0 (And.intro h4 (And.intro h5 (And.intro h6 (And.intro hhb (And.intro eb (And.intro c1 (And.intro (hx).symm (And.intro c5' (And.intro ej (And.intro hlast (And.intro hb1 c6)))))))))))) ?_
              rw [← hf5]
              refine x_done (x_outT (sr @Try.f45.eq_1) (se trivial))
            · rw [c6, if_neg (by simp)] at hf5
              have hfin := hgo hf5
              clear hf5 hgo
              refine go (And.intro h0 (And.intro h4 (And.intro h5 (And.intro h6 (And.intro hhb (And.intro eb (And.intro c1 (And.intro (hx).symm (And.intro c5' (And.intro ej (And.intro hlast (And.intro hb1 c6)))))))))))) ?_
              refine x_appendO rfl rfl rfl rfl rfl rfl (sv (And.intro h4 (And.intro hhb (And.intro @encS.eq_1 (And.intro e1 (And.intro e2 e3)))))) (by decide) (sc (And.intro h4 (And.intro hhb (And.intro @encS.eq_1 (And.intro e1 (And.intro e2 e3)))))) (sv (And.intro h4 (And.intro hhb (And.intro @encS.eq_1 (And.intro e1 (And.intro e2 e3)))))) (sx (And.intro h4 (And.intro hhb (And.intro @encS.eq_1 (And.intro e1 (And.intro e2 e3)))))) (by first | rfl | (simp; done) | (simp [spare_len]; omega)) (by first | omega | (simp; done) | (simp [spare_len]; omega)) (by first | omega | (simp; done) | (simp [spare_len]; omega)) (sx (And.intro h4 (And.intro hhb (And.intro @encS.eq_1 (And.intro e1 (And.intro e2 e3)))))) (okRowsS [x]) (by first | omega | (simp; done) | (simp [spare_len]; omega)) (fun cap' hcap' => ?_)
              refine go (And.intro h0 (And.intro h4 (And.intro h5 (And.intro h6 (And.intro hhb (And.intro @encS.eq_1 (And.intro e1 (And.intro e2 e3)))))))) ?_
              have hc2 : out.length + 1 ≤ cap' := hcap'
              have hs1 := spare_len 1 (cap' - (out.length + 1))
              (refine ⟨⟨i + 1, i + 1, n + 1, cap', out ++ [x], spare 1 (cap' - (out.length + 1)), ?_, ?_, ?_, ?_, ?_, ?_, ?_, ?_, ?_, ?_, ?_, ?_⟩, ?_⟩ <;> (first | omega | (dsimp only; omega) | (first | omega | assumption | (simp [*]; done)) | exact sxa (And.intro @cast_succ (And.intro @encS.eq_1 (And.intro hl (And.intro @snocS (And.intro e1 (And.intro e2 e3)))))) | exact soa trivial))
          · have c5' : ¬ (0 : Int) < (out.length : Int) := by omega
            rw [if_neg (by simp [c5])] at hf5
            have hfin := hgo hf5
            clear hf5 hgo
            refine go (And.intro h0 (And.intro h4 (And.intro h5 (And.intro h6 (And.intro hhb (And.intro eb (And.intro c1 (And.intro (hx).symm c5')))))))) ?_
            refine x_appendO rfl rfl rfl rfl rfl rfl (sv (And.intro h4 (And.intro hhb (And.intro @encS.eq_1 (And.intro e1 (And.intro e2 e3)))))) (by decide) (sc (And.intro h4 (And.intro hhb (And.intro @encS.eq_1 (And.intro e1 (And.intro e2 e3)))))) (sv (And.intro h4 (And.intro hhb (And.intro @encS.eq_1 (And.intro e1 (And.intro e2 e3)))))) (sx (And.intro h4 (And.intro hhb (And.intro @encS.eq_1 (And.intro e1 (And.intro e2 e3)))))) (by first | rfl | (simp; done) | (simp [spare_len]; omega)) (by first | omega | (simp; done) | (simp [spare_len]; omega)) (by first | omega | (simp; done) | (simp [spare_len]; omega)) (sx (And.intro h4 (And.intro hhb (And.intro @encS.eq_1 (And.intro e1 (And.intro e2 e3)))))) (okRowsS [x]) (by first | omega | (simp; done) | (simp [spare_len]; omega)) (fun cap' hcap' => ?_)
            refine go (And.intro h0 (And.intro h4 (And.intro h5 (And.intro h6 (And.intro hhb (And.intro @encS.eq_1 (And.intro e1 (And.intro e2 e3)))))))) ?_
            have hc2 : out.length + 1 ≤ cap' := hcap'
            have hs1 := spare_len 1 (cap' - (out.length + 1))
            (refine ⟨⟨i + 1, i + 1, n + 1, cap', out ++ [x], spare 1 (cap' - (out.length + 1)), ?_, ?_, ?_, ?_, ?_, ?_, ?_, ?_, ?_, ?_, ?_, ?_⟩, ?_⟩ <;> (first | omega | (dsimp only; omega) | (first | omega | assumption | (simp [*]; done)) | exact sxa (And.intro @cast_succ (And.intro @encS.eq_1 (And.intro hl (And.intro @snocS (And.intro e1 (And.intro e2 e3)))))) | exact soa trivial))
  · have e : i = s.size + 1 := by omega
    subst e
    rw [Nat.sub_self, nmF] at hf5
    rw [← hf5]
    have tk : (out.map encS ++ sp).take out.length = out.map encS := List.take_left' (by simp)
    have ln : (out.length ≤ (out.map encS ++ sp).length) = True := by simp
    have hx1 : ∀ h d, allO (allO (expo h d)) (out.map encS) = some (out.map encS) := fun h d => allO_rows h d (deepS out)
    refine go (And.intro h0 (And.intro h4 (And.intro h5 h6))) ?_
    refine x_done (x_outT (sr (And.intro @Try.f45.eq_1 h4)) (se (And.intro hhb (And.intro tk (And.intro ln hx1)))))
end Go.Proofs.Ytahgddfnbjpfiaa

set_option linter.unusedVariables false
set_option linter.unusedSimpArgs false
set_option maxRecDepth 100000
set_option maxHeartbeats 8000000
namespace Go.Proofs.Ytahgddfnbjpfiaa
open Go Go.RowKit Am

theorem encE_rows (v : List Edt) : (∀ r ∈ v.map encE, r.length = 18) = True := rows_map _ _ _ fun _ => rfl
theorem okRowsE (l : List Edt) : okRows 18 (l.map encE) := okRows_map encE l 18 fun a => ⟨rfl, by simp [encE, cellish]⟩
/-- Is an undo effective on an edit? -/
def undF (u e : Edt) : Bool := (u.id.a.toList == e.id.a.toList) && decide (1 ≤ e.kind) && decide (e.kind ≤ 4) && contF u.deps e.id && decide (u.floor < e.clock)
def undS : Fspec := fun _ ds r => ∃ u e : Edt, u.deps.length ≤ 1099511627776 ∧ ds = [.agg (encE u), .agg (encE e)] ∧ r = .s (.bool (undF u e))
theorem und_sound {plain : TypeId → Bool} {Γ : FuncId → Option Fspec} {Δ : FuncId → Option Pt} (hE : EnvOk ⟨Try.prog, plain, Γ, Δ, fun _ => none, 0⟩) (g_cont : Γ 34 = some contS) : Sound Try.prog 22 undS := by
  refine sound_of_awp hE Try.func22 rfl (by kernel_rfl) ?_
  rintro Φ ds r ⟨u, e, hd, rfl, rfl⟩
  refine ⟨by simp [Try.f22], ?_⟩
  unfold st0 encE
  refine W.out (E := ⟨Try.prog, plain, Γ, Δ, Φ, _⟩) ?_
  cases h1 : (u.id.a.toList == e.id.a.toList)
  · have hz : undF u e = false := by simp [undF, h1]
    refine go h1 ?_
    refine x_done (x_out (sr (And.intro @Try.f22.eq_1 hz)) (by simp) (by simp) rfl)
  by_cases h2 : 1 ≤ e.kind
  · by_cases h3 : e.kind ≤ 4
    · refine go (And.intro h1 (And.intro h2 h3)) ?_
      refine x_callN rfl rfl rfl rfl (sv (And.intro h1 (And.intro h2 h3))) g_cont (sv (And.intro h1 (And.intro h2 h3))) (se (And.intro h1 (And.intro h2 h3))) ⟨u.deps, e.id, hd, rfl, rfl⟩ rfl ?_
      cases h4 : contF u.deps e.id
      · have hz : undF u e = false := by simp [undF, h4]
        refine go (And.intro h1 (And.intro h2 (And.intro h3 h4))) ?_
        refine x_done (x_out (sr (And.intro @Try.f22.eq_1 hz)) (by simp) (by simp) rfl)
      · have hz : undF u e = decide (u.floor < e.clock) := by simp [undF, h1, h2, h3, h4]
        refine go (And.intro h1 (And.intro h2 (And.intro h3 h4))) ?_
        refine x_done (x_out (sr (And.intro @Try.f22.eq_1 hz)) (by simp) (by simp) rfl)
    · have hz : undF u e = false := by simp [undF, h3]
      refine go (And.intro h1 (And.intro h2 h3)) ?_
      refine x_done (x_out (sr (And.intro @Try.f22.eq_1 hz)) (by simp) (by simp) rfl)
  · have hz : undF u e = false := by simp [undF, h2]
    refine go (And.intro h1 h2) ?_
    refine x_done (x_out (sr (And.intro @Try.f22.eq_1 hz)) (by simp) (by simp) rfl)
def und1S : Fspec := fun _ ds r => ∃ u e : Edt, u.deps.length ≤ 1099511627776 ∧ ds = [.agg (encE u), .pc (encE e)] ∧ r = .s (.bool (undF u e))
theorem und1_sound {plain : TypeId → Bool} {Γ : FuncId → Option Fspec} {Δ : FuncId → Option Pt} (hE : EnvOk ⟨Try.prog, plain, Γ, Δ, fun _ => none, 0⟩) (g_und : Γ 22 = some undS) : Sound Try.prog 21 und1S := by
  refine sound_of_awp hE Try.func21 rfl (by kernel_rfl) ?_
  rintro Φ ds r ⟨u, e, hd, rfl, rfl⟩
  refine ⟨by simp [Try.f21], ?_⟩
  unfold st0 encE
  refine W.out (E := ⟨Try.prog, plain, Γ, Δ, Φ, _⟩) ?_
  refine go trivial ?_
  refine x_callN rfl rfl rfl rfl (sv @encE.eq_1) g_und (sv @encE.eq_1) (se @encE.eq_1) ⟨u, e, hd, rfl, rfl⟩ rfl ?_
  refine go trivial ?_
  refine x_done (x_out (sr @Try.f21.eq_1) (by simp) (by simp) rfl)
def idxF {α : Type} (p : α → Bool) : List α → Nat → Int
  | [], _ => -1
  | x :: l, k => if p x then (k : Int) else idxF p l (k + 1)
theorem idx_any {α : Type} (p : α → Bool) : ∀ (l : List α) (k : Nat), decide (0 ≤ idxF p l k) = l.any p
  | [], k => by simp [idxF]
  | x :: l, k => by
    rw [idxF, List.any_cons]
    cases hp : p x
    · simp only [Bool.false_eq_true, if_false, Bool.false_or]; exact idx_any p l (k + 1)
    · simp
def idxS {α : Type} (enc : α → List V) : Fspec := fun Φ ds r => ∃ (v : List α) (p : α → Bool) (S : List V → Value → Prop), v.length ≤ 1099511627776 ∧ ds = [.sl (v.map enc), .fv 1] ∧ Φ 1 = some S ∧ (∀ x ∈ v, S [.agg (enc x)] (.bool (p x))) ∧ r = .s (.int .i64 (idxF p v 0))
theorem idx_sound {plain : TypeId → Bool} {Γ : FuncId → Option Fspec} {Δ : FuncId → Option Pt} (hE : EnvOk ⟨Try.prog, plain, Γ, Δ, fun _ => none, 0⟩) : Sound Try.prog 33 (idxS encE) := by
  refine sound_of_awp hE Try.func33 rfl (by kernel_rfl) ?_
  rintro Φ ds r ⟨v, p, S, hv, rfl, hS, hp, rfl⟩
  refine ⟨by simp [Try.f33], ?_⟩
  unfold st0
  refine W.out (E := ⟨Try.prog, plain, Γ, Δ, Φ, _⟩) ?_
  have hr := encE_rows v
  refine go trivial ?_
  refine x_loop (fun σ => ∃ (i : Nat), σ.t 0 = .sl (v.map encE) ∧ σ.t 1 = .fv 1 ∧ σ.t 7 = .s (.int .i64 v.length) ∧ σ.t 8 = .s (.int .i64 i) ∧ i ≤ v.length ∧ idxF p (v.drop i) i = idxF p v 0) (fun σ => v.length - ix (σ.t 8)) ⟨0, (by first | assumption | exact sxa trivial), (by first | assumption | exact sxa trivial), (by first | assumption | exact sxa trivial), (by first | assumption | exact sxa trivial), (by first | rfl | omega | assumption | (simp [*]; done)), (by first | rfl | omega | assumption | (simp [*]; done))⟩ ?_
  rintro t h n ⟨i, h0, h1, h7, h8, hf0, hf1⟩
  simp only at h0 h1 h7 h8
  refine go (And.intro h0 (And.intro h1 (And.intro h7 h8))) ?_
  refine x_condP (sv (And.intro h0 (And.intro h1 (And.intro h7 h8)))) (fun hc => ?_) (fun hc => ?_)
  · have hi' : i < v.length := by omega
    rw [List.drop_eq_getElem_cons hi', idxF] at hf1
    refine go (And.intro h0 (And.intro h1 (And.intro h7 (And.intro h8 (And.intro hr @encE.eq_1))))) ?_
    refine x_callV rfl rfl rfl rfl (sv @encE.eq_1) hS (sv @encE.eq_1) (se @encE.eq_1) rfl (hp _ (List.getElem_mem hi')) ?_
    cases hb : p v[i]
    · rw [hb] at hf1
      refine go (And.intro h0 (And.intro h1 (And.intro h7 (And.intro h8 (And.intro hr (And.intro @encE.eq_1 hb)))))) ?_
      (refine ⟨⟨i + 1, ?_, ?_, ?_, ?_, ?_, ?_⟩, ?_⟩ <;> (first | omega | (dsimp only; omega) | ((simpa using hf1)) | exact sxa @cast_succ | exact soa trivial))
    · rw [hb] at hf1
      have hf' : idxF p v 0 = i := by rw [← hf1]; rfl
      refine go (And.intro h0 (And.intro h1 (And.intro h7 (And.intro h8 (And.intro hr (And.intro @encE.eq_1 hb)))))) ?_
      refine x_done (x_out (sr (And.intro @Try.f33.eq_1 hf')) (by simp) (by simp) rfl)
  · have e : i = v.length := by omega
    subst e
    rw [List.drop_length] at hf1
    have hf' : idxF p v 0 = -1 := by rw [← hf1]; rfl
    refine go (And.intro h0 (And.intro h1 (And.intro h7 h8))) ?_
    refine x_done (x_out (sr (And.intro @Try.f33.eq_1 hf')) (by simp) (by simp) rfl)
def cfS {α : Type} (enc : α → List V) : Fspec := fun Φ ds r => ∃ (v : List α) (p : α → Bool) (S : List V → Value → Prop), v.length ≤ 1099511627776 ∧ ds = [.sl (v.map enc), .fv 1] ∧ Φ 1 = some S ∧ (∀ x ∈ v, S [.agg (enc x)] (.bool (p x))) ∧ r = .s (.bool (v.any p))
theorem cf_sound {plain : TypeId → Bool} {Γ : FuncId → Option Fspec} {Δ : FuncId → Option Pt} (hE : EnvOk ⟨Try.prog, plain, Γ, Δ, fun _ => none, 0⟩) (g_idx : Γ 33 = some (idxS encE)) : Sound Try.prog 20 (cfS encE) := by
  refine sound_of_awp hE Try.func20 rfl (by kernel_rfl) ?_
  rintro Φ ds r ⟨v, p, S, hv, rfl, hS, hp, rfl⟩
  refine ⟨by simp [Try.f20], ?_⟩
  unfold st0
  refine W.out (E := ⟨Try.prog, plain, Γ, Δ, Φ, _⟩) ?_
  refine go trivial ?_
  refine x_callN rfl rfl rfl rfl (sv trivial) g_idx (sv trivial) (se trivial) ⟨v, p, S, hv, rfl, (by simp only [phi, List.getElem?_cons_succ, List.getElem?_cons_zero]; exact hS), hp, rfl⟩ rfl ?_
  rw [← idx_any p v 0]
  refine go trivial ?_
  refine x_done (x_out (sr @Try.f20.eq_1) (by simp) (by simp) rfl)
end Go.Proofs.Ytahgddfnbjpfiaa

set_option linter.unusedVariables false
set_option linter.unusedSimpArgs false
set_option maxRecDepth 100000
set_option maxHeartbeats 16000000
namespace Go.Proofs.Ytahgddfnbjpfiaa
open Go Go.RowKit Am

theorem nm_len (s : ByteArray) : ∀ (m i fr : Nat) (out : List ByteArray), (nmF s m i fr out).1.length ≤ out.length + m
  | 0, i, fr, out => by simp [nmF]
  | m + 1, i, fr, out => by
    rw [nmF]
    split
    · have := nm_len s m (i + 1) fr out; omega
    · split
      · simp
      · split
        · simp
        · have := nm_len s m (i + 1) (i + 1) (out ++ [s.extract fr i]); simp at this; omega
theorem names_len (s : ByteArray) : (namesF s).1.length ≤ s.size + 1 := by have := nm_len s (s.size + 1) 0 0 []; simpa [namesF] using this
def votF (a s : ByteArray) : Bool := if (namesF s).1.any (fun x => x.toList == a.toList) then false else (namesF s).2
def votesS : Fspec := fun _ ds r => ∃ a s : ByteArray, s.size ≤ 1048576 ∧ ds = [.s (.string a), .s (.string s)] ∧ r = .s (.bool (votF a s))
theorem votes_sound {plain : TypeId → Bool} {Γ : FuncId → Option Fspec} {Δ : FuncId → Option Pt} (hE : EnvOk ⟨Try.prog, plain, Γ, Δ, fun _ => none, 0⟩) (g_names : Γ 45 = some namesS) : Sound Try.prog 41 votesS := by
  refine sound_of_awp hE Try.func41 rfl (by kernel_rfl) ?_
  rintro Φ ds r ⟨a, s, hs, rfl, rfl⟩
  refine ⟨by simp [Try.f41], ?_⟩
  unfold st0
  refine W.out (E := ⟨Try.prog, plain, Γ, Δ, Φ, _⟩) ?_
  refine go trivial ?_
  refine x_callS rfl rfl rfl rfl (sv trivial) g_names (sv trivial) (se trivial) ⟨s, hs, rfl, rfl⟩ (by simp) (by simp [touchA, touch]) ?_
  have hlen := names_len s
  unfold votF
  generalize hl : (namesF s).1 = l at *
  generalize hok : (namesF s).2 = ok at *
  have hr := encS_rows l
  refine go trivial ?_
  refine x_loop (fun σ => ∃ (i : Nat), σ.t 0 = .s (.string a) ∧ σ.t 5 = .sl (l.map encS) ∧ σ.t 6 = .s (.bool ok) ∧ σ.t 14 = .s (.int .i64 l.length) ∧ σ.t 15 = .s (.int .i64 i) ∧ i ≤ l.length ∧ (l.drop i).any (fun x => x.toList == a.toList) = l.any (fun x => x.toList == a.toList)) (fun σ => l.length - ix (σ.t 15)) ⟨0, (by first | assumption | exact sxa trivial), (by first | assumption | exact sxa trivial), (by first | assumption | exact sxa trivial), (by first | assumption | exact sxa trivial), (by first | assumption | exact sxa trivial), (by first | rfl | omega | assumption | (simp [*]; done)), (by first | rfl | omega | assumption | (simp [*]; done))⟩ ?_
  rintro t h n ⟨i, h0, h5, h6, h14, h15, hf0, hf1⟩
  simp only at h0 h5 h6 h14 h15
  refine go (And.intro h0 (And.intro h5 (And.intro h6 (And.intro h14 h15)))) ?_
  refine x_condP (sv (And.intro h0 (And.intro h5 (And.intro h6 (And.intro h14 h15))))) (fun hc => ?_) (fun hc => ?_)
  · have hi : i < l.length := by omega
    rw [List.drop_eq_getElem_cons hi, List.any_cons] at hf1
    cases c1 : (l[i].toList == a.toList)
    · rw [c1, Bool.false_or] at hf1
      refine go (And.intro h0 (And.intro h5 (And.intro h6 (And.intro h14 (And.intro h15 (And.intro hr c1)))))) ?_
      (refine ⟨⟨i + 1, ?_, ?_, ?_, ?_, ?_, ?_, ?_⟩, ?_⟩ <;> (first | omega | (dsimp only; omega) | (first | omega | assumption | (simp [*]; done)) | exact sxa @cast_succ | exact soa trivial))
    · rw [c1, Bool.true_or] at hf1
      refine go (And.intro h0 (And.intro h5 (And.intro h6 (And.intro h14 (And.intro h15 (And.intro hr c1)))))) ?_
      rw [← hf1]
      refine x_done (x_out (sr @Try.f41.eq_1) (by simp) (by simp) rfl)
  · have e : i = l.length := by omega
    subst e
    rw [List.drop_length] at hf1
    refine go (And.intro h0 (And.intro h5 (And.intro h6 (And.intro h14 h15)))) ?_
    rw [← hf1]
    refine x_done (x_out (sr (And.intro @Try.f41.eq_1 h6)) (by simp) (by simp) rfl)
/-- How far a vector knows an author. -/
def ahdF : List Idt → ByteArray → Int
  | [], _ => 0
  | x :: v, a => if x.a.toList == a.toList then x.n else ahdF v a
def aheadS : Fspec := fun _ ds r => ∃ (v : List Idt) (a : ByteArray), v.length ≤ 1099511627776 ∧ ds = [encIds v, .s (.string a)] ∧ r = .s (.int .i64 (ahdF v a))
theorem ahead_sound {plain : TypeId → Bool} {Γ : FuncId → Option Fspec} {Δ : FuncId → Option Pt} (hE : EnvOk ⟨Try.prog, plain, Γ, Δ, fun _ => none, 0⟩) : Sound Try.prog 29 aheadS := by
  refine sound_of_awp hE Try.func29 rfl (by kernel_rfl) ?_
  rintro Φ ds r ⟨v, a, hv, rfl, rfl⟩
  refine ⟨by simp [Try.f29], ?_⟩
  unfold st0 encIds
  refine W.out (E := ⟨Try.prog, plain, Γ, Δ, Φ, _⟩) ?_
  have hr := encId_rows v
  refine go trivial ?_
  refine x_loop (fun σ => ∃ (i : Nat), σ.t 0 = .sl (v.map encId) ∧ σ.t 1 = .s (.string a) ∧ σ.t 7 = .s (.int .i64 v.length) ∧ σ.t 8 = .s (.int .i64 i) ∧ i ≤ v.length ∧ ahdF (v.drop i) a = ahdF v a) (fun σ => v.length - ix (σ.t 8)) ⟨0, (by first | assumption | exact sxa trivial), (by first | assumption | exact sxa trivial), (by first | assumption | exact sxa trivial), (by first | assumption | exact sxa trivial), (by first | rfl | omega | assumption | (simp [*]; done)), (by first | rfl | omega | assumption | (simp [*]; done))⟩ ?_
  rintro t h n ⟨i, h0, h1, h7, h8, hf0, hf1⟩
  simp only at h0 h1 h7 h8
  refine go (And.intro h0 (And.intro h1 (And.intro h7 h8))) ?_
  refine x_condP (sv (And.intro h0 (And.intro h1 (And.intro h7 h8)))) (fun hc => ?_) (fun hc => ?_)
  · have hi : i < v.length := by omega
    rw [List.drop_eq_getElem_cons hi, ahdF] at hf1
    cases c1 : (v[i].a.toList == a.toList)
    · rw [c1] at hf1
      simp only [Bool.false_eq_true, if_false] at hf1
      refine go (And.intro h0 (And.intro h1 (And.intro h7 (And.intro h8 (And.intro hr (And.intro c1 @encId.eq_1)))))) ?_
      (refine ⟨⟨i + 1, ?_, ?_, ?_, ?_, ?_, ?_⟩, ?_⟩ <;> (first | omega | (dsimp only; omega) | (first | omega | assumption | (simp [*]; done)) | exact sxa @cast_succ | exact soa trivial))
    · rw [c1, if_pos rfl] at hf1
      refine go (And.intro h0 (And.intro h1 (And.intro h7 (And.intro h8 (And.intro hr (And.intro c1 @encId.eq_1)))))) ?_
      rw [← hf1]
      refine x_done (x_out (sr @Try.f29.eq_1) (by simp) (by simp) rfl)
  · have e : i = v.length := by omega
    subst e
    rw [List.drop_length, ahdF] at hf1
    refine go (And.intro h0 (And.intro h1 (And.intro h7 h8))) ?_
    rw [← hf1]
    refine x_done (x_out (sr @Try.f29.eq_1) (by simp) (by simp) rfl)
/-- Is an id the empty one? -/
def zId (x : Idt) : Bool := x.a.toList == (⟨#[]⟩ : ByteArray).toList && x.n == 0
def rsF (k : Int) (node parent pl field value target who : Bool) : Bool :=
  if (k == 1) = true then node && field && target && who else if (k == 2) = true then field && value && target && who else if (k == 3) = true then parent && pl && target && who else
  if (k == 4) = true then node && parent && pl && field && value && who else if (k == 5) = true then node && parent && pl && field && value && target else node && parent && pl && field && value && target && who
def rstF (e : Edt) : Bool := rsF e.kind (zId e.node) (zId e.parent) (e.neg == false && (e.num.toList == (⟨#[]⟩ : ByteArray).toList && e.den.toList == (⟨#[]⟩ : ByteArray).toList)) (e.field.toList == (⟨#[]⟩ : ByteArray).toList) (e.value.toList == (⟨#[]⟩ : ByteArray).toList) (zId e.target) (e.who.toList == (⟨#[]⟩ : ByteArray).toList)
def restS : Fspec := fun _ ds r => ∃ e : Edt, ds = [.agg (encE e)] ∧ r = .s (.bool (rstF e))
theorem rest_sound {plain : TypeId → Bool} {Γ : FuncId → Option Fspec} {Δ : FuncId → Option Pt} (hE : EnvOk ⟨Try.prog, plain, Γ, Δ, fun _ => none, 0⟩) (hpl : plain 29 = true) (hpr : plain 32 = true) : Sound Try.prog 30 restS := by
  refine sound_of_awp hE Try.func30 rfl (by kernel_rfl) ?_
  rintro Φ ds r ⟨e, rfl, rfl⟩
  refine ⟨by simp [Try.f30], ?_⟩
  unfold st0 encE
  refine W.out (E := ⟨Try.prog, plain, Γ, Δ, Φ, _⟩) ?_
  have g1 : (e.node.a.toList == (⟨#[]⟩ : ByteArray).toList && e.node.n == 0) = zId e.node := rfl
  have g2 : (e.parent.a.toList == (⟨#[]⟩ : ByteArray).toList && e.parent.n == 0) = zId e.parent := rfl
  have g3 : (e.target.a.toList == (⟨#[]⟩ : ByteArray).toList && e.target.n == 0) = zId e.target := rfl
  unfold rstF
  refine go (And.intro hpl (And.intro hpr (And.intro g1 (And.intro g2 g3)))) ?_
  generalize zId e.node = node at *
  generalize zId e.parent = parent at *
  generalize zId e.target = target at *
  generalize (e.neg == false && (e.num.toList == (⟨#[]⟩ : ByteArray).toList && e.den.toList == (⟨#[]⟩ : ByteArray).toList)) = pl at *
  generalize (e.field.toList == (⟨#[]⟩ : ByteArray).toList) = field at *
  generalize (e.value.toList == (⟨#[]⟩ : ByteArray).toList) = value at *
  generalize (e.who.toList == (⟨#[]⟩ : ByteArray).toList) = who at *
  generalize e.kind = k at *
  cases k1 : (k == 1)
  rotate_left
  · skip
    cases node
    · have hz : rsF k false parent pl field value target who = false := by simp [rsF, k1]
      refine go k1 ?_
      refine x_done (x_out (sr (And.intro @Try.f30.eq_1 hz)) (by simp) (by simp) rfl)
    cases field
    · have hz : rsF k true parent pl false value target who = false := by simp [rsF, k1]
      refine go k1 ?_
      refine x_done (x_out (sr (And.intro @Try.f30.eq_1 hz)) (by simp) (by simp) rfl)
    cases target
    · have hz : rsF k true parent pl true value false who = false := by simp [rsF, k1]
      refine go k1 ?_
      refine x_done (x_out (sr (And.intro @Try.f30.eq_1 hz)) (by simp) (by simp) rfl)
    have hz : rsF k true parent pl true value true who = who := by simp [rsF, k1]
    refine go k1 ?_
    refine x_done (x_out (sr (And.intro @Try.f30.eq_1 hz)) (by simp) (by simp) rfl)
  cases k2 : (k == 2)
  rotate_left
  · skip
    cases field
    · have hz : rsF k node parent pl false value target who = false := by simp [rsF, k1, k2]
      refine go (And.intro k1 k2) ?_
      refine x_done (x_out (sr (And.intro @Try.f30.eq_1 hz)) (by simp) (by simp) rfl)
    cases value
    · have hz : rsF k node parent pl true false target who = false := by simp [rsF, k1, k2]
      refine go (And.intro k1 k2) ?_
      refine x_done (x_out (sr (And.intro @Try.f30.eq_1 hz)) (by simp) (by simp) rfl)
    cases target
    · have hz : rsF k node parent pl true true false who = false := by simp [rsF, k1, k2]
      refine go (And.intro k1 k2) ?_
      refine x_done (x_out (sr (And.intro @Try.f30.eq_1 hz)) (by simp) (by simp) rfl)
    have hz : rsF k node parent pl true true true who = who := by simp [rsF, k1, k2]
    refine go (And.intro k1 k2) ?_
    refine x_done (x_out (sr (And.intro @Try.f30.eq_1 hz)) (by simp) (by simp) rfl)
  cases k3 : (k == 3)
  rotate_left
  · skip
    cases parent
    · have hz : rsF k node false pl field value target who = false := by simp [rsF, k1, k2, k3]
      refine go (And.intro k1 (And.intro k2 k3)) ?_
      refine x_done (x_out (sr (And.intro @Try.f30.eq_1 hz)) (by simp) (by simp) rfl)
    cases pl
    · have hz : rsF k node true false field value target who = false := by simp [rsF, k1, k2, k3]
      refine go (And.intro k1 (And.intro k2 k3)) ?_
      refine x_done (x_out (sr (And.intro @Try.f30.eq_1 hz)) (by simp) (by simp) rfl)
    cases target
    · have hz : rsF k node true true field value false who = false := by simp [rsF, k1, k2, k3]
      refine go (And.intro k1 (And.intro k2 k3)) ?_
      refine x_done (x_out (sr (And.intro @Try.f30.eq_1 hz)) (by simp) (by simp) rfl)
    have hz : rsF k node true true field value true who = who := by simp [rsF, k1, k2, k3]
    refine go (And.intro k1 (And.intro k2 k3)) ?_
    refine x_done (x_out (sr (And.intro @Try.f30.eq_1 hz)) (by simp) (by simp) rfl)
  cases k4 : (k == 4)
  rotate_left
  · skip
    cases node
    · have hz : rsF k false parent pl field value target who = false := by simp [rsF, k1, k2, k3, k4]
      refine go (And.intro k1 (And.intro k2 (And.intro k3 k4))) ?_
      refine x_done (x_out (sr (And.intro @Try.f30.eq_1 hz)) (by simp) (by simp) rfl)
    cases parent
    · have hz : rsF k true false pl field value target who = false := by simp [rsF, k1, k2, k3, k4]
      refine go (And.intro k1 (And.intro k2 (And.intro k3 k4))) ?_
      refine x_done (x_out (sr (And.intro @Try.f30.eq_1 hz)) (by simp) (by simp) rfl)
    cases pl
    · have hz : rsF k true true false field value target who = false := by simp [rsF, k1, k2, k3, k4]
      refine go (And.intro k1 (And.intro k2 (And.intro k3 k4))) ?_
      refine x_done (x_out (sr (And.intro @Try.f30.eq_1 hz)) (by simp) (by simp) rfl)
    cases field
    · have hz : rsF k true true true false value target who = false := by simp [rsF, k1, k2, k3, k4]
      refine go (And.intro k1 (And.intro k2 (And.intro k3 k4))) ?_
      refine x_done (x_out (sr (And.intro @Try.f30.eq_1 hz)) (by simp) (by simp) rfl)
    cases value
    · have hz : rsF k true true true true false target who = false := by simp [rsF, k1, k2, k3, k4]
      refine go (And.intro k1 (And.intro k2 (And.intro k3 k4))) ?_
      refine x_done (x_out (sr (And.intro @Try.f30.eq_1 hz)) (by simp) (by simp) rfl)
    have hz : rsF k true true true true true target who = who := by simp [rsF, k1, k2, k3, k4]
    refine go (And.intro k1 (And.intro k2 (And.intro k3 k4))) ?_
    refine x_done (x_out (sr (And.intro @Try.f30.eq_1 hz)) (by simp) (by simp) rfl)
  cases k5 : (k == 5)
  rotate_left
  · skip
    cases node
    · have hz : rsF k false parent pl field value target who = false := by simp [rsF, k1, k2, k3, k4, k5]
      refine go (And.intro k1 (And.intro k2 (And.intro k3 (And.intro k4 k5)))) ?_
      refine x_done (x_out (sr (And.intro @Try.f30.eq_1 hz)) (by simp) (by simp) rfl)
    cases parent
    · have hz : rsF k true false pl field value target who = false := by simp [rsF, k1, k2, k3, k4, k5]
      refine go (And.intro k1 (And.intro k2 (And.intro k3 (And.intro k4 k5)))) ?_
      refine x_done (x_out (sr (And.intro @Try.f30.eq_1 hz)) (by simp) (by simp) rfl)
    cases pl
    · have hz : rsF k true true false field value target who = false := by simp [rsF, k1, k2, k3, k4, k5]
      refine go (And.intro k1 (And.intro k2 (And.intro k3 (And.intro k4 k5)))) ?_
      refine x_done (x_out (sr (And.intro @Try.f30.eq_1 hz)) (by simp) (by simp) rfl)
    cases field
    · have hz : rsF k true true true false value target who = false := by simp [rsF, k1, k2, k3, k4, k5]
      refine go (And.intro k1 (And.intro k2 (And.intro k3 (And.intro k4 k5)))) ?_
      refine x_done (x_out (sr (And.intro @Try.f30.eq_1 hz)) (by simp) (by simp) rfl)
    cases value
    · have hz : rsF k true true true true false target who = false := by simp [rsF, k1, k2, k3, k4, k5]
      refine go (And.intro k1 (And.intro k2 (And.intro k3 (And.intro k4 k5)))) ?_
      refine x_done (x_out (sr (And.intro @Try.f30.eq_1 hz)) (by simp) (by simp) rfl)
    have hz : rsF k true true true true true target who = target := by simp [rsF, k1, k2, k3, k4, k5]
    refine go (And.intro k1 (And.intro k2 (And.intro k3 (And.intro k4 k5)))) ?_
    refine x_done (x_out (sr (And.intro @Try.f30.eq_1 hz)) (by simp) (by simp) rfl)
  cases node
  · have hz : rsF k false parent pl field value target who = false := by simp [rsF, k1, k2, k3, k4, k5]
    refine go (And.intro k1 (And.intro k2 (And.intro k3 (And.intro k4 k5)))) ?_
    refine x_done (x_out (sr (And.intro @Try.f30.eq_1 hz)) (by simp) (by simp) rfl)
  cases parent
  · have hz : rsF k true false pl field value target who = false := by simp [rsF, k1, k2, k3, k4, k5]
    refine go (And.intro k1 (And.intro k2 (And.intro k3 (And.intro k4 k5)))) ?_
    refine x_done (x_out (sr (And.intro @Try.f30.eq_1 hz)) (by simp) (by simp) rfl)
  cases pl
  · have hz : rsF k true true false field value target who = false := by simp [rsF, k1, k2, k3, k4, k5]
    refine go (And.intro k1 (And.intro k2 (And.intro k3 (And.intro k4 k5)))) ?_
    refine x_done (x_out (sr (And.intro @Try.f30.eq_1 hz)) (by simp) (by simp) rfl)
  cases field
  · have hz : rsF k true true true false value target who = false := by simp [rsF, k1, k2, k3, k4, k5]
    refine go (And.intro k1 (And.intro k2 (And.intro k3 (And.intro k4 k5)))) ?_
    refine x_done (x_out (sr (And.intro @Try.f30.eq_1 hz)) (by simp) (by simp) rfl)
  cases value
  · have hz : rsF k true true true true false target who = false := by simp [rsF, k1, k2, k3, k4, k5]
    refine go (And.intro k1 (And.intro k2 (And.intro k3 (And.intro k4 k5)))) ?_
    refine x_done (x_out (sr (And.intro @Try.f30.eq_1 hz)) (by simp) (by simp) rfl)
  cases target
  · have hz : rsF k true true true true true false who = false := by simp [rsF, k1, k2, k3, k4, k5]
    refine go (And.intro k1 (And.intro k2 (And.intro k3 (And.intro k4 k5)))) ?_
    refine x_done (x_out (sr (And.intro @Try.f30.eq_1 hz)) (by simp) (by simp) rfl)
  have hz : rsF k true true true true true true who = who := by simp [rsF, k1, k2, k3, k4, k5]
  refine go (And.intro k1 (And.intro k2 (And.intro k3 (And.intro k4 k5)))) ?_
  refine x_done (x_out (sr (And.intro @Try.f30.eq_1 hz)) (by simp) (by simp) rfl)
end Go.Proofs.Ytahgddfnbjpfiaa
