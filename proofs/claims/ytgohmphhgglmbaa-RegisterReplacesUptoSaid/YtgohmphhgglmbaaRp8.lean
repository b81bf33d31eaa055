/- Texts that the law's proof stands on: V44, V38, V27, V28, V29, V33, V39. -/
import Derived.Test.YtgohmphhgglmbaaRp7
import Derived.Test.YtgohmphhgglmbaaRp5
import Derived.Test.YtgohmphhgglmbaaRp6
import Derived.Laws.StructEq
import Derived.Test.YtgohmphhgglmbaaRows
set_option linter.unusedVariables false
set_option linter.unusedSimpArgs false
set_option maxRecDepth 100000
set_option maxHeartbeats 16000000
namespace Go.Proofs.Ytgohmphhgglmbaa
open Go Go.RowKit Am

/-- What of the first places of a list a test keeps. -/
def fp {α : Type} (p : α → Bool) (l : List α) (i : Nat) : List α := (l.take i).filter p
theorem fp_t {α : Type} {p : α → Bool} {l : List α} {i : Nat} (hi : i < l.length) (h : p l[i] = true) : fp p l (i + 1) = fp p l i ++ [l[i]] := by
  rw [fp, List.take_succ_eq_append_getElem hi, List.filter_append]
  simp [fp, h]
theorem fp_f {α : Type} {p : α → Bool} {l : List α} {i : Nat} (hi : i < l.length) (h : p l[i] = false) : fp p l (i + 1) = fp p l i := by
  rw [fp, List.take_succ_eq_append_getElem hi, List.filter_append]
  simp [fp, h]
theorem fp_len {α : Type} (p : α → Bool) (l : List α) : fp p l l.length = l.filter p := by simp [fp]
theorem okRowW (m : Wrt) : okRows 4 [encW m] := okRows_map encW [m] 4 fun a => ⟨rfl, by simp [encW, cellish]⟩
theorem touch_rows (h : Hp) (d : Nat) {α : Type} (f : α → List Am.V) (hf : ∀ a, ∀ v ∈ f a, deepc v = true) (l : List α) : (l.map f).flatMap (fun r => r.flatMap (touch h d)) = [] := by
  rw [List.flatMap_eq_nil_iff]
  intro r hr
  obtain ⟨a, _, rfl⟩ := List.mem_map.1 hr
  rw [List.flatMap_eq_nil_iff]
  exact fun v hv => touch_deep h d (hf a v hv)
theorem touch_loc {h : Hp} {b len cap : Nat} {α : Type} {f : α → List Am.V} (hf : ∀ a, ∀ v ∈ f a, deepc v = true) {l : List α} (hr : rowsOf h (.loc b 0 len cap) = some (l.map f)) : touchA h (.loc b 0 len cap) = [b] := by
  show touch h (1 + 1) (.loc b 0 len cap) = [b]
  rw [touch]
  simp only [hr, touch_rows h 1 f hf l]
def wantP (e : Edt) (m : Wrt) : Bool := !contF e.deps m.id && !idB e m
def rplLawS : Fspec := fun _ ds r => ∃ (l : List Rgs) (e : Edt), smallR 1048576 l ∧ edtOk 1048576 [e] ∧ ds = [.sl (l.map encR), .agg (encE e)] ∧ r = .s (.bool true)
theorem rplLaw_sound {plain : TypeId → Bool} {Γ : FuncId → Option Fspec} {Δ : FuncId → Option Pt} (hE : EnvOk ⟨Try.prog, plain, Γ, Δ, fun _ => none, 0⟩) (hpl : plain 31 = true) (g_alive : Γ 9 = some aliveS) (g_right : Γ 10 = some rightS) (g_fine : Γ 11 = some fineS) (g_same : Γ 12 = some sameS) (g_look : Γ 15 = some lookS) (g_marks : Γ 19 = some marksS) (g_cont : Γ 21 = some contS) (g_app : Γ 13 = some appS) : Sound Try.prog 6 rplLawS := by
  refine sound_of_awp hE Try.func6 rfl (by kernel_rfl) ?_
  rintro Φ ds r ⟨l, e, hl, hes, rfl, rfl⟩
  refine ⟨by simp [Try.f6], ?_⟩
  unfold st0
  refine W.out (E := ⟨Try.prog, plain, Γ, Δ, Φ, _⟩) ?_
  refine go @encE_kind ?_
  refine x_callN rfl rfl rfl rfl (sv trivial) g_alive (sv trivial) (se trivial) ⟨rfl, rfl⟩ rfl ?_
  refine go @encE_kind ?_
  refine x_callN rfl rfl rfl rfl (sv trivial) g_right (sv trivial) (se trivial) ⟨l, hl, rfl, rfl⟩ rfl ?_
  cases hr : (rightF l == 0)
  · refine go (And.intro hr @encE_kind) ?_
    refine x_callF rfl rfl rfl rfl (sv @encE_kind) g_fine (sv @encE_kind) (se @encE_kind) ⟨[e], hes.fine.1, hes.fine.2, rfl, rfl⟩ (by simp) (fun h2 hold => ?_)
    have hb0 : h2 0 = some ⟨18, [encE e], true⟩ := by
      rw [hold 0 (by simp [touchA, touch, upd_at, rowsOf, encE] <;> omega)]
      exact sx @encE_kind
    clear hold
    cases hf : fineF [e]
    · refine go (And.intro hr (And.intro hf (And.intro hb0 @encE_kind))) ?_
      refine x_done (x_out (sr @Try.f6.eq_1) (by simp) (by simp) rfl)
    by_cases hfs : 300 < (e.field.size : Int)
    · refine go (And.intro hr (And.intro hf (And.intro hfs (And.intro hb0 @encE_kind)))) ?_
      refine x_done (x_out (sr @Try.f6.eq_1) (by simp) (by simp) rfl)
    by_cases hvs : 300 < (e.value.size : Int)
    · refine go (And.intro hr (And.intro hf (And.intro hfs (And.intro hvs (And.intro hb0 @encE_kind))))) ?_
      refine x_done (x_out (sr @Try.f6.eq_1) (by simp) (by simp) rfl)
    have hR := right_p hr
    have hF := fine_small hf
    have hde := hF.2 e (by simp)
    have hRs := hR.srt
    have a1 := app_small [e] hR.small
    have hs0 := same_of hR.small (by omega)
    have hs1 := same_of a1 (by simp)
    refine go (And.intro hr (And.intro hf (And.intro hfs (And.intro hvs (And.intro hb0 @encE_kind))))) ?_
    refine x_callF rfl rfl rfl rfl (sv (And.intro @encE_kind hb0)) g_app (sv (And.intro @encE_kind hb0)) (se (And.intro @encE_kind hb0)) ⟨l, [e], hR.small.mono (by omega), by simp, by (intro x hx; simp at hx; subst hx; omega), rfl, rfl⟩ (by simp) (fun h2 hold => ?_)
    have hb1 : h2 0 = some ⟨18, [encE e], true⟩ := by
      rw [hold 0 (by simp [touchA, touch, upd_at, rowsOf, encE] <;> omega)]
      exact sx (And.intro @encE_kind hb0)
    clear hold hb0
    have hX : appF l [e] = stepF l e := rfl
    cases hk : (e.kind == 3)
    · have hk' : (e.kind != 3) = true := by simp [bne, hk]
      have hXl : stepF l e = l := by simp [stepF, hk]
      refine go (And.intro hb1 (And.intro @encE_kind hk')) ?_
      refine x_callN rfl rfl rfl rfl (sv trivial) g_same (sv trivial) (se trivial) ⟨appF l [e], l, hs1.1, hs0.1, hs1.2, hs0.2, rfl, rfl⟩ rfl ?_
      rw [hX, hXl, sameF_refl]
      refine go (And.intro hb1 (And.intro @encE_kind hk')) ?_
      refine x_done (x_out (sr @Try.f6.eq_1) (by simp) (by simp) rfl)
    · have hk' : (e.kind != 3) = false := by simp [bne, hk]
      rw [hX]
      have hown := getF_own hRs e hk
      have hoth : ∀ (y : Idt) (f : ByteArray), tchF e y f = false → getF (stepF l e) y f = getF l y f := fun y f h => getF_step l e y f h
      have hrs : l.length ≤ 28 → (keptF (getF l e.node e.field) e).length ≤ 28 → rightF (stepF l e) = 1 := fun h1 h2 => right_step hR hk h1 h2 (by omega) (by omega)
      rw [hX] at hs1
      have aX : smallR 1048576 (stepF l e) := a1.mono (by simp)
      generalize hXX : stepF l e = X at *
      refine go (And.intro hb1 (And.intro @encE_kind hk')) ?_
      refine x_callS rfl rfl rfl rfl (sv @encId.eq_1) g_look (sv @encId.eq_1) (se @encId.eq_1) ⟨l, e.node, e.field, hs0.1, hs0.2, rfl, rfl⟩ (by simp) (by simp [touchA, touch]) ?_
      generalize hW : getF l e.node e.field = W at *
      have hWl : W.length ≤ 30 := by rw [← hW]; exact getF_len hR.small _ _
      have hrw := encW_rows W
      refine go (And.intro hb1 (And.intro @encE_kind hk')) ?_
      have fl0 : fp (wantP e) W 0 = [] := rfl
      refine x_loopG 6 4 (fun σ => ∃ (i : Nat) (b : Nat) (cap : Nat) (sp : List (List Am.V)), σ.t 0 = .sl (l.map encR) ∧ σ.t 3 = .ptr 0 0 0 ∧ σ.t 5 = .sl (X.map encR) ∧ σ.t 6 = .loc b 0 (fp (wantP e) W i).length cap ∧ σ.t 53 = .sl (W.map encW) ∧ σ.t 54 = .s (.int .i64 W.length) ∧ σ.t 55 = .s (.int .i64 i) ∧ σ.h 0 = some ⟨18, [encE e], true⟩ ∧ σ.h b = some ⟨4, (fp (wantP e) W i).map encW ++ sp, true⟩ ∧ b < σ.n ∧ 0 < b ∧ i ≤ W.length ∧ (fp (wantP e) W i).length ≤ cap ∧ cap ≤ (fp (wantP e) W i).length + sp.length ∧ (fp (wantP e) W i).length ≤ i) (fun σ => W.length - ix (σ.t 55)) (sca trivial) ⟨0, _, 0, [], (by first | assumption | exact sxa trivial), (by first | assumption | exact sxa trivial), (by first | assumption | exact sxa trivial), (by first | assumption | exact sxa trivial), (by first | assumption | exact sxa trivial), (by first | assumption | exact sxa trivial), (by first | assumption | exact sxa trivial), (by first | assumption | exact sxa trivial), (by first | assumption | exact sxa trivial), (by first | omega | (dsimp only; omega) | exact soa trivial | omega | (simp; done)), (by first | omega | (dsimp only; omega) | exact soa trivial | omega | (simp; done)), (by first | rfl | omega | assumption | (simp [*]; done)), (by first | rfl | omega | assumption | (simp [*]; done)), (by first | rfl | omega | assumption | (simp [*]; done)), (by first | rfl | omega | assumption | (simp [*]; done))⟩ ?_
      rintro t h n ⟨i, b, cap, sp, h0, h3, h5, h6, h53, h54, h55, hh0, hhb, hn1, hn2, hf0, hf1, hf2, hf3⟩
      simp only at h0 h3 h5 h6 h53 h54 h55 hh0 hhb hn1 hn2
      refine go (And.intro h0 (And.intro h3 (And.intro h5 (And.intro h53 (And.intro h54 (And.intro h55 h6)))))) ?_
      refine x_condP (sv (And.intro h0 (And.intro h3 (And.intro h5 (And.intro h53 (And.intro h54 (And.intro h55 h6))))))) (fun hc => ?_) (fun hc => ?_)
      · have hi : i < W.length := by omega
        have ft := fp_t (p := wantP e) hi
        have ff := fp_f (p := wantP e) hi
        generalize hmm : W[i] = m at *
        have e1 : (b = n) = False := by simp; omega
        have e2 : (b = n + 1) = False := by simp; omega
        have e3 : (n = b) = False := by simp; omega
        have e4 : (n + 1 = b) = False := by simp; omega
        have e5 : (0 = n) = False := by simp; omega
        have e6 : (0 = n + 1) = False := by simp
        have e7 : (0 = b) = False := by simp; omega
        have e8 : (0 = n + 1 + 1) = False := by simp
        refine go (And.intro h0 (And.intro h3 (And.intro h5 (And.intro h53 (And.intro h54 (And.intro h55 (And.intro h6 (And.intro hh0 (And.intro hhb (And.intro hrw (And.intro hmm (And.intro @encW.eq_1 (And.intro @encE_kind (And.intro e1 (And.intro e2 (And.intro e3 (And.intro e4 (And.intro e5 (And.intro e6 e7))))))))))))))))))) ?_
        refine x_callN rfl rfl rfl rfl (sv (And.intro @encW.eq_1 @encId.eq_1)) g_cont (sv (And.intro @encW.eq_1 @encId.eq_1)) (se (And.intro @encW.eq_1 @encId.eq_1)) ⟨e.deps, m.id, by omega, rfl, rfl⟩ rfl ?_
        cases hc1 : contF e.deps m.id
        · cases hi1 : idB e m
          · have hi2 : ((m.id.a.toList == e.id.a.toList) && (m.id.n == e.id.n)) = false := hi1
            have hfl := ft (by simp [wantP, hc1, hi1])
            have hl2 : (fp (wantP e) W (i + 1)).length = (fp (wantP e) W i).length + 1 := by rw [hfl]; simp
            have hm2 : (fp (wantP e) W (i + 1)).map encW = (fp (wantP e) W i).map encW ++ [encW m] := by rw [hfl]; simp
            clear hfl ft ff
            refine go (And.intro h0 (And.intro h3 (And.intro h5 (And.intro h53 (And.intro h54 (And.intro h55 (And.intro h6 (And.intro hh0 (And.intro hhb (And.intro hrw (And.intro hmm (And.intro @encW.eq_1 (And.intro @encE_kind (And.intro hpl (And.intro hc1 (And.intro hi2 (And.intro e1 (And.intro e2 (And.intro e3 (And.intro e4 (And.intro e5 (And.intro e6 e7)))))))))))))))))))))) ?_
            refine x_appendO rfl rfl rfl rfl rfl rfl (sv (And.intro h6 (And.intro hhb (And.intro @encW.eq_1 (And.intro e1 (And.intro e2 (And.intro e3 (And.intro e4 (And.intro e5 (And.intro e6 e7)))))))))) (by decide) (sc (And.intro h6 (And.intro hhb (And.intro @encW.eq_1 (And.intro e1 (And.intro e2 (And.intro e3 (And.intro e4 (And.intro e5 (And.intro e6 e7)))))))))) (sv (And.intro h6 (And.intro hhb (And.intro @encW.eq_1 (And.intro e1 (And.intro e2 (And.intro e3 (And.intro e4 (And.intro e5 (And.intro e6 e7)))))))))) (sx (And.intro h6 (And.intro hhb (And.intro @encW.eq_1 (And.intro e1 (And.intro e2 (And.intro e3 (And.intro e4 (And.intro e5 (And.intro e6 e7)))))))))) (by first | rfl | (simp; done) | (simp [spare_len]; omega)) (by first | omega | (simp; done) | (simp [spare_len]; omega)) (by first | omega | (simp; done) | (simp [spare_len]; omega)) (sx (And.intro h6 (And.intro hhb (And.intro @encW.eq_1 (And.intro e1 (And.intro e2 (And.intro e3 (And.intro e4 (And.intro e5 (And.intro e6 e7)))))))))) (okRowW m) (by first | omega | (simp; done) | (simp [spare_len]; omega)) (fun cap' hcap' => ?_)
            refine go (And.intro h0 (And.intro h3 (And.intro h5 (And.intro h53 (And.intro h54 (And.intro h55 (And.intro h6 (And.intro hh0 (And.intro hhb (And.intro hrw (And.intro hmm (And.intro @encW.eq_1 (And.intro @encE_kind (And.intro hpl (And.intro hc1 (And.intro hi2 (And.intro e1 (And.intro e2 (And.intro e3 (And.intro e4 (And.intro e5 (And.intro e6 (And.intro e7 e8))))))))))))))))))))))) ?_
            have hc2 : (fp (wantP e) W i).length + 1 ≤ cap' := hcap'
            (refine ⟨⟨i + 1, n + 1 + 1, cap', spare 4 (cap' - ((fp (wantP e) W i).length + 1)), ?_, ?_, ?_, ?_, ?_, ?_, ?_, ?_, ?_, ?_, ?_, ?_, ?_, ?_, ?_⟩, ?_⟩ <;> (first | omega | (dsimp only; omega) | ((simp only [hl2, spare_len]; omega)) | exact sxa (And.intro @cast_succ (And.intro hl2 (And.intro hm2 (And.intro @encW.eq_1 (And.intro e1 (And.intro e2 (And.intro e3 (And.intro e4 (And.intro e5 (And.intro e6 (And.intro e7 e8))))))))))) | exact soa trivial))
          · have hi2 : ((m.id.a.toList == e.id.a.toList) && (m.id.n == e.id.n)) = true := hi1
            have hfl := ff (by simp [wantP, hc1, hi1])
            refine go (And.intro h0 (And.intro h3 (And.intro h5 (And.intro h53 (And.intro h54 (And.intro h55 (And.intro h6 (And.intro hh0 (And.intro hhb (And.intro hrw (And.intro hmm (And.intro @encW.eq_1 (And.intro @encE_kind (And.intro hpl (And.intro hc1 (And.intro hi2 (And.intro e1 (And.intro e2 (And.intro e3 (And.intro e4 (And.intro e5 (And.intro e6 e7)))))))))))))))))))))) ?_
            (refine ⟨⟨i + 1, b, cap, sp, ?_, ?_, ?_, ?_, ?_, ?_, ?_, ?_, ?_, ?_, ?_, ?_, ?_, ?_, ?_⟩, ?_⟩ <;> (first | omega | (dsimp only; omega) | ((simp only [hfl]; omega)) | exact sxa (And.intro @cast_succ (And.intro hfl (And.intro e1 (And.intro e2 (And.intro e5 e7))))) | exact soa trivial))
        · have hfl := ff (by simp [wantP, hc1])
          refine go (And.intro h0 (And.intro h3 (And.intro h5 (And.intro h53 (And.intro h54 (And.intro h55 (And.intro h6 (And.intro hh0 (And.intro hhb (And.intro hrw (And.intro hmm (And.intro @encW.eq_1 (And.intro @encE_kind (And.intro hpl (And.intro hc1 (And.intro e1 (And.intro e2 (And.intro e3 (And.intro e4 (And.intro e5 (And.intro e6 e7))))))))))))))))))))) ?_
          (refine ⟨⟨i + 1, b, cap, sp, ?_, ?_, ?_, ?_, ?_, ?_, ?_, ?_, ?_, ?_, ?_, ?_, ?_, ?_, ?_⟩, ?_⟩ <;> (first | omega | (dsimp only; omega) | ((simp only [hfl]; omega)) | exact sxa (And.intro @cast_succ (And.intro hfl (And.intro e1 (And.intro e2 (And.intro e5 e7))))) | exact soa trivial))
      · have ei : i = W.length := by omega
        subst ei
        have hfk : fp (wantP e) W W.length = keptF W e := by rw [fp_len]; exact kept_want W e
        rw [hfk] at h6 hhb hf1 hf2
        clear hfk
        skip
        refine go (And.intro h0 (And.intro h3 (And.intro h5 (And.intro h53 (And.intro h54 (And.intro h55 (And.intro h6 (And.intro hh0 @encE_kind)))))))) ?_
        refine x_callS rfl rfl rfl rfl (sv @encId.eq_1) g_look (sv @encId.eq_1) (se @encId.eq_1) ⟨X, e.node, e.field, hs1.1, hs1.2, rfl, rfl⟩ (by simp) (by simp [touchA, touch]) ?_
        rw [hown]
        have hVo : ∀ m ∈ wrF W e, idB e m = true → m = mkW e := fun m hm hi => wr_own hm hi
        have hVg : (wrF W e).filter (fun m => !idB e m) = keptF W e := wr_got W e
        have hV1 : ((wrF W e).filter (idB e)).length = 1 := wr_one W e
        have hVl : (wrF W e).length ≤ 31 := by have := wrF_len W e; omega
        generalize hV : wrF W e = V at *
        generalize hK : keptF W e = K at *
        have hrv := encW_rows V
        refine go (And.intro h0 (And.intro h3 (And.intro h5 (And.intro h53 (And.intro h54 (And.intro h55 (And.intro h6 (And.intro hh0 @encE_kind)))))))) ?_
        have fl1 : fp (fun m => !idB e m) V 0 = [] := rfl
        have fl2 : (fp (idB e) V 0).length = 0 := rfl
        clear fl0
        refine x_loopG 9 4 (fun σ => ∃ (i : Nat) (c : Nat) (cap2 : Nat) (sp2 : List (List Am.V)), σ.t 0 = .sl (l.map encR) ∧ σ.t 3 = .ptr 0 0 0 ∧ σ.t 5 = .sl (X.map encR) ∧ σ.t 6 = .loc b 0 K.length cap ∧ σ.t 9 = .loc c 0 (fp (fun m => !idB e m) V i).length cap2 ∧ σ.t 10 = .s (.int .i64 (fp (idB e) V i).length) ∧ σ.t 82 = .sl (V.map encW) ∧ σ.t 83 = .s (.int .i64 V.length) ∧ σ.t 84 = .s (.int .i64 i) ∧ σ.h 0 = some ⟨18, [encE e], true⟩ ∧ σ.h b = some ⟨4, K.map encW ++ sp, true⟩ ∧ σ.h c = some ⟨4, (fp (fun m => !idB e m) V i).map encW ++ sp2, true⟩ ∧ b < σ.n ∧ 0 < b ∧ c < σ.n ∧ b < c ∧ i ≤ V.length ∧ (fp (fun m => !idB e m) V i).length ≤ cap2 ∧ cap2 ≤ (fp (fun m => !idB e m) V i).length + sp2.length ∧ (fp (fun m => !idB e m) V i).length ≤ i ∧ (fp (idB e) V i).length ≤ i) (fun σ => V.length - ix (σ.t 84)) (sca trivial) ⟨0, _, 0, [], (by first | assumption | exact sxa trivial), (by first | assumption | exact sxa trivial), (by first | assumption | exact sxa trivial), (by first | assumption | exact sxa trivial), (by first | assumption | exact sxa trivial), (by first | assumption | exact sxa trivial), (by first | assumption | exact sxa trivial), (by first | assumption | exact sxa trivial), (by first | assumption | exact sxa trivial), (by first | assumption | exact sxa trivial), (by first | assumption | exact sxa trivial), (by first | assumption | exact sxa trivial), (by first | omega | (dsimp only; omega) | exact soa trivial | omega | (simp; done)), (by first | omega | (dsimp only; omega) | exact soa trivial | omega | (simp; done)), (by first | omega | (dsimp only; omega) | exact soa trivial | omega | (simp; done)), (by first | omega | (dsimp only; omega) | exact soa trivial | omega | (simp; done)), (by first | rfl | omega | assumption | (simp [*]; done)), (by first | rfl | omega | assumption | (simp [*]; done)), (by first | rfl | omega | assumption | (simp [*]; done)), (by first | rfl | omega | assumption | (simp [*]; done)), (by first | rfl | omega | assumption | (simp [*]; done))⟩ ?_
        rintro t2 h2 n2 ⟨i, c, cap2, sp2, h0, h3, h5, h6, h9, h10, h82, h83, h84, hh0, hhb, hhc, hn1, hn2, hn3, hn4, hf0, hf1, hf2, hf3, hf4⟩
        simp only at h0 h3 h5 h6 h9 h10 h82 h83 h84 hh0 hhb hhc hn1 hn2 hn3 hn4
        refine go (And.intro h0 (And.intro h3 (And.intro h5 (And.intro h6 (And.intro h9 (And.intro h10 (And.intro h82 (And.intro h83 h84)))))))) ?_
        refine x_condP (sv (And.intro h0 (And.intro h3 (And.intro h5 (And.intro h6 (And.intro h9 (And.intro h10 (And.intro h82 (And.intro h83 h84))))))))) (fun hc => ?_) (fun hc => ?_)
        · have hi : i < V.length := by omega
          have ft := fp_t (p := fun m => !idB e m) hi
          have ff := fp_f (p := fun m => !idB e m) hi
          have gt := fp_t (p := idB e) hi
          have gf := fp_f (p := idB e) hi
          have hmem := hVo _ (List.getElem_mem hi)
          generalize hmm : V[i] = m at *
          have e1 : (b = n2) = False := by simp; omega
          have e2 : (b = n2 + 1) = False := by simp; omega
          have e3 : (n2 = b) = False := by simp; omega
          have e4 : (n2 + 1 = b) = False := by simp; omega
          have e5 : (0 = n2) = False := by simp; omega
          have e6 : (0 = n2 + 1) = False := by simp
          have e7 : (0 = b) = False := by simp; omega
          have e8 : (0 = n2 + 1 + 1) = False := by simp
          have d1 : (c = n2) = False := by simp; omega
          have d2 : (c = n2 + 1) = False := by simp; omega
          have d3 : (n2 = c) = False := by simp; omega
          have d4 : (n2 + 1 = c) = False := by simp; omega
          have d5 : (b = c) = False := by simp; omega
          have d6 : (c = b) = False := by simp; omega
          have d7 : (0 = c) = False := by simp; omega
          have d8 : (b = n2 + 1 + 1) = False := by simp; omega
          cases hi1 : idB e m
          · have hi2 : ((m.id.a.toList == e.id.a.toList) && (m.id.n == e.id.n)) = false := hi1
            have hfl := ft (by simp [hi1])
            have hgl := gf hi1
            have hl2 : (fp (fun m => !idB e m) V (i + 1)).length = (fp (fun m => !idB e m) V i).length + 1 := by rw [hfl]; simp
            have hm2 : (fp (fun m => !idB e m) V (i + 1)).map encW = (fp (fun m => !idB e m) V i).map encW ++ [encW m] := by rw [hfl]; simp
            clear hfl ft ff gt gf
            refine go (And.intro h0 (And.intro h3 (And.intro h5 (And.intro h6 (And.intro h9 (And.intro h10 (And.intro h82 (And.intro h83 (And.intro h84 (And.intro hh0 (And.intro hhb (And.intro hhc (And.intro hrv (And.intro hmm (And.intro @encW.eq_1 (And.intro @encE_kind (And.intro hpl (And.intro hi2 (And.intro e1 (And.intro e2 (And.intro e3 (And.intro e4 (And.intro e5 (And.intro e6 (And.intro e7 (And.intro d1 (And.intro d2 (And.intro d3 (And.intro d4 (And.intro d5 (And.intro d6 d7))))))))))))))))))))))))))))))) ?_
            refine x_appendO rfl rfl rfl rfl rfl rfl (sv (And.intro h9 (And.intro hhc (And.intro @encW.eq_1 (And.intro e1 (And.intro e2 (And.intro e3 (And.intro e4 (And.intro e5 (And.intro e6 (And.intro e7 (And.intro d1 (And.intro d2 (And.intro d3 (And.intro d4 (And.intro d5 (And.intro d6 d7))))))))))))))))) (by decide) (sc (And.intro h9 (And.intro hhc (And.intro @encW.eq_1 (And.intro e1 (And.intro e2 (And.intro e3 (And.intro e4 (And.intro e5 (And.intro e6 (And.intro e7 (And.intro d1 (And.intro d2 (And.intro d3 (And.intro d4 (And.intro d5 (And.intro d6 d7))))))))))))))))) (sv (And.intro h9 (And.intro hhc (And.intro @encW.eq_1 (And.intro e1 (And.intro e2 (And.intro e3 (And.intro e4 (And.intro e5 (And.intro e6 (And.intro e7 (And.intro d1 (And.intro d2 (And.intro d3 (And.intro d4 (And.intro d5 (And.intro d6 d7))))))))))))))))) (sx (And.intro h9 (And.intro hhc (And.intro @encW.eq_1 (And.intro e1 (And.intro e2 (And.intro e3 (And.intro e4 (And.intro e5 (And.intro e6 (And.intro e7 (And.intro d1 (And.intro d2 (And.intro d3 (And.intro d4 (And.intro d5 (And.intro d6 d7))))))))))))))))) (by first | rfl | (simp; done) | (simp [spare_len]; omega)) (by first | omega | (simp; done) | (simp [spare_len]; omega)) (by first | omega | (simp; done) | (simp [spare_len]; omega)) (sx (And.intro h9 (And.intro hhc (And.intro @encW.eq_1 (And.intro e1 (And.intro e2 (And.intro e3 (And.intro e4 (And.intro e5 (And.intro e6 (And.intro e7 (And.intro d1 (And.intro d2 (And.intro d3 (And.intro d4 (And.intro d5 (And.intro d6 d7))))))))))))))))) (okRowW m) (by first | omega | (simp; done) | (simp [spare_len]; omega)) (fun cap' hcap' => ?_)
            refine go (And.intro h0 (And.intro h3 (And.intro h5 (And.intro h6 (And.intro h9 (And.intro h10 (And.intro h82 (And.intro h83 (And.intro h84 (And.intro hh0 (And.intro hhb (And.intro hhc (And.intro hrv (And.intro hmm (And.intro @encW.eq_1 (And.intro @encE_kind (And.intro hpl (And.intro hi2 (And.intro e1 (And.intro e2 (And.intro e3 (And.intro e4 (And.intro e5 (And.intro e6 (And.intro e7 (And.intro e8 (And.intro d1 (And.intro d2 (And.intro d3 (And.intro d4 (And.intro d5 (And.intro d6 (And.intro d7 d8))))))))))))))))))))))))))))))))) ?_
            have hc2 : (fp (fun m => !idB e m) V i).length + 1 ≤ cap' := hcap'
            (refine ⟨⟨i + 1, n2 + 1 + 1, cap', spare 4 (cap' - ((fp (fun m => !idB e m) V i).length + 1)), ?_, ?_, ?_, ?_, ?_, ?_, ?_, ?_, ?_, ?_, ?_, ?_, ?_, ?_, ?_, ?_, ?_, ?_, ?_, ?_, ?_⟩, ?_⟩ <;> (first | omega | (dsimp only; omega) | ((simp only [hl2, hgl, spare_len]; omega)) | exact sxa (And.intro @cast_succ (And.intro hl2 (And.intro hgl (And.intro hm2 (And.intro @encW.eq_1 (And.intro e1 (And.intro e2 (And.intro e3 (And.intro e4 (And.intro e5 (And.intro e6 (And.intro e7 (And.intro e8 (And.intro d1 (And.intro d2 (And.intro d3 (And.intro d4 (And.intro d5 (And.intro d6 (And.intro d7 d8)))))))))))))))))))) | exact soa trivial))
          · have hi2 : ((m.id.a.toList == e.id.a.toList) && (m.id.n == e.id.n)) = true := hi1
            have hfl := ff (by simp [hi1])
            have hgl : (fp (idB e) V (i + 1)).length = (fp (idB e) V i).length + 1 := by rw [gt hi1]; simp
            have hq1 : m.x = e.value := by rw [hmem hi1]; rfl
            have hq2 : m.c = e.clock := by rw [hmem hi1]; rfl
            clear hmem ft ff gt gf
            refine go (And.intro h0 (And.intro h3 (And.intro h5 (And.intro h6 (And.intro h9 (And.intro h10 (And.intro h82 (And.intro h83 (And.intro h84 (And.intro hh0 (And.intro hhb (And.intro hhc (And.intro hrv (And.intro hmm (And.intro @encW.eq_1 (And.intro @encE_kind (And.intro hpl (And.intro hi2 (And.intro hq1 (And.intro hq2 (And.intro e1 (And.intro e2 (And.intro e3 (And.intro e4 (And.intro e5 (And.intro e6 (And.intro e7 (And.intro d1 (And.intro d2 (And.intro d3 (And.intro d4 (And.intro d5 (And.intro d6 d7))))))))))))))))))))))))))))))))) ?_
            (refine ⟨⟨i + 1, c, cap2, sp2, ?_, ?_, ?_, ?_, ?_, ?_, ?_, ?_, ?_, ?_, ?_, ?_, ?_, ?_, ?_, ?_, ?_, ?_, ?_, ?_, ?_⟩, ?_⟩ <;> (first | omega | (dsimp only; omega) | ((simp only [hfl, hgl]; omega)) | exact sxa (And.intro @cast_succ (And.intro hfl (And.intro hgl (And.intro e1 (And.intro e2 (And.intro e5 (And.intro e7 (And.intro d1 (And.intro d2 (And.intro d5 d7)))))))))) | exact soa trivial))
        · have ei : i = V.length := by omega
          subst ei
          have z1 : fp (fun m => !idB e m) V V.length = K := by rw [fp_len]; exact hVg
          have z2 : (fp (idB e) V V.length).length = 1 := by rw [fp_len]; exact hV1
          rw [z1] at h9 hhc hf1 hf2
          have h10 : t2 10 = .s (.int .i64 1) := by rw [h10, z2]; rfl
          clear z1 z2 hVg hV1 hVo
          skip
          have hx1 : ∀ h d, allO (allO (expo h d)) (K.map encW) = some (K.map encW) := fun h d => allO_rows h d (deep_map encW _ (fun a => by simp [encW, deepc]))
          have tk : (K.map encW ++ sp).take K.length = K.map encW := List.take_left' (by simp)
          have tk2 : (K.map encW ++ sp2).take K.length = K.map encW := List.take_left' (by simp)
          have ln : (K.length ≤ (K.map encW ++ sp).length) = True := by simp
          have ln2 : (K.length ≤ (K.map encW ++ sp2).length) = True := by simp
          have d5 : (b = c) = False := by simp; omega
          have d6 : (c = b) = False := by simp; omega
          have hKl : K.length ≤ 30 := by
            have h8 : (keptF W e).length ≤ W.length := List.length_filter_le (fun m => !wr1F e m) W
            rw [hK] at h8
            omega
          refine go (And.intro h0 (And.intro h3 (And.intro h5 (And.intro h6 (And.intro h9 (And.intro h10 (And.intro hh0 (And.intro hhb hhc)))))))) ?_
          have hde : ∀ a : Wrt, ∀ v ∈ encW a, deepc v = true := fun a v hv => by simp [encW] at hv; rcases hv with rfl | rfl | rfl | rfl <;> rfl
          have r1 : rowsOf h2 (.loc b 0 K.length cap) = some (K.map encW) := by simp [rowsOf, hhb, tk]
          have r2 : rowsOf h2 (.loc c 0 K.length cap2) = some (K.map encW) := by simp [rowsOf, hhc, tk2]
          refine x_callF rfl rfl rfl rfl (sv (And.intro h6 (And.intro h9 (And.intro hhb (And.intro hhc (And.intro hx1 (And.intro tk (And.intro tk2 (And.intro ln (And.intro ln2 (And.intro d5 d6))))))))))) g_marks (sv (And.intro h6 (And.intro h9 (And.intro hhb (And.intro hhc (And.intro hx1 (And.intro tk (And.intro tk2 (And.intro ln (And.intro ln2 (And.intro d5 d6))))))))))) (se (And.intro h6 (And.intro h9 (And.intro hhb (And.intro hhc (And.intro hx1 (And.intro tk (And.intro tk2 (And.intro ln (And.intro ln2 (And.intro d5 d6))))))))))) ⟨K, K, by omega, by omega, rfl, rfl⟩ (by simp) (fun h2 hold => ?_)
          have hb2 : h2 0 = some ⟨18, [encE e], true⟩ := by
            rw [hold 0 (by
              simp only [List.flatMap_cons, List.flatMap_nil, touch_loc hde r1, touch_loc hde r2]
              have zb : ¬ (0 = b) := by omega
              have zc : ¬ (0 = c) := by omega
              simp [zb, zc])]
            exact sx hh0
          clear hold
          rw [marksF_refl']
          refine go (And.intro h0 (And.intro h3 (And.intro h5 (And.intro h6 (And.intro h9 (And.intro h10 hb2)))))) ?_
          have hrl := encR_rows l
          have hl0 := hR.small.1
          have hlw := hR.small.2
          refine x_loop (fun σ => ∃ (i : Nat), σ.t 0 = .sl (l.map encR) ∧ σ.t 3 = .ptr 0 0 0 ∧ σ.t 5 = .sl (X.map encR) ∧ σ.t 6 = .loc b 0 K.length cap ∧ σ.t 120 = .sl (l.map encR) ∧ σ.t 121 = .s (.int .i64 l.length) ∧ σ.t 122 = .s (.int .i64 i) ∧ σ.h 0 = some ⟨18, [encE e], true⟩ ∧ 0 < σ.n ∧ i ≤ l.length) (fun σ => l.length - ix (σ.t 122)) ⟨0, (by first | assumption | exact sxa trivial), (by first | assumption | exact sxa trivial), (by first | assumption | exact sxa trivial), (by first | assumption | exact sxa trivial), (by first | assumption | exact sxa trivial), (by first | assumption | exact sxa trivial), (by first | assumption | exact sxa trivial), (by first | assumption | exact sxa trivial), (by first | omega | (dsimp only; omega) | exact soa trivial | omega | (simp; done)), (by first | rfl | omega | assumption | (simp [*]; done))⟩ ?_
          rintro t3 h3 n3 ⟨i, h0, h3, h5, h6, h120, h121, h122, hh0, hn1, hf0⟩
          simp only at h0 h3 h5 h6 h120 h121 h122 hh0 hn1
          refine go (And.intro h0 (And.intro h3 (And.intro h5 (And.intro h6 (And.intro h120 (And.intro h121 h122)))))) ?_
          refine x_condP (sv (And.intro h0 (And.intro h3 (And.intro h5 (And.intro h6 (And.intro h120 (And.intro h121 h122))))))) (fun hc => ?_) (fun hc => ?_)
          · have hi : i < l.length := by omega
            have hat := getF_at hRs hi
            rw [show rAt l i = l[i] from by simp [rAt, List.getD_eq_getElem?_getD, hi]] at hat
            have hrw2 := hlw _ (List.getElem_mem hi)
            generalize hmm : l[i] = r at *
            have ho := hoth r.id r.f
            have e5 : (0 = n3) = False := by simp; omega
            have e6 : (0 = n3 + 1) = False := by simp
            have e7 : (n3 = 0) = False := by simp; omega
            cases hn : ((r.id.a.toList == e.node.a.toList) && (r.id.n == e.node.n))
            · have hx := ho (by rw [BEq.comm (a := r.id.a.toList), BEq.comm (a := r.id.n)] at hn; simp [tchF, hn])
              refine go (And.intro h0 (And.intro h3 (And.intro h5 (And.intro h6 (And.intro h120 (And.intro h121 (And.intro h122 (And.intro hh0 (And.intro hrl (And.intro hmm (And.intro @encR.eq_1 (And.intro @encE_kind (And.intro hpl (And.intro hn (And.intro e5 (And.intro e6 e7)))))))))))))))) ?_
              refine x_callDS rfl rfl rfl rfl rfl (sv @encId.eq_1) g_look (sv @encId.eq_1) (se @encId.eq_1) ⟨X, r.id, r.f, hs1.1, hs1.2, rfl, rfl⟩ (by simp) (by simp [touchA, touch]) ?_
              rw [hx, hat]
              refine go (And.intro h0 (And.intro h3 (And.intro h5 (And.intro h6 (And.intro h120 (And.intro h121 (And.intro h122 (And.intro hh0 (And.intro hrl (And.intro hmm (And.intro @encR.eq_1 (And.intro @encE_kind (And.intro hpl (And.intro hn (And.intro e5 (And.intro e6 e7)))))))))))))))) ?_
              refine x_callD rfl rfl rfl rfl rfl (sv trivial) g_marks (sv trivial) (se trivial) ⟨r.w, r.w, by omega, by omega, rfl, rfl⟩ rfl ?_
              rw [marksF_refl']
              refine go (And.intro h0 (And.intro h3 (And.intro h5 (And.intro h6 (And.intro h120 (And.intro h121 (And.intro h122 (And.intro hh0 (And.intro hrl (And.intro hmm (And.intro @encR.eq_1 (And.intro @encE_kind (And.intro hpl (And.intro hn (And.intro e5 (And.intro e6 e7)))))))))))))))) ?_
              (refine ⟨⟨i + 1, ?_, ?_, ?_, ?_, ?_, ?_, ?_, ?_, ?_, ?_⟩, ?_⟩ <;> (first | omega | (dsimp only; omega) | (omega) | exact sxa (And.intro @cast_succ (And.intro e5 (And.intro e6 e7))) | exact soa trivial))
            · cases hfd : (r.f.toList == e.field.toList)
              · have hx := ho (by rw [BEq.comm (a := r.f.toList)] at hfd; simp [tchF, hfd])
                refine go (And.intro h0 (And.intro h3 (And.intro h5 (And.intro h6 (And.intro h120 (And.intro h121 (And.intro h122 (And.intro hh0 (And.intro hrl (And.intro hmm (And.intro @encR.eq_1 (And.intro @encE_kind (And.intro hpl (And.intro hn (And.intro hfd (And.intro e5 (And.intro e6 e7))))))))))))))))) ?_
                refine x_callDS rfl rfl rfl rfl rfl (sv @encId.eq_1) g_look (sv @encId.eq_1) (se @encId.eq_1) ⟨X, r.id, r.f, hs1.1, hs1.2, rfl, rfl⟩ (by simp) (by simp [touchA, touch]) ?_
                rw [hx, hat]
                refine go (And.intro h0 (And.intro h3 (And.intro h5 (And.intro h6 (And.intro h120 (And.intro h121 (And.intro h122 (And.intro hh0 (And.intro hrl (And.intro hmm (And.intro @encR.eq_1 (And.intro @encE_kind (And.intro hpl (And.intro hn (And.intro hfd (And.intro e5 (And.intro e6 e7))))))))))))))))) ?_
                refine x_callD rfl rfl rfl rfl rfl (sv trivial) g_marks (sv trivial) (se trivial) ⟨r.w, r.w, by omega, by omega, rfl, rfl⟩ rfl ?_
                rw [marksF_refl']
                refine go (And.intro h0 (And.intro h3 (And.intro h5 (And.intro h6 (And.intro h120 (And.intro h121 (And.intro h122 (And.intro hh0 (And.intro hrl (And.intro hmm (And.intro @encR.eq_1 (And.intro @encE_kind (And.intro hpl (And.intro hn (And.intro hfd (And.intro e5 (And.intro e6 e7))))))))))))))))) ?_
                (refine ⟨⟨i + 1, ?_, ?_, ?_, ?_, ?_, ?_, ?_, ?_, ?_, ?_⟩, ?_⟩ <;> (first | omega | (dsimp only; omega) | (omega) | exact sxa (And.intro @cast_succ (And.intro e5 (And.intro e6 e7))) | exact soa trivial))
              · refine go (And.intro h0 (And.intro h3 (And.intro h5 (And.intro h6 (And.intro h120 (And.intro h121 (And.intro h122 (And.intro hh0 (And.intro hrl (And.intro hmm (And.intro @encR.eq_1 (And.intro @encE_kind (And.intro hpl (And.intro hn (And.intro hfd (And.intro e5 (And.intro e6 e7))))))))))))))))) ?_
                (refine ⟨⟨i + 1, ?_, ?_, ?_, ?_, ?_, ?_, ?_, ?_, ?_, ?_⟩, ?_⟩ <;> (first | omega | (dsimp only; omega) | (omega) | exact sxa (And.intro @cast_succ (And.intro e5 (And.intro e6 e7))) | exact soa trivial))
          · have ei : i = l.length := by omega
            subst ei
            skip
            refine go (And.intro h0 (And.intro h3 (And.intro h5 (And.intro h6 (And.intro h120 (And.intro h121 h122)))))) ?_
            refine x_callN rfl rfl rfl rfl (sv trivial) g_right (sv trivial) (se trivial) ⟨X, aX, rfl, rfl⟩ rfl ?_
            cases hq : (rightF X == 1)
            · by_cases h28 : 28 < (l.length : Int)
              · refine go (And.intro h0 (And.intro h3 (And.intro h5 (And.intro h6 (And.intro hq h28))))) ?_
                refine x_done (x_out (sr @Try.f6.eq_1) (by simp) (by simp) rfl)
              · have hk28 : 28 < (K.length : Int) := by
                  rcases Nat.lt_or_ge 28 K.length with h1 | h1
                  · omega
                  · rw [hrs (by omega) h1] at hq
                    cases hq
                refine go (And.intro h0 (And.intro h3 (And.intro h5 (And.intro h6 (And.intro hq (And.intro h28 hk28)))))) ?_
                refine x_done (x_out (sr @Try.f6.eq_1) (by simp) (by simp) rfl)
            · refine go (And.intro h0 (And.intro h3 (And.intro h5 (And.intro h6 hq)))) ?_
              refine x_done (x_out (sr @Try.f6.eq_1) (by simp) (by simp) rfl)
  · refine go (And.intro hr @encE_kind) ?_
    refine x_done (x_out (sr @Try.f6.eq_1) (by simp) (by simp) rfl)
end Go.Proofs.Ytgohmphhgglmbaa

set_option linter.unusedVariables false
set_option linter.unusedSimpArgs false
set_option maxRecDepth 100000
set_option maxHeartbeats 16000000
namespace Go.Proofs.Ytgohmphhgglmbaa
open Go Go.RowKit Am

def idemLawS : Fspec := fun _ ds r => ∃ (l : List Rgs) (es : List Edt), smallR 1048576 l ∧ edtOk 1048576 es ∧ ds = [.sl (l.map encR), .sl (es.map encE)] ∧ r = .s (.bool true)
theorem idemLaw_sound {plain : TypeId → Bool} {Γ : FuncId → Option Fspec} {Δ : FuncId → Option Pt} (hE : EnvOk ⟨Try.prog, plain, Γ, Δ, fun _ => none, 0⟩) (hpl : plain 31 = true) (g_alive : Γ 9 = some aliveS) (g_right : Γ 10 = some rightS) (g_fine : Γ 11 = some fineS) (g_same : Γ 12 = some sameS) (g_look : Γ 15 = some lookS) (g_marks : Γ 19 = some marksS) (g_app : Γ 13 = some appS) : Sound Try.prog 8 idemLawS := by
  refine sound_of_awp hE Try.func8 rfl (by kernel_rfl) ?_
  rintro Φ ds r ⟨l, es, hl, hes, rfl, rfl⟩
  refine ⟨by simp [Try.f8], ?_⟩
  unfold st0
  refine W.out (E := ⟨Try.prog, plain, Γ, Δ, Φ, _⟩) ?_
  have hre := encE_rows' es
  have hel := hes.1
  refine go trivial ?_
  refine x_callN rfl rfl rfl rfl (sv trivial) g_alive (sv trivial) (se trivial) ⟨rfl, rfl⟩ rfl ?_
  refine go trivial ?_
  refine x_callN rfl rfl rfl rfl (sv trivial) g_right (sv trivial) (se trivial) ⟨l, hl, rfl, rfl⟩ rfl ?_
  cases hr : (rightF l == 0)
  · refine go hr ?_
    refine x_callN rfl rfl rfl rfl (sv trivial) g_fine (sv trivial) (se trivial) ⟨es, hes.fine.1, hes.fine.2, rfl, rfl⟩ rfl ?_
    cases hf : fineF es
    · refine go (And.intro hr hf) ?_
      refine x_done (x_out (sr @Try.f8.eq_1) (by simp) (by simp) rfl)
    · have hR := right_p hr
      have hF := fine_small hf
      have hes0 := hF.1
      have hRs := hR.srt
      refine go (And.intro hr hf) ?_
      refine x_loop (fun σ => ∃ (i : Nat), σ.t 0 = .sl (l.map encR) ∧ σ.t 1 = .sl (es.map encE) ∧ σ.t 24 = .sl (es.map encE) ∧ σ.t 25 = .s (.int .i64 es.length) ∧ σ.t 26 = .s (.int .i64 i) ∧ i ≤ es.length) (fun σ => es.length - ix (σ.t 26)) ⟨0, (by first | assumption | exact sxa trivial), (by first | assumption | exact sxa trivial), (by first | assumption | exact sxa trivial), (by first | assumption | exact sxa trivial), (by first | assumption | exact sxa trivial), (by first | rfl | omega | assumption | (simp [*]; done))⟩ ?_
      rintro t h n ⟨i, h0, h1, h24, h25, h26, hf0⟩
      simp only at h0 h1 h24 h25 h26
      refine go (And.intro h0 (And.intro h1 (And.intro h24 (And.intro h25 h26)))) ?_
      refine x_condP (sv (And.intro h0 (And.intro h1 (And.intro h24 (And.intro h25 h26))))) (fun hc => ?_) (fun hc => ?_)
      · have hi : i < es.length := by omega
        have hde := hF.2 _ (List.getElem_mem hi)
        generalize hee : es[i] = e at *
        have e1 : (n + 1 = n) = False := by simp
        have e2 : (n = n + 1) = False := by simp
        have e3 : (n = n + 1 + 1) = False := by simp; omega
        have e4 : (n = n + 1 + 1 + 1) = False := by simp; omega
        have a1 := app_small [e] hR.small
        have a2 := app_small [e, e] hR.small
        have a3 := app_small [e] a1
        have hs1 := same_of a1 (by simp)
        have d1 : appF l [e, e] = appF l [e] := step_idem hRs e
        have d2 : appF (appF l [e]) [e] = appF l [e] := step_idem hRs e
        refine go (And.intro h0 (And.intro h1 (And.intro h24 (And.intro h25 (And.intro h26 (And.intro hre (And.intro hee (And.intro @encE_kind (And.intro e1 e2))))))))) ?_
        refine x_callF rfl rfl rfl rfl (sv (And.intro @encE_kind (And.intro e1 e2))) g_app (sv (And.intro @encE_kind (And.intro e1 e2))) (se (And.intro @encE_kind (And.intro e1 e2))) ⟨l, [e], hR.small.mono (by omega), by simp, by (intro x hx; simp at hx; subst hx; omega), rfl, rfl⟩ (by simp) (fun h2 hold => ?_)
        have hb0 : h2 n = some ⟨18, [encE e], true⟩ := by
          rw [hold n (by simp [touchA, touch, upd_at, rowsOf, encE] <;> omega)]
          exact sx (And.intro @encE_kind (And.intro e1 e2))
        clear hold
        refine go (And.intro h0 (And.intro h1 (And.intro h24 (And.intro h25 (And.intro h26 (And.intro hre (And.intro hee (And.intro hb0 (And.intro @encE_kind (And.intro e1 (And.intro e2 (And.intro e3 e4)))))))))))) ?_
        refine x_callF rfl rfl rfl rfl (sv (And.intro @encE_kind (And.intro e1 (And.intro e2 (And.intro e3 e4))))) g_app (sv (And.intro @encE_kind (And.intro e1 (And.intro e2 (And.intro e3 e4))))) (se (And.intro @encE_kind (And.intro e1 (And.intro e2 (And.intro e3 e4))))) ⟨l, [e, e], hR.small.mono (by omega), by simp, by (intro x hx; simp at hx; subst hx; omega), rfl, rfl⟩ (by simp) (fun h2 hold => ?_)
        have hb1 : h2 n = some ⟨18, [encE e], true⟩ := by
          rw [hold n (by simp [touchA, touch, upd_at, rowsOf, encE] <;> omega)]
          exact sx (And.intro @encE_kind (And.intro hb0 (And.intro e1 (And.intro e2 (And.intro e3 e4)))))
        clear hold hb0
        refine go (And.intro h0 (And.intro h1 (And.intro h24 (And.intro h25 (And.intro h26 (And.intro hb1 (And.intro @encE_kind (And.intro e1 (And.intro e2 (And.intro e3 e4)))))))))) ?_
        refine x_callN rfl rfl rfl rfl (sv trivial) g_same (sv trivial) (se trivial) ⟨appF l [e, e], appF l [e], (same_of a2 (by simp)).1, hs1.1, (same_of a2 (by simp)).2, hs1.2, rfl, rfl⟩ rfl ?_
        rw [d1, sameF_refl]
        refine go (And.intro h0 (And.intro h1 (And.intro h24 (And.intro h25 (And.intro h26 (And.intro hb1 (And.intro @encE_kind (And.intro e1 (And.intro e2 (And.intro e3 e4)))))))))) ?_
        refine x_callF rfl rfl rfl rfl (sv (And.intro @encE_kind (And.intro e1 (And.intro e2 (And.intro e3 e4))))) g_app (sv (And.intro @encE_kind (And.intro e1 (And.intro e2 (And.intro e3 e4))))) (se (And.intro @encE_kind (And.intro e1 (And.intro e2 (And.intro e3 e4))))) ⟨appF l [e], [e], a1.mono (by simp), by simp, by (intro x hx; simp at hx; subst hx; omega), rfl, rfl⟩ (by simp) (fun h2 hold => ?_)
        clear hold
        refine go (And.intro h0 (And.intro h1 (And.intro h24 (And.intro h25 (And.intro h26 (And.intro hb1 (And.intro @encE_kind (And.intro e1 (And.intro e2 (And.intro e3 e4)))))))))) ?_
        refine x_callN rfl rfl rfl rfl (sv trivial) g_same (sv trivial) (se trivial) ⟨appF (appF l [e]) [e], appF l [e], (same_of a3 (by simp)).1, hs1.1, (same_of a3 (by simp)).2, hs1.2, rfl, rfl⟩ rfl ?_
        rw [d2, sameF_refl]
        refine go (And.intro h0 (And.intro h1 (And.intro h24 (And.intro h25 (And.intro h26 (And.intro hb1 (And.intro @encE_kind (And.intro e1 (And.intro e2 (And.intro e3 e4)))))))))) ?_
        (refine ⟨⟨i + 1, ?_, ?_, ?_, ?_, ?_, ?_⟩, ?_⟩ <;> (first | omega | (dsimp only; omega) | (omega) | exact sxa @cast_succ | exact soa trivial))
      · have ei : i = es.length := by omega
        subst ei
        skip
        have b1 := app_small es hR.small
        refine go (And.intro h0 (And.intro h1 (And.intro h24 (And.intro h25 h26)))) ?_
        refine x_callS rfl rfl rfl rfl (sv trivial) g_app (sv trivial) (se trivial) ⟨l, es, hR.small.mono (by omega), by omega, fun e he => by have := hF.2 e he; omega, rfl, rfl⟩ (by simp) (by simp [touchA, touch]) ?_
        have hXf : ∀ (y : Idt) (f : ByteArray), es.any (fun e => tchF e y f) = false → getF (appF l es) y f = getF l y f := fun y f h => getF_app y f es l h
        generalize hX : appF l es = X at *
        have okl : okRows 4 (l.map encR) := okRows_map encR l 4 fun a => ⟨rfl, by simp [encR, cellish]⟩
        have okX : okRows 4 (X.map encR) := okRows_map encR X 4 fun a => ⟨rfl, by simp [encR, cellish]⟩
        have hl0 := hR.small.1
        have hX0 := b1.1
        have e1 : (n + 1 = n) = False := by simp
        have e2 : (n = n + 1) = False := by simp
        have e3 : (n = n + 1 + 1) = False := by simp; omega
        have e4 : (n + 1 = n + 1 + 1) = False := by simp
        refine go (And.intro h0 h1) ?_
        refine x_append rfl rfl rfl rfl rfl rfl (sv (And.intro e1 (And.intro e2 (And.intro e3 e4)))) (by decide) (sc (And.intro e1 (And.intro e2 (And.intro e3 e4)))) (sv (And.intro e1 (And.intro e2 (And.intro e3 e4)))) (sx (And.intro e1 (And.intro e2 (And.intro e3 e4)))) okl (sx (And.intro e1 (And.intro e2 (And.intro e3 e4)))) (by first | rfl | (simp; done)) (by first | rfl | (simp; done)) (by first | omega | (simp; done) | (simp [spare_len]; omega)) (by first | omega | (simp; done) | (simp [spare_len]; omega)) (by first | omega | (simp; done) | (simp [spare_len]; omega)) (fun cap' hcap' => ?_)
        have hc1 : l.length ≤ cap' := by simpa using hcap'
        refine go (And.intro h0 h1) ?_
        refine x_appendO rfl rfl rfl rfl rfl rfl (sv (And.intro e1 (And.intro e2 (And.intro e3 e4)))) (by decide) (sc (And.intro e1 (And.intro e2 (And.intro e3 e4)))) (sv (And.intro e1 (And.intro e2 (And.intro e3 e4)))) (sx (And.intro e1 (And.intro e2 (And.intro e3 e4)))) (by first | rfl | (simp; done) | (simp [spare_len]; omega)) (by first | omega | (simp; done) | (simp [spare_len]; omega)) (by first | omega | (simp; done) | (simp [spare_len]; omega)) (sx (And.intro e1 (And.intro e2 (And.intro e3 e4)))) okX (by first | omega | (simp; done) | (simp [spare_len]; omega)) (fun cap' hcap' => ?_)
        refine go (And.intro h0 h1) ?_
        have hc2 : l.length + X.length ≤ cap' := by simpa using hcap'
        have rl : (l ++ X).length = l.length + X.length := List.length_append
        have rm : (l ++ X).map encR = l.map encR ++ X.map encR := List.map_append
        refine x_loop (fun σ => ∃ (i : Nat) (b : Nat) (cap : Nat) (sp : List (List V)), σ.t 0 = .sl (l.map encR) ∧ σ.t 1 = .sl (es.map encE) ∧ σ.t 8 = .sl (X.map encR) ∧ σ.t 59 = .loc b 0 (l ++ X).length cap ∧ σ.t 60 = .s (.int .i64 (l ++ X).length) ∧ σ.t 61 = .s (.int .i64 i) ∧ σ.h b = some ⟨4, (l ++ X).map encR ++ sp, true⟩ ∧ b < σ.n ∧ i ≤ (l ++ X).length) (fun σ => (l ++ X).length - ix (σ.t 61)) ⟨0, n + 1 + 1, _, _, (by first | assumption | exact sxa trivial), (by first | assumption | exact sxa trivial), (by first | assumption | exact sxa trivial), (by first | assumption | exact sxa trivial), (by first | assumption | exact sxa trivial), (by first | assumption | exact sxa trivial), (by first | assumption | exact sxa trivial), (by first | omega | (dsimp only; omega) | exact soa trivial | omega | (simp; done)), (by first | rfl | omega | assumption | (simp [*]; done))⟩ ?_
        rintro t h n2 ⟨i, b, cap, sp, h0, h1, h8, h59, h60, h61, hhb, hn1, hf0⟩
        simp only at h0 h1 h8 h59 h60 h61 hhb hn1
        have hYl : (l ++ X).length ≤ 1000 := by rw [rl]; omega
        clear rl rm
        generalize hY : l ++ X = Y at *
        refine go (And.intro h0 (And.intro h1 (And.intro h8 (And.intro h59 (And.intro h60 h61))))) ?_
        refine x_condP (sv (And.intro h0 (And.intro h1 (And.intro h8 (And.intro h59 (And.intro h60 h61)))))) (fun hc => ?_) (fun hc => ?_)
        · have hi : i < Y.length := by omega
          have gr := getD_row Y sp i hi
          have ln : (Y.map encR ++ sp).length = Y.length + sp.length := by simp
          have e1 : (b = n2) = False := by simp; omega
          have e2 : (b = n2 + 1) = False := by simp; omega
          have e3 : (n2 = b) = False := by simp; omega
          generalize hrr : rAt Y i = r at *
          refine go (And.intro h0 (And.intro h1 (And.intro h8 (And.intro h59 (And.intro h60 (And.intro h61 (And.intro hhb (And.intro gr (And.intro ln (And.intro e1 (And.intro e2 e3))))))))))) ?_
          refine x_loop (fun σ => ∃ (j : Nat) (w : Bool), σ.t 0 = .sl (l.map encR) ∧ σ.t 1 = .sl (es.map encE) ∧ σ.t 8 = .sl (X.map encR) ∧ σ.t 59 = .loc b 0 Y.length cap ∧ σ.t 60 = .s (.int .i64 Y.length) ∧ σ.t 61 = .s (.int .i64 i) ∧ σ.h b = some ⟨4, Y.map encR ++ sp, true⟩ ∧ σ.h n2 = some ⟨4, [encR r], true⟩ ∧ σ.t 10 = .ptr n2 0 0 ∧ σ.t 65 = .sl (es.map encE) ∧ σ.t 66 = .s (.int .i64 es.length) ∧ σ.t 67 = .s (.int .i64 j) ∧ σ.t 11 = .s (.bool w) ∧ b < σ.n ∧ n2 < σ.n ∧ j ≤ es.length ∧ (w || (es.drop j).any (fun e => tchF e r.id r.f)) = es.any (fun e => tchF e r.id r.f)) (fun σ => es.length - ix (σ.t 67)) ⟨0, false, (by first | assumption | exact sxa trivial), (by first | assumption | exact sxa trivial), (by first | assumption | exact sxa trivial), (by first | assumption | exact sxa trivial), (by first | assumption | exact sxa trivial), (by first | assumption | exact sxa trivial), (by first | assumption | exact sxa trivial), (by first | assumption | exact sxa trivial), (by first | assumption | exact sxa trivial), (by first | assumption | exact sxa trivial), (by first | assumption | exact sxa trivial), (by first | assumption | exact sxa trivial), (by first | assumption | exact sxa trivial), (by first | omega | (dsimp only; omega) | exact soa trivial | omega | (simp; done)), (by first | omega | (dsimp only; omega) | exact soa trivial | omega | (simp; done)), (by first | rfl | omega | assumption | (simp [*]; done)), (by first | rfl | omega | assumption | (simp [*]; done))⟩ ?_
          rintro t h n4 ⟨j, w, h0, h1, h8, h59, h60, h61, hhb, hhn2, h10, h65, h66, h67, h11, hn1, hn3, hf0, hf1⟩
          simp only at h0 h1 h8 h59 h60 h61 hhb hhn2 h10 h65 h66 h67 h11 hn1 hn3
          refine go (And.intro h0 (And.intro h1 (And.intro h8 (And.intro h59 (And.intro h60 (And.intro h61 (And.intro h10 (And.intro h65 (And.intro h66 (And.intro h67 h11)))))))))) ?_
          refine x_condP (sv (And.intro h0 (And.intro h1 (And.intro h8 (And.intro h59 (And.intro h60 (And.intro h61 (And.intro h10 (And.intro h65 (And.intro h66 (And.intro h67 h11))))))))))) (fun hc => ?_) (fun hc => ?_)
          · have hj : j < es.length := by omega
            rw [List.drop_eq_getElem_cons hj, List.any_cons] at hf1
            generalize hee : es[j] = e at *
            have e4 : (b = n4) = False := by simp; omega
            have e5 : (n2 = n4) = False := by simp; omega
            have e6 : (n4 = n2) = False := by simp; omega
            have e7 : (n4 = b) = False := by simp; omega
            cases w
            · cases hk : (e.kind == 3)
              · have htc : tchF e r.id r.f = false := by simp [tchF, hk]
                rw [htc, Bool.false_or] at hf1
                refine go (And.intro h0 (And.intro h1 (And.intro h8 (And.intro h59 (And.intro h60 (And.intro h61 (And.intro h10 (And.intro h65 (And.intro h66 (And.intro h67 (And.intro h11 (And.intro hhb (And.intro hhn2 (And.intro hre (And.intro hee (And.intro @encE_kind (And.intro @encR.eq_1 (And.intro hpl (And.intro hk (And.intro e4 (And.intro e5 (And.intro e6 e7)))))))))))))))))))))) ?_
                (refine ⟨⟨j + 1, false, ?_, ?_, ?_, ?_, ?_, ?_, ?_, ?_, ?_, ?_, ?_, ?_, ?_, ?_, ?_, ?_, ?_⟩, ?_⟩ <;> (first | omega | (dsimp only; omega) | ((exact hf1)) | exact sxa (And.intro @cast_succ (And.intro e4 (And.intro e5 (And.intro e6 e7)))) | exact soa trivial))
              · cases hn : ((e.node.a.toList == r.id.a.toList) && (e.node.n == r.id.n))
                · have htc : tchF e r.id r.f = false := by simp only [tchF, hk, hn]; rfl
                  rw [htc, Bool.false_or] at hf1
                  refine go (And.intro h0 (And.intro h1 (And.intro h8 (And.intro h59 (And.intro h60 (And.intro h61 (And.intro h10 (And.intro h65 (And.intro h66 (And.intro h67 (And.intro h11 (And.intro hhb (And.intro hhn2 (And.intro hre (And.intro hee (And.intro @encE_kind (And.intro @encR.eq_1 (And.intro hpl (And.intro hk (And.intro hn (And.intro e4 (And.intro e5 (And.intro e6 e7))))))))))))))))))))))) ?_
                  (refine ⟨⟨j + 1, false, ?_, ?_, ?_, ?_, ?_, ?_, ?_, ?_, ?_, ?_, ?_, ?_, ?_, ?_, ?_, ?_, ?_⟩, ?_⟩ <;> (first | omega | (dsimp only; omega) | ((exact hf1)) | exact sxa (And.intro @cast_succ (And.intro e4 (And.intro e5 (And.intro e6 e7)))) | exact soa trivial))
                · have htc : tchF e r.id r.f = (e.field.toList == r.f.toList) := by simp only [tchF, hk, hn]; rfl
                  rw [htc, Bool.false_or] at hf1
                  refine go (And.intro h0 (And.intro h1 (And.intro h8 (And.intro h59 (And.intro h60 (And.intro h61 (And.intro h10 (And.intro h65 (And.intro h66 (And.intro h67 (And.intro h11 (And.intro hhb (And.intro hhn2 (And.intro hre (And.intro hee (And.intro @encE_kind (And.intro @encR.eq_1 (And.intro hpl (And.intro hk (And.intro hn (And.intro e4 (And.intro e5 (And.intro e6 e7))))))))))))))))))))))) ?_
                  (refine ⟨⟨j + 1, e.field.toList == r.f.toList, ?_, ?_, ?_, ?_, ?_, ?_, ?_, ?_, ?_, ?_, ?_, ?_, ?_, ?_, ?_, ?_, ?_⟩, ?_⟩ <;> (first | omega | (dsimp only; omega) | ((exact hf1)) | exact sxa (And.intro @cast_succ (And.intro e4 (And.intro e5 (And.intro e6 e7)))) | exact soa trivial))
            · refine go (And.intro h0 (And.intro h1 (And.intro h8 (And.intro h59 (And.intro h60 (And.intro h61 (And.intro h10 (And.intro h65 (And.intro h66 (And.intro h67 (And.intro h11 (And.intro hhb (And.intro hhn2 (And.intro hre (And.intro hee (And.intro @encE_kind (And.intro @encR.eq_1 (And.intro hpl (And.intro e4 (And.intro e5 (And.intro e6 e7))))))))))))))))))))) ?_
              (refine ⟨⟨j + 1, true, ?_, ?_, ?_, ?_, ?_, ?_, ?_, ?_, ?_, ?_, ?_, ?_, ?_, ?_, ?_, ?_, ?_⟩, ?_⟩ <;> (first | omega | (dsimp only; omega) | ((rw [Bool.true_or] at hf1 ⊢; exact hf1)) | exact sxa (And.intro @cast_succ (And.intro e4 (And.intro e5 (And.intro e6 e7)))) | exact soa trivial))
          · have ej : j = es.length := by omega
            rw [ej, List.drop_of_length_le (Nat.le_refl _), List.any_nil, Bool.or_false] at hf1
            skip
            cases w
            · have hx1 := hXf r.id r.f hf1.symm
              refine go (And.intro h0 (And.intro h1 (And.intro h8 (And.intro h59 (And.intro h60 (And.intro h61 (And.intro h10 (And.intro h65 (And.intro h66 (And.intro h67 (And.intro h11 (And.intro hhb (And.intro hhn2 @encR.eq_1))))))))))))) ?_
              refine x_callDS rfl rfl rfl rfl rfl (sv @encId.eq_1) g_look (sv @encId.eq_1) (se @encId.eq_1) ⟨X, r.id, r.f, (same_of b1 (by omega)).1, (same_of b1 (by omega)).2, rfl, rfl⟩ (by simp) (by simp [touchA, touch]) ?_
              refine go (And.intro h0 (And.intro h1 (And.intro h8 (And.intro h59 (And.intro h60 (And.intro h61 (And.intro h10 (And.intro h65 (And.intro h66 (And.intro h67 (And.intro h11 (And.intro hhb (And.intro hhn2 @encR.eq_1))))))))))))) ?_
              refine x_callDS rfl rfl rfl rfl rfl (sv @encId.eq_1) g_look (sv @encId.eq_1) (se @encId.eq_1) ⟨l, r.id, r.f, (same_of hR.small (by omega)).1, (same_of hR.small (by omega)).2, rfl, rfl⟩ (by simp) (by simp [touchA, touch]) ?_
              refine go (And.intro h0 (And.intro h1 (And.intro h8 (And.intro h59 (And.intro h60 (And.intro h61 (And.intro h10 (And.intro h65 (And.intro h66 (And.intro h67 (And.intro h11 (And.intro hhb (And.intro hhn2 @encR.eq_1))))))))))))) ?_
              rw [hx1]
              have hgl := getF_len hR.small r.id r.f
              refine x_callD rfl rfl rfl rfl rfl (sv trivial) g_marks (sv trivial) (se trivial) ⟨getF l r.id r.f, getF l r.id r.f, by omega, by omega, rfl, rfl⟩ rfl ?_
              rw [marksF_refl']
              refine go (And.intro h0 (And.intro h1 (And.intro h8 (And.intro h59 (And.intro h60 (And.intro h61 (And.intro h10 (And.intro h65 (And.intro h66 (And.intro h67 (And.intro h11 (And.intro hhb (And.intro hhn2 @encR.eq_1))))))))))))) ?_
              (refine ⟨⟨i + 1, b, cap, sp, ?_, ?_, ?_, ?_, ?_, ?_, ?_, ?_, ?_⟩, ?_⟩ <;> (first | omega | (dsimp only; omega) | (omega) | exact sxa @cast_succ | exact soa trivial))
            · refine go (And.intro h0 (And.intro h1 (And.intro h8 (And.intro h59 (And.intro h60 (And.intro h61 (And.intro h10 (And.intro h65 (And.intro h66 (And.intro h67 (And.intro h11 (And.intro hhb (And.intro hhn2 @encR.eq_1))))))))))))) ?_
              (refine ⟨⟨i + 1, b, cap, sp, ?_, ?_, ?_, ?_, ?_, ?_, ?_, ?_, ?_⟩, ?_⟩ <;> (first | omega | (dsimp only; omega) | (omega) | exact sxa @cast_succ | exact soa trivial))
        · have ei : i = Y.length := by omega
          subst ei
          skip
          refine go (And.intro h0 (And.intro h1 (And.intro h8 (And.intro h59 (And.intro h60 h61))))) ?_
          refine x_done (x_out (sr @Try.f8.eq_1) (by simp) (by simp) rfl)
  · refine go hr ?_
    refine x_done (x_out (sr @Try.f8.eq_1) (by simp) (by simp) rfl)
end Go.Proofs.Ytgohmphhgglmbaa

set_option linter.unusedVariables false
set_option linter.unusedSimpArgs false
set_option maxRecDepth 100000
namespace Go.Proofs.Ytgohmphhgglmbaa
open Go Go.RowKit Am

theorem eqf_cons {P : Program} {d : Nat} {xs ys : Array Value} {f : Field} {fs : List Field} {a b : Value} {r s : Bool} {w : World} (hn : (f.name == "_") = false) (ha : (part f.type xs f.offset).run P w = .ok a w) (hb : (part f.type ys f.offset).run P w = .ok b w) (he : (Op.equalIn d f.type a b).run P w = .ok r w)
    (hr : (Op.eqFields d xs ys fs).run P w = .ok s w) : (Op.eqFields d xs ys (f :: fs)).run P w = .ok (r && s) w := by
  have hn' : f.name ≠ "_" := by simpa using hn
  rw [Op.eqFields]
  simp only [if_pos hn', Sem.run_bind, ha, hb, he, Result.andThen_ok]
  cases r
  · simp
  · simpa using hr
theorem eqf_nil {P : Program} {d : Nat} {xs ys : Array Value} {w : World} : (Op.eqFields d xs ys []).run P w = .ok true w := by simp [Op.eqFields]
theorem eq_str {P : Program} {d T : Nat} {a b : ByteArray} {w : World} (hu : P.underlying T = some .string) : (Op.equalIn (d + 1) T (.string a) (.string b)).run P w = .ok (a.toList == b.toList) w := by
  rw [← beq_toListBytes]
  simp [Op.equalIn, run_under hu, Sem.run, pure]
theorem eq_int {P : Program} {d T : Nat} {k : IntKind} {a b : Int} {w : World} (hu : P.underlying T = some (.int k)) : (Op.equalIn (d + 1) T (.int k a) (.int k b)).run P w = .ok (a == b) w := by
  simp [Op.equalIn, run_under hu, Sem.run, pure]
theorem agS : aggo Try.prog 9 = some false := by kernel_rfl
theorem agI : aggo Try.prog 3 = some false := by kernel_rfl
theorem agD : aggo Try.prog 31 = some true := by kernel_rfl
theorem szD : szo Try.prog 31 = some 2 := by kernel_rfl
theorem unS : Program.underlying Try.prog 9 = some .string := by kernel_rfl
theorem unI : Program.underlying Try.prog 3 = some (.int .i64) := by kernel_rfl
theorem p0 {P : Program} {T : Nat} {x : Value} {xs : Array Value} {o : Nat} {w : World} (hg : aggo P T = some false) (ho : xs[o]? = some x) : (part T xs o).run P w = .ok x w := by
  obtain ⟨h1, h2⟩ := Array.getElem?_eq_some_iff.1 ho
  rw [run_part_one hg h1]
  simp [h1, h2]
theorem idFields {P : Program} (h9 : aggo P 9 = some false) (h3 : aggo P 3 = some false) (u9 : P.underlying 9 = some .string) (u3 : P.underlying 3 = some (.int .i64)) (f0 f1 : Field) (n0 : (f0.name == "_") = false) (n1 : (f1.name == "_") = false) (t0 : f0.type = 9) (t1 : f1.type = 3) (o0 : f0.offset = 0) (o1 : f1.offset = 1) (d : Nat) (a b : ByteArray) (m n : Int) (w : World) :
    (Op.eqFields (d + 1) #[.string a, .int .i64 m] #[.string b, .int .i64 n] [f0, f1]).run P w = .ok ((a.toList == b.toList) && ((m == n) && true)) w := by
  refine eqf_cons (a := .string a) (b := .string b) n0 (by rw [t0, o0]; exact p0 h9 rfl) (by rw [t0, o0]; exact p0 h9 rfl) (by rw [t0]; exact eq_str u9) ?_
  refine eqf_cons (a := .int .i64 m) (b := .int .i64 n) n1 (by rw [t1, o1]; exact p0 h3 rfl) (by rw [t1, o1]; exact p0 h3 rfl) (by rw [t1]; exact eq_int u3) ?_
  exact eqf_nil
theorem wFields {P : Program} {ID : Nat} (h9 : aggo P 9 = some false) (h3 : aggo P 3 = some false) (hD : aggo P ID = some true) (sD : szo P ID = some 2) (u9 : P.underlying 9 = some .string) (u3 : P.underlying 3 = some (.int .i64)) (f0 f1 f2 : Field) (n0 : (f0.name == "_") = false) (n1 : (f1.name == "_") = false) (n2 : (f2.name == "_") = false) (t0 : f0.type = ID) (t1 : f1.type = 3) (t2 : f2.type = 9) (o0 : f0.offset = 0) (o1 : f1.offset = 2) (o2 : f2.offset = 3) (d : Nat) (a b x y : ByteArray) (m n p q : Int) (w : World)
    (hid : (Op.equalIn (d + 1) ID (.agg #[.string a, .int .i64 m]) (.agg #[.string b, .int .i64 n])).run P w = .ok ((a.toList == b.toList) && ((m == n) && true)) w) :
    (Op.eqFields (d + 1) #[.string a, .int .i64 m, .int .i64 p, .string x] #[.string b, .int .i64 n, .int .i64 q, .string y] [f0, f1, f2]).run P w = .ok (((a.toList == b.toList) && ((m == n) && true)) && ((p == q) && ((x.toList == y.toList) && true))) w := by
  refine eqf_cons (a := .agg #[.string a, .int .i64 m]) (b := .agg #[.string b, .int .i64 n]) n0 (by rw [t0, o0]; exact run_part_agg hD sD) (by rw [t0, o0]; exact run_part_agg hD sD) (by rw [t0]; exact hid) ?_
  refine eqf_cons (a := .int .i64 p) (b := .int .i64 q) n1 (by rw [t1, o1]; exact p0 h3 rfl) (by rw [t1, o1]; exact p0 h3 rfl) (by rw [t1]; exact eq_int u3) ?_
  refine eqf_cons (a := .string x) (b := .string y) n2 (by rw [t2, o2]; exact p0 h9 rfl) (by rw [t2, o2]; exact p0 h9 rfl) (by rw [t2]; exact eq_str u9) ?_
  exact eqf_nil
theorem eqId_run (d : Nat) (a b : ByteArray) (m n : Int) (w : World) : (Op.equalIn (d + 2) 31 (.agg #[.string a, .int .i64 m]) (.agg #[.string b, .int .i64 n])).run Try.prog w = .ok ((a.toList == b.toList) && ((m == n) && true)) w := by
  have hu := Try.underlying31
  rw [run_equalIn_struct (P := Try.prog) (w := w) (d + 1) 31 _ _ (by kernel_rfl) (by kernel_rfl)]
  simp only [Program.fieldsOf, hu]
  exact idFields agS agI unS unI _ _ rfl rfl rfl rfl rfl rfl d a b m n w
theorem eqW_run (d : Nat) (a b x y : ByteArray) (m n p q : Int) (w : World) : (Op.equalIn (d + 3) 41 (.agg #[.string a, .int .i64 m, .int .i64 p, .string x]) (.agg #[.string b, .int .i64 n, .int .i64 q, .string y])).run Try.prog w = .ok (((a.toList == b.toList) && ((m == n) && true)) && ((p == q) && ((x.toList == y.toList) && true))) w := by
  have hu := Try.underlying41
  rw [run_equalIn_struct (P := Try.prog) (w := w) (d + 2) 41 _ _ (by kernel_rfl) (by kernel_rfl)]
  simp only [Program.fieldsOf, hu]
  exact wFields agS agI agD szD unS unI _ _ _ rfl rfl rfl rfl rfl rfl rfl rfl rfl (d + 1) a b x y m n p q w (eqId_run d a b m n w)
def plainT (T : TypeId) : Bool := T == 31 || T == 41
theorem fit_s {a : ByteArray} {x : Value} (h : fit1 (.string a) x = true) : ∃ s, x = .string s := by
  cases x <;> simp [fit1] at h
  exact ⟨_, rfl⟩
theorem fit_i {k : IntKind} {a : Int} {x : Value} (h : fit1 (.int k a) x = true) : ∃ s, x = .int k s := by
  cases x <;> simp [fit1] at h
  subst h
  exact ⟨_, rfl⟩
theorem fits2 {a : ByteArray} {m : Int} {k : IntKind} : ∀ {X : List Value}, fits [.string a, .int k m] X = true → ∃ s n, X = [.string s, .int k n]
  | [], h => by simp [fits] at h
  | [x], h => by simp [fits] at h
  | x :: y :: z :: l, h => by simp [fits] at h
  | [x, y], h => by
    simp only [fits, Bool.and_eq_true] at h
    obtain ⟨s, rfl⟩ := fit_s h.1
    obtain ⟨n, rfl⟩ := fit_i h.2.1
    exact ⟨_, _, rfl⟩
theorem fits4 {a b : ByteArray} {m n : Int} {k k2 : IntKind} : ∀ {X : List Value}, fits [.string a, .int k m, .int k2 n, .string b] X = true → ∃ s p q t, X = [.string s, .int k p, .int k2 q, .string t]
  | [], h => by simp [fits] at h
  | [x], h => by simp [fits] at h
  | [x, y], h => by simp [fits] at h
  | [x, y, z], h => by simp [fits] at h
  | x :: y :: z :: u :: v :: l, h => by simp [fits] at h
  | [x, y, z, u], h => by
    simp only [fits, Bool.and_eq_true] at h
    obtain ⟨s, rfl⟩ := fit_s h.1
    obtain ⟨p, rfl⟩ := fit_i h.2.1
    obtain ⟨q, rfl⟩ := fit_i h.2.2.1
    obtain ⟨t, rfl⟩ := fit_s h.2.2.2.1
    exact ⟨_, _, _, _, rfl⟩
theorem plain_ok : PlainOk Try.prog plainT := by
  refine ⟨fun T hT zs X Y b hz hX hY hb w => ?_, fun T hT => ?_⟩
  · simp only [plainT, Bool.or_eq_true, beq_iff_eq] at hT
    rcases hT with rfl | rfl
    · rw [zr31] at hz
      cases hz
      obtain ⟨s, n, rfl⟩ := fits2 hX
      obtain ⟨t, m, rfl⟩ := fits2 hY
      simp only [eqL, if_true, Option.map_some, Option.some.injEq] at hb
      subst hb
      have h := eqId_run 9998 s t n m w
      generalize (s.toList == t.toList && (n == m && true)) = q at *
      exact h
    · rw [zr41] at hz
      cases hz
      obtain ⟨s, n, p, u, rfl⟩ := fits4 hX
      obtain ⟨t, m, q, v, rfl⟩ := fits4 hY
      simp only [eqL, if_true, Option.map_some, Option.some.injEq] at hb
      subst hb
      have := eqW_run 9997 s t u v n m p q w
      simp only [Bool.and_true] at this ⊢
      rw [Bool.and_assoc] at this
      exact this
  · simp only [plainT, Bool.or_eq_true, beq_iff_eq] at hT
    rcases hT with rfl | rfl <;> kernel_rfl
end Go.Proofs.Ytgohmphhgglmbaa

set_option linter.unusedVariables false
set_option maxRecDepth 100000
namespace Go.Proofs.Ytgohmphhgglmbaa
open Go Go.RowKit Am

theorem env0 : EnvOk ⟨Try.prog, plainT, (fun _ => none), (fun _ => none), fun _ => none, 0⟩ := ⟨plain_ok, (fun _ _ h => by cases h), (fun _ _ h => by cases h), by kernel_rfl, (fun _ _ h => by cases h)⟩
def ga0 : FuncId → Option Fspec := fun _ => none
def de0 : FuncId → Option Pt := fun _ => none
theorem ok0_0 : EnvOk ⟨Try.prog, plainT, ga0, de0, fun _ => none, 0⟩ := env0
def de1 : FuncId → Option Pt := upd de0 59 (some (cmpT))
theorem ok0_1 : EnvOk ⟨Try.prog, plainT, ga0, de1, fun _ => none, 0⟩ := EnvOk.addT ok0_0 (cmpT_sound)
def de2 : FuncId → Option Pt := upd de1 56 (some (overT 4))
theorem ok0_2 : EnvOk ⟨Try.prog, plainT, ga0, de2, fun _ => none, 0⟩ := EnvOk.addT ok0_1 (overT_sound (tS := 32) (tR := 4) (e := 41) Try.func56 (by kernel_rfl) (by kernel_rfl) (by kernel_rfl) (by kernel_rfl) (by kernel_rfl) (by kernel_rfl) (by decide) (by decide))
def de3 : FuncId → Option Pt := upd de2 42 (some (overT 4))
theorem ok0_3 : EnvOk ⟨Try.prog, plainT, ga0, de3, fun _ => none, 0⟩ := EnvOk.addT ok0_2 (overT_sound (tS := 22) (tR := 4) (e := 39) Try.func42 (by kernel_rfl) (by kernel_rfl) (by kernel_rfl) (by kernel_rfl) (by kernel_rfl) (by kernel_rfl) (by decide) (by decide))
def ga1 : FuncId → Option Fspec := upd ga0 53 (some compareS)
theorem ok1_3 : EnvOk ⟨Try.prog, plainT, ga1, de3, fun _ => none, 0⟩ := EnvOk.add ok0_3 (by first | exact compareString_sound ok0_3 | exact compareString_sound ok0_3 rfl | exact compareString_sound ok0_3 rfl rfl | exact compareString_sound ok0_3 rfl rfl rfl | exact compareString_sound ok0_3 rfl rfl rfl rfl | exact compareString_sound ok0_3 rfl rfl rfl rfl rfl | exact compareString_sound ok0_3 rfl rfl rfl rfl rfl rfl | exact compareString_sound ok0_3 rfl rfl rfl rfl rfl rfl rfl | exact compareString_sound ok0_3 rfl rfl rfl rfl rfl rfl rfl rfl | exact compareString_sound ok0_3 rfl rfl rfl rfl rfl rfl rfl rfl rfl | exact compareString_sound ok0_3 rfl rfl rfl rfl rfl rfl rfl rfl rfl rfl | exact compareString_sound ok0_3 rfl rfl rfl rfl rfl rfl rfl rfl rfl rfl rfl | exact compareString_sound ok0_3 rfl rfl rfl rfl rfl rfl rfl rfl rfl rfl rfl rfl) (by kernel_rfl)
def ga2 : FuncId → Option Fspec := upd ga1 41 (some compareS)
theorem ok2_3 : EnvOk ⟨Try.prog, plainT, ga2, de3, fun _ => none, 0⟩ := EnvOk.add ok1_3 (by first | exact compare_sound ok1_3 | exact compare_sound ok1_3 rfl | exact compare_sound ok1_3 rfl rfl | exact compare_sound ok1_3 rfl rfl rfl | exact compare_sound ok1_3 rfl rfl rfl rfl | exact compare_sound ok1_3 rfl rfl rfl rfl rfl | exact compare_sound ok1_3 rfl rfl rfl rfl rfl rfl | exact compare_sound ok1_3 rfl rfl rfl rfl rfl rfl rfl | exact compare_sound ok1_3 rfl rfl rfl rfl rfl rfl rfl rfl | exact compare_sound ok1_3 rfl rfl rfl rfl rfl rfl rfl rfl rfl | exact compare_sound ok1_3 rfl rfl rfl rfl rfl rfl rfl rfl rfl rfl | exact compare_sound ok1_3 rfl rfl rfl rfl rfl rfl rfl rfl rfl rfl rfl | exact compare_sound ok1_3 rfl rfl rfl rfl rfl rfl rfl rfl rfl rfl rfl rfl) (by kernel_rfl)
def ga3 : FuncId → Option Fspec := upd ga2 58 (some nanS)
theorem ok3_3 : EnvOk ⟨Try.prog, plainT, ga3, de3, fun _ => none, 0⟩ := EnvOk.add ok2_3 (by first | exact nan_sound ok2_3 | exact nan_sound ok2_3 rfl | exact nan_sound ok2_3 rfl rfl | exact nan_sound ok2_3 rfl rfl rfl | exact nan_sound ok2_3 rfl rfl rfl rfl | exact nan_sound ok2_3 rfl rfl rfl rfl rfl | exact nan_sound ok2_3 rfl rfl rfl rfl rfl rfl | exact nan_sound ok2_3 rfl rfl rfl rfl rfl rfl rfl | exact nan_sound ok2_3 rfl rfl rfl rfl rfl rfl rfl rfl | exact nan_sound ok2_3 rfl rfl rfl rfl rfl rfl rfl rfl rfl | exact nan_sound ok2_3 rfl rfl rfl rfl rfl rfl rfl rfl rfl rfl | exact nan_sound ok2_3 rfl rfl rfl rfl rfl rfl rfl rfl rfl rfl rfl | exact nan_sound ok2_3 rfl rfl rfl rfl rfl rfl rfl rfl rfl rfl rfl rfl) (by kernel_rfl)
def ga4 : FuncId → Option Fspec := upd ga3 52 (some cmpIS)
theorem ok4_3 : EnvOk ⟨Try.prog, plainT, ga4, de3, fun _ => none, 0⟩ := EnvOk.add ok3_3 (by first | exact cmpI_sound ok3_3 | exact cmpI_sound ok3_3 rfl | exact cmpI_sound ok3_3 rfl rfl | exact cmpI_sound ok3_3 rfl rfl rfl | exact cmpI_sound ok3_3 rfl rfl rfl rfl | exact cmpI_sound ok3_3 rfl rfl rfl rfl rfl | exact cmpI_sound ok3_3 rfl rfl rfl rfl rfl rfl | exact cmpI_sound ok3_3 rfl rfl rfl rfl rfl rfl rfl | exact cmpI_sound ok3_3 rfl rfl rfl rfl rfl rfl rfl rfl | exact cmpI_sound ok3_3 rfl rfl rfl rfl rfl rfl rfl rfl rfl | exact cmpI_sound ok3_3 rfl rfl rfl rfl rfl rfl rfl rfl rfl rfl | exact cmpI_sound ok3_3 rfl rfl rfl rfl rfl rfl rfl rfl rfl rfl rfl | exact cmpI_sound ok3_3 rfl rfl rfl rfl rfl rfl rfl rfl rfl rfl rfl rfl) (by kernel_rfl)
def ga5 : FuncId → Option Fspec := upd ga4 39 (some orS)
theorem ok5_3 : EnvOk ⟨Try.prog, plainT, ga5, de3, fun _ => none, 0⟩ := EnvOk.add ok4_3 (by first | exact or_sound ok4_3 | exact or_sound ok4_3 rfl | exact or_sound ok4_3 rfl rfl | exact or_sound ok4_3 rfl rfl rfl | exact or_sound ok4_3 rfl rfl rfl rfl | exact or_sound ok4_3 rfl rfl rfl rfl rfl | exact or_sound ok4_3 rfl rfl rfl rfl rfl rfl | exact or_sound ok4_3 rfl rfl rfl rfl rfl rfl rfl | exact or_sound ok4_3 rfl rfl rfl rfl rfl rfl rfl rfl | exact or_sound ok4_3 rfl rfl rfl rfl rfl rfl rfl rfl rfl | exact or_sound ok4_3 rfl rfl rfl rfl rfl rfl rfl rfl rfl rfl | exact or_sound ok4_3 rfl rfl rfl rfl rfl rfl rfl rfl rfl rfl rfl | exact or_sound ok4_3 rfl rfl rfl rfl rfl rfl rfl rfl rfl rfl rfl rfl) (by kernel_rfl)
def ga6 : FuncId → Option Fspec := upd ga5 50 (some (bsS encId))
theorem ok6_3 : EnvOk ⟨Try.prog, plainT, ga6, de3, fun _ => none, 0⟩ := EnvOk.add ok5_3 (by first | exact bsI_sound ok5_3 | exact bsI_sound ok5_3 rfl | exact bsI_sound ok5_3 rfl rfl | exact bsI_sound ok5_3 rfl rfl rfl | exact bsI_sound ok5_3 rfl rfl rfl rfl | exact bsI_sound ok5_3 rfl rfl rfl rfl rfl | exact bsI_sound ok5_3 rfl rfl rfl rfl rfl rfl | exact bsI_sound ok5_3 rfl rfl rfl rfl rfl rfl rfl | exact bsI_sound ok5_3 rfl rfl rfl rfl rfl rfl rfl rfl | exact bsI_sound ok5_3 rfl rfl rfl rfl rfl rfl rfl rfl rfl | exact bsI_sound ok5_3 rfl rfl rfl rfl rfl rfl rfl rfl rfl rfl | exact bsI_sound ok5_3 rfl rfl rfl rfl rfl rfl rfl rfl rfl rfl rfl | exact bsI_sound ok5_3 rfl rfl rfl rfl rfl rfl rfl rfl rfl rfl rfl rfl) (by kernel_rfl)
def ga7 : FuncId → Option Fspec := upd ga6 27 (some (bsS2 encR))
theorem ok7_3 : EnvOk ⟨Try.prog, plainT, ga7, de3, fun _ => none, 0⟩ := EnvOk.add ok6_3 (by first | exact bsR_sound ok6_3 | exact bsR_sound ok6_3 rfl | exact bsR_sound ok6_3 rfl rfl | exact bsR_sound ok6_3 rfl rfl rfl | exact bsR_sound ok6_3 rfl rfl rfl rfl | exact bsR_sound ok6_3 rfl rfl rfl rfl rfl | exact bsR_sound ok6_3 rfl rfl rfl rfl rfl rfl | exact bsR_sound ok6_3 rfl rfl rfl rfl rfl rfl rfl | exact bsR_sound ok6_3 rfl rfl rfl rfl rfl rfl rfl rfl | exact bsR_sound ok6_3 rfl rfl rfl rfl rfl rfl rfl rfl rfl | exact bsR_sound ok6_3 rfl rfl rfl rfl rfl rfl rfl rfl rfl rfl | exact bsR_sound ok6_3 rfl rfl rfl rfl rfl rfl rfl rfl rfl rfl rfl | exact bsR_sound ok6_3 rfl rfl rfl rfl rfl rfl rfl rfl rfl rfl rfl rfl) (by kernel_rfl)
def ga8 : FuncId → Option Fspec := upd ga7 46 (some (bsS2 encW))
theorem ok8_3 : EnvOk ⟨Try.prog, plainT, ga8, de3, fun _ => none, 0⟩ := EnvOk.add ok7_3 (by first | exact bsW_sound ok7_3 | exact bsW_sound ok7_3 rfl | exact bsW_sound ok7_3 rfl rfl | exact bsW_sound ok7_3 rfl rfl rfl | exact bsW_sound ok7_3 rfl rfl rfl rfl | exact bsW_sound ok7_3 rfl rfl rfl rfl rfl | exact bsW_sound ok7_3 rfl rfl rfl rfl rfl rfl | exact bsW_sound ok7_3 rfl rfl rfl rfl rfl rfl rfl | exact bsW_sound ok7_3 rfl rfl rfl rfl rfl rfl rfl rfl | exact bsW_sound ok7_3 rfl rfl rfl rfl rfl rfl rfl rfl rfl | exact bsW_sound ok7_3 rfl rfl rfl rfl rfl rfl rfl rfl rfl rfl | exact bsW_sound ok7_3 rfl rfl rfl rfl rfl rfl rfl rfl rfl rfl rfl | exact bsW_sound ok7_3 rfl rfl rfl rfl rfl rfl rfl rfl rfl rfl rfl rfl) (by kernel_rfl)
def ga9 : FuncId → Option Fspec := upd ga8 40 (some cmpIdS)
theorem ok9_3 : EnvOk ⟨Try.prog, plainT, ga9, de3, fun _ => none, 0⟩ := EnvOk.add ok8_3 (by first | exact cmpId_sound ok8_3 | exact cmpId_sound ok8_3 rfl | exact cmpId_sound ok8_3 rfl rfl | exact cmpId_sound ok8_3 rfl rfl rfl | exact cmpId_sound ok8_3 rfl rfl rfl rfl | exact cmpId_sound ok8_3 rfl rfl rfl rfl rfl | exact cmpId_sound ok8_3 rfl rfl rfl rfl rfl rfl | exact cmpId_sound ok8_3 rfl rfl rfl rfl rfl rfl rfl | exact cmpId_sound ok8_3 rfl rfl rfl rfl rfl rfl rfl rfl | exact cmpId_sound ok8_3 rfl rfl rfl rfl rfl rfl rfl rfl rfl | exact cmpId_sound ok8_3 rfl rfl rfl rfl rfl rfl rfl rfl rfl rfl | exact cmpId_sound ok8_3 rfl rfl rfl rfl rfl rfl rfl rfl rfl rfl rfl | exact cmpId_sound ok8_3 rfl rfl rfl rfl rfl rfl rfl rfl rfl rfl rfl rfl) (by kernel_rfl)
def ga10 : FuncId → Option Fspec := upd ga9 28 (some cmpRegS)
theorem ok10_3 : EnvOk ⟨Try.prog, plainT, ga10, de3, fun _ => none, 0⟩ := EnvOk.add ok9_3 (by first | exact cmpReg_sound ok9_3 | exact cmpReg_sound ok9_3 rfl | exact cmpReg_sound ok9_3 rfl rfl | exact cmpReg_sound ok9_3 rfl rfl rfl | exact cmpReg_sound ok9_3 rfl rfl rfl rfl | exact cmpReg_sound ok9_3 rfl rfl rfl rfl rfl | exact cmpReg_sound ok9_3 rfl rfl rfl rfl rfl rfl | exact cmpReg_sound ok9_3 rfl rfl rfl rfl rfl rfl rfl | exact cmpReg_sound ok9_3 rfl rfl rfl rfl rfl rfl rfl rfl | exact cmpReg_sound ok9_3 rfl rfl rfl rfl rfl rfl rfl rfl rfl | exact cmpReg_sound ok9_3 rfl rfl rfl rfl rfl rfl rfl rfl rfl rfl | exact cmpReg_sound ok9_3 rfl rfl rfl rfl rfl rfl rfl rfl rfl rfl rfl | exact cmpReg_sound ok9_3 rfl rfl rfl rfl rfl rfl rfl rfl rfl rfl rfl rfl) (by kernel_rfl)
def ga11 : FuncId → Option Fspec := upd ga10 47 (some cmpWS)
theorem ok11_3 : EnvOk ⟨Try.prog, plainT, ga11, de3, fun _ => none, 0⟩ := EnvOk.add ok10_3 (by first | exact cmpW_sound ok10_3 | exact cmpW_sound ok10_3 rfl | exact cmpW_sound ok10_3 rfl rfl | exact cmpW_sound ok10_3 rfl rfl rfl | exact cmpW_sound ok10_3 rfl rfl rfl rfl | exact cmpW_sound ok10_3 rfl rfl rfl rfl rfl | exact cmpW_sound ok10_3 rfl rfl rfl rfl rfl rfl | exact cmpW_sound ok10_3 rfl rfl rfl rfl rfl rfl rfl | exact cmpW_sound ok10_3 rfl rfl rfl rfl rfl rfl rfl rfl | exact cmpW_sound ok10_3 rfl rfl rfl rfl rfl rfl rfl rfl rfl | exact cmpW_sound ok10_3 rfl rfl rfl rfl rfl rfl rfl rfl rfl rfl | exact cmpW_sound ok10_3 rfl rfl rfl rfl rfl rfl rfl rfl rfl rfl rfl | exact cmpW_sound ok10_3 rfl rfl rfl rfl rfl rfl rfl rfl rfl rfl rfl rfl) (by kernel_rfl)
def ga12 : FuncId → Option Fspec := upd ga11 51 (some plac1S)
theorem ok12_3 : EnvOk ⟨Try.prog, plainT, ga12, de3, fun _ => none, 0⟩ := EnvOk.add ok11_3 (by first | exact plac1_sound ok11_3 | exact plac1_sound ok11_3 rfl | exact plac1_sound ok11_3 rfl rfl | exact plac1_sound ok11_3 rfl rfl rfl | exact plac1_sound ok11_3 rfl rfl rfl rfl | exact plac1_sound ok11_3 rfl rfl rfl rfl rfl | exact plac1_sound ok11_3 rfl rfl rfl rfl rfl rfl | exact plac1_sound ok11_3 rfl rfl rfl rfl rfl rfl rfl | exact plac1_sound ok11_3 rfl rfl rfl rfl rfl rfl rfl rfl | exact plac1_sound ok11_3 rfl rfl rfl rfl rfl rfl rfl rfl rfl | exact plac1_sound ok11_3 rfl rfl rfl rfl rfl rfl rfl rfl rfl rfl | exact plac1_sound ok11_3 rfl rfl rfl rfl rfl rfl rfl rfl rfl rfl rfl | exact plac1_sound ok11_3 rfl rfl rfl rfl rfl rfl rfl rfl rfl rfl rfl rfl) (by kernel_rfl)
def ga13 : FuncId → Option Fspec := upd ga12 36 (some placS)
theorem ok13_3 : EnvOk ⟨Try.prog, plainT, ga13, de3, fun _ => none, 0⟩ := EnvOk.add ok12_3 (by first | exact plac_sound ok12_3 | exact plac_sound ok12_3 rfl | exact plac_sound ok12_3 rfl rfl | exact plac_sound ok12_3 rfl rfl rfl | exact plac_sound ok12_3 rfl rfl rfl rfl | exact plac_sound ok12_3 rfl rfl rfl rfl rfl | exact plac_sound ok12_3 rfl rfl rfl rfl rfl rfl | exact plac_sound ok12_3 rfl rfl rfl rfl rfl rfl rfl | exact plac_sound ok12_3 rfl rfl rfl rfl rfl rfl rfl rfl | exact plac_sound ok12_3 rfl rfl rfl rfl rfl rfl rfl rfl rfl | exact plac_sound ok12_3 rfl rfl rfl rfl rfl rfl rfl rfl rfl rfl | exact plac_sound ok12_3 rfl rfl rfl rfl rfl rfl rfl rfl rfl rfl rfl | exact plac_sound ok12_3 rfl rfl rfl rfl rfl rfl rfl rfl rfl rfl rfl rfl) (by kernel_rfl)
def ga14 : FuncId → Option Fspec := upd ga13 49 (some uptoS)
theorem ok14_3 : EnvOk ⟨Try.prog, plainT, ga14, de3, fun _ => none, 0⟩ := EnvOk.add ok13_3 (by first | exact upto_sound ok13_3 | exact upto_sound ok13_3 rfl | exact upto_sound ok13_3 rfl rfl | exact upto_sound ok13_3 rfl rfl rfl | exact upto_sound ok13_3 rfl rfl rfl rfl | exact upto_sound ok13_3 rfl rfl rfl rfl rfl | exact upto_sound ok13_3 rfl rfl rfl rfl rfl rfl | exact upto_sound ok13_3 rfl rfl rfl rfl rfl rfl rfl | exact upto_sound ok13_3 rfl rfl rfl rfl rfl rfl rfl rfl | exact upto_sound ok13_3 rfl rfl rfl rfl rfl rfl rfl rfl rfl | exact upto_sound ok13_3 rfl rfl rfl rfl rfl rfl rfl rfl rfl rfl | exact upto_sound ok13_3 rfl rfl rfl rfl rfl rfl rfl rfl rfl rfl rfl | exact upto_sound ok13_3 rfl rfl rfl rfl rfl rfl rfl rfl rfl rfl rfl rfl) (by kernel_rfl)
def ga15 : FuncId → Option Fspec := upd ga14 35 (some hasS)
theorem ok15_3 : EnvOk ⟨Try.prog, plainT, ga15, de3, fun _ => none, 0⟩ := EnvOk.add ok14_3 (by first | exact has_sound ok14_3 | exact has_sound ok14_3 rfl | exact has_sound ok14_3 rfl rfl | exact has_sound ok14_3 rfl rfl rfl | exact has_sound ok14_3 rfl rfl rfl rfl | exact has_sound ok14_3 rfl rfl rfl rfl rfl | exact has_sound ok14_3 rfl rfl rfl rfl rfl rfl | exact has_sound ok14_3 rfl rfl rfl rfl rfl rfl rfl | exact has_sound ok14_3 rfl rfl rfl rfl rfl rfl rfl rfl | exact has_sound ok14_3 rfl rfl rfl rfl rfl rfl rfl rfl rfl | exact has_sound ok14_3 rfl rfl rfl rfl rfl rfl rfl rfl rfl rfl | exact has_sound ok14_3 rfl rfl rfl rfl rfl rfl rfl rfl rfl rfl rfl | exact has_sound ok14_3 rfl rfl rfl rfl rfl rfl rfl rfl rfl rfl rfl rfl) (by kernel_rfl)
def ga16 : FuncId → Option Fspec := upd ga15 21 (some contS)
theorem ok16_3 : EnvOk ⟨Try.prog, plainT, ga16, de3, fun _ => none, 0⟩ := EnvOk.add ok15_3 (by first | exact cont_sound ok15_3 | exact cont_sound ok15_3 rfl | exact cont_sound ok15_3 rfl rfl | exact cont_sound ok15_3 rfl rfl rfl | exact cont_sound ok15_3 rfl rfl rfl rfl | exact cont_sound ok15_3 rfl rfl rfl rfl rfl | exact cont_sound ok15_3 rfl rfl rfl rfl rfl rfl | exact cont_sound ok15_3 rfl rfl rfl rfl rfl rfl rfl | exact cont_sound ok15_3 rfl rfl rfl rfl rfl rfl rfl rfl | exact cont_sound ok15_3 rfl rfl rfl rfl rfl rfl rfl rfl rfl | exact cont_sound ok15_3 rfl rfl rfl rfl rfl rfl rfl rfl rfl rfl | exact cont_sound ok15_3 rfl rfl rfl rfl rfl rfl rfl rfl rfl rfl rfl | exact cont_sound ok15_3 rfl rfl rfl rfl rfl rfl rfl rfl rfl rfl rfl rfl) (by kernel_rfl)
def ga17 : FuncId → Option Fspec := upd ga16 37 (some lessS)
theorem ok17_3 : EnvOk ⟨Try.prog, plainT, ga17, de3, fun _ => none, 0⟩ := EnvOk.add ok16_3 (by first | exact less_sound ok16_3 | exact less_sound ok16_3 rfl | exact less_sound ok16_3 rfl rfl | exact less_sound ok16_3 rfl rfl rfl | exact less_sound ok16_3 rfl rfl rfl rfl | exact less_sound ok16_3 rfl rfl rfl rfl rfl | exact less_sound ok16_3 rfl rfl rfl rfl rfl rfl | exact less_sound ok16_3 rfl rfl rfl rfl rfl rfl rfl | exact less_sound ok16_3 rfl rfl rfl rfl rfl rfl rfl rfl | exact less_sound ok16_3 rfl rfl rfl rfl rfl rfl rfl rfl rfl | exact less_sound ok16_3 rfl rfl rfl rfl rfl rfl rfl rfl rfl rfl | exact less_sound ok16_3 rfl rfl rfl rfl rfl rfl rfl rfl rfl rfl rfl | exact less_sound ok16_3 rfl rfl rfl rfl rfl rfl rfl rfl rfl rfl rfl rfl) (by kernel_rfl)
def ga18 : FuncId → Option Fspec := upd ga17 24 (some aheadS)
theorem ok18_3 : EnvOk ⟨Try.prog, plainT, ga18, de3, fun _ => none, 0⟩ := EnvOk.add ok17_3 (by first | exact ahead_sound ok17_3 | exact ahead_sound ok17_3 rfl | exact ahead_sound ok17_3 rfl rfl | exact ahead_sound ok17_3 rfl rfl rfl | exact ahead_sound ok17_3 rfl rfl rfl rfl | exact ahead_sound ok17_3 rfl rfl rfl rfl rfl | exact ahead_sound ok17_3 rfl rfl rfl rfl rfl rfl | exact ahead_sound ok17_3 rfl rfl rfl rfl rfl rfl rfl | exact ahead_sound ok17_3 rfl rfl rfl rfl rfl rfl rfl rfl | exact ahead_sound ok17_3 rfl rfl rfl rfl rfl rfl rfl rfl rfl | exact ahead_sound ok17_3 rfl rfl rfl rfl rfl rfl rfl rfl rfl rfl | exact ahead_sound ok17_3 rfl rfl rfl rfl rfl rfl rfl rfl rfl rfl rfl | exact ahead_sound ok17_3 rfl rfl rfl rfl rfl rfl rfl rfl rfl rfl rfl rfl) (by kernel_rfl)
def ga19 : FuncId → Option Fspec := upd ga18 23 (some firstS)
theorem ok19_3 : EnvOk ⟨Try.prog, plainT, ga19, de3, fun _ => none, 0⟩ := EnvOk.add ok18_3 (by first | exact first_sound ok18_3 | exact first_sound ok18_3 rfl | exact first_sound ok18_3 rfl rfl | exact first_sound ok18_3 rfl rfl rfl | exact first_sound ok18_3 rfl rfl rfl rfl | exact first_sound ok18_3 rfl rfl rfl rfl rfl | exact first_sound ok18_3 rfl rfl rfl rfl rfl rfl | exact first_sound ok18_3 rfl rfl rfl rfl rfl rfl rfl | exact first_sound ok18_3 rfl rfl rfl rfl rfl rfl rfl rfl | exact first_sound ok18_3 rfl rfl rfl rfl rfl rfl rfl rfl rfl | exact first_sound ok18_3 rfl rfl rfl rfl rfl rfl rfl rfl rfl rfl | exact first_sound ok18_3 rfl rfl rfl rfl rfl rfl rfl rfl rfl rfl rfl | exact first_sound ok18_3 rfl rfl rfl rfl rfl rfl rfl rfl rfl rfl rfl rfl) (by kernel_rfl)
def ga20 : FuncId → Option Fspec := upd ga19 18 (some lastS)
theorem ok20_3 : EnvOk ⟨Try.prog, plainT, ga20, de3, fun _ => none, 0⟩ := EnvOk.add ok19_3 (by first | exact last_sound ok19_3 | exact last_sound ok19_3 rfl | exact last_sound ok19_3 rfl rfl | exact last_sound ok19_3 rfl rfl rfl | exact last_sound ok19_3 rfl rfl rfl rfl | exact last_sound ok19_3 rfl rfl rfl rfl rfl | exact last_sound ok19_3 rfl rfl rfl rfl rfl rfl | exact last_sound ok19_3 rfl rfl rfl rfl rfl rfl rfl | exact last_sound ok19_3 rfl rfl rfl rfl rfl rfl rfl rfl | exact last_sound ok19_3 rfl rfl rfl rfl rfl rfl rfl rfl rfl | exact last_sound ok19_3 rfl rfl rfl rfl rfl rfl rfl rfl rfl rfl | exact last_sound ok19_3 rfl rfl rfl rfl rfl rfl rfl rfl rfl rfl rfl | exact last_sound ok19_3 rfl rfl rfl rfl rfl rfl rfl rfl rfl rfl rfl rfl) (by kernel_rfl)
def ga21 : FuncId → Option Fspec := upd ga20 17 (some lastS)
theorem ok21_3 : EnvOk ⟨Try.prog, plainT, ga21, de3, fun _ => none, 0⟩ := EnvOk.add ok20_3 (by first | exact winner_sound ok20_3 | exact winner_sound ok20_3 rfl | exact winner_sound ok20_3 rfl rfl | exact winner_sound ok20_3 rfl rfl rfl | exact winner_sound ok20_3 rfl rfl rfl rfl | exact winner_sound ok20_3 rfl rfl rfl rfl rfl | exact winner_sound ok20_3 rfl rfl rfl rfl rfl rfl | exact winner_sound ok20_3 rfl rfl rfl rfl rfl rfl rfl | exact winner_sound ok20_3 rfl rfl rfl rfl rfl rfl rfl rfl | exact winner_sound ok20_3 rfl rfl rfl rfl rfl rfl rfl rfl rfl | exact winner_sound ok20_3 rfl rfl rfl rfl rfl rfl rfl rfl rfl rfl | exact winner_sound ok20_3 rfl rfl rfl rfl rfl rfl rfl rfl rfl rfl rfl | exact winner_sound ok20_3 rfl rfl rfl rfl rfl rfl rfl rfl rfl rfl rfl rfl) (by kernel_rfl)
def ga22 : FuncId → Option Fspec := upd ga21 19 (some marksS)
theorem ok22_3 : EnvOk ⟨Try.prog, plainT, ga22, de3, fun _ => none, 0⟩ := EnvOk.add ok21_3 (by first | exact marks_sound ok21_3 | exact marks_sound ok21_3 rfl | exact marks_sound ok21_3 rfl rfl | exact marks_sound ok21_3 rfl rfl rfl | exact marks_sound ok21_3 rfl rfl rfl rfl | exact marks_sound ok21_3 rfl rfl rfl rfl rfl | exact marks_sound ok21_3 rfl rfl rfl rfl rfl rfl | exact marks_sound ok21_3 rfl rfl rfl rfl rfl rfl rfl | exact marks_sound ok21_3 rfl rfl rfl rfl rfl rfl rfl rfl | exact marks_sound ok21_3 rfl rfl rfl rfl rfl rfl rfl rfl rfl | exact marks_sound ok21_3 rfl rfl rfl rfl rfl rfl rfl rfl rfl rfl | exact marks_sound ok21_3 rfl rfl rfl rfl rfl rfl rfl rfl rfl rfl rfl | exact marks_sound ok21_3 rfl rfl rfl rfl rfl rfl rfl rfl rfl rfl rfl rfl) (by kernel_rfl)
def ga23 : FuncId → Option Fspec := upd ga22 16 (some getS)
theorem ok23_3 : EnvOk ⟨Try.prog, plainT, ga23, de3, fun _ => none, 0⟩ := EnvOk.add ok22_3 (by first | exact get_sound ok22_3 | exact get_sound ok22_3 rfl | exact get_sound ok22_3 rfl rfl | exact get_sound ok22_3 rfl rfl rfl | exact get_sound ok22_3 rfl rfl rfl rfl | exact get_sound ok22_3 rfl rfl rfl rfl rfl | exact get_sound ok22_3 rfl rfl rfl rfl rfl rfl | exact get_sound ok22_3 rfl rfl rfl rfl rfl rfl rfl | exact get_sound ok22_3 rfl rfl rfl rfl rfl rfl rfl rfl | exact get_sound ok22_3 rfl rfl rfl rfl rfl rfl rfl rfl rfl | exact get_sound ok22_3 rfl rfl rfl rfl rfl rfl rfl rfl rfl rfl | exact get_sound ok22_3 rfl rfl rfl rfl rfl rfl rfl rfl rfl rfl rfl | exact get_sound ok22_3 rfl rfl rfl rfl rfl rfl rfl rfl rfl rfl rfl rfl) (by kernel_rfl)
def ga24 : FuncId → Option Fspec := upd ga23 32 (some (idxS encR))
theorem ok24_3 : EnvOk ⟨Try.prog, plainT, ga24, de3, fun _ => none, 0⟩ := EnvOk.add ok23_3 (by first | exact idxR_sound ok23_3 | exact idxR_sound ok23_3 rfl | exact idxR_sound ok23_3 rfl rfl | exact idxR_sound ok23_3 rfl rfl rfl | exact idxR_sound ok23_3 rfl rfl rfl rfl | exact idxR_sound ok23_3 rfl rfl rfl rfl rfl | exact idxR_sound ok23_3 rfl rfl rfl rfl rfl rfl | exact idxR_sound ok23_3 rfl rfl rfl rfl rfl rfl rfl | exact idxR_sound ok23_3 rfl rfl rfl rfl rfl rfl rfl rfl | exact idxR_sound ok23_3 rfl rfl rfl rfl rfl rfl rfl rfl rfl | exact idxR_sound ok23_3 rfl rfl rfl rfl rfl rfl rfl rfl rfl rfl | exact idxR_sound ok23_3 rfl rfl rfl rfl rfl rfl rfl rfl rfl rfl rfl | exact idxR_sound ok23_3 rfl rfl rfl rfl rfl rfl rfl rfl rfl rfl rfl rfl) (by kernel_rfl)
def ga25 : FuncId → Option Fspec := upd ga24 55 (some (idxS encW))
theorem ok25_3 : EnvOk ⟨Try.prog, plainT, ga25, de3, fun _ => none, 0⟩ := EnvOk.add ok24_3 (by first | exact idxW_sound ok24_3 | exact idxW_sound ok24_3 rfl | exact idxW_sound ok24_3 rfl rfl | exact idxW_sound ok24_3 rfl rfl rfl | exact idxW_sound ok24_3 rfl rfl rfl rfl | exact idxW_sound ok24_3 rfl rfl rfl rfl rfl | exact idxW_sound ok24_3 rfl rfl rfl rfl rfl rfl | exact idxW_sound ok24_3 rfl rfl rfl rfl rfl rfl rfl | exact idxW_sound ok24_3 rfl rfl rfl rfl rfl rfl rfl rfl | exact idxW_sound ok24_3 rfl rfl rfl rfl rfl rfl rfl rfl rfl | exact idxW_sound ok24_3 rfl rfl rfl rfl rfl rfl rfl rfl rfl rfl | exact idxW_sound ok24_3 rfl rfl rfl rfl rfl rfl rfl rfl rfl rfl rfl | exact idxW_sound ok24_3 rfl rfl rfl rfl rfl rfl rfl rfl rfl rfl rfl rfl) (by kernel_rfl)
def ga26 : FuncId → Option Fspec := upd ga25 33 (some lk1S)
theorem ok26_3 : EnvOk ⟨Try.prog, plainT, ga26, de3, fun _ => none, 0⟩ := EnvOk.add ok25_3 (by first | exact lk1_sound ok25_3 | exact lk1_sound ok25_3 rfl | exact lk1_sound ok25_3 rfl rfl | exact lk1_sound ok25_3 rfl rfl rfl | exact lk1_sound ok25_3 rfl rfl rfl rfl | exact lk1_sound ok25_3 rfl rfl rfl rfl rfl | exact lk1_sound ok25_3 rfl rfl rfl rfl rfl rfl | exact lk1_sound ok25_3 rfl rfl rfl rfl rfl rfl rfl | exact lk1_sound ok25_3 rfl rfl rfl rfl rfl rfl rfl rfl | exact lk1_sound ok25_3 rfl rfl rfl rfl rfl rfl rfl rfl rfl | exact lk1_sound ok25_3 rfl rfl rfl rfl rfl rfl rfl rfl rfl rfl | exact lk1_sound ok25_3 rfl rfl rfl rfl rfl rfl rfl rfl rfl rfl rfl | exact lk1_sound ok25_3 rfl rfl rfl rfl rfl rfl rfl rfl rfl rfl rfl rfl) (by kernel_rfl)
def ga27 : FuncId → Option Fspec := upd ga26 34 (some (cloneS encW 4))
theorem ok27_3 : EnvOk ⟨Try.prog, plainT, ga27, de3, fun _ => none, 0⟩ := EnvOk.add ok26_3 (by first | exact cloneW_sound ok26_3 | exact cloneW_sound ok26_3 rfl | exact cloneW_sound ok26_3 rfl rfl | exact cloneW_sound ok26_3 rfl rfl rfl | exact cloneW_sound ok26_3 rfl rfl rfl rfl | exact cloneW_sound ok26_3 rfl rfl rfl rfl rfl | exact cloneW_sound ok26_3 rfl rfl rfl rfl rfl rfl | exact cloneW_sound ok26_3 rfl rfl rfl rfl rfl rfl rfl | exact cloneW_sound ok26_3 rfl rfl rfl rfl rfl rfl rfl rfl | exact cloneW_sound ok26_3 rfl rfl rfl rfl rfl rfl rfl rfl rfl | exact cloneW_sound ok26_3 rfl rfl rfl rfl rfl rfl rfl rfl rfl rfl | exact cloneW_sound ok26_3 rfl rfl rfl rfl rfl rfl rfl rfl rfl rfl rfl | exact cloneW_sound ok26_3 rfl rfl rfl rfl rfl rfl rfl rfl rfl rfl rfl rfl) (by kernel_rfl)
def ga28 : FuncId → Option Fspec := upd ga27 26 (some (cloneS encR 4))
theorem ok28_3 : EnvOk ⟨Try.prog, plainT, ga28, de3, fun _ => none, 0⟩ := EnvOk.add ok27_3 (by first | exact cloneR_sound ok27_3 | exact cloneR_sound ok27_3 rfl | exact cloneR_sound ok27_3 rfl rfl | exact cloneR_sound ok27_3 rfl rfl rfl | exact cloneR_sound ok27_3 rfl rfl rfl rfl | exact cloneR_sound ok27_3 rfl rfl rfl rfl rfl | exact cloneR_sound ok27_3 rfl rfl rfl rfl rfl rfl | exact cloneR_sound ok27_3 rfl rfl rfl rfl rfl rfl rfl | exact cloneR_sound ok27_3 rfl rfl rfl rfl rfl rfl rfl rfl | exact cloneR_sound ok27_3 rfl rfl rfl rfl rfl rfl rfl rfl rfl | exact cloneR_sound ok27_3 rfl rfl rfl rfl rfl rfl rfl rfl rfl rfl | exact cloneR_sound ok27_3 rfl rfl rfl rfl rfl rfl rfl rfl rfl rfl rfl | exact cloneR_sound ok27_3 rfl rfl rfl rfl rfl rfl rfl rfl rfl rfl rfl rfl) (by kernel_rfl)
def ga29 : FuncId → Option Fspec := upd ga28 15 (some lookS)
theorem ok29_3 : EnvOk ⟨Try.prog, plainT, ga29, de3, fun _ => none, 0⟩ := EnvOk.add ok28_3 (by first | exact look_sound ok28_3 | exact look_sound ok28_3 rfl | exact look_sound ok28_3 rfl rfl | exact look_sound ok28_3 rfl rfl rfl | exact look_sound ok28_3 rfl rfl rfl rfl | exact look_sound ok28_3 rfl rfl rfl rfl rfl | exact look_sound ok28_3 rfl rfl rfl rfl rfl rfl | exact look_sound ok28_3 rfl rfl rfl rfl rfl rfl rfl | exact look_sound ok28_3 rfl rfl rfl rfl rfl rfl rfl rfl | exact look_sound ok28_3 rfl rfl rfl rfl rfl rfl rfl rfl rfl | exact look_sound ok28_3 rfl rfl rfl rfl rfl rfl rfl rfl rfl rfl | exact look_sound ok28_3 rfl rfl rfl rfl rfl rfl rfl rfl rfl rfl rfl | exact look_sound ok28_3 rfl rfl rfl rfl rfl rfl rfl rfl rfl rfl rfl rfl) (by kernel_rfl)
def ga30 : FuncId → Option Fspec := upd ga29 38 (some authS)
theorem ok30_3 : EnvOk ⟨Try.prog, plainT, ga30, de3, fun _ => none, 0⟩ := EnvOk.add ok29_3 (by first | exact auth_sound ok29_3 | exact auth_sound ok29_3 rfl | exact auth_sound ok29_3 rfl rfl | exact auth_sound ok29_3 rfl rfl rfl | exact auth_sound ok29_3 rfl rfl rfl rfl | exact auth_sound ok29_3 rfl rfl rfl rfl rfl | exact auth_sound ok29_3 rfl rfl rfl rfl rfl rfl | exact auth_sound ok29_3 rfl rfl rfl rfl rfl rfl rfl | exact auth_sound ok29_3 rfl rfl rfl rfl rfl rfl rfl rfl | exact auth_sound ok29_3 rfl rfl rfl rfl rfl rfl rfl rfl rfl | exact auth_sound ok29_3 rfl rfl rfl rfl rfl rfl rfl rfl rfl rfl | exact auth_sound ok29_3 rfl rfl rfl rfl rfl rfl rfl rfl rfl rfl rfl | exact auth_sound ok29_3 rfl rfl rfl rfl rfl rfl rfl rfl rfl rfl rfl rfl) (by kernel_rfl)
def ga31 : FuncId → Option Fspec := upd ga30 25 (some chkS)
theorem ok31_3 : EnvOk ⟨Try.prog, plainT, ga31, de3, fun _ => none, 0⟩ := EnvOk.add ok30_3 (by first | exact chk_sound ok30_3 | exact chk_sound ok30_3 rfl | exact chk_sound ok30_3 rfl rfl | exact chk_sound ok30_3 rfl rfl rfl | exact chk_sound ok30_3 rfl rfl rfl rfl | exact chk_sound ok30_3 rfl rfl rfl rfl rfl | exact chk_sound ok30_3 rfl rfl rfl rfl rfl rfl | exact chk_sound ok30_3 rfl rfl rfl rfl rfl rfl rfl | exact chk_sound ok30_3 rfl rfl rfl rfl rfl rfl rfl rfl | exact chk_sound ok30_3 rfl rfl rfl rfl rfl rfl rfl rfl rfl | exact chk_sound ok30_3 rfl rfl rfl rfl rfl rfl rfl rfl rfl rfl | exact chk_sound ok30_3 rfl rfl rfl rfl rfl rfl rfl rfl rfl rfl rfl | exact chk_sound ok30_3 rfl rfl rfl rfl rfl rfl rfl rfl rfl rfl rfl rfl) (by kernel_rfl)
def ga32 : FuncId → Option Fspec := upd ga31 45 (some wr1S)
theorem ok32_3 : EnvOk ⟨Try.prog, plainT, ga32, de3, fun _ => none, 0⟩ := EnvOk.add ok31_3 (by first | exact wr1_sound ok31_3 | exact wr1_sound ok31_3 rfl | exact wr1_sound ok31_3 rfl rfl | exact wr1_sound ok31_3 rfl rfl rfl | exact wr1_sound ok31_3 rfl rfl rfl rfl | exact wr1_sound ok31_3 rfl rfl rfl rfl rfl | exact wr1_sound ok31_3 rfl rfl rfl rfl rfl rfl | exact wr1_sound ok31_3 rfl rfl rfl rfl rfl rfl rfl | exact wr1_sound ok31_3 rfl rfl rfl rfl rfl rfl rfl rfl | exact wr1_sound ok31_3 rfl rfl rfl rfl rfl rfl rfl rfl rfl | exact wr1_sound ok31_3 rfl rfl rfl rfl rfl rfl rfl rfl rfl rfl | exact wr1_sound ok31_3 rfl rfl rfl rfl rfl rfl rfl rfl rfl rfl rfl | exact wr1_sound ok31_3 rfl rfl rfl rfl rfl rfl rfl rfl rfl rfl rfl rfl) (by kernel_rfl)
def ga33 : FuncId → Option Fspec := upd ga32 12 (some sameS)
theorem ok33_3 : EnvOk ⟨Try.prog, plainT, ga33, de3, fun _ => none, 0⟩ := EnvOk.add ok32_3 (by first | exact same_sound ok32_3 | exact same_sound ok32_3 rfl | exact same_sound ok32_3 rfl rfl | exact same_sound ok32_3 rfl rfl rfl | exact same_sound ok32_3 rfl rfl rfl rfl | exact same_sound ok32_3 rfl rfl rfl rfl rfl | exact same_sound ok32_3 rfl rfl rfl rfl rfl rfl | exact same_sound ok32_3 rfl rfl rfl rfl rfl rfl rfl | exact same_sound ok32_3 rfl rfl rfl rfl rfl rfl rfl rfl | exact same_sound ok32_3 rfl rfl rfl rfl rfl rfl rfl rfl rfl | exact same_sound ok32_3 rfl rfl rfl rfl rfl rfl rfl rfl rfl rfl | exact same_sound ok32_3 rfl rfl rfl rfl rfl rfl rfl rfl rfl rfl rfl | exact same_sound ok32_3 rfl rfl rfl rfl rfl rfl rfl rfl rfl rfl rfl rfl) (by kernel_rfl)
def ga34 : FuncId → Option Fspec := upd ga33 22 (some setS)
theorem ok34_3 : EnvOk ⟨Try.prog, plainT, ga34, de3, fun _ => none, 0⟩ := EnvOk.add ok33_3 (by first | exact set_sound ok33_3 | exact set_sound ok33_3 rfl | exact set_sound ok33_3 rfl rfl | exact set_sound ok33_3 rfl rfl rfl | exact set_sound ok33_3 rfl rfl rfl rfl | exact set_sound ok33_3 rfl rfl rfl rfl rfl | exact set_sound ok33_3 rfl rfl rfl rfl rfl rfl | exact set_sound ok33_3 rfl rfl rfl rfl rfl rfl rfl | exact set_sound ok33_3 rfl rfl rfl rfl rfl rfl rfl rfl | exact set_sound ok33_3 rfl rfl rfl rfl rfl rfl rfl rfl rfl | exact set_sound ok33_3 rfl rfl rfl rfl rfl rfl rfl rfl rfl rfl | exact set_sound ok33_3 rfl rfl rfl rfl rfl rfl rfl rfl rfl rfl rfl | exact set_sound ok33_3 rfl rfl rfl rfl rfl rfl rfl rfl rfl rfl rfl rfl) (by kernel_rfl)
def ga35 : FuncId → Option Fspec := upd ga34 11 (some fineS)
theorem ok35_3 : EnvOk ⟨Try.prog, plainT, ga35, de3, fun _ => none, 0⟩ := EnvOk.add ok34_3 (by first | exact fine_sound ok34_3 | exact fine_sound ok34_3 rfl | exact fine_sound ok34_3 rfl rfl | exact fine_sound ok34_3 rfl rfl rfl | exact fine_sound ok34_3 rfl rfl rfl rfl | exact fine_sound ok34_3 rfl rfl rfl rfl rfl | exact fine_sound ok34_3 rfl rfl rfl rfl rfl rfl | exact fine_sound ok34_3 rfl rfl rfl rfl rfl rfl rfl | exact fine_sound ok34_3 rfl rfl rfl rfl rfl rfl rfl rfl | exact fine_sound ok34_3 rfl rfl rfl rfl rfl rfl rfl rfl rfl | exact fine_sound ok34_3 rfl rfl rfl rfl rfl rfl rfl rfl rfl rfl | exact fine_sound ok34_3 rfl rfl rfl rfl rfl rfl rfl rfl rfl rfl rfl | exact fine_sound ok34_3 rfl rfl rfl rfl rfl rfl rfl rfl rfl rfl rfl rfl) (by kernel_rfl)
def de4 : FuncId → Option Pt := upd de3 48 (some (insT 4))
theorem ok35_4 : EnvOk ⟨Try.prog, plainT, ga35, de4, fun _ => none, 0⟩ := EnvOk.addT ok35_3 (by first | exact insW_sound ok35_3 | exact insW_sound ok35_3 rfl | exact insW_sound ok35_3 rfl rfl | exact insW_sound ok35_3 rfl rfl rfl | exact insW_sound ok35_3 rfl rfl rfl rfl | exact insW_sound ok35_3 rfl rfl rfl rfl rfl | exact insW_sound ok35_3 rfl rfl rfl rfl rfl rfl | exact insW_sound ok35_3 rfl rfl rfl rfl rfl rfl rfl | exact insW_sound ok35_3 rfl rfl rfl rfl rfl rfl rfl rfl | exact insW_sound ok35_3 rfl rfl rfl rfl rfl rfl rfl rfl rfl | exact insW_sound ok35_3 rfl rfl rfl rfl rfl rfl rfl rfl rfl rfl | exact insW_sound ok35_3 rfl rfl rfl rfl rfl rfl rfl rfl rfl rfl rfl | exact insW_sound ok35_3 rfl rfl rfl rfl rfl rfl rfl rfl rfl rfl rfl rfl)
def de5 : FuncId → Option Pt := upd de4 29 (some (insT 4))
theorem ok35_5 : EnvOk ⟨Try.prog, plainT, ga35, de5, fun _ => none, 0⟩ := EnvOk.addT ok35_4 (by first | exact insR_sound ok35_4 | exact insR_sound ok35_4 rfl | exact insR_sound ok35_4 rfl rfl | exact insR_sound ok35_4 rfl rfl rfl | exact insR_sound ok35_4 rfl rfl rfl rfl | exact insR_sound ok35_4 rfl rfl rfl rfl rfl | exact insR_sound ok35_4 rfl rfl rfl rfl rfl rfl | exact insR_sound ok35_4 rfl rfl rfl rfl rfl rfl rfl | exact insR_sound ok35_4 rfl rfl rfl rfl rfl rfl rfl rfl | exact insR_sound ok35_4 rfl rfl rfl rfl rfl rfl rfl rfl rfl | exact insR_sound ok35_4 rfl rfl rfl rfl rfl rfl rfl rfl rfl rfl | exact insR_sound ok35_4 rfl rfl rfl rfl rfl rfl rfl rfl rfl rfl rfl | exact insR_sound ok35_4 rfl rfl rfl rfl rfl rfl rfl rfl rfl rfl rfl rfl)
def de6 : FuncId → Option Pt := upd de5 44 (some (delT))
theorem ok35_6 : EnvOk ⟨Try.prog, plainT, ga35, de6, fun _ => none, 0⟩ := EnvOk.addT ok35_5 (by first | exact del_sound ok35_5 | exact del_sound ok35_5 rfl | exact del_sound ok35_5 rfl rfl | exact del_sound ok35_5 rfl rfl rfl | exact del_sound ok35_5 rfl rfl rfl rfl | exact del_sound ok35_5 rfl rfl rfl rfl rfl | exact del_sound ok35_5 rfl rfl rfl rfl rfl rfl | exact del_sound ok35_5 rfl rfl rfl rfl rfl rfl rfl | exact del_sound ok35_5 rfl rfl rfl rfl rfl rfl rfl rfl | exact del_sound ok35_5 rfl rfl rfl rfl rfl rfl rfl rfl rfl | exact del_sound ok35_5 rfl rfl rfl rfl rfl rfl rfl rfl rfl rfl | exact del_sound ok35_5 rfl rfl rfl rfl rfl rfl rfl rfl rfl rfl rfl | exact del_sound ok35_5 rfl rfl rfl rfl rfl rfl rfl rfl rfl rfl rfl rfl)
def ga36 : FuncId → Option Fspec := upd ga35 30 (some wrS)
theorem ok36_6 : EnvOk ⟨Try.prog, plainT, ga36, de6, fun _ => none, 0⟩ := EnvOk.add ok35_6 (by first | exact written_sound ok35_6 | exact written_sound ok35_6 rfl | exact written_sound ok35_6 rfl rfl | exact written_sound ok35_6 rfl rfl rfl | exact written_sound ok35_6 rfl rfl rfl rfl | exact written_sound ok35_6 rfl rfl rfl rfl rfl | exact written_sound ok35_6 rfl rfl rfl rfl rfl rfl | exact written_sound ok35_6 rfl rfl rfl rfl rfl rfl rfl | exact written_sound ok35_6 rfl rfl rfl rfl rfl rfl rfl rfl | exact written_sound ok35_6 rfl rfl rfl rfl rfl rfl rfl rfl rfl | exact written_sound ok35_6 rfl rfl rfl rfl rfl rfl rfl rfl rfl rfl | exact written_sound ok35_6 rfl rfl rfl rfl rfl rfl rfl rfl rfl rfl rfl | exact written_sound ok35_6 rfl rfl rfl rfl rfl rfl rfl rfl rfl rfl rfl rfl) (by kernel_rfl)
def ga37 : FuncId → Option Fspec := upd ga36 13 (some appS)
theorem ok37_6 : EnvOk ⟨Try.prog, plainT, ga37, de6, fun _ => none, 0⟩ := EnvOk.add ok36_6 (by first | exact app_sound ok36_6 | exact app_sound ok36_6 rfl | exact app_sound ok36_6 rfl rfl | exact app_sound ok36_6 rfl rfl rfl | exact app_sound ok36_6 rfl rfl rfl rfl | exact app_sound ok36_6 rfl rfl rfl rfl rfl | exact app_sound ok36_6 rfl rfl rfl rfl rfl rfl | exact app_sound ok36_6 rfl rfl rfl rfl rfl rfl rfl | exact app_sound ok36_6 rfl rfl rfl rfl rfl rfl rfl rfl | exact app_sound ok36_6 rfl rfl rfl rfl rfl rfl rfl rfl rfl | exact app_sound ok36_6 rfl rfl rfl rfl rfl rfl rfl rfl rfl rfl | exact app_sound ok36_6 rfl rfl rfl rfl rfl rfl rfl rfl rfl rfl rfl | exact app_sound ok36_6 rfl rfl rfl rfl rfl rfl rfl rfl rfl rfl rfl rfl) (by kernel_rfl)
def ga38 : FuncId → Option Fspec := upd ga37 10 (some rightS)
theorem ok38_6 : EnvOk ⟨Try.prog, plainT, ga38, de6, fun _ => none, 0⟩ := EnvOk.add ok37_6 (by first | exact right_sound ok37_6 | exact right_sound ok37_6 rfl | exact right_sound ok37_6 rfl rfl | exact right_sound ok37_6 rfl rfl rfl | exact right_sound ok37_6 rfl rfl rfl rfl | exact right_sound ok37_6 rfl rfl rfl rfl rfl | exact right_sound ok37_6 rfl rfl rfl rfl rfl rfl | exact right_sound ok37_6 rfl rfl rfl rfl rfl rfl rfl | exact right_sound ok37_6 rfl rfl rfl rfl rfl rfl rfl rfl | exact right_sound ok37_6 rfl rfl rfl rfl rfl rfl rfl rfl rfl | exact right_sound ok37_6 rfl rfl rfl rfl rfl rfl rfl rfl rfl rfl | exact right_sound ok37_6 rfl rfl rfl rfl rfl rfl rfl rfl rfl rfl rfl | exact right_sound ok37_6 rfl rfl rfl rfl rfl rfl rfl rfl rfl rfl rfl rfl) (by kernel_rfl)
def ga39 : FuncId → Option Fspec := upd ga38 9 (some aliveS)
theorem ok39_6 : EnvOk ⟨Try.prog, plainT, ga39, de6, fun _ => none, 0⟩ := EnvOk.add ok38_6 (by first | exact alive_sound ok38_6 | exact alive_sound ok38_6 rfl | exact alive_sound ok38_6 rfl rfl | exact alive_sound ok38_6 rfl rfl rfl | exact alive_sound ok38_6 rfl rfl rfl rfl | exact alive_sound ok38_6 rfl rfl rfl rfl rfl | exact alive_sound ok38_6 rfl rfl rfl rfl rfl rfl | exact alive_sound ok38_6 rfl rfl rfl rfl rfl rfl rfl | exact alive_sound ok38_6 rfl rfl rfl rfl rfl rfl rfl rfl | exact alive_sound ok38_6 rfl rfl rfl rfl rfl rfl rfl rfl rfl | exact alive_sound ok38_6 rfl rfl rfl rfl rfl rfl rfl rfl rfl rfl | exact alive_sound ok38_6 rfl rfl rfl rfl rfl rfl rfl rfl rfl rfl rfl | exact alive_sound ok38_6 rfl rfl rfl rfl rfl rfl rfl rfl rfl rfl rfl rfl) (by kernel_rfl)
abbrev gaE := ga39
abbrev deE := de6
theorem okE : EnvOk ⟨Try.prog, plainT, gaE, deE, fun _ => none, 0⟩ := ok39_6

end Go.Proofs.Ytgohmphhgglmbaa

set_option linter.unusedVariables false
set_option maxRecDepth 100000
namespace Go.Proofs.Ytgohmphhgglmbaa
open Go Go.RowKit Am Go.ChangeShapes Go.WideShapes

theorem bulk_pos {H : Type} (d : DataW H) : 1 ≤ Rows.uptoBulk d := by
  cases d with
  | lit l => cases l <;> simp [Rows.uptoBulk]
  | _ => simp [Rows.uptoBulk]
def bulk : Bulk where
  bk := Rows.uptoBulk
  bks := Rows.uptoBulkAll
  str := fun b => by simp only [Rows.uptoBulk]
  sl := fun e s => by simp only [Rows.uptoBulk]
  agg := fun e => by simp only [Rows.uptoBulk]
  pos := bulk_pos
  nil := by intro H; simp only [Rows.uptoBulkAll]
  cons := fun d r => by simp only [Rows.uptoBulkAll]
theorem opnStr : Opn bulk Try.prog 9 encStr bdStr := .str (by kernel_rfl)
theorem opnInt : Opn bulk Try.prog 3 (encInt .i64) (bdInt .i64) := .int (by kernel_rfl)
theorem opnU8 : Opn bulk Try.prog 5 (encInt .u8) (bdInt .u8) := .int (by kernel_rfl)
theorem opnBool : Opn bulk Try.prog 4 encBool bdBool := .bool (by kernel_rfl)
def bdId (x : Idt) (m : Nat) : Prop := x.a.size < m
theorem opnId : Opn bulk Try.prog 31 encId bdId := by
  refine Opn.map (fun p : ByteArray × Int × Unit => (⟨p.1, p.2.1⟩ : Idt)) (Opn.struct (enc := fun p => encStr p.1 ++ ((encInt .i64) p.2.1 ++ ([]))) (bd := fun p m => bdStr p.1 m ∧ ((bdInt .i64) p.2.1 m ∧ (True))) Try.underlying31 ?_) (fun _ => rfl) (by intro p m h; exact h.1) (by intro b m m' h h2; exact Nat.lt_of_lt_of_le h2 h)
  rw [show Program.cellsOf Try.prog 31 = 2 by kernel_rfl]
  exact OpnF.cons (enc := encStr) (bd := bdStr) (z := 1) rfl (by kernel_rfl) (fun _ => rfl) opnStr (OpnF.cons (enc := (encInt .i64)) (bd := (bdInt .i64)) (z := 1) rfl (by kernel_rfl) (fun _ => rfl) opnInt OpnF.nil)
instance : Inhabited Idt := ⟨⟨⟨#[]⟩, 0⟩⟩
def bdW (x : Wrt) (m : Nat) : Prop := x.id.a.size < m ∧ x.x.size < m
theorem opnW : Opn bulk Try.prog 41 encW bdW := by
  refine Opn.map (fun p : Idt × Int × ByteArray × Unit => (⟨p.1, p.2.1, p.2.2.1⟩ : Wrt)) (Opn.struct (enc := fun p => encId p.1 ++ ((encInt .i64) p.2.1 ++ (encStr p.2.2.1 ++ ([])))) (bd := fun p m => bdId p.1 m ∧ ((bdInt .i64) p.2.1 m ∧ (bdStr p.2.2.1 m ∧ (True)))) Try.underlying41 ?_) (fun _ => rfl) (by intro p m h; exact ⟨h.1, h.2.2.1⟩) (by intro b m m' h h2; exact ⟨Nat.lt_of_lt_of_le h2.1 h, Nat.lt_of_lt_of_le h2.2 h⟩)
  rw [show Program.cellsOf Try.prog 41 = 4 by kernel_rfl]
  exact OpnF.cons (enc := encId) (bd := bdId) (z := 2) rfl (by kernel_rfl) (fun _ => rfl) opnId (OpnF.cons (enc := (encInt .i64)) (bd := (bdInt .i64)) (z := 1) rfl (by kernel_rfl) (fun _ => rfl) opnInt (OpnF.cons (enc := encStr) (bd := bdStr) (z := 1) rfl (by kernel_rfl) (fun _ => rfl) opnStr OpnF.nil))
instance : Inhabited Wrt := ⟨⟨default, 0, ⟨#[]⟩⟩⟩
def bdR (x : Rgs) (m : Nat) : Prop := x.id.a.size < m ∧ x.f.size < m ∧ x.w.length < m ∧ ∀ y ∈ x.w, bdW y m
theorem opnWs : Opn bulk Try.prog 32 (encSl encW) (bdSl bdW) := Opn.slice (z := 4) Try.underlying32 (by kernel_rfl) (by decide) (fun _ => rfl) opnW
theorem opnR : Opn bulk Try.prog 39 encR bdR := by
  refine Opn.map (fun p : Idt × ByteArray × (List Wrt) × Unit => (⟨p.1, p.2.1, p.2.2.1⟩ : Rgs)) (Opn.struct (enc := fun p => encId p.1 ++ (encStr p.2.1 ++ ((encSl encW) p.2.2.1 ++ ([])))) (bd := fun p m => bdId p.1 m ∧ (bdStr p.2.1 m ∧ ((bdSl bdW) p.2.2.1 m ∧ (True)))) Try.underlying39 ?_) (fun _ => rfl) (by intro p m h; exact ⟨h.1, h.2.1, h.2.2.1.1, h.2.2.1.2⟩) (by intro b m m' h h2; exact ⟨Nat.lt_of_lt_of_le h2.1 h, Nat.lt_of_lt_of_le h2.2.1 h, Nat.lt_of_lt_of_le h2.2.2.1 h, fun y hy => opnW.1 y m m' h (h2.2.2.2 y hy)⟩)
  rw [show Program.cellsOf Try.prog 39 = 4 by kernel_rfl]
  exact OpnF.cons (enc := encId) (bd := bdId) (z := 2) rfl (by kernel_rfl) (fun _ => rfl) opnId (OpnF.cons (enc := encStr) (bd := bdStr) (z := 1) rfl (by kernel_rfl) (fun _ => rfl) opnStr (OpnF.cons (enc := (encSl encW)) (bd := (bdSl bdW)) (z := 1) rfl (by kernel_rfl) (fun _ => rfl) opnWs OpnF.nil))
instance : Inhabited Rgs := ⟨⟨default, ⟨#[]⟩, []⟩⟩
theorem opnRs : Opn bulk Try.prog 22 (encSl encR) (bdSl bdR) := Opn.slice (z := 4) Try.underlying22 (by kernel_rfl) (by decide) (fun _ => rfl) opnR
theorem small_of {l : List Rgs} {m : Nat} (h : bdSl bdR l m) (hm : m ≤ 1048576) : smallR 1048576 l := ⟨by have := h.1; omega, fun x hx => by have := (h.2 x hx).2.2.1; omega⟩
theorem own : ownKnob Try.prog.godebug = none := by kernel_rfl
theorem laidOut : laidOutB Try.prog = true := by kernel_rfl
end Go.Proofs.Ytgohmphhgglmbaa

set_option linter.unusedVariables false
set_option maxRecDepth 100000
namespace Go.Proofs.Ytgohmphhgglmbaa
open Go Go.RowKit Am Go.ChangeShapes Go.WideShapes

theorem opnIds : Opn bulk Try.prog 42 (encSl encId) (bdSl bdId) := Opn.slice (z := 2) Try.underlying42 (by kernel_rfl) (by decide) (fun _ => rfl) opnId
def encRat (x : Bool × ByteArray × ByteArray) : List V := [.s (.bool x.1), .s (.string x.2.1), .s (.string x.2.2)]
def bdRat (x : Bool × ByteArray × ByteArray) (m : Nat) : Prop := True
theorem opnRat : Opn bulk Try.prog 44 encRat bdRat := by
  refine Opn.map (fun p : Bool × ByteArray × ByteArray × Unit => ((p.1, p.2.1, p.2.2.1) : (Bool × ByteArray × ByteArray))) (Opn.struct (enc := fun p => encBool p.1 ++ (encStr p.2.1 ++ (encStr p.2.2.1 ++ ([])))) (bd := fun p m => bdBool p.1 m ∧ (bdStr p.2.1 m ∧ (bdStr p.2.2.1 m ∧ (True)))) Try.underlying44 ?_) (fun _ => rfl) (by intro p m h; exact trivial) (by intro b m m' h h2; exact trivial)
  rw [show Program.cellsOf Try.prog 44 = 3 by kernel_rfl]
  exact OpnF.cons (enc := encBool) (bd := bdBool) (z := 1) rfl (by kernel_rfl) (fun _ => rfl) opnBool (OpnF.cons (enc := encStr) (bd := bdStr) (z := 1) rfl (by kernel_rfl) (fun _ => rfl) opnStr (OpnF.cons (enc := encStr) (bd := bdStr) (z := 1) rfl (by kernel_rfl) (fun _ => rfl) opnStr OpnF.nil))
def bdE (x : Edt) (m : Nat) : Prop := x.field.size < m ∧ x.value.size < m ∧ x.deps.length < m ∧ ∀ y ∈ x.deps, bdId y m
instance : Inhabited Edt := ⟨⟨default, 0, 0, [], 0, default, default, false, ⟨#[]⟩, ⟨#[]⟩, ⟨#[]⟩, ⟨#[]⟩, default, ⟨#[]⟩⟩⟩
theorem opnE : Opn bulk Try.prog 46 encE bdE := by
  refine Opn.map (fun p : Idt × Int × Int × (List Idt) × Int × Idt × Idt × (Bool × ByteArray × ByteArray) × ByteArray × ByteArray × Idt × ByteArray × Unit => (⟨p.1, p.2.1, p.2.2.1, p.2.2.2.1, p.2.2.2.2.1, p.2.2.2.2.2.1, p.2.2.2.2.2.2.1, p.2.2.2.2.2.2.2.1.1, p.2.2.2.2.2.2.2.1.2.1, p.2.2.2.2.2.2.2.1.2.2, p.2.2.2.2.2.2.2.2.1, p.2.2.2.2.2.2.2.2.2.1, p.2.2.2.2.2.2.2.2.2.2.1, p.2.2.2.2.2.2.2.2.2.2.2.1⟩ : Edt)) (Opn.struct (enc := fun p => encId p.1 ++ ((encInt .i64) p.2.1 ++ ((encInt .i64) p.2.2.1 ++ ((encSl encId) p.2.2.2.1 ++ ((encInt .i64) p.2.2.2.2.1 ++ (encId p.2.2.2.2.2.1 ++ (encId p.2.2.2.2.2.2.1 ++ (encRat p.2.2.2.2.2.2.2.1 ++ (encStr p.2.2.2.2.2.2.2.2.1 ++ (encStr p.2.2.2.2.2.2.2.2.2.1 ++ (encId p.2.2.2.2.2.2.2.2.2.2.1 ++ (encStr p.2.2.2.2.2.2.2.2.2.2.2.1 ++ ([]))))))))))))) (bd := fun p m => bdId p.1 m ∧ ((bdInt .i64) p.2.1 m ∧ ((bdInt .i64) p.2.2.1 m ∧ ((bdSl bdId) p.2.2.2.1 m ∧ ((bdInt .i64) p.2.2.2.2.1 m ∧ (bdId p.2.2.2.2.2.1 m ∧ (bdId p.2.2.2.2.2.2.1 m ∧ (bdRat p.2.2.2.2.2.2.2.1 m ∧ (bdStr p.2.2.2.2.2.2.2.2.1 m ∧ (bdStr p.2.2.2.2.2.2.2.2.2.1 m ∧ (bdId p.2.2.2.2.2.2.2.2.2.2.1 m ∧ (bdStr p.2.2.2.2.2.2.2.2.2.2.2.1 m ∧ (True))))))))))))) Try.underlying46 ?_) (fun _ => rfl) (by intro p m h; exact ⟨h.2.2.2.2.2.2.2.2.1, h.2.2.2.2.2.2.2.2.2.1, h.2.2.2.1.1, h.2.2.2.1.2⟩) (by intro b m m' h h2; exact ⟨Nat.lt_of_lt_of_le h2.1 h, Nat.lt_of_lt_of_le h2.2.1 h, Nat.lt_of_lt_of_le h2.2.2.1 h, fun y hy => opnId.1 y m m' h (h2.2.2.2 y hy)⟩)
  rw [show Program.cellsOf Try.prog 46 = 18 by kernel_rfl]
  exact OpnF.cons (enc := encId) (bd := bdId) (z := 2) rfl (by kernel_rfl) (fun _ => rfl) opnId (OpnF.cons (enc := (encInt .i64)) (bd := (bdInt .i64)) (z := 1) rfl (by kernel_rfl) (fun _ => rfl) opnInt (OpnF.cons (enc := (encInt .i64)) (bd := (bdInt .i64)) (z := 1) rfl (by kernel_rfl) (fun _ => rfl) opnInt (OpnF.cons (enc := (encSl encId)) (bd := (bdSl bdId)) (z := 1) rfl (by kernel_rfl) (fun _ => rfl) opnIds (OpnF.cons (enc := (encInt .i64)) (bd := (bdInt .i64)) (z := 1) rfl (by kernel_rfl) (fun _ => rfl) opnInt (OpnF.cons (enc := encId) (bd := bdId) (z := 2) rfl (by kernel_rfl) (fun _ => rfl) opnId (OpnF.cons (enc := encId) (bd := bdId) (z := 2) rfl (by kernel_rfl) (fun _ => rfl) opnId (OpnF.cons (enc := encRat) (bd := bdRat) (z := 3) rfl (by kernel_rfl) (fun _ => rfl) opnRat (OpnF.cons (enc := encStr) (bd := bdStr) (z := 1) rfl (by kernel_rfl) (fun _ => rfl) opnStr (OpnF.cons (enc := encStr) (bd := bdStr) (z := 1) rfl (by kernel_rfl) (fun _ => rfl) opnStr (OpnF.cons (enc := encId) (bd := bdId) (z := 2) rfl (by kernel_rfl) (fun _ => rfl) opnId (OpnF.cons (enc := encStr) (bd := bdStr) (z := 1) rfl (by kernel_rfl) (fun _ => rfl) opnStr OpnF.nil)))))))))))
theorem opnEs : Opn bulk Try.prog 23 (encSl encE) (bdSl bdE) := Opn.slice (z := 18) Try.underlying23 (by kernel_rfl) (by decide) (fun _ => rfl) opnE
end Go.Proofs.Ytgohmphhgglmbaa

/- An edit applied twice gives what it gives once, and registers that no edit writes stay as they were, for all registers and edits that hold together at most 1048576 values and letters. -/
set_option linter.unusedVariables false
set_option maxRecDepth 100000
namespace Go.Proofs.Ytgohmphhgglmbaa
open Go Go.RowKit Am Go.ChangeShapes Go.WideShapes

theorem edt_of {l : List Edt} {m : Nat} (h : bdSl bdE l m) (hm : m ≤ 1048576) : edtOk 1048576 l := ⟨by have := h.1; omega, fun x hx => by
  obtain ⟨h1, h2, h3, h4⟩ := h.2 x hx
  exact ⟨by omega, by omega, by omega, fun y hy => by have : y.a.size < m := h4 y hy; omega⟩⟩
theorem registerIdempotence_contract (H : Type) (enc : TypeId × Value → H) (W : World) (base : Nat) (args : Array Value) (ds gs : List (DataW H)) (before : List MemPlace)
    (hval : ∀ (j : Nat) t v, Try.f8.params[j]? = some t → args[j]? = some v → Value.okWide Try.prog W .any base t v)
    (hW : DataW.Whole enc Try.prog Try.f8.params.toList Rows.registerIdempotenceSpec.vars false W args.toList ds gs before) (hk : Rows.uptoSmall H (ds ++ gs) = true) :
    Calls Try.prog 8 args W fun e W' => ∃ v, e = .returned v ∧ Rows.registerIdempotenceSpec.post enc Try.prog Try.f8 false true false false W args v W' := by
  have hW' := hW
  obtain ⟨p, q, hA0, hV, rfl, hfz, hnd⟩ := hW
  have hA : DataW.TrodAll enc Try.prog W 0 (fun _ => true) true Try.f8.params.toList args.toList ds p := hA0
  rw [Try.params8] at hA hval
  obtain ⟨v0, vs0, d0, ds0, p0, q0, hargs, rfl, rfl, h0, r0⟩ := trodAll_cons hA
  obtain ⟨v1, vs1, d1, ds1, p1, q1, rfl, rfl, rfl, h1, r1⟩ := trodAll_cons r0
  obtain ⟨rfl, rfl, rfl⟩ := trodAll_nil r1
  obtain rfl : args = #[v0, v1] := by cases args; simp_all
  obtain ⟨rfl, rfl⟩ := trodVars_none hV
  have hb : Rows.uptoBulk d0 + (Rows.uptoBulk d1 + 0) ≤ 1048576 := by
    have := of_decide_eq_true hk
    simpa only [List.append_nil, Rows.uptoBulkAll] using this
  obtain ⟨l, o0, b0⟩ := opnRs.one (fv := fun _ => Go.undef) (fun _ => rfl) (okWide_one (.inr (.inr (.inr ⟨_, Try.underlying22⟩))) (hval 0 22 v0 rfl rfl)) h0
  obtain ⟨es, o1, b1⟩ := opnEs.one (fv := fun _ => Go.undef) (fun _ => rfl) (okWide_one (.inr (.inr (.inr ⟨_, Try.underlying23⟩))) (hval 1 23 v1 rfl rfl)) h1
  refine Sound.row (F := idemLawS) (vs := [.sl (l.map encR), .sl (es.map encE)]) (tb := 4) (idemLaw_sound okE rfl rfl rfl rfl rfl rfl rfl rfl) laidOut (fun _ _ => trivial) (by
    rw [Try.params8]
    intro t ht
    simp only [List.mem_cons, List.not_mem_nil, or_false] at ht
    rcases ht with rfl | rfl <;> exact ⟨by kernel_rfl, of_decide_eq_true (by kernel_rfl)⟩) hW' rfl rfl Try.underlying4 rfl ⟨rfl, fun i hi => ?_⟩ ⟨l, es, small_of b0 (by show Rows.uptoBulk d0 ≤ _; omega), edt_of b1 (by show Rows.uptoBulk d1 ≤ _; omega), rfl, rfl⟩
  have : i = 0 ∨ i = 1 := by simp at hi; omega
  rcases this with rfl | rfl
  · exact o0
  · exact o1
theorem registerIdempotence_lifted (os : Os) (started : os.Started) (H : Type) (enc : TypeId × Value → H) (F : Stop.Interp) :
    ReturnsInHanded {} Try.checked os 8 .any ((Rows.OpenSpec.upto Rows.registerIdempotenceSpec).pre6 enc Try.prog Try.f8 Rows.registerIdempotenceUptoRow.domain false) (((Rows.OpenSpec.upto Rows.registerIdempotenceSpec).at F).post enc Try.prog Try.f8 false true false false) := by
  refine returnsInHanded_of_cond (C := Try.checked) (s := Rows.OpenSpec.upto Rows.registerIdempotenceSpec) (k := Rows.uptoSmall) rfl own started (by kernel_rfl) Try.func8
    (OpenSpec.witness (enc := enc) (C := Try.checked) (s := Rows.OpenSpec.upto Rows.registerIdempotenceSpec) (k := Rows.uptoSmall) rfl false ⟨#[], #[.slice none 0 0, .slice none 0 0], []⟩ 8 (by kernel_rfl) (by kernel_rfl) (by kernel_rfl)
      (x := ([.nil, .nil], [], [])) (by kernel_rfl) rfl (by kernel_rfl)) ?_
  intro W base args ds gs before hval hW _ hk _
  exact registerIdempotence_contract H enc W base args ds gs before hval hW hk
theorem registerIdempotence_holds : Rows.RegisterIdempotenceUptoSaid :=
  OpenClaim.holds_of_cond 8 Try.f8 rfl rfl rfl rfl rfl rfl rfl ⟨rfl, rfl, rfl, rfl, rfl⟩ rfl rfl rfl rfl rfl (by kernel_rfl) Try.func8 (by kernel_rfl)
    (of_decide_eq_true (by kernel_rfl)) (by unfold Func.isWrapper; first | (rw [if_pos (by decide +kernel)]; kernel_rfl) | (rw [if_neg (by decide +kernel)]; exact ⟨rfl, rfl⟩))
    (fun os started H enc _ F => registerIdempotence_lifted os started H enc F)
end Go.Proofs.Ytgohmphhgglmbaa
