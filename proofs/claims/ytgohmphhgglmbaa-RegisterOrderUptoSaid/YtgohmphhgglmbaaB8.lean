/- Texts that the law's proof stands on: V52, V28, V29, V33, V50, V40, V41, V42, V43, V53. -/
import Derived.Test.YtgohmphhgglmbaaB7
import Derived.Test.YtgohmphhgglmbaaB6
import Derived.Test.YtgohmphhgglmbaaRows
import Derived.Test.YtgohmphhgglmbaaB5
set_option linter.unusedVariables false
set_option linter.unusedSimpArgs false
set_option maxRecDepth 100000
set_option maxHeartbeats 16000000
namespace Go.Proofs.Ytgohmphhgglmbaa
open Go Go.RowKit Am

/-- The reference's Fold: one register laid into the list, from one place on. -/
def eqNB (x r : Rgs) : Bool := (x.id.a.toList == r.id.a.toList) && (x.id.n == r.id.n)
def eqFB (x r : Rgs) : Bool := x.f.toList == r.f.toList
def fsK (x r : Rgs) (l : List Rgs) : List Rgs := if eqNB x r && eqFB x r then l else x :: l
def fsF : List Rgs → Rgs → Bool → List Rgs
  | [], r, d => if d then [] else [r]
  | x :: l, r, d => if !d && !firstF x r then r :: fsK x r (fsF l r true) else fsK x r (fsF l r d)
def rgE (L : List Rgs) (e : Edt) : Rgs := ⟨e.node, e.field, rwriteF (getF L e.node e.field) e⟩
def rstepF (L : List Rgs) (e : Edt) : List Rgs := if e.kind == 3 then fsF L (rgE L e) false else L
def rfoldF (L : List Rgs) (es : List Edt) : List Rgs := es.foldl rstepF L
def rfoldS : Fspec := fun _ ds r => ∃ (l : List Rgs) (es : List Edt), smallR 500000 l ∧ es.length ≤ 500000 ∧ (∀ e ∈ es, e.deps.length ≤ 500000) ∧ ds = [.sl (l.map encR), .sl (es.map encE)] ∧ r = .sl ((rfoldF l es).map encR)
theorem rwGo_len : ∀ (l : List Wrt) (e : Edt) (d : Bool), (rwGoF l e d).length ≤ l.length + 1
  | [], e, d => by cases d <;> simp [rwGoF]
  | x :: l, e, d => by
    rw [rwGoF]
    have h1 := rwGo_len l e d
    have h2 := rwGo_len l e true
    have h3 : d = false → (rwGoF l e true).length ≤ l.length := fun _ => rwGo_len1 l e
    split
    · simp only [List.length_cons]; omega
    · split
      · rename_i h
        have : d = false := by cases d <;> simp_all
        have := h3 this
        simp only [List.length_cons]; omega
      · simp only [List.length_cons]; omega
where
  rwGo_len1 : ∀ (l : List Wrt) (e : Edt), (rwGoF l e true).length ≤ l.length
    | [], e => by simp [rwGoF]
    | x :: l, e => by
      rw [rwGoF]
      have h1 := rwGo_len1 l e
      split
      · simp only [List.length_cons]; omega
      · simp only [Bool.not_true, Bool.false_and, Bool.false_eq_true, if_false, List.length_cons]; omega
theorem fsK_len (x r : Rgs) (l : List Rgs) : (fsK x r l).length ≤ l.length + 1 := by unfold fsK; split <;> simp
theorem fs_len1 : ∀ (l : List Rgs) (r : Rgs), (fsF l r true).length ≤ l.length
  | [], r => by simp [fsF]
  | x :: l, r => by
    have h1 := fs_len1 l r
    have h2 := fsK_len x r (fsF l r true)
    simp only [fsF, Bool.not_true, Bool.false_and, Bool.false_eq_true, if_false, List.length_cons]
    omega
theorem fs_len : ∀ (l : List Rgs) (r : Rgs) (d : Bool), (fsF l r d).length ≤ l.length + 1
  | [], r, d => by cases d <;> simp [fsF]
  | x :: l, r, d => by
    have h1 := fs_len1 l r
    have h2 := fsK_len x r (fsF l r true)
    have h3 := fs_len l r d
    have h4 := fsK_len x r (fsF l r d)
    rw [fsF]
    split <;> simp only [List.length_cons] <;> omega
theorem fsK_mem {x r y : Rgs} {l : List Rgs} (h : y ∈ fsK x r l) : y = x ∨ y ∈ l := by
  unfold fsK at h
  split at h
  · exact .inr h
  · exact List.mem_cons.1 h
theorem fs_mem : ∀ (l : List Rgs) (r : Rgs) (d : Bool) (y : Rgs), y ∈ fsF l r d → y = r ∨ y ∈ l
  | [], r, d, y, h => by cases d <;> simp_all [fsF]
  | x :: l, r, d, y, h => by
    rw [fsF] at h
    split at h
    · rcases List.mem_cons.1 h with h | h
      · exact .inl h
      · rcases fsK_mem h with h | h
        · exact .inr (h ▸ List.mem_cons_self)
        · rcases fs_mem l r true y h with h | h
          · exact .inl h
          · exact .inr (List.mem_cons_of_mem _ h)
    · rcases fsK_mem h with h | h
      · exact .inr (h ▸ List.mem_cons_self)
      · rcases fs_mem l r d y h with h | h
        · exact .inl h
        · exact .inr (List.mem_cons_of_mem _ h)
theorem getF_small {B : Nat} {L : List Rgs} (h : ∀ x ∈ L, x.w.length ≤ B) (y : Idt) (f : ByteArray) : (getF L y f).length ≤ B := by
  induction L with
  | nil => simp [getF]
  | cons x L ih =>
    rw [getF]
    split
    · exact h x List.mem_cons_self
    · exact ih fun z hz => h z (List.mem_cons_of_mem _ hz)
theorem rstep_small {B : Nat} {L : List Rgs} (e : Edt) (h : smallR B L) : smallR (B + 1) (rstepF L e) := by
  unfold rstepF
  split
  · refine ⟨by have := fs_len L (rgE L e) false; have := h.1; omega, fun x hx => ?_⟩
    rcases fs_mem _ _ _ _ hx with h1 | h1
    · subst h1
      have h2 := rwGo_len (getF L e.node e.field) e false
      have h3 := getF_small h.2 e.node e.field
      show (rwriteF _ e).length ≤ B + 1
      unfold rwriteF
      omega
    · have := h.2 x h1; omega
  · exact ⟨by have := h.1; omega, fun x hx => by have := h.2 x hx; omega⟩
theorem okRowR (r : Rgs) : okRows 4 [encR r] := okRows_map encR [r] 4 fun a => ⟨rfl, by simp [encR, cellish]⟩
theorem deepRs (l : List Rgs) : ∀ r ∈ l.map encR, ∀ q ∈ r, deepc q = true := deep_map encR l fun a => by simp [encR, deepc]
theorem rfold_sound {plain : TypeId → Bool} {Γ : FuncId → Option Fspec} {Δ : FuncId → Option Pt} (hE : EnvOk ⟨Try.prog, plain, Γ, Δ, fun _ => none, 0⟩) (hpl : plain 31 = true) (g_get : Γ 16 = some getS) (g_rwrite : Γ 31 = some rwriteS) (g_first : Γ 23 = some firstS) : Sound Try.prog 14 rfoldS := by
  refine sound_of_awp hE Try.func14 rfl (by kernel_rfl) ?_
  rintro Φ ds r ⟨l, es, hl, hes, hdeps, rfl, rfl⟩
  refine ⟨by simp [Try.f14], ?_⟩
  unfold st0
  refine W.out (E := ⟨Try.prog, plain, Γ, Δ, Φ, _⟩) ?_
  have hre := encE_rows' es
  refine go trivial ?_
  refine x_loop (fun σ => ∃ (i : Nat) (L : List Rgs), σ.t 0 = .sl (L.map encR) ∧ σ.t 12 = .sl (es.map encE) ∧ σ.t 13 = .s (.int .i64 es.length) ∧ σ.t 14 = .s (.int .i64 i) ∧ i ≤ es.length ∧ smallR (500000 + i) L ∧ rfoldF L (es.drop i) = rfoldF l es) (fun σ => es.length - ix (σ.t 14)) ⟨0, l, (by first | assumption | exact sxa trivial), (by first | assumption | exact sxa trivial), (by first | assumption | exact sxa trivial), (by first | assumption | exact sxa trivial), (by first | rfl | omega | assumption | (simp [*]; done)), (by first | rfl | omega | assumption | (simp [*]; done)), (by first | rfl | omega | assumption | (simp [*]; done))⟩ ?_
  rintro t h n ⟨i, L, h0, h12, h13, h14, hf0, hf1, hf2⟩
  simp only at h0 h12 h13 h14
  refine go (And.intro h0 (And.intro h12 (And.intro h13 h14))) ?_
  refine x_condP (sv (And.intro h0 (And.intro h12 (And.intro h13 h14)))) (fun hc => ?_) (fun hc => ?_)
  · have hi : i < es.length := by omega
    have hdi := hdeps es[i] (List.getElem_mem hi)
    rw [List.drop_eq_getElem_cons hi] at hf2
    generalize hee : es[i] = e at *
    have hst := rstep_small e hf1
    have hf2' : rfoldF (rstepF L e) (es.drop (i + 1)) = rfoldF l es := hf2
    clear hf2
    have hx1 : ∀ (l : List Rgs) h d, allO (allO (expo h d)) (l.map encR) = some (l.map encR) := fun l h d => allO_rows h d (deepRs l)
    refine goR (And.intro h0 (And.intro h12 (And.intro h13 h14))) ?_
    refine x_cutF 0 (fun σ => ∃ (L2 : List Rgs), σ.t 12 = .sl (es.map encE) ∧ σ.t 13 = .s (.int .i64 es.length) ∧ σ.t 14 = .s (.int .i64 i) ∧ expoA σ.h (σ.t 0) = some (.sl (L2.map encR)) ∧ smallR (500000 + i + 1) L2 ∧ rfoldF L2 (es.drop (i + 1)) = rfoldF l es) ?_ ?_
    · cases hk : (e.kind == 3)
      · have hs0 : rstepF L e = L := by simp [rstepF, hk]
        rw [hs0] at hf2' hst
        have hkn : (e.kind != 3) = true := by simp [bne, hk]
        refine go (And.intro h0 (And.intro h12 (And.intro h13 (And.intro h14 (And.intro hre (And.intro hee (And.intro @encE_kind hkn))))))) ?_
        (refine ⟨L, ?_, ?_, ?_, ?_, ?_, ?_⟩ <;> (first | omega | (dsimp only; omega) | exact sxa (And.intro @cast_succ (And.intro h0 (And.intro h12 (And.intro h13 h14)))) | exact soa trivial | ((exact se (And.intro h0 (hx1 L))))))
      · have hs0 : rstepF L e = fsF L (rgE L e) false := by simp [rstepF, hk]
        rw [hs0] at hf2' hst
        have hg1 := getF_small hf1.2 e.node e.field
        have hL1 := hf1.1
        have hkn : (e.kind != 3) = false := by simp [bne, hk]
        refine go (And.intro h0 (And.intro h12 (And.intro h13 (And.intro h14 (And.intro hre (And.intro hee (And.intro @encE_kind hkn))))))) ?_
        refine x_callDS rfl rfl rfl rfl rfl (sv h0) g_get (sv h0) (se h0) ⟨L, e.node, e.field, by omega, rfl, rfl⟩ (by simp) (by simp [touchA, touch]) ?_
        refine go (And.intro h0 (And.intro h12 (And.intro h13 (And.intro h14 @encE_kind)))) ?_
        refine x_callDS rfl rfl rfl rfl rfl (sv @encE_kind) g_rwrite (sv @encE_kind) (se @encE_kind) ⟨getF L e.node e.field, e, by omega, by omega, rfl, rfl⟩ (by simp) (by simp [touchA, touch]) ?_
        refine go (And.intro h0 (And.intro h12 (And.intro h13 (And.intro h14 @encE_kind)))) ?_
        obtain ⟨r, hr0, hr1⟩ : ∃ r : Rgs, fsF L (rgE L e) false = fsF L r false ∧ encR r = [.s (.string e.node.a), .s (.int .i64 e.node.n), .s (.string e.field), .sl ((rwriteF (getF L e.node e.field) e).map encW)] := ⟨rgE L e, rfl, rfl⟩
        rw [hr0] at hf2' hst
        clear hr0 hs0 hg1
        generalize hrb : n + 1 = rb
        have hnr : n < rb := by omega
        clear hrb
        refine x_loop (fun σ => ∃ (k : Nat) (b : Nat) (cap : Nat) (out : List Rgs) (sp : List (List V)) (d : Bool), σ.t 12 = .sl (es.map encE) ∧ σ.t 13 = .s (.int .i64 es.length) ∧ σ.t 14 = .s (.int .i64 i) ∧ σ.t 7 = .ptr rb 0 0 ∧ σ.t 8 = .loc b 0 out.length cap ∧ σ.t 9 = .s (.bool d) ∧ σ.t 35 = .sl (L.map encR) ∧ σ.t 36 = .s (.int .i64 L.length) ∧ σ.t 37 = .s (.int .i64 k) ∧ σ.h rb = some ⟨4, [encR r], true⟩ ∧ σ.h b = some ⟨4, out.map encR ++ sp, true⟩ ∧ b < σ.n ∧ rb < b ∧ k ≤ L.length ∧ out.length ≤ cap ∧ cap ≤ out.length + sp.length ∧ out.length ≤ 2 * k ∧ out ++ fsF (L.drop k) r d = fsF L r false) (fun σ => L.length - ix (σ.t 37)) ⟨0, rb + 1, 0, [], [], false, (by first | assumption | exact sxa trivial), (by first | assumption | exact sxa trivial), (by first | assumption | exact sxa trivial), (by first | assumption | exact sxa trivial), (by first | assumption | exact sxa trivial), (by first | assumption | exact sxa trivial), (by first | assumption | exact sxa trivial), (by first | assumption | exact sxa trivial), (by first | assumption | exact sxa trivial), (by first | assumption | exact sxa trivial), (by first | assumption | exact sxa trivial), (by first | omega | (dsimp only; omega) | exact soa trivial | omega | (simp; done)), (by first | omega | (dsimp only; omega) | exact soa trivial | omega | (simp; done)), (by first | rfl | omega | assumption | (simp [*]; done)), (by first | rfl | omega | assumption | (simp [*]; done)), (by first | rfl | omega | assumption | (simp [*]; done)), (by first | rfl | omega | assumption | (simp [*]; done)), (by first | rfl | omega | assumption | (simp [*]; done))⟩ ?_
        rintro t h n ⟨k, b, cap, out, sp, d, h12, h13, h14, h7, h8, h9, h35, h36, h37, hhrb, hhb, hn1, hn2, hf0, hf1, hf2, hf3, hf4⟩
        simp only at h12 h13 h14 h7 h8 h9 h35 h36 h37 hhrb hhb hn1 hn2
        clear hr1
        have hrr := encR_rows L
        refine go (And.intro h12 (And.intro h13 (And.intro h14 (And.intro h7 (And.intro h8 (And.intro h9 (And.intro h35 (And.intro h36 h37)))))))) ?_
        refine x_condP (sv (And.intro h12 (And.intro h13 (And.intro h14 (And.intro h7 (And.intro h8 (And.intro h9 (And.intro h35 (And.intro h36 h37))))))))) (fun hc => ?_) (fun hc => ?_)
        · have hkl : k < L.length := by omega
          rw [List.drop_eq_getElem_cons hkl, fsF] at hf4
          generalize hxx : L[k] = x at *
          have e1 : (b = n) = False := by simp <;> omega
          have e2 : (rb = n) = False := by simp <;> omega
          have e3 : (rb = b) = False := by simp <;> omega
          have e4 : (n = b) = False := by simp <;> omega
          have e5 : (n = rb) = False := by simp <;> omega
          have e6 : (b = rb) = False := by simp <;> omega
          have d1 : (n = n + 1 + 1) = False := by simp <;> omega
          have d2 : (rb = n + 1 + 1) = False := by simp <;> omega
          have d3 : (n + 1 = n) = False := by simp <;> omega
          have d4 : (n = n + 1) = False := by simp <;> omega
          have d5 : (b = n + 1) = False := by simp <;> omega
          have d6 : (rb = n + 1) = False := by simp <;> omega
          have d7 : (n + 1 = b) = False := by simp <;> omega
          have d8 : (n + 1 = rb) = False := by simp <;> omega
          have d9 : (n + 1 + 1 = n) = False := by simp <;> omega
          refine goR trivial ?_
          refine x_seq ?_
          refine goR trivial ?_
          refine x_seq ?_
          refine goR (And.intro h12 (And.intro h13 (And.intro h14 (And.intro h7 (And.intro h8 (And.intro h9 (And.intro h35 (And.intro h36 (And.intro h37 (And.intro hrr (And.intro hxx (And.intro @encR.eq_1 (And.intro e1 (And.intro e2 (And.intro e3 (And.intro e4 (And.intro e5 e6))))))))))))))))) ?_
          refine x_cut (fun σ => ∃ (b : Nat) (cap : Nat) (out : List Rgs) (sp : List (List V)) (d : Bool), σ.t 12 = .sl (es.map encE) ∧ σ.t 13 = .s (.int .i64 es.length) ∧ σ.t 14 = .s (.int .i64 i) ∧ σ.t 7 = .ptr rb 0 0 ∧ σ.t 8 = .loc b 0 out.length cap ∧ σ.t 9 = .s (.bool d) ∧ σ.t 11 = .ptr n 0 0 ∧ σ.t 35 = .sl (L.map encR) ∧ σ.t 36 = .s (.int .i64 L.length) ∧ σ.t 37 = .s (.int .i64 k) ∧ σ.h rb = some ⟨4, [encR r], true⟩ ∧ σ.h n = some ⟨4, [encR x], true⟩ ∧ σ.h b = some ⟨4, out.map encR ++ sp, true⟩ ∧ n < σ.n ∧ b < σ.n ∧ rb < b ∧ b ≠ n ∧ out.length ≤ cap ∧ cap ≤ out.length + sp.length ∧ out.length ≤ 2 * k + 1 ∧ out ++ fsK x r (fsF (L.drop (k + 1)) r d) = fsF L r false) ?_ ?_
          · cases d
            · refine go (And.intro h12 (And.intro h13 (And.intro h14 (And.intro h7 (And.intro h8 (And.intro h9 (And.intro h35 (And.intro h36 (And.intro h37 (And.intro hhrb (And.intro hhb (And.intro @encR.eq_1 (And.intro e1 (And.intro e2 (And.intro e3 (And.intro e4 (And.intro e5 e6))))))))))))))))) ?_
              refine x_callN rfl rfl rfl rfl (sv (And.intro hhrb (And.intro @encR.eq_1 (And.intro e1 (And.intro e2 (And.intro e3 (And.intro e4 (And.intro e5 e6)))))))) g_first (sv (And.intro hhrb (And.intro @encR.eq_1 (And.intro e1 (And.intro e2 (And.intro e3 (And.intro e4 (And.intro e5 e6)))))))) (se (And.intro hhrb (And.intro @encR.eq_1 (And.intro e1 (And.intro e2 (And.intro e3 (And.intro e4 (And.intro e5 e6)))))))) ⟨x, r, rfl, rfl⟩ rfl ?_
              cases hc1 : firstF x r
              · rw [hc1] at hf4
                simp only [Bool.not_false, Bool.true_and, if_true] at hf4
                have hl1 : (out ++ [r]).length = out.length + 1 := by simp
                have hfin : (out ++ [r]) ++ fsK x r (fsF (L.drop (k + 1)) r true) = fsF L r false := by rw [List.append_assoc]; exact hf4
                clear hf4
                refine go (And.intro h12 (And.intro h13 (And.intro h14 (And.intro h7 (And.intro h8 (And.intro h9 (And.intro h35 (And.intro h36 (And.intro h37 (And.intro hhrb (And.intro hhb (And.intro @encR.eq_1 (And.intro e1 (And.intro e2 (And.intro e3 (And.intro e4 (And.intro e5 e6))))))))))))))))) ?_
                refine x_appendO rfl rfl rfl rfl rfl rfl (sv (And.intro h8 (And.intro hhrb (And.intro hhb (And.intro @encR.eq_1 (And.intro e1 (And.intro e2 (And.intro e3 (And.intro e4 (And.intro e5 (And.intro e6 (And.intro d1 (And.intro d2 (And.intro d3 (And.intro d4 (And.intro d5 (And.intro d6 (And.intro d7 (And.intro d8 d9))))))))))))))))))) (by decide) (sc (And.intro h8 (And.intro hhrb (And.intro hhb (And.intro @encR.eq_1 (And.intro e1 (And.intro e2 (And.intro e3 (And.intro e4 (And.intro e5 (And.intro e6 (And.intro d1 (And.intro d2 (And.intro d3 (And.intro d4 (And.intro d5 (And.intro d6 (And.intro d7 (And.intro d8 d9))))))))))))))))))) (sv (And.intro h8 (And.intro hhrb (And.intro hhb (And.intro @encR.eq_1 (And.intro e1 (And.intro e2 (And.intro e3 (And.intro e4 (And.intro e5 (And.intro e6 (And.intro d1 (And.intro d2 (And.intro d3 (And.intro d4 (And.intro d5 (And.intro d6 (And.intro d7 (And.intro d8 d9))))))))))))))))))) (sx (And.intro h8 (And.intro hhrb (And.intro hhb (And.intro @encR.eq_1 (And.intro e1 (And.intro e2 (And.intro e3 (And.intro e4 (And.intro e5 (And.intro e6 (And.intro d1 (And.intro d2 (And.intro d3 (And.intro d4 (And.intro d5 (And.intro d6 (And.intro d7 (And.intro d8 d9))))))))))))))))))) (by first | rfl | (simp; done) | (simp [spare_len]; omega)) (by first | omega | (simp; done) | (simp [spare_len]; omega)) (by first | omega | (simp; done) | (simp [spare_len]; omega)) (sx (And.intro h8 (And.intro hhrb (And.intro hhb (And.intro @encR.eq_1 (And.intro e1 (And.intro e2 (And.intro e3 (And.intro e4 (And.intro e5 (And.intro e6 (And.intro d1 (And.intro d2 (And.intro d3 (And.intro d4 (And.intro d5 (And.intro d6 (And.intro d7 (And.intro d8 d9))))))))))))))))))) (okRowR r) (by first | omega | (simp; done) | (simp [spare_len]; omega)) (fun cap' hcap' => ?_)
                refine go (And.intro h12 (And.intro h13 (And.intro h14 (And.intro h7 (And.intro h8 (And.intro h9 (And.intro h35 (And.intro h36 (And.intro h37 (And.intro hhrb (And.intro hhb (And.intro @encR.eq_1 (And.intro e1 (And.intro e2 (And.intro e3 (And.intro e4 (And.intro e5 (And.intro e6 (And.intro d1 (And.intro d2 (And.intro d3 (And.intro d4 (And.intro d5 (And.intro d6 (And.intro d7 (And.intro d8 d9)))))))))))))))))))))))))) ?_
                have hc2 : out.length + 1 ≤ cap' := hcap'
                have hs1 := spare_len 4 (cap' - (out.length + 1))
                (refine ⟨n + 1 + 1, cap', out ++ [r], spare 4 (cap' - (out.length + 1)), true, ?_, ?_, ?_, ?_, ?_, ?_, ?_, ?_, ?_, ?_, ?_, ?_, ?_, ?_, ?_, ?_, ?_, ?_, ?_, ?_, ?_⟩ <;> (first | omega | (dsimp only; omega) | exact sxa (And.intro @cast_succ (And.intro h12 (And.intro h13 (And.intro h14 (And.intro h7 (And.intro h8 (And.intro h9 (And.intro h35 (And.intro h36 (And.intro h37 (And.intro hhrb (And.intro hhb (And.intro @encR.eq_1 (And.intro hl1 (And.intro @map_snoc' (And.intro e1 (And.intro e2 (And.intro e3 (And.intro e4 (And.intro e5 (And.intro e6 (And.intro d1 (And.intro d2 (And.intro d3 (And.intro d4 (And.intro d5 (And.intro d6 (And.intro d7 (And.intro d8 d9))))))))))))))))))))))))))))) | exact soa trivial | (first | omega | assumption | (simp [*]; done))))
              · rw [hc1] at hf4
                simp only [Bool.not_true, Bool.and_false, Bool.false_eq_true, if_false] at hf4
                refine go (And.intro h12 (And.intro h13 (And.intro h14 (And.intro h7 (And.intro h8 (And.intro h9 (And.intro h35 (And.intro h36 (And.intro h37 (And.intro hhrb (And.intro hhb (And.intro @encR.eq_1 (And.intro e1 (And.intro e2 (And.intro e3 (And.intro e4 (And.intro e5 e6))))))))))))))))) ?_
                (refine ⟨b, cap, out, sp, false, ?_, ?_, ?_, ?_, ?_, ?_, ?_, ?_, ?_, ?_, ?_, ?_, ?_, ?_, ?_, ?_, ?_, ?_, ?_, ?_, ?_⟩ <;> (first | omega | (dsimp only; omega) | exact sxa (And.intro @cast_succ (And.intro h12 (And.intro h13 (And.intro h14 (And.intro h7 (And.intro h8 (And.intro h9 (And.intro h35 (And.intro h36 (And.intro h37 (And.intro hhrb (And.intro hhb (And.intro @encR.eq_1 (And.intro e1 (And.intro e2 (And.intro e3 (And.intro e4 (And.intro e5 e6)))))))))))))))))) | exact soa trivial | (first | omega | assumption | (simp [*]; done))))
            · simp only [Bool.not_true, Bool.false_and, Bool.false_eq_true, if_false] at hf4
              refine go (And.intro h12 (And.intro h13 (And.intro h14 (And.intro h7 (And.intro h8 (And.intro h9 (And.intro h35 (And.intro h36 (And.intro h37 (And.intro hhrb (And.intro hhb (And.intro @encR.eq_1 (And.intro e1 (And.intro e2 (And.intro e3 (And.intro e4 (And.intro e5 e6))))))))))))))))) ?_
              (refine ⟨b, cap, out, sp, true, ?_, ?_, ?_, ?_, ?_, ?_, ?_, ?_, ?_, ?_, ?_, ?_, ?_, ?_, ?_, ?_, ?_, ?_, ?_, ?_, ?_⟩ <;> (first | omega | (dsimp only; omega) | exact sxa (And.intro @cast_succ (And.intro h12 (And.intro h13 (And.intro h14 (And.intro h7 (And.intro h8 (And.intro h9 (And.intro h35 (And.intro h36 (And.intro h37 (And.intro hhrb (And.intro hhb (And.intro @encR.eq_1 (And.intro e1 (And.intro e2 (And.intro e3 (And.intro e4 (And.intro e5 e6)))))))))))))))))) | exact soa trivial | (first | omega | assumption | (simp [*]; done))))
          rintro t h n2 ⟨b, cap, out, sp, d, h12, h13, h14, h7, h8, h9, h11, h35, h36, h37, hhrb, hhn, hhb, hn1, hn2, hn3, hn4, hf0, hf1, hf2, hf3⟩
          simp only at h12 h13 h14 h7 h8 h9 h11 h35 h36 h37 hhrb hhn hhb hn1 hn2 hn3 hn4
          clear d1 d2 d3 d4 d5 d6 d7 d8 d9 e1 e2 e3 e4 e5 e6
          have c1 : (b = n) = False := by simp <;> omega
          have c2 : (n = b) = False := by simp <;> omega
          have c3 : (rb = b) = False := by simp <;> omega
          have c4 : (b = rb) = False := by simp <;> omega
          have c5 : (b = n2) = False := by simp <;> omega
          have c6 : (n2 = b) = False := by simp <;> omega
          have c7 : (n = n2) = False := by simp <;> omega
          have c8 : (rb = n2) = False := by simp <;> omega
          have d1 : (rb = n2 + 1) = False := by simp <;> omega
          have d2 : (n = n2 + 1) = False := by simp <;> omega
          have d3 : (b = n2 + 1) = False := by simp <;> omega
          cases hid : ((x.id.a.toList == r.id.a.toList) && (x.id.n == r.id.n))
          · have hfs : ∀ l, fsK x r l = x :: l := fun l => by simp only [fsK, eqNB, hid, Bool.false_and, Bool.false_eq_true, if_false]
            rw [hfs] at hf3
            have hl1 : (out ++ [x]).length = out.length + 1 := by simp
            have hfin : (out ++ [x]) ++ fsF (L.drop (k + 1)) r d = fsF L r false := by rw [List.append_assoc]; exact hf3
            clear hf3 hfs
            refine go (And.intro h12 (And.intro h13 (And.intro h14 (And.intro h7 (And.intro h8 (And.intro h9 (And.intro h11 (And.intro h35 (And.intro h36 (And.intro h37 (And.intro hhrb (And.intro hhn (And.intro hhb (And.intro @encR.eq_1 (And.intro hpl (And.intro hid (And.intro c1 (And.intro c2 (And.intro c3 (And.intro c4 (And.intro c5 (And.intro c6 (And.intro c7 c8))))))))))))))))))))))) ?_
            refine x_appendO rfl rfl rfl rfl rfl rfl (sv (And.intro h8 (And.intro h11 (And.intro hhn (And.intro hhb (And.intro @encR.eq_1 (And.intro c1 (And.intro c2 (And.intro c3 (And.intro c4 (And.intro c5 (And.intro c6 (And.intro c7 c8))))))))))))) (by decide) (sc (And.intro h8 (And.intro h11 (And.intro hhn (And.intro hhb (And.intro @encR.eq_1 (And.intro c1 (And.intro c2 (And.intro c3 (And.intro c4 (And.intro c5 (And.intro c6 (And.intro c7 c8))))))))))))) (sv (And.intro h8 (And.intro h11 (And.intro hhn (And.intro hhb (And.intro @encR.eq_1 (And.intro c1 (And.intro c2 (And.intro c3 (And.intro c4 (And.intro c5 (And.intro c6 (And.intro c7 c8))))))))))))) (sx (And.intro h8 (And.intro h11 (And.intro hhn (And.intro hhb (And.intro @encR.eq_1 (And.intro c1 (And.intro c2 (And.intro c3 (And.intro c4 (And.intro c5 (And.intro c6 (And.intro c7 c8))))))))))))) (by first | rfl | (simp; done) | (simp [spare_len]; omega)) (by first | omega | (simp; done) | (simp [spare_len]; omega)) (by first | omega | (simp; done) | (simp [spare_len]; omega)) (sx (And.intro h8 (And.intro h11 (And.intro hhn (And.intro hhb (And.intro @encR.eq_1 (And.intro c1 (And.intro c2 (And.intro c3 (And.intro c4 (And.intro c5 (And.intro c6 (And.intro c7 c8))))))))))))) (okRowR x) (by first | omega | (simp; done) | (simp [spare_len]; omega)) (fun cap' hcap' => ?_)
            refine go (And.intro h12 (And.intro h13 (And.intro h14 (And.intro h7 (And.intro h8 (And.intro h9 (And.intro h11 (And.intro h35 (And.intro h36 (And.intro h37 (And.intro hhrb (And.intro hhn (And.intro hhb (And.intro @encR.eq_1 (And.intro c1 (And.intro c2 (And.intro c3 (And.intro c4 (And.intro c5 (And.intro c6 (And.intro c7 c8))))))))))))))))))))) ?_
            have hc2 : out.length + 1 ≤ cap' := hcap'
            have hs1 := spare_len 4 (cap' - (out.length + 1))
            (refine ⟨⟨k + 1, n2 + 1, cap', out ++ [x], spare 4 (cap' - (out.length + 1)), d, ?_, ?_, ?_, ?_, ?_, ?_, ?_, ?_, ?_, ?_, ?_, ?_, ?_, ?_, ?_, ?_, ?_, ?_⟩, ?_⟩ <;> (first | omega | (dsimp only; omega) | (first | omega | assumption | (simp [*]; done)) | exact sxa (And.intro @cast_succ (And.intro h12 (And.intro h13 (And.intro h14 (And.intro h7 (And.intro h8 (And.intro h9 (And.intro h35 (And.intro h36 (And.intro h37 (And.intro hhrb (And.intro hhn (And.intro hhb (And.intro @encR.eq_1 (And.intro hl1 (And.intro @map_snoc' (And.intro c1 (And.intro c2 (And.intro c3 (And.intro c4 (And.intro c5 (And.intro c6 (And.intro c7 (And.intro c8 (And.intro d1 (And.intro d2 d3)))))))))))))))))))))))))) | exact soa trivial))
          · cases hfd : (x.f.toList == r.f.toList)
            · have hfn : (x.f.toList != r.f.toList) = true := by simp [bne, hfd]
              have hfs : ∀ l, fsK x r l = x :: l := fun l => by simp only [fsK, eqNB, eqFB, hid, hfd, Bool.and_false, Bool.false_eq_true, if_false]
              rw [hfs] at hf3
              have hl1 : (out ++ [x]).length = out.length + 1 := by simp
              have hfin : (out ++ [x]) ++ fsF (L.drop (k + 1)) r d = fsF L r false := by rw [List.append_assoc]; exact hf3
              clear hf3 hfs
              refine go (And.intro h12 (And.intro h13 (And.intro h14 (And.intro h7 (And.intro h8 (And.intro h9 (And.intro h11 (And.intro h35 (And.intro h36 (And.intro h37 (And.intro hhrb (And.intro hhn (And.intro hhb (And.intro @encR.eq_1 (And.intro hpl (And.intro hid (And.intro hfd (And.intro hfn (And.intro c1 (And.intro c2 (And.intro c3 (And.intro c4 (And.intro c5 (And.intro c6 (And.intro c7 c8))))))))))))))))))))))))) ?_
              refine x_appendO rfl rfl rfl rfl rfl rfl (sv (And.intro h8 (And.intro h11 (And.intro hhn (And.intro hhb (And.intro @encR.eq_1 (And.intro c1 (And.intro c2 (And.intro c3 (And.intro c4 (And.intro c5 (And.intro c6 (And.intro c7 c8))))))))))))) (by decide) (sc (And.intro h8 (And.intro h11 (And.intro hhn (And.intro hhb (And.intro @encR.eq_1 (And.intro c1 (And.intro c2 (And.intro c3 (And.intro c4 (And.intro c5 (And.intro c6 (And.intro c7 c8))))))))))))) (sv (And.intro h8 (And.intro h11 (And.intro hhn (And.intro hhb (And.intro @encR.eq_1 (And.intro c1 (And.intro c2 (And.intro c3 (And.intro c4 (And.intro c5 (And.intro c6 (And.intro c7 c8))))))))))))) (sx (And.intro h8 (And.intro h11 (And.intro hhn (And.intro hhb (And.intro @encR.eq_1 (And.intro c1 (And.intro c2 (And.intro c3 (And.intro c4 (And.intro c5 (And.intro c6 (And.intro c7 c8))))))))))))) (by first | rfl | (simp; done) | (simp [spare_len]; omega)) (by first | omega | (simp; done) | (simp [spare_len]; omega)) (by first | omega | (simp; done) | (simp [spare_len]; omega)) (sx (And.intro h8 (And.intro h11 (And.intro hhn (And.intro hhb (And.intro @encR.eq_1 (And.intro c1 (And.intro c2 (And.intro c3 (And.intro c4 (And.intro c5 (And.intro c6 (And.intro c7 c8))))))))))))) (okRowR x) (by first | omega | (simp; done) | (simp [spare_len]; omega)) (fun cap' hcap' => ?_)
              refine go (And.intro h12 (And.intro h13 (And.intro h14 (And.intro h7 (And.intro h8 (And.intro h9 (And.intro h11 (And.intro h35 (And.intro h36 (And.intro h37 (And.intro hhrb (And.intro hhn (And.intro hhb (And.intro @encR.eq_1 (And.intro c1 (And.intro c2 (And.intro c3 (And.intro c4 (And.intro c5 (And.intro c6 (And.intro c7 c8))))))))))))))))))))) ?_
              have hc2 : out.length + 1 ≤ cap' := hcap'
              have hs1 := spare_len 4 (cap' - (out.length + 1))
              (refine ⟨⟨k + 1, n2 + 1, cap', out ++ [x], spare 4 (cap' - (out.length + 1)), d, ?_, ?_, ?_, ?_, ?_, ?_, ?_, ?_, ?_, ?_, ?_, ?_, ?_, ?_, ?_, ?_, ?_, ?_⟩, ?_⟩ <;> (first | omega | (dsimp only; omega) | (first | omega | assumption | (simp [*]; done)) | exact sxa (And.intro @cast_succ (And.intro h12 (And.intro h13 (And.intro h14 (And.intro h7 (And.intro h8 (And.intro h9 (And.intro h35 (And.intro h36 (And.intro h37 (And.intro hhrb (And.intro hhn (And.intro hhb (And.intro @encR.eq_1 (And.intro hl1 (And.intro @map_snoc' (And.intro c1 (And.intro c2 (And.intro c3 (And.intro c4 (And.intro c5 (And.intro c6 (And.intro c7 (And.intro c8 (And.intro d1 (And.intro d2 d3)))))))))))))))))))))))))) | exact soa trivial))
            · have hfn : (x.f.toList != r.f.toList) = false := by simp [bne, hfd]
              have hfs : ∀ l, fsK x r l = l := fun l => by simp only [fsK, eqNB, eqFB, hid, hfd, Bool.and_true, if_true]
              rw [hfs] at hf3
              clear hfs
              refine go (And.intro h12 (And.intro h13 (And.intro h14 (And.intro h7 (And.intro h8 (And.intro h9 (And.intro h11 (And.intro h35 (And.intro h36 (And.intro h37 (And.intro hhrb (And.intro hhn (And.intro hhb (And.intro @encR.eq_1 (And.intro hpl (And.intro hid (And.intro hfd (And.intro hfn (And.intro c1 (And.intro c2 (And.intro c3 (And.intro c4 (And.intro c5 (And.intro c6 (And.intro c7 c8))))))))))))))))))))))))) ?_
              (refine ⟨⟨k + 1, b, cap, out, sp, d, ?_, ?_, ?_, ?_, ?_, ?_, ?_, ?_, ?_, ?_, ?_, ?_, ?_, ?_, ?_, ?_, ?_, ?_⟩, ?_⟩ <;> (first | omega | (dsimp only; omega) | ((exact hf3)) | exact sxa (And.intro @cast_succ (And.intro h12 (And.intro h13 (And.intro h14 (And.intro h7 (And.intro h8 (And.intro h9 (And.intro h35 (And.intro h36 (And.intro h37 (And.intro hhrb (And.intro hhn (And.intro hhb (And.intro @encR.eq_1 (And.intro c1 (And.intro c2 (And.intro c3 (And.intro c4 (And.intro c5 (And.intro c6 (And.intro c7 (And.intro c8 (And.intro d1 (And.intro d2 d3)))))))))))))))))))))))) | exact soa trivial))
        · skip
          have ek : k = L.length := by omega
          subst ek
          rw [List.drop_length, fsF] at hf4
          have c1 : (b = n) = False := by simp <;> omega
          have c2 : (n = b) = False := by simp <;> omega
          have c3 : (rb = b) = False := by simp <;> omega
          have c4 : (b = rb) = False := by simp <;> omega
          have c5 : (rb = n) = False := by simp <;> omega
          cases d
          · refine go (And.intro h12 (And.intro h13 (And.intro h14 (And.intro h7 (And.intro h8 (And.intro h9 (And.intro h35 (And.intro h36 (And.intro h37 (And.intro hhrb (And.intro hhb (And.intro @encR.eq_1 (And.intro c1 (And.intro c2 (And.intro c3 (And.intro c4 c5)))))))))))))))) ?_
            refine x_appendO rfl rfl rfl rfl rfl rfl (sv (And.intro h8 (And.intro hhrb (And.intro hhb (And.intro @encR.eq_1 (And.intro c1 (And.intro c2 (And.intro c3 (And.intro c4 c5))))))))) (by decide) (sc (And.intro h8 (And.intro hhrb (And.intro hhb (And.intro @encR.eq_1 (And.intro c1 (And.intro c2 (And.intro c3 (And.intro c4 c5))))))))) (sv (And.intro h8 (And.intro hhrb (And.intro hhb (And.intro @encR.eq_1 (And.intro c1 (And.intro c2 (And.intro c3 (And.intro c4 c5))))))))) (sx (And.intro h8 (And.intro hhrb (And.intro hhb (And.intro @encR.eq_1 (And.intro c1 (And.intro c2 (And.intro c3 (And.intro c4 c5))))))))) (by first | rfl | (simp; done) | (simp [spare_len]; omega)) (by first | omega | (simp; done) | (simp [spare_len]; omega)) (by first | omega | (simp; done) | (simp [spare_len]; omega)) (sx (And.intro h8 (And.intro hhrb (And.intro hhb (And.intro @encR.eq_1 (And.intro c1 (And.intro c2 (And.intro c3 (And.intro c4 c5))))))))) (okRowR r) (by first | omega | (simp; done) | (simp [spare_len]; omega)) (fun cap' hcap' => ?_)
            have hc2 : out.length + 1 ≤ cap' := hcap'
            refine go (And.intro h12 (And.intro h13 (And.intro h14 (And.intro h7 (And.intro h8 (And.intro h9 (And.intro h35 (And.intro h36 (And.intro h37 (And.intro hhrb (And.intro hhb (And.intro @encR.eq_1 (And.intro c1 (And.intro c2 (And.intro c3 (And.intro c4 c5)))))))))))))))) ?_
            simp only [Bool.false_eq_true, if_false] at hf4
            rw [← hf4] at hst hf2'
            have tk : ∀ m, (out.map encR ++ [encR r] ++ spare 4 m).take (out.length + 1) = (out ++ [r]).map encR := fun m => by rw [map_snoc']; exact List.take_left' (by simp)
            have ln : ∀ m, (out.length + 1 ≤ (out.map encR ++ [encR r] ++ spare 4 m).length) = True := fun m => by simp
            (refine ⟨out ++ [r], ?_, ?_, ?_, ?_, ?_, ?_⟩ <;> (first | omega | (dsimp only; omega) | exact sxa (And.intro @cast_succ (And.intro h12 (And.intro h13 (And.intro h14 (And.intro h7 (And.intro h8 (And.intro h9 (And.intro h35 (And.intro h36 h37))))))))) | exact soa trivial | ((exact se (And.intro tk (And.intro ln (hx1 (out ++ [r]))))))))
          · simp only [if_true, List.append_nil] at hf4
            rw [← hf4] at hst hf2'
            refine go (And.intro h12 (And.intro h13 (And.intro h14 (And.intro h7 (And.intro h8 (And.intro h9 (And.intro h35 (And.intro h36 (And.intro h37 (And.intro hhrb (And.intro hhb (And.intro @encR.eq_1 (And.intro c1 (And.intro c2 (And.intro c3 (And.intro c4 c5)))))))))))))))) ?_
            have tk : (out.map encR ++ sp).take out.length = out.map encR := List.take_left' (by simp)
            have ln : (out.length ≤ (out.map encR ++ sp).length) = True := by simp
            (refine ⟨out, ?_, ?_, ?_, ?_, ?_, ?_⟩ <;> (first | omega | (dsimp only; omega) | exact sxa (And.intro @cast_succ (And.intro h12 (And.intro h13 (And.intro h14 (And.intro h7 (And.intro h8 (And.intro h9 (And.intro h35 (And.intro h36 h37))))))))) | exact soa trivial | ((exact se (And.intro tk (And.intro ln (And.intro hhb (hx1 out))))))))
    rintro t h n ⟨L2, h12, h13, h14, hf0, hf1, hf2⟩
    simp only at h12 h13 h14
    refine ⟨_, hf0, fun h2 hold => ?_⟩
    clear hold
    refine go (And.intro h12 (And.intro h13 h14)) ?_
    (refine ⟨⟨i + 1, L2, ?_, ?_, ?_, ?_, ?_, ?_, ?_⟩, ?_⟩ <;> (first | omega | (dsimp only; omega) | (first | omega | assumption | (simp [*]; done)) | exact sxa @cast_succ | exact soa trivial))
  · have ei : i = es.length := by omega
    subst ei
    rw [List.drop_length] at hf2
    have hf3 : L = rfoldF l es := hf2
    rw [← hf3]
    refine go (And.intro h0 (And.intro h12 (And.intro h13 h14))) ?_
    refine x_done (x_out (sr (And.intro @Try.f14.eq_1 h0)) (by simp) (by simp) rfl)
end Go.Proofs.Ytgohmphhgglmbaa

set_option linter.unusedVariables false
set_option maxRecDepth 100000
namespace Go.Proofs.Ytgohmphhgglmbaa
open Go Go.RowKit Am

theorem env0 : EnvOk ⟨Try.prog, plainT, (fun _ => none), (fun _ => none), fun _ => none, 0⟩ := ⟨plain_ok, (fun _ _ h => by cases h), (fun _ _ h => by cases h), by kernel_rfl, (fun _ _ h => by cases h)⟩
def ga0 : FuncId → Option Fspec := fun _ => none
def de0 : FuncId → Option Pt := fun _ => none
theorem ok0_0 : EnvOk ⟨Try.prog, plainT, ga0, de0, fun _ => none, 0⟩ := env0
def de1 : FuncId → Option Pt := upd de0 59 (some (cmpT))
theorem ok0_1 : EnvOk ⟨Try.prog, plainT, ga0, de1, fun _ => none, 0⟩ := EnvOk.addT ok0_0 (cmpT_sound)
def de2 : FuncId → Option Pt := upd de1 56 (some (overT 4))
theorem ok0_2 : EnvOk ⟨Try.prog, plainT, ga0, de2, fun _ => none, 0⟩ := EnvOk.addT ok0_1 (overT_sound (tS := 32) (tR := 4) (e := 41) Try.func56 (by kernel_rfl) (by kernel_rfl) (by kernel_rfl) (by kernel_rfl) (by kernel_rfl) (by kernel_rfl) (by decide) (by decide))
def de3 : FuncId → Option Pt := upd de2 42 (some (overT 4))
theorem ok0_3 : EnvOk ⟨Try.prog, plainT, ga0, de3, fun _ => none, 0⟩ := EnvOk.addT ok0_2 (overT_sound (tS := 22) (tR := 4) (e := 39) Try.func42 (by kernel_rfl) (by kernel_rfl) (by kernel_rfl) (by kernel_rfl) (by kernel_rfl) (by kernel_rfl) (by decide) (by decide))
def ga1 : FuncId → Option Fspec := upd ga0 53 (some compareS)
theorem ok1_3 : EnvOk ⟨Try.prog, plainT, ga1, de3, fun _ => none, 0⟩ := EnvOk.add ok0_3 (by first | exact compareString_sound ok0_3 | exact compareString_sound ok0_3 rfl | exact compareString_sound ok0_3 rfl rfl | exact compareString_sound ok0_3 rfl rfl rfl | exact compareString_sound ok0_3 rfl rfl rfl rfl | exact compareString_sound ok0_3 rfl rfl rfl rfl rfl | exact compareString_sound ok0_3 rfl rfl rfl rfl rfl rfl | exact compareString_sound ok0_3 rfl rfl rfl rfl rfl rfl rfl | exact compareString_sound ok0_3 rfl rfl rfl rfl rfl rfl rfl rfl | exact compareString_sound ok0_3 rfl rfl rfl rfl rfl rfl rfl rfl rfl | exact compareString_sound ok0_3 rfl rfl rfl rfl rfl rfl rfl rfl rfl rfl | exact compareString_sound ok0_3 rfl rfl rfl rfl rfl rfl rfl rfl rfl rfl rfl | exact compareString_sound ok0_3 rfl rfl rfl rfl rfl rfl rfl rfl rfl rfl rfl rfl) (by kernel_rfl)
def ga2 : FuncId → Option Fspec := upd ga1 41 (some compareS)
theorem ok2_3 : EnvOk ⟨Try.prog, plainT, ga2, de3, fun _ => none, 0⟩ := EnvOk.add ok1_3 (by first | exact compare_sound ok1_3 | exact compare_sound ok1_3 rfl | exact compare_sound ok1_3 rfl rfl | exact compare_sound ok1_3 rfl rfl rfl | exact compare_sound ok1_3 rfl rfl rfl rfl | exact compare_sound ok1_3 rfl rfl rfl rfl rfl | exact compare_sound ok1_3 rfl rfl rfl rfl rfl rfl | exact compare_sound ok1_3 rfl rfl rfl rfl rfl rfl rfl | exact compare_sound ok1_3 rfl rfl rfl rfl rfl rfl rfl rfl | exact compare_sound ok1_3 rfl rfl rfl rfl rfl rfl rfl rfl rfl | exact compare_sound ok1_3 rfl rfl rfl rfl rfl rfl rfl rfl rfl rfl | exact compare_sound ok1_3 rfl rfl rfl rfl rfl rfl rfl rfl rfl rfl rfl | exact compare_sound ok1_3 rfl rfl rfl rfl rfl rfl rfl rfl rfl rfl rfl rfl) (by kernel_rfl)
def ga3 : FuncId → Option Fspec := upd ga2 58 (some nanS)
theorem ok3_3 : EnvOk ⟨Try.prog, plainT, ga3, de3, fun _ => none, 0⟩ := EnvOk.add ok2_3 (by first | exact nan_sound ok2_3 | exact nan_sound ok2_3 rfl | exact nan_sound ok2_3 rfl rfl | exact nan_sound ok2_3 rfl rfl rfl | exact nan_sound ok2_3 rfl rfl rfl rfl | exact nan_sound ok2_3 rfl rfl rfl rfl rfl | exact nan_sound ok2_3 rfl rfl rfl rfl rfl rfl | exact nan_sound ok2_3 rfl rfl rfl rfl rfl rfl rfl | exact nan_sound ok2_3 rfl rfl rfl rfl rfl rfl rfl rfl | exact nan_sound ok2_3 rfl rfl rfl rfl rfl rfl rfl rfl rfl | exact nan_sound ok2_3 rfl rfl rfl rfl rfl rfl rfl rfl rfl rfl | exact nan_sound ok2_3 rfl rfl rfl rfl rfl rfl rfl rfl rfl rfl rfl | exact nan_sound ok2_3 rfl rfl rfl rfl rfl rfl rfl rfl rfl rfl rfl rfl) (by kernel_rfl)
def ga4 : FuncId → Option Fspec := upd ga3 52 (some cmpIS)
theorem ok4_3 : EnvOk ⟨Try.prog, plainT, ga4, de3, fun _ => none, 0⟩ := EnvOk.add ok3_3 (by first | exact cmpI_sound ok3_3 | exact cmpI_sound ok3_3 rfl | exact cmpI_sound ok3_3 rfl rfl | exact cmpI_sound ok3_3 rfl rfl rfl | exact cmpI_sound ok3_3 rfl rfl rfl rfl | exact cmpI_sound ok3_3 rfl rfl rfl rfl rfl | exact cmpI_sound ok3_3 rfl rfl rfl rfl rfl rfl | exact cmpI_sound ok3_3 rfl rfl rfl rfl rfl rfl rfl | exact cmpI_sound ok3_3 rfl rfl rfl rfl rfl rfl rfl rfl | exact cmpI_sound ok3_3 rfl rfl rfl rfl rfl rfl rfl rfl rfl | exact cmpI_sound ok3_3 rfl rfl rfl rfl rfl rfl rfl rfl rfl rfl | exact cmpI_sound ok3_3 rfl rfl rfl rfl rfl rfl rfl rfl rfl rfl rfl | exact cmpI_sound ok3_3 rfl rfl rfl rfl rfl rfl rfl rfl rfl rfl rfl rfl) (by kernel_rfl)
def ga5 : FuncId → Option Fspec := upd ga4 39 (some orS)
theorem ok5_3 : EnvOk ⟨Try.prog, plainT, ga5, de3, fun _ => none, 0⟩ := EnvOk.add ok4_3 (by first | exact or_sound ok4_3 | exact or_sound ok4_3 rfl | exact or_sound ok4_3 rfl rfl | exact or_sound ok4_3 rfl rfl rfl | exact or_sound ok4_3 rfl rfl rfl rfl | exact or_sound ok4_3 rfl rfl rfl rfl rfl | exact or_sound ok4_3 rfl rfl rfl rfl rfl rfl | exact or_sound ok4_3 rfl rfl rfl rfl rfl rfl rfl | exact or_sound ok4_3 rfl rfl rfl rfl rfl rfl rfl rfl | exact or_sound ok4_3 rfl rfl rfl rfl rfl rfl rfl rfl rfl | exact or_sound ok4_3 rfl rfl rfl rfl rfl rfl rfl rfl rfl rfl | exact or_sound ok4_3 rfl rfl rfl rfl rfl rfl rfl rfl rfl rfl rfl | exact or_sound ok4_3 rfl rfl rfl rfl rfl rfl rfl rfl rfl rfl rfl rfl) (by kernel_rfl)
def ga6 : FuncId → Option Fspec := upd ga5 50 (some (bsS encId))
theorem ok6_3 : EnvOk ⟨Try.prog, plainT, ga6, de3, fun _ => none, 0⟩ := EnvOk.add ok5_3 (by first | exact bsI_sound ok5_3 | exact bsI_sound ok5_3 rfl | exact bsI_sound ok5_3 rfl rfl | exact bsI_sound ok5_3 rfl rfl rfl | exact bsI_sound ok5_3 rfl rfl rfl rfl | exact bsI_sound ok5_3 rfl rfl rfl rfl rfl | exact bsI_sound ok5_3 rfl rfl rfl rfl rfl rfl | exact bsI_sound ok5_3 rfl rfl rfl rfl rfl rfl rfl | exact bsI_sound ok5_3 rfl rfl rfl rfl rfl rfl rfl rfl | exact bsI_sound ok5_3 rfl rfl rfl rfl rfl rfl rfl rfl rfl | exact bsI_sound ok5_3 rfl rfl rfl rfl rfl rfl rfl rfl rfl rfl | exact bsI_sound ok5_3 rfl rfl rfl rfl rfl rfl rfl rfl rfl rfl rfl | exact bsI_sound ok5_3 rfl rfl rfl rfl rfl rfl rfl rfl rfl rfl rfl rfl) (by kernel_rfl)
def ga7 : FuncId → Option Fspec := upd ga6 27 (some (bsS2 encR))
theorem ok7_3 : EnvOk ⟨Try.prog, plainT, ga7, de3, fun _ => none, 0⟩ := EnvOk.add ok6_3 (by first | exact bsR_sound ok6_3 | exact bsR_sound ok6_3 rfl | exact bsR_sound ok6_3 rfl rfl | exact bsR_sound ok6_3 rfl rfl rfl | exact bsR_sound ok6_3 rfl rfl rfl rfl | exact bsR_sound ok6_3 rfl rfl rfl rfl rfl | exact bsR_sound ok6_3 rfl rfl rfl rfl rfl rfl | exact bsR_sound ok6_3 rfl rfl rfl rfl rfl rfl rfl | exact bsR_sound ok6_3 rfl rfl rfl rfl rfl rfl rfl rfl | exact bsR_sound ok6_3 rfl rfl rfl rfl rfl rfl rfl rfl rfl | exact bsR_sound ok6_3 rfl rfl rfl rfl rfl rfl rfl rfl rfl rfl | exact bsR_sound ok6_3 rfl rfl rfl rfl rfl rfl rfl rfl rfl rfl rfl | exact bsR_sound ok6_3 rfl rfl rfl rfl rfl rfl rfl rfl rfl rfl rfl rfl) (by kernel_rfl)
def ga8 : FuncId → Option Fspec := upd ga7 46 (some (bsS2 encW))
theorem ok8_3 : EnvOk ⟨Try.prog, plainT, ga8, de3, fun _ => none, 0⟩ := EnvOk.add ok7_3 (by first | exact bsW_sound ok7_3 | exact bsW_sound ok7_3 rfl | exact bsW_sound ok7_3 rfl rfl | exact bsW_sound ok7_3 rfl rfl rfl | exact bsW_sound ok7_3 rfl rfl rfl rfl | exact bsW_sound ok7_3 rfl rfl rfl rfl rfl | exact bsW_sound ok7_3 rfl rfl rfl rfl rfl rfl | exact bsW_sound ok7_3 rfl rfl rfl rfl rfl rfl rfl | exact bsW_sound ok7_3 rfl rfl rfl rfl rfl rfl rfl rfl | exact bsW_sound ok7_3 rfl rfl rfl rfl rfl rfl rfl rfl rfl | exact bsW_sound ok7_3 rfl rfl rfl rfl rfl rfl rfl rfl rfl rfl | exact bsW_sound ok7_3 rfl rfl rfl rfl rfl rfl rfl rfl rfl rfl rfl | exact bsW_sound ok7_3 rfl rfl rfl rfl rfl rfl rfl rfl rfl rfl rfl rfl) (by kernel_rfl)
def ga9 : FuncId → Option Fspec := upd ga8 40 (some cmpIdS)
theorem ok9_3 : EnvOk ⟨Try.prog, plainT, ga9, de3, fun _ => none, 0⟩ := EnvOk.add ok8_3 (by first | exact cmpId_sound ok8_3 | exact cmpId_sound ok8_3 rfl | exact cmpId_sound ok8_3 rfl rfl | exact cmpId_sound ok8_3 rfl rfl rfl | exact cmpId_sound ok8_3 rfl rfl rfl rfl | exact cmpId_sound ok8_3 rfl rfl rfl rfl rfl | exact cmpId_sound ok8_3 rfl rfl rfl rfl rfl rfl | exact cmpId_sound ok8_3 rfl rfl rfl rfl rfl rfl rfl | exact cmpId_sound ok8_3 rfl rfl rfl rfl rfl rfl rfl rfl | exact cmpId_sound ok8_3 rfl rfl rfl rfl rfl rfl rfl rfl rfl | exact cmpId_sound ok8_3 rfl rfl rfl rfl rfl rfl rfl rfl rfl rfl | exact cmpId_sound ok8_3 rfl rfl rfl rfl rfl rfl rfl rfl rfl rfl rfl | exact cmpId_sound ok8_3 rfl rfl rfl rfl rfl rfl rfl rfl rfl rfl rfl rfl) (by kernel_rfl)
def ga10 : FuncId → Option Fspec := upd ga9 28 (some cmpRegS)
theorem ok10_3 : EnvOk ⟨Try.prog, plainT, ga10, de3, fun _ => none, 0⟩ := EnvOk.add ok9_3 (by first | exact cmpReg_sound ok9_3 | exact cmpReg_sound ok9_3 rfl | exact cmpReg_sound ok9_3 rfl rfl | exact cmpReg_sound ok9_3 rfl rfl rfl | exact cmpReg_sound ok9_3 rfl rfl rfl rfl | exact cmpReg_sound ok9_3 rfl rfl rfl rfl rfl | exact cmpReg_sound ok9_3 rfl rfl rfl rfl rfl rfl | exact cmpReg_sound ok9_3 rfl rfl rfl rfl rfl rfl rfl | exact cmpReg_sound ok9_3 rfl rfl rfl rfl rfl rfl rfl rfl | exact cmpReg_sound ok9_3 rfl rfl rfl rfl rfl rfl rfl rfl rfl | exact cmpReg_sound ok9_3 rfl rfl rfl rfl rfl rfl rfl rfl rfl rfl | exact cmpReg_sound ok9_3 rfl rfl rfl rfl rfl rfl rfl rfl rfl rfl rfl | exact cmpReg_sound ok9_3 rfl rfl rfl rfl rfl rfl rfl rfl rfl rfl rfl rfl) (by kernel_rfl)
def ga11 : FuncId → Option Fspec := upd ga10 47 (some cmpWS)
theorem ok11_3 : EnvOk ⟨Try.prog, plainT, ga11, de3, fun _ => none, 0⟩ := EnvOk.add ok10_3 (by first | exact cmpW_sound ok10_3 | exact cmpW_sound ok10_3 rfl | exact cmpW_sound ok10_3 rfl rfl | exact cmpW_sound ok10_3 rfl rfl rfl | exact cmpW_sound ok10_3 rfl rfl rfl rfl | exact cmpW_sound ok10_3 rfl rfl rfl rfl rfl | exact cmpW_sound ok10_3 rfl rfl rfl rfl rfl rfl | exact cmpW_sound ok10_3 rfl rfl rfl rfl rfl rfl rfl | exact cmpW_sound ok10_3 rfl rfl rfl rfl rfl rfl rfl rfl | exact cmpW_sound ok10_3 rfl rfl rfl rfl rfl rfl rfl rfl rfl | exact cmpW_sound ok10_3 rfl rfl rfl rfl rfl rfl rfl rfl rfl rfl | exact cmpW_sound ok10_3 rfl rfl rfl rfl rfl rfl rfl rfl rfl rfl rfl | exact cmpW_sound ok10_3 rfl rfl rfl rfl rfl rfl rfl rfl rfl rfl rfl rfl) (by kernel_rfl)
def ga12 : FuncId → Option Fspec := upd ga11 51 (some plac1S)
theorem ok12_3 : EnvOk ⟨Try.prog, plainT, ga12, de3, fun _ => none, 0⟩ := EnvOk.add ok11_3 (by first | exact plac1_sound ok11_3 | exact plac1_sound ok11_3 rfl | exact plac1_sound ok11_3 rfl rfl | exact plac1_sound ok11_3 rfl rfl rfl | exact plac1_sound ok11_3 rfl rfl rfl rfl | exact plac1_sound ok11_3 rfl rfl rfl rfl rfl | exact plac1_sound ok11_3 rfl rfl rfl rfl rfl rfl | exact plac1_sound ok11_3 rfl rfl rfl rfl rfl rfl rfl | exact plac1_sound ok11_3 rfl rfl rfl rfl rfl rfl rfl rfl | exact plac1_sound ok11_3 rfl rfl rfl rfl rfl rfl rfl rfl rfl | exact plac1_sound ok11_3 rfl rfl rfl rfl rfl rfl rfl rfl rfl rfl | exact plac1_sound ok11_3 rfl rfl rfl rfl rfl rfl rfl rfl rfl rfl rfl | exact plac1_sound ok11_3 rfl rfl rfl rfl rfl rfl rfl rfl rfl rfl rfl rfl) (by kernel_rfl)
def ga13 : FuncId → Option Fspec := upd ga12 36 (some placS)
theorem ok13_3 : EnvOk ⟨Try.prog, plainT, ga13, de3, fun _ => none, 0⟩ := EnvOk.add ok12_3 (by first | exact plac_sound ok12_3 | exact plac_sound ok12_3 rfl | exact plac_sound ok12_3 rfl rfl | exact plac_sound ok12_3 rfl rfl rfl | exact plac_sound ok12_3 rfl rfl rfl rfl | exact plac_sound ok12_3 rfl rfl rfl rfl rfl | exact plac_sound ok12_3 rfl rfl rfl rfl rfl rfl | exact plac_sound ok12_3 rfl rfl rfl rfl rfl rfl rfl | exact plac_sound ok12_3 rfl rfl rfl rfl rfl rfl rfl rfl | exact plac_sound ok12_3 rfl rfl rfl rfl rfl rfl rfl rfl rfl | exact plac_sound ok12_3 rfl rfl rfl rfl rfl rfl rfl rfl rfl rfl | exact plac_sound ok12_3 rfl rfl rfl rfl rfl rfl rfl rfl rfl rfl rfl | exact plac_sound ok12_3 rfl rfl rfl rfl rfl rfl rfl rfl rfl rfl rfl rfl) (by kernel_rfl)
def ga14 : FuncId → Option Fspec := upd ga13 49 (some uptoS)
theorem ok14_3 : EnvOk ⟨Try.prog, plainT, ga14, de3, fun _ => none, 0⟩ := EnvOk.add ok13_3 (by first | exact upto_sound ok13_3 | exact upto_sound ok13_3 rfl | exact upto_sound ok13_3 rfl rfl | exact upto_sound ok13_3 rfl rfl rfl | exact upto_sound ok13_3 rfl rfl rfl rfl | exact upto_sound ok13_3 rfl rfl rfl rfl rfl | exact upto_sound ok13_3 rfl rfl rfl rfl rfl rfl | exact upto_sound ok13_3 rfl rfl rfl rfl rfl rfl rfl | exact upto_sound ok13_3 rfl rfl rfl rfl rfl rfl rfl rfl | exact upto_sound ok13_3 rfl rfl rfl rfl rfl rfl rfl rfl rfl | exact upto_sound ok13_3 rfl rfl rfl rfl rfl rfl rfl rfl rfl rfl | exact upto_sound ok13_3 rfl rfl rfl rfl rfl rfl rfl rfl rfl rfl rfl | exact upto_sound ok13_3 rfl rfl rfl rfl rfl rfl rfl rfl rfl rfl rfl rfl) (by kernel_rfl)
def ga15 : FuncId → Option Fspec := upd ga14 35 (some hasS)
theorem ok15_3 : EnvOk ⟨Try.prog, plainT, ga15, de3, fun _ => none, 0⟩ := EnvOk.add ok14_3 (by first | exact has_sound ok14_3 | exact has_sound ok14_3 rfl | exact has_sound ok14_3 rfl rfl | exact has_sound ok14_3 rfl rfl rfl | exact has_sound ok14_3 rfl rfl rfl rfl | exact has_sound ok14_3 rfl rfl rfl rfl rfl | exact has_sound ok14_3 rfl rfl rfl rfl rfl rfl | exact has_sound ok14_3 rfl rfl rfl rfl rfl rfl rfl | exact has_sound ok14_3 rfl rfl rfl rfl rfl rfl rfl rfl | exact has_sound ok14_3 rfl rfl rfl rfl rfl rfl rfl rfl rfl | exact has_sound ok14_3 rfl rfl rfl rfl rfl rfl rfl rfl rfl rfl | exact has_sound ok14_3 rfl rfl rfl rfl rfl rfl rfl rfl rfl rfl rfl | exact has_sound ok14_3 rfl rfl rfl rfl rfl rfl rfl rfl rfl rfl rfl rfl) (by kernel_rfl)
def ga16 : FuncId → Option Fspec := upd ga15 21 (some contS)
theorem ok16_3 : EnvOk ⟨Try.prog, plainT, ga16, de3, fun _ => none, 0⟩ := EnvOk.add ok15_3 (by first | exact cont_sound ok15_3 | exact cont_sound ok15_3 rfl | exact cont_sound ok15_3 rfl rfl | exact cont_sound ok15_3 rfl rfl rfl | exact cont_sound ok15_3 rfl rfl rfl rfl | exact cont_sound ok15_3 rfl rfl rfl rfl rfl | exact cont_sound ok15_3 rfl rfl rfl rfl rfl rfl | exact cont_sound ok15_3 rfl rfl rfl rfl rfl rfl rfl | exact cont_sound ok15_3 rfl rfl rfl rfl rfl rfl rfl rfl | exact cont_sound ok15_3 rfl rfl rfl rfl rfl rfl rfl rfl rfl | exact cont_sound ok15_3 rfl rfl rfl rfl rfl rfl rfl rfl rfl rfl | exact cont_sound ok15_3 rfl rfl rfl rfl rfl rfl rfl rfl rfl rfl rfl | exact cont_sound ok15_3 rfl rfl rfl rfl rfl rfl rfl rfl rfl rfl rfl rfl) (by kernel_rfl)
def ga17 : FuncId → Option Fspec := upd ga16 37 (some lessS)
theorem ok17_3 : EnvOk ⟨Try.prog, plainT, ga17, de3, fun _ => none, 0⟩ := EnvOk.add ok16_3 (by first | exact less_sound ok16_3 | exact less_sound ok16_3 rfl | exact less_sound ok16_3 rfl rfl | exact less_sound ok16_3 rfl rfl rfl | exact less_sound ok16_3 rfl rfl rfl rfl | exact less_sound ok16_3 rfl rfl rfl rfl rfl | exact less_sound ok16_3 rfl rfl rfl rfl rfl rfl | exact less_sound ok16_3 rfl rfl rfl rfl rfl rfl rfl | exact less_sound ok16_3 rfl rfl rfl rfl rfl rfl rfl rfl | exact less_sound ok16_3 rfl rfl rfl rfl rfl rfl rfl rfl rfl | exact less_sound ok16_3 rfl rfl rfl rfl rfl rfl rfl rfl rfl rfl | exact less_sound ok16_3 rfl rfl rfl rfl rfl rfl rfl rfl rfl rfl rfl | exact less_sound ok16_3 rfl rfl rfl rfl rfl rfl rfl rfl rfl rfl rfl rfl) (by kernel_rfl)
def ga18 : FuncId → Option Fspec := upd ga17 24 (some aheadS)
theorem ok18_3 : EnvOk ⟨Try.prog, plainT, ga18, de3, fun _ => none, 0⟩ := EnvOk.add ok17_3 (by first | exact ahead_sound ok17_3 | exact ahead_sound ok17_3 rfl | exact ahead_sound ok17_3 rfl rfl | exact ahead_sound ok17_3 rfl rfl rfl | exact ahead_sound ok17_3 rfl rfl rfl rfl | exact ahead_sound ok17_3 rfl rfl rfl rfl rfl | exact ahead_sound ok17_3 rfl rfl rfl rfl rfl rfl | exact ahead_sound ok17_3 rfl rfl rfl rfl rfl rfl rfl | exact ahead_sound ok17_3 rfl rfl rfl rfl rfl rfl rfl rfl | exact ahead_sound ok17_3 rfl rfl rfl rfl rfl rfl rfl rfl rfl | exact ahead_sound ok17_3 rfl rfl rfl rfl rfl rfl rfl rfl rfl rfl | exact ahead_sound ok17_3 rfl rfl rfl rfl rfl rfl rfl rfl rfl rfl rfl | exact ahead_sound ok17_3 rfl rfl rfl rfl rfl rfl rfl rfl rfl rfl rfl rfl) (by kernel_rfl)
def ga19 : FuncId → Option Fspec := upd ga18 23 (some firstS)
theorem ok19_3 : EnvOk ⟨Try.prog, plainT, ga19, de3, fun _ => none, 0⟩ := EnvOk.add ok18_3 (by first | exact first_sound ok18_3 | exact first_sound ok18_3 rfl | exact first_sound ok18_3 rfl rfl | exact first_sound ok18_3 rfl rfl rfl | exact first_sound ok18_3 rfl rfl rfl rfl | exact first_sound ok18_3 rfl rfl rfl rfl rfl | exact first_sound ok18_3 rfl rfl rfl rfl rfl rfl | exact first_sound ok18_3 rfl rfl rfl rfl rfl rfl rfl | exact first_sound ok18_3 rfl rfl rfl rfl rfl rfl rfl rfl | exact first_sound ok18_3 rfl rfl rfl rfl rfl rfl rfl rfl rfl | exact first_sound ok18_3 rfl rfl rfl rfl rfl rfl rfl rfl rfl rfl | exact first_sound ok18_3 rfl rfl rfl rfl rfl rfl rfl rfl rfl rfl rfl | exact first_sound ok18_3 rfl rfl rfl rfl rfl rfl rfl rfl rfl rfl rfl rfl) (by kernel_rfl)
def ga20 : FuncId → Option Fspec := upd ga19 18 (some lastS)
theorem ok20_3 : EnvOk ⟨Try.prog, plainT, ga20, de3, fun _ => none, 0⟩ := EnvOk.add ok19_3 (by first | exact last_sound ok19_3 | exact last_sound ok19_3 rfl | exact last_sound ok19_3 rfl rfl | exact last_sound ok19_3 rfl rfl rfl | exact last_sound ok19_3 rfl rfl rfl rfl | exact last_sound ok19_3 rfl rfl rfl rfl rfl | exact last_sound ok19_3 rfl rfl rfl rfl rfl rfl | exact last_sound ok19_3 rfl rfl rfl rfl rfl rfl rfl | exact last_sound ok19_3 rfl rfl rfl rfl rfl rfl rfl rfl | exact last_sound ok19_3 rfl rfl rfl rfl rfl rfl rfl rfl rfl | exact last_sound ok19_3 rfl rfl rfl rfl rfl rfl rfl rfl rfl rfl | exact last_sound ok19_3 rfl rfl rfl rfl rfl rfl rfl rfl rfl rfl rfl | exact last_sound ok19_3 rfl rfl rfl rfl rfl rfl rfl rfl rfl rfl rfl rfl) (by kernel_rfl)
def ga21 : FuncId → Option Fspec := upd ga20 17 (some lastS)
theorem ok21_3 : EnvOk ⟨Try.prog, plainT, ga21, de3, fun _ => none, 0⟩ := EnvOk.add ok20_3 (by first | exact winner_sound ok20_3 | exact winner_sound ok20_3 rfl | exact winner_sound ok20_3 rfl rfl | exact winner_sound ok20_3 rfl rfl rfl | exact winner_sound ok20_3 rfl rfl rfl rfl | exact winner_sound ok20_3 rfl rfl rfl rfl rfl | exact winner_sound ok20_3 rfl rfl rfl rfl rfl rfl | exact winner_sound ok20_3 rfl rfl rfl rfl rfl rfl rfl | exact winner_sound ok20_3 rfl rfl rfl rfl rfl rfl rfl rfl | exact winner_sound ok20_3 rfl rfl rfl rfl rfl rfl rfl rfl rfl | exact winner_sound ok20_3 rfl rfl rfl rfl rfl rfl rfl rfl rfl rfl | exact winner_sound ok20_3 rfl rfl rfl rfl rfl rfl rfl rfl rfl rfl rfl | exact winner_sound ok20_3 rfl rfl rfl rfl rfl rfl rfl rfl rfl rfl rfl rfl) (by kernel_rfl)
def ga22 : FuncId → Option Fspec := upd ga21 19 (some marksS)
theorem ok22_3 : EnvOk ⟨Try.prog, plainT, ga22, de3, fun _ => none, 0⟩ := EnvOk.add ok21_3 (by first | exact marks_sound ok21_3 | exact marks_sound ok21_3 rfl | exact marks_sound ok21_3 rfl rfl | exact marks_sound ok21_3 rfl rfl rfl | exact marks_sound ok21_3 rfl rfl rfl rfl | exact marks_sound ok21_3 rfl rfl rfl rfl rfl | exact marks_sound ok21_3 rfl rfl rfl rfl rfl rfl | exact marks_sound ok21_3 rfl rfl rfl rfl rfl rfl rfl | exact marks_sound ok21_3 rfl rfl rfl rfl rfl rfl rfl rfl | exact marks_sound ok21_3 rfl rfl rfl rfl rfl rfl rfl rfl rfl | exact marks_sound ok21_3 rfl rfl rfl rfl rfl rfl rfl rfl rfl rfl | exact marks_sound ok21_3 rfl rfl rfl rfl rfl rfl rfl rfl rfl rfl rfl | exact marks_sound ok21_3 rfl rfl rfl rfl rfl rfl rfl rfl rfl rfl rfl rfl) (by kernel_rfl)
def ga23 : FuncId → Option Fspec := upd ga22 16 (some getS)
theorem ok23_3 : EnvOk ⟨Try.prog, plainT, ga23, de3, fun _ => none, 0⟩ := EnvOk.add ok22_3 (by first | exact get_sound ok22_3 | exact get_sound ok22_3 rfl | exact get_sound ok22_3 rfl rfl | exact get_sound ok22_3 rfl rfl rfl | exact get_sound ok22_3 rfl rfl rfl rfl | exact get_sound ok22_3 rfl rfl rfl rfl rfl | exact get_sound ok22_3 rfl rfl rfl rfl rfl rfl | exact get_sound ok22_3 rfl rfl rfl rfl rfl rfl rfl | exact get_sound ok22_3 rfl rfl rfl rfl rfl rfl rfl rfl | exact get_sound ok22_3 rfl rfl rfl rfl rfl rfl rfl rfl rfl | exact get_sound ok22_3 rfl rfl rfl rfl rfl rfl rfl rfl rfl rfl | exact get_sound ok22_3 rfl rfl rfl rfl rfl rfl rfl rfl rfl rfl rfl | exact get_sound ok22_3 rfl rfl rfl rfl rfl rfl rfl rfl rfl rfl rfl rfl) (by kernel_rfl)
def ga24 : FuncId → Option Fspec := upd ga23 32 (some (idxS encR))
theorem ok24_3 : EnvOk ⟨Try.prog, plainT, ga24, de3, fun _ => none, 0⟩ := EnvOk.add ok23_3 (by first | exact idxR_sound ok23_3 | exact idxR_sound ok23_3 rfl | exact idxR_sound ok23_3 rfl rfl | exact idxR_sound ok23_3 rfl rfl rfl | exact idxR_sound ok23_3 rfl rfl rfl rfl | exact idxR_sound ok23_3 rfl rfl rfl rfl rfl | exact idxR_sound ok23_3 rfl rfl rfl rfl rfl rfl | exact idxR_sound ok23_3 rfl rfl rfl rfl rfl rfl rfl | exact idxR_sound ok23_3 rfl rfl rfl rfl rfl rfl rfl rfl | exact idxR_sound ok23_3 rfl rfl rfl rfl rfl rfl rfl rfl rfl | exact idxR_sound ok23_3 rfl rfl rfl rfl rfl rfl rfl rfl rfl rfl | exact idxR_sound ok23_3 rfl rfl rfl rfl rfl rfl rfl rfl rfl rfl rfl | exact idxR_sound ok23_3 rfl rfl rfl rfl rfl rfl rfl rfl rfl rfl rfl rfl) (by kernel_rfl)
def ga25 : FuncId → Option Fspec := upd ga24 55 (some (idxS encW))
theorem ok25_3 : EnvOk ⟨Try.prog, plainT, ga25, de3, fun _ => none, 0⟩ := EnvOk.add ok24_3 (by first | exact idxW_sound ok24_3 | exact idxW_sound ok24_3 rfl | exact idxW_sound ok24_3 rfl rfl | exact idxW_sound ok24_3 rfl rfl rfl | exact idxW_sound ok24_3 rfl rfl rfl rfl | exact idxW_sound ok24_3 rfl rfl rfl rfl rfl | exact idxW_sound ok24_3 rfl rfl rfl rfl rfl rfl | exact idxW_sound ok24_3 rfl rfl rfl rfl rfl rfl rfl | exact idxW_sound ok24_3 rfl rfl rfl rfl rfl rfl rfl rfl | exact idxW_sound ok24_3 rfl rfl rfl rfl rfl rfl rfl rfl rfl | exact idxW_sound ok24_3 rfl rfl rfl rfl rfl rfl rfl rfl rfl rfl | exact idxW_sound ok24_3 rfl rfl rfl rfl rfl rfl rfl rfl rfl rfl rfl | exact idxW_sound ok24_3 rfl rfl rfl rfl rfl rfl rfl rfl rfl rfl rfl rfl) (by kernel_rfl)
def ga26 : FuncId → Option Fspec := upd ga25 33 (some lk1S)
theorem ok26_3 : EnvOk ⟨Try.prog, plainT, ga26, de3, fun _ => none, 0⟩ := EnvOk.add ok25_3 (by first | exact lk1_sound ok25_3 | exact lk1_sound ok25_3 rfl | exact lk1_sound ok25_3 rfl rfl | exact lk1_sound ok25_3 rfl rfl rfl | exact lk1_sound ok25_3 rfl rfl rfl rfl | exact lk1_sound ok25_3 rfl rfl rfl rfl rfl | exact lk1_sound ok25_3 rfl rfl rfl rfl rfl rfl | exact lk1_sound ok25_3 rfl rfl rfl rfl rfl rfl rfl | exact lk1_sound ok25_3 rfl rfl rfl rfl rfl rfl rfl rfl | exact lk1_sound ok25_3 rfl rfl rfl rfl rfl rfl rfl rfl rfl | exact lk1_sound ok25_3 rfl rfl rfl rfl rfl rfl rfl rfl rfl rfl | exact lk1_sound ok25_3 rfl rfl rfl rfl rfl rfl rfl rfl rfl rfl rfl | exact lk1_sound ok25_3 rfl rfl rfl rfl rfl rfl rfl rfl rfl rfl rfl rfl) (by kernel_rfl)
def ga27 : FuncId → Option Fspec := upd ga26 34 (some (cloneS encW 4))
theorem ok27_3 : EnvOk ⟨Try.prog, plainT, ga27, de3, fun _ => none, 0⟩ := EnvOk.add ok26_3 (by first | exact cloneW_sound ok26_3 | exact cloneW_sound ok26_3 rfl | exact cloneW_sound ok26_3 rfl rfl | exact cloneW_sound ok26_3 rfl rfl rfl | exact cloneW_sound ok26_3 rfl rfl rfl rfl | exact cloneW_sound ok26_3 rfl rfl rfl rfl rfl | exact cloneW_sound ok26_3 rfl rfl rfl rfl rfl rfl | exact cloneW_sound ok26_3 rfl rfl rfl rfl rfl rfl rfl | exact cloneW_sound ok26_3 rfl rfl rfl rfl rfl rfl rfl rfl | exact cloneW_sound ok26_3 rfl rfl rfl rfl rfl rfl rfl rfl rfl | exact cloneW_sound ok26_3 rfl rfl rfl rfl rfl rfl rfl rfl rfl rfl | exact cloneW_sound ok26_3 rfl rfl rfl rfl rfl rfl rfl rfl rfl rfl rfl | exact cloneW_sound ok26_3 rfl rfl rfl rfl rfl rfl rfl rfl rfl rfl rfl rfl) (by kernel_rfl)
def ga28 : FuncId → Option Fspec := upd ga27 26 (some (cloneS encR 4))
theorem ok28_3 : EnvOk ⟨Try.prog, plainT, ga28, de3, fun _ => none, 0⟩ := EnvOk.add ok27_3 (by first | exact cloneR_sound ok27_3 | exact cloneR_sound ok27_3 rfl | exact cloneR_sound ok27_3 rfl rfl | exact cloneR_sound ok27_3 rfl rfl rfl | exact cloneR_sound ok27_3 rfl rfl rfl rfl | exact cloneR_sound ok27_3 rfl rfl rfl rfl rfl | exact cloneR_sound ok27_3 rfl rfl rfl rfl rfl rfl | exact cloneR_sound ok27_3 rfl rfl rfl rfl rfl rfl rfl | exact cloneR_sound ok27_3 rfl rfl rfl rfl rfl rfl rfl rfl | exact cloneR_sound ok27_3 rfl rfl rfl rfl rfl rfl rfl rfl rfl | exact cloneR_sound ok27_3 rfl rfl rfl rfl rfl rfl rfl rfl rfl rfl | exact cloneR_sound ok27_3 rfl rfl rfl rfl rfl rfl rfl rfl rfl rfl rfl | exact cloneR_sound ok27_3 rfl rfl rfl rfl rfl rfl rfl rfl rfl rfl rfl rfl) (by kernel_rfl)
def ga29 : FuncId → Option Fspec := upd ga28 15 (some lookS)
theorem ok29_3 : EnvOk ⟨Try.prog, plainT, ga29, de3, fun _ => none, 0⟩ := EnvOk.add ok28_3 (by first | exact look_sound ok28_3 | exact look_sound ok28_3 rfl | exact look_sound ok28_3 rfl rfl | exact look_sound ok28_3 rfl rfl rfl | exact look_sound ok28_3 rfl rfl rfl rfl | exact look_sound ok28_3 rfl rfl rfl rfl rfl | exact look_sound ok28_3 rfl rfl rfl rfl rfl rfl | exact look_sound ok28_3 rfl rfl rfl rfl rfl rfl rfl | exact look_sound ok28_3 rfl rfl rfl rfl rfl rfl rfl rfl | exact look_sound ok28_3 rfl rfl rfl rfl rfl rfl rfl rfl rfl | exact look_sound ok28_3 rfl rfl rfl rfl rfl rfl rfl rfl rfl rfl | exact look_sound ok28_3 rfl rfl rfl rfl rfl rfl rfl rfl rfl rfl rfl | exact look_sound ok28_3 rfl rfl rfl rfl rfl rfl rfl rfl rfl rfl rfl rfl) (by kernel_rfl)
def ga30 : FuncId → Option Fspec := upd ga29 38 (some authS)
theorem ok30_3 : EnvOk ⟨Try.prog, plainT, ga30, de3, fun _ => none, 0⟩ := EnvOk.add ok29_3 (by first | exact auth_sound ok29_3 | exact auth_sound ok29_3 rfl | exact auth_sound ok29_3 rfl rfl | exact auth_sound ok29_3 rfl rfl rfl | exact auth_sound ok29_3 rfl rfl rfl rfl | exact auth_sound ok29_3 rfl rfl rfl rfl rfl | exact auth_sound ok29_3 rfl rfl rfl rfl rfl rfl | exact auth_sound ok29_3 rfl rfl rfl rfl rfl rfl rfl | exact auth_sound ok29_3 rfl rfl rfl rfl rfl rfl rfl rfl | exact auth_sound ok29_3 rfl rfl rfl rfl rfl rfl rfl rfl rfl | exact auth_sound ok29_3 rfl rfl rfl rfl rfl rfl rfl rfl rfl rfl | exact auth_sound ok29_3 rfl rfl rfl rfl rfl rfl rfl rfl rfl rfl rfl | exact auth_sound ok29_3 rfl rfl rfl rfl rfl rfl rfl rfl rfl rfl rfl rfl) (by kernel_rfl)
def ga31 : FuncId → Option Fspec := upd ga30 25 (some chkS)
theorem ok31_3 : EnvOk ⟨Try.prog, plainT, ga31, de3, fun _ => none, 0⟩ := EnvOk.add ok30_3 (by first | exact chk_sound ok30_3 | exact chk_sound ok30_3 rfl | exact chk_sound ok30_3 rfl rfl | exact chk_sound ok30_3 rfl rfl rfl | exact chk_sound ok30_3 rfl rfl rfl rfl | exact chk_sound ok30_3 rfl rfl rfl rfl rfl | exact chk_sound ok30_3 rfl rfl rfl rfl rfl rfl | exact chk_sound ok30_3 rfl rfl rfl rfl rfl rfl rfl | exact chk_sound ok30_3 rfl rfl rfl rfl rfl rfl rfl rfl | exact chk_sound ok30_3 rfl rfl rfl rfl rfl rfl rfl rfl rfl | exact chk_sound ok30_3 rfl rfl rfl rfl rfl rfl rfl rfl rfl rfl | exact chk_sound ok30_3 rfl rfl rfl rfl rfl rfl rfl rfl rfl rfl rfl | exact chk_sound ok30_3 rfl rfl rfl rfl rfl rfl rfl rfl rfl rfl rfl rfl) (by kernel_rfl)
def ga32 : FuncId → Option Fspec := upd ga31 45 (some wr1S)
theorem ok32_3 : EnvOk ⟨Try.prog, plainT, ga32, de3, fun _ => none, 0⟩ := EnvOk.add ok31_3 (by first | exact wr1_sound ok31_3 | exact wr1_sound ok31_3 rfl | exact wr1_sound ok31_3 rfl rfl | exact wr1_sound ok31_3 rfl rfl rfl | exact wr1_sound ok31_3 rfl rfl rfl rfl | exact wr1_sound ok31_3 rfl rfl rfl rfl rfl | exact wr1_sound ok31_3 rfl rfl rfl rfl rfl rfl | exact wr1_sound ok31_3 rfl rfl rfl rfl rfl rfl rfl | exact wr1_sound ok31_3 rfl rfl rfl rfl rfl rfl rfl rfl | exact wr1_sound ok31_3 rfl rfl rfl rfl rfl rfl rfl rfl rfl | exact wr1_sound ok31_3 rfl rfl rfl rfl rfl rfl rfl rfl rfl rfl | exact wr1_sound ok31_3 rfl rfl rfl rfl rfl rfl rfl rfl rfl rfl rfl | exact wr1_sound ok31_3 rfl rfl rfl rfl rfl rfl rfl rfl rfl rfl rfl rfl) (by kernel_rfl)
def ga33 : FuncId → Option Fspec := upd ga32 12 (some sameS)
theorem ok33_3 : EnvOk ⟨Try.prog, plainT, ga33, de3, fun _ => none, 0⟩ := EnvOk.add ok32_3 (by first | exact same_sound ok32_3 | exact same_sound ok32_3 rfl | exact same_sound ok32_3 rfl rfl | exact same_sound ok32_3 rfl rfl rfl | exact same_sound ok32_3 rfl rfl rfl rfl | exact same_sound ok32_3 rfl rfl rfl rfl rfl | exact same_sound ok32_3 rfl rfl rfl rfl rfl rfl | exact same_sound ok32_3 rfl rfl rfl rfl rfl rfl rfl | exact same_sound ok32_3 rfl rfl rfl rfl rfl rfl rfl rfl | exact same_sound ok32_3 rfl rfl rfl rfl rfl rfl rfl rfl rfl | exact same_sound ok32_3 rfl rfl rfl rfl rfl rfl rfl rfl rfl rfl | exact same_sound ok32_3 rfl rfl rfl rfl rfl rfl rfl rfl rfl rfl rfl | exact same_sound ok32_3 rfl rfl rfl rfl rfl rfl rfl rfl rfl rfl rfl rfl) (by kernel_rfl)
def ga34 : FuncId → Option Fspec := upd ga33 22 (some setS)
theorem ok34_3 : EnvOk ⟨Try.prog, plainT, ga34, de3, fun _ => none, 0⟩ := EnvOk.add ok33_3 (by first | exact set_sound ok33_3 | exact set_sound ok33_3 rfl | exact set_sound ok33_3 rfl rfl | exact set_sound ok33_3 rfl rfl rfl | exact set_sound ok33_3 rfl rfl rfl rfl | exact set_sound ok33_3 rfl rfl rfl rfl rfl | exact set_sound ok33_3 rfl rfl rfl rfl rfl rfl | exact set_sound ok33_3 rfl rfl rfl rfl rfl rfl rfl | exact set_sound ok33_3 rfl rfl rfl rfl rfl rfl rfl rfl | exact set_sound ok33_3 rfl rfl rfl rfl rfl rfl rfl rfl rfl | exact set_sound ok33_3 rfl rfl rfl rfl rfl rfl rfl rfl rfl rfl | exact set_sound ok33_3 rfl rfl rfl rfl rfl rfl rfl rfl rfl rfl rfl | exact set_sound ok33_3 rfl rfl rfl rfl rfl rfl rfl rfl rfl rfl rfl rfl) (by kernel_rfl)
def ga35 : FuncId → Option Fspec := upd ga34 11 (some fineS)
theorem ok35_3 : EnvOk ⟨Try.prog, plainT, ga35, de3, fun _ => none, 0⟩ := EnvOk.add ok34_3 (by first | exact fine_sound ok34_3 | exact fine_sound ok34_3 rfl | exact fine_sound ok34_3 rfl rfl | exact fine_sound ok34_3 rfl rfl rfl | exact fine_sound ok34_3 rfl rfl rfl rfl | exact fine_sound ok34_3 rfl rfl rfl rfl rfl | exact fine_sound ok34_3 rfl rfl rfl rfl rfl rfl | exact fine_sound ok34_3 rfl rfl rfl rfl rfl rfl rfl | exact fine_sound ok34_3 rfl rfl rfl rfl rfl rfl rfl rfl | exact fine_sound ok34_3 rfl rfl rfl rfl rfl rfl rfl rfl rfl | exact fine_sound ok34_3 rfl rfl rfl rfl rfl rfl rfl rfl rfl rfl | exact fine_sound ok34_3 rfl rfl rfl rfl rfl rfl rfl rfl rfl rfl rfl | exact fine_sound ok34_3 rfl rfl rfl rfl rfl rfl rfl rfl rfl rfl rfl rfl) (by kernel_rfl)
def de4 : FuncId → Option Pt := upd de3 48 (some (insT 4))
theorem ok35_4 : EnvOk ⟨Try.prog, plainT, ga35, de4, fun _ => none, 0⟩ := EnvOk.addT ok35_3 (by first | exact insW_sound ok35_3 | exact insW_sound ok35_3 rfl | exact insW_sound ok35_3 rfl rfl | exact insW_sound ok35_3 rfl rfl rfl | exact insW_sound ok35_3 rfl rfl rfl rfl | exact insW_sound ok35_3 rfl rfl rfl rfl rfl | exact insW_sound ok35_3 rfl rfl rfl rfl rfl rfl | exact insW_sound ok35_3 rfl rfl rfl rfl rfl rfl rfl | exact insW_sound ok35_3 rfl rfl rfl rfl rfl rfl rfl rfl | exact insW_sound ok35_3 rfl rfl rfl rfl rfl rfl rfl rfl rfl | exact insW_sound ok35_3 rfl rfl rfl rfl rfl rfl rfl rfl rfl rfl | exact insW_sound ok35_3 rfl rfl rfl rfl rfl rfl rfl rfl rfl rfl rfl | exact insW_sound ok35_3 rfl rfl rfl rfl rfl rfl rfl rfl rfl rfl rfl rfl)
def de5 : FuncId → Option Pt := upd de4 29 (some (insT 4))
theorem ok35_5 : EnvOk ⟨Try.prog, plainT, ga35, de5, fun _ => none, 0⟩ := EnvOk.addT ok35_4 (by first | exact insR_sound ok35_4 | exact insR_sound ok35_4 rfl | exact insR_sound ok35_4 rfl rfl | exact insR_sound ok35_4 rfl rfl rfl | exact insR_sound ok35_4 rfl rfl rfl rfl | exact insR_sound ok35_4 rfl rfl rfl rfl rfl | exact insR_sound ok35_4 rfl rfl rfl rfl rfl rfl | exact insR_sound ok35_4 rfl rfl rfl rfl rfl rfl rfl | exact insR_sound ok35_4 rfl rfl rfl rfl rfl rfl rfl rfl | exact insR_sound ok35_4 rfl rfl rfl rfl rfl rfl rfl rfl rfl | exact insR_sound ok35_4 rfl rfl rfl rfl rfl rfl rfl rfl rfl rfl | exact insR_sound ok35_4 rfl rfl rfl rfl rfl rfl rfl rfl rfl rfl rfl | exact insR_sound ok35_4 rfl rfl rfl rfl rfl rfl rfl rfl rfl rfl rfl rfl)
def de6 : FuncId → Option Pt := upd de5 44 (some (delT))
theorem ok35_6 : EnvOk ⟨Try.prog, plainT, ga35, de6, fun _ => none, 0⟩ := EnvOk.addT ok35_5 (by first | exact del_sound ok35_5 | exact del_sound ok35_5 rfl | exact del_sound ok35_5 rfl rfl | exact del_sound ok35_5 rfl rfl rfl | exact del_sound ok35_5 rfl rfl rfl rfl | exact del_sound ok35_5 rfl rfl rfl rfl rfl | exact del_sound ok35_5 rfl rfl rfl rfl rfl rfl | exact del_sound ok35_5 rfl rfl rfl rfl rfl rfl rfl | exact del_sound ok35_5 rfl rfl rfl rfl rfl rfl rfl rfl | exact del_sound ok35_5 rfl rfl rfl rfl rfl rfl rfl rfl rfl | exact del_sound ok35_5 rfl rfl rfl rfl rfl rfl rfl rfl rfl rfl | exact del_sound ok35_5 rfl rfl rfl rfl rfl rfl rfl rfl rfl rfl rfl | exact del_sound ok35_5 rfl rfl rfl rfl rfl rfl rfl rfl rfl rfl rfl rfl)
def ga36 : FuncId → Option Fspec := upd ga35 30 (some wrS)
theorem ok36_6 : EnvOk ⟨Try.prog, plainT, ga36, de6, fun _ => none, 0⟩ := EnvOk.add ok35_6 (by first | exact written_sound ok35_6 | exact written_sound ok35_6 rfl | exact written_sound ok35_6 rfl rfl | exact written_sound ok35_6 rfl rfl rfl | exact written_sound ok35_6 rfl rfl rfl rfl | exact written_sound ok35_6 rfl rfl rfl rfl rfl | exact written_sound ok35_6 rfl rfl rfl rfl rfl rfl | exact written_sound ok35_6 rfl rfl rfl rfl rfl rfl rfl | exact written_sound ok35_6 rfl rfl rfl rfl rfl rfl rfl rfl | exact written_sound ok35_6 rfl rfl rfl rfl rfl rfl rfl rfl rfl | exact written_sound ok35_6 rfl rfl rfl rfl rfl rfl rfl rfl rfl rfl | exact written_sound ok35_6 rfl rfl rfl rfl rfl rfl rfl rfl rfl rfl rfl | exact written_sound ok35_6 rfl rfl rfl rfl rfl rfl rfl rfl rfl rfl rfl rfl) (by kernel_rfl)
def ga37 : FuncId → Option Fspec := upd ga36 13 (some appS)
theorem ok37_6 : EnvOk ⟨Try.prog, plainT, ga37, de6, fun _ => none, 0⟩ := EnvOk.add ok36_6 (by first | exact app_sound ok36_6 | exact app_sound ok36_6 rfl | exact app_sound ok36_6 rfl rfl | exact app_sound ok36_6 rfl rfl rfl | exact app_sound ok36_6 rfl rfl rfl rfl | exact app_sound ok36_6 rfl rfl rfl rfl rfl | exact app_sound ok36_6 rfl rfl rfl rfl rfl rfl | exact app_sound ok36_6 rfl rfl rfl rfl rfl rfl rfl | exact app_sound ok36_6 rfl rfl rfl rfl rfl rfl rfl rfl | exact app_sound ok36_6 rfl rfl rfl rfl rfl rfl rfl rfl rfl | exact app_sound ok36_6 rfl rfl rfl rfl rfl rfl rfl rfl rfl rfl | exact app_sound ok36_6 rfl rfl rfl rfl rfl rfl rfl rfl rfl rfl rfl | exact app_sound ok36_6 rfl rfl rfl rfl rfl rfl rfl rfl rfl rfl rfl rfl) (by kernel_rfl)
def ga38 : FuncId → Option Fspec := upd ga37 10 (some rightS)
theorem ok38_6 : EnvOk ⟨Try.prog, plainT, ga38, de6, fun _ => none, 0⟩ := EnvOk.add ok37_6 (by first | exact right_sound ok37_6 | exact right_sound ok37_6 rfl | exact right_sound ok37_6 rfl rfl | exact right_sound ok37_6 rfl rfl rfl | exact right_sound ok37_6 rfl rfl rfl rfl | exact right_sound ok37_6 rfl rfl rfl rfl rfl | exact right_sound ok37_6 rfl rfl rfl rfl rfl rfl | exact right_sound ok37_6 rfl rfl rfl rfl rfl rfl rfl | exact right_sound ok37_6 rfl rfl rfl rfl rfl rfl rfl rfl | exact right_sound ok37_6 rfl rfl rfl rfl rfl rfl rfl rfl rfl | exact right_sound ok37_6 rfl rfl rfl rfl rfl rfl rfl rfl rfl rfl | exact right_sound ok37_6 rfl rfl rfl rfl rfl rfl rfl rfl rfl rfl rfl | exact right_sound ok37_6 rfl rfl rfl rfl rfl rfl rfl rfl rfl rfl rfl rfl) (by kernel_rfl)
def ga39 : FuncId → Option Fspec := upd ga38 9 (some aliveS)
theorem ok39_6 : EnvOk ⟨Try.prog, plainT, ga39, de6, fun _ => none, 0⟩ := EnvOk.add ok38_6 (by first | exact alive_sound ok38_6 | exact alive_sound ok38_6 rfl | exact alive_sound ok38_6 rfl rfl | exact alive_sound ok38_6 rfl rfl rfl | exact alive_sound ok38_6 rfl rfl rfl rfl | exact alive_sound ok38_6 rfl rfl rfl rfl rfl | exact alive_sound ok38_6 rfl rfl rfl rfl rfl rfl | exact alive_sound ok38_6 rfl rfl rfl rfl rfl rfl rfl | exact alive_sound ok38_6 rfl rfl rfl rfl rfl rfl rfl rfl | exact alive_sound ok38_6 rfl rfl rfl rfl rfl rfl rfl rfl rfl | exact alive_sound ok38_6 rfl rfl rfl rfl rfl rfl rfl rfl rfl rfl | exact alive_sound ok38_6 rfl rfl rfl rfl rfl rfl rfl rfl rfl rfl rfl | exact alive_sound ok38_6 rfl rfl rfl rfl rfl rfl rfl rfl rfl rfl rfl rfl) (by kernel_rfl)
def ga40 : FuncId → Option Fspec := upd ga39 31 (some rwriteS)
theorem ok40_6 : EnvOk ⟨Try.prog, plainT, ga40, de6, fun _ => none, 0⟩ := EnvOk.add ok39_6 (by first | exact rwrite_sound ok39_6 | exact rwrite_sound ok39_6 rfl | exact rwrite_sound ok39_6 rfl rfl | exact rwrite_sound ok39_6 rfl rfl rfl | exact rwrite_sound ok39_6 rfl rfl rfl rfl | exact rwrite_sound ok39_6 rfl rfl rfl rfl rfl | exact rwrite_sound ok39_6 rfl rfl rfl rfl rfl rfl | exact rwrite_sound ok39_6 rfl rfl rfl rfl rfl rfl rfl | exact rwrite_sound ok39_6 rfl rfl rfl rfl rfl rfl rfl rfl | exact rwrite_sound ok39_6 rfl rfl rfl rfl rfl rfl rfl rfl rfl | exact rwrite_sound ok39_6 rfl rfl rfl rfl rfl rfl rfl rfl rfl rfl | exact rwrite_sound ok39_6 rfl rfl rfl rfl rfl rfl rfl rfl rfl rfl rfl | exact rwrite_sound ok39_6 rfl rfl rfl rfl rfl rfl rfl rfl rfl rfl rfl rfl) (by kernel_rfl)
def ga41 : FuncId → Option Fspec := upd ga40 14 (some rfoldS)
theorem ok41_6 : EnvOk ⟨Try.prog, plainT, ga41, de6, fun _ => none, 0⟩ := EnvOk.add ok40_6 (by first | exact rfold_sound ok40_6 | exact rfold_sound ok40_6 rfl | exact rfold_sound ok40_6 rfl rfl | exact rfold_sound ok40_6 rfl rfl rfl | exact rfold_sound ok40_6 rfl rfl rfl rfl | exact rfold_sound ok40_6 rfl rfl rfl rfl rfl | exact rfold_sound ok40_6 rfl rfl rfl rfl rfl rfl | exact rfold_sound ok40_6 rfl rfl rfl rfl rfl rfl rfl | exact rfold_sound ok40_6 rfl rfl rfl rfl rfl rfl rfl rfl | exact rfold_sound ok40_6 rfl rfl rfl rfl rfl rfl rfl rfl rfl | exact rfold_sound ok40_6 rfl rfl rfl rfl rfl rfl rfl rfl rfl rfl | exact rfold_sound ok40_6 rfl rfl rfl rfl rfl rfl rfl rfl rfl rfl rfl | exact rfold_sound ok40_6 rfl rfl rfl rfl rfl rfl rfl rfl rfl rfl rfl rfl) (by kernel_rfl)
abbrev gaE := ga41
abbrev deE := de6
theorem okE : EnvOk ⟨Try.prog, plainT, gaE, deE, fun _ => none, 0⟩ := ok41_6

end Go.Proofs.Ytgohmphhgglmbaa

set_option linter.unusedVariables false
set_option maxRecDepth 100000
namespace Go.Proofs.Ytgohmphhgglmbaa
open Go Go.RowKit Am Go.ChangeShapes Go.WideShapes

theorem bulk_pos {H : Type} (d : DataW H) : 1 ≤ Rows.uptoBulk d := by
  cases d with
  | lit l => cases l <;> simp [Rows.uptoBulk]
  | _ => simp [Rows.uptoBulk]
def bulk : Bulk where
  bk := Rows.uptoBulk
  bks := Rows.uptoBulkAll
  str := fun b => by simp only [Rows.uptoBulk]
  sl := fun e s => by simp only [Rows.uptoBulk]
  agg := fun e => by simp only [Rows.uptoBulk]
  pos := bulk_pos
  nil := by intro H; simp only [Rows.uptoBulkAll]
  cons := fun d r => by simp only [Rows.uptoBulkAll]
theorem opnStr : Opn bulk Try.prog 9 encStr bdStr := .str (by kernel_rfl)
theorem opnInt : Opn bulk Try.prog 3 (encInt .i64) (bdInt .i64) := .int (by kernel_rfl)
theorem opnU8 : Opn bulk Try.prog 5 (encInt .u8) (bdInt .u8) := .int (by kernel_rfl)
theorem opnBool : Opn bulk Try.prog 4 encBool bdBool := .bool (by kernel_rfl)
def bdId (x : Idt) (m : Nat) : Prop := x.a.size < m
theorem opnId : Opn bulk Try.prog 31 encId bdId := by
  refine Opn.map (fun p : ByteArray × Int × Unit => (⟨p.1, p.2.1⟩ : Idt)) (Opn.struct (enc := fun p => encStr p.1 ++ ((encInt .i64) p.2.1 ++ ([]))) (bd := fun p m => bdStr p.1 m ∧ ((bdInt .i64) p.2.1 m ∧ (True))) Try.underlying31 ?_) (fun _ => rfl) (by intro p m h; exact h.1) (by intro b m m' h h2; exact Nat.lt_of_lt_of_le h2 h)
  rw [show Program.cellsOf Try.prog 31 = 2 by kernel_rfl]
  exact OpnF.cons (enc := encStr) (bd := bdStr) (z := 1) rfl (by kernel_rfl) (fun _ => rfl) opnStr (OpnF.cons (enc := (encInt .i64)) (bd := (bdInt .i64)) (z := 1) rfl (by kernel_rfl) (fun _ => rfl) opnInt OpnF.nil)
instance : Inhabited Idt := ⟨⟨⟨#[]⟩, 0⟩⟩
def bdW (x : Wrt) (m : Nat) : Prop := x.id.a.size < m ∧ x.x.size < m
theorem opnW : Opn bulk Try.prog 41 encW bdW := by
  refine Opn.map (fun p : Idt × Int × ByteArray × Unit => (⟨p.1, p.2.1, p.2.2.1⟩ : Wrt)) (Opn.struct (enc := fun p => encId p.1 ++ ((encInt .i64) p.2.1 ++ (encStr p.2.2.1 ++ ([])))) (bd := fun p m => bdId p.1 m ∧ ((bdInt .i64) p.2.1 m ∧ (bdStr p.2.2.1 m ∧ (True)))) Try.underlying41 ?_) (fun _ => rfl) (by intro p m h; exact ⟨h.1, h.2.2.1⟩) (by intro b m m' h h2; exact ⟨Nat.lt_of_lt_of_le h2.1 h, Nat.lt_of_lt_of_le h2.2 h⟩)
  rw [show Program.cellsOf Try.prog 41 = 4 by kernel_rfl]
  exact OpnF.cons (enc := encId) (bd := bdId) (z := 2) rfl (by kernel_rfl) (fun _ => rfl) opnId (OpnF.cons (enc := (encInt .i64)) (bd := (bdInt .i64)) (z := 1) rfl (by kernel_rfl) (fun _ => rfl) opnInt (OpnF.cons (enc := encStr) (bd := bdStr) (z := 1) rfl (by kernel_rfl) (fun _ => rfl) opnStr OpnF.nil))
instance : Inhabited Wrt := ⟨⟨default, 0, ⟨#[]⟩⟩⟩
def bdR (x : Rgs) (m : Nat) : Prop := x.id.a.size < m ∧ x.f.size < m ∧ x.w.length < m ∧ ∀ y ∈ x.w, bdW y m
theorem opnWs : Opn bulk Try.prog 32 (encSl encW) (bdSl bdW) := Opn.slice (z := 4) Try.underlying32 (by kernel_rfl) (by decide) (fun _ => rfl) opnW
theorem opnR : Opn bulk Try.prog 39 encR bdR := by
  refine Opn.map (fun p : Idt × ByteArray × (List Wrt) × Unit => (⟨p.1, p.2.1, p.2.2.1⟩ : Rgs)) (Opn.struct (enc := fun p => encId p.1 ++ (encStr p.2.1 ++ ((encSl encW) p.2.2.1 ++ ([])))) (bd := fun p m => bdId p.1 m ∧ (bdStr p.2.1 m ∧ ((bdSl bdW) p.2.2.1 m ∧ (True)))) Try.underlying39 ?_) (fun _ => rfl) (by intro p m h; exact ⟨h.1, h.2.1, h.2.2.1.1, h.2.2.1.2⟩) (by intro b m m' h h2; exact ⟨Nat.lt_of_lt_of_le h2.1 h, Nat.lt_of_lt_of_le h2.2.1 h, Nat.lt_of_lt_of_le h2.2.2.1 h, fun y hy => opnW.1 y m m' h (h2.2.2.2 y hy)⟩)
  rw [show Program.cellsOf Try.prog 39 = 4 by kernel_rfl]
  exact OpnF.cons (enc := encId) (bd := bdId) (z := 2) rfl (by kernel_rfl) (fun _ => rfl) opnId (OpnF.cons (enc := encStr) (bd := bdStr) (z := 1) rfl (by kernel_rfl) (fun _ => rfl) opnStr (OpnF.cons (enc := (encSl encW)) (bd := (bdSl bdW)) (z := 1) rfl (by kernel_rfl) (fun _ => rfl) opnWs OpnF.nil))
instance : Inhabited Rgs := ⟨⟨default, ⟨#[]⟩, []⟩⟩
theorem opnRs : Opn bulk Try.prog 22 (encSl encR) (bdSl bdR) := Opn.slice (z := 4) Try.underlying22 (by kernel_rfl) (by decide) (fun _ => rfl) opnR
theorem small_of {l : List Rgs} {m : Nat} (h : bdSl bdR l m) (hm : m ≤ 1048576) : smallR 1048576 l := ⟨by have := h.1; omega, fun x hx => by have := (h.2 x hx).2.2.1; omega⟩
theorem own : ownKnob Try.prog.godebug = none := by kernel_rfl
theorem laidOut : laidOutB Try.prog = true := by kernel_rfl
end Go.Proofs.Ytgohmphhgglmbaa

set_option linter.unusedVariables false
set_option maxRecDepth 100000
namespace Go.Proofs.Ytgohmphhgglmbaa
open Go Go.RowKit Am Go.ChangeShapes Go.WideShapes

theorem opnIds : Opn bulk Try.prog 42 (encSl encId) (bdSl bdId) := Opn.slice (z := 2) Try.underlying42 (by kernel_rfl) (by decide) (fun _ => rfl) opnId
def encRat (x : Bool × ByteArray × ByteArray) : List V := [.s (.bool x.1), .s (.string x.2.1), .s (.string x.2.2)]
def bdRat (x : Bool × ByteArray × ByteArray) (m : Nat) : Prop := True
theorem opnRat : Opn bulk Try.prog 44 encRat bdRat := by
  refine Opn.map (fun p : Bool × ByteArray × ByteArray × Unit => ((p.1, p.2.1, p.2.2.1) : (Bool × ByteArray × ByteArray))) (Opn.struct (enc := fun p => encBool p.1 ++ (encStr p.2.1 ++ (encStr p.2.2.1 ++ ([])))) (bd := fun p m => bdBool p.1 m ∧ (bdStr p.2.1 m ∧ (bdStr p.2.2.1 m ∧ (True)))) Try.underlying44 ?_) (fun _ => rfl) (by intro p m h; exact trivial) (by intro b m m' h h2; exact trivial)
  rw [show Program.cellsOf Try.prog 44 = 3 by kernel_rfl]
  exact OpnF.cons (enc := encBool) (bd := bdBool) (z := 1) rfl (by kernel_rfl) (fun _ => rfl) opnBool (OpnF.cons (enc := encStr) (bd := bdStr) (z := 1) rfl (by kernel_rfl) (fun _ => rfl) opnStr (OpnF.cons (enc := encStr) (bd := bdStr) (z := 1) rfl (by kernel_rfl) (fun _ => rfl) opnStr OpnF.nil))
def bdE (x : Edt) (m : Nat) : Prop := x.field.size < m ∧ x.value.size < m ∧ x.deps.length < m ∧ ∀ y ∈ x.deps, bdId y m
instance : Inhabited Edt := ⟨⟨default, 0, 0, [], 0, default, default, false, ⟨#[]⟩, ⟨#[]⟩, ⟨#[]⟩, ⟨#[]⟩, default, ⟨#[]⟩⟩⟩
theorem opnE : Opn bulk Try.prog 46 encE bdE := by
  refine Opn.map (fun p : Idt × Int × Int × (List Idt) × Int × Idt × Idt × (Bool × ByteArray × ByteArray) × ByteArray × ByteArray × Idt × ByteArray × Unit => (⟨p.1, p.2.1, p.2.2.1, p.2.2.2.1, p.2.2.2.2.1, p.2.2.2.2.2.1, p.2.2.2.2.2.2.1, p.2.2.2.2.2.2.2.1.1, p.2.2.2.2.2.2.2.1.2.1, p.2.2.2.2.2.2.2.1.2.2, p.2.2.2.2.2.2.2.2.1, p.2.2.2.2.2.2.2.2.2.1, p.2.2.2.2.2.2.2.2.2.2.1, p.2.2.2.2.2.2.2.2.2.2.2.1⟩ : Edt)) (Opn.struct (enc := fun p => encId p.1 ++ ((encInt .i64) p.2.1 ++ ((encInt .i64) p.2.2.1 ++ ((encSl encId) p.2.2.2.1 ++ ((encInt .i64) p.2.2.2.2.1 ++ (encId p.2.2.2.2.2.1 ++ (encId p.2.2.2.2.2.2.1 ++ (encRat p.2.2.2.2.2.2.2.1 ++ (encStr p.2.2.2.2.2.2.2.2.1 ++ (encStr p.2.2.2.2.2.2.2.2.2.1 ++ (encId p.2.2.2.2.2.2.2.2.2.2.1 ++ (encStr p.2.2.2.2.2.2.2.2.2.2.2.1 ++ ([]))))))))))))) (bd := fun p m => bdId p.1 m ∧ ((bdInt .i64) p.2.1 m ∧ ((bdInt .i64) p.2.2.1 m ∧ ((bdSl bdId) p.2.2.2.1 m ∧ ((bdInt .i64) p.2.2.2.2.1 m ∧ (bdId p.2.2.2.2.2.1 m ∧ (bdId p.2.2.2.2.2.2.1 m ∧ (bdRat p.2.2.2.2.2.2.2.1 m ∧ (bdStr p.2.2.2.2.2.2.2.2.1 m ∧ (bdStr p.2.2.2.2.2.2.2.2.2.1 m ∧ (bdId p.2.2.2.2.2.2.2.2.2.2.1 m ∧ (bdStr p.2.2.2.2.2.2.2.2.2.2.2.1 m ∧ (True))))))))))))) Try.underlying46 ?_) (fun _ => rfl) (by intro p m h; exact ⟨h.2.2.2.2.2.2.2.2.1, h.2.2.2.2.2.2.2.2.2.1, h.2.2.2.1.1, h.2.2.2.1.2⟩) (by intro b m m' h h2; exact ⟨Nat.lt_of_lt_of_le h2.1 h, Nat.lt_of_lt_of_le h2.2.1 h, Nat.lt_of_lt_of_le h2.2.2.1 h, fun y hy => opnId.1 y m m' h (h2.2.2.2 y hy)⟩)
  rw [show Program.cellsOf Try.prog 46 = 18 by kernel_rfl]
  exact OpnF.cons (enc := encId) (bd := bdId) (z := 2) rfl (by kernel_rfl) (fun _ => rfl) opnId (OpnF.cons (enc := (encInt .i64)) (bd := (bdInt .i64)) (z := 1) rfl (by kernel_rfl) (fun _ => rfl) opnInt (OpnF.cons (enc := (encInt .i64)) (bd := (bdInt .i64)) (z := 1) rfl (by kernel_rfl) (fun _ => rfl) opnInt (OpnF.cons (enc := (encSl encId)) (bd := (bdSl bdId)) (z := 1) rfl (by kernel_rfl) (fun _ => rfl) opnIds (OpnF.cons (enc := (encInt .i64)) (bd := (bdInt .i64)) (z := 1) rfl (by kernel_rfl) (fun _ => rfl) opnInt (OpnF.cons (enc := encId) (bd := bdId) (z := 2) rfl (by kernel_rfl) (fun _ => rfl) opnId (OpnF.cons (enc := encId) (bd := bdId) (z := 2) rfl (by kernel_rfl) (fun _ => rfl) opnId (OpnF.cons (enc := encRat) (bd := bdRat) (z := 3) rfl (by kernel_rfl) (fun _ => rfl) opnRat (OpnF.cons (enc := encStr) (bd := bdStr) (z := 1) rfl (by kernel_rfl) (fun _ => rfl) opnStr (OpnF.cons (enc := encStr) (bd := bdStr) (z := 1) rfl (by kernel_rfl) (fun _ => rfl) opnStr (OpnF.cons (enc := encId) (bd := bdId) (z := 2) rfl (by kernel_rfl) (fun _ => rfl) opnId (OpnF.cons (enc := encStr) (bd := bdStr) (z := 1) rfl (by kernel_rfl) (fun _ => rfl) opnStr OpnF.nil)))))))))))
theorem opnEs : Opn bulk Try.prog 23 (encSl encE) (bdSl bdE) := Opn.slice (z := 18) Try.underlying23 (by kernel_rfl) (by decide) (fun _ => rfl) opnE
end Go.Proofs.Ytgohmphhgglmbaa

set_option linter.unusedVariables false
set_option linter.unusedSimpArgs false
namespace Go.Proofs.Ytgohmphhgglmbaa
open Go Go.RowKit Am

theorem blt (a b : ByteArray) : Op.bytesLess a.toList b.toList = decide (cmpB a b < 0) := by
  rw [bless, ByteArray.toList_eq, ByteArray.toList_eq]; rfl
theorem cB_irr (a : ByteArray) : ¬ cmpB a a < 0 := by
  have := (ordB.z a a).2 rfl
  omega
theorem cB_ne {a b : ByteArray} (h : cmpB a b < 0) : a ≠ b := fun e => by subst e; exact cB_irr a h
theorem cB_as {a b : ByteArray} (h : cmpB a b < 0) : ¬ cmpB b a < 0 := fun h2 => by have := (ordB.an a b).1 h; omega
theorem cB_tri {a b : ByteArray} (h1 : ¬ cmpB a b < 0) (h2 : a ≠ b) : cmpB b a < 0 := by
  have h3 : ¬ cmpB a b = 0 := fun e => h2 ((ordB.z a b).1 e)
  have h4 := ordB.an b a
  exact h4.2 (by omega)
theorem cB_tr {a b c : ByteArray} (h1 : cmpB a b < 0) (h2 : cmpB b c < 0) : cmpB a c < 0 := ordB.tr a b c h1 h2
/-- A valid vector. -/
structure Val (v : List Idt) : Prop where
  ok : ∀ x ∈ v, authF x.a = true ∧ 1 ≤ x.n
  srt : v.Pairwise (fun x y => cmpB x.a y.a < 0)
theorem Val.tail {x : Idt} {v : List Idt} (h : Val (x :: v)) : Val v := ⟨fun y hy => h.ok y (by simp [hy]), (List.pairwise_cons.1 h.srt).2⟩
theorem Val.head {x : Idt} {v : List Idt} (h : Val (x :: v)) : ∀ y ∈ v, cmpB x.a y.a < 0 := (List.pairwise_cons.1 h.srt).1
theorem Val.nil : Val [] := ⟨by simp, by simp⟩
theorem chkFrom_all {v : List Idt} : ∀ (m i : Nat), chkFrom v m i = 0 → ∀ j, i ≤ j → j < i + m → chkAt v j = 0
  | 0, i, _, j, h1, h2 => by omega
  | m + 1, i, h, j, h1, h2 => by
    rw [chkFrom] at h
    by_cases hc : chkAt v i = 0
    · rw [if_pos hc] at h
      by_cases hj : j = i
      · rw [hj]; exact hc
      · exact chkFrom_all m (i + 1) h j (by omega) (by omega)
    · rw [if_neg hc] at h
      exact absurd h hc
theorem chkFrom_of {v : List Idt} : ∀ (m i : Nat), (∀ j, i ≤ j → j < i + m → chkAt v j = 0) → chkFrom v m i = 0
  | 0, i, _ => rfl
  | m + 1, i, h => by
    rw [chkFrom, if_pos (h i (by omega) (by omega))]
    exact chkFrom_of m (i + 1) fun j h1 h2 => h j (by omega) (by omega)
theorem chkAt_iff {v : List Idt} {i : Nat} (hi : i < v.length) : chkAt v i = 0 ↔ authF v[i].a = true ∧ 1 ≤ v[i].n ∧ ∀ h : 0 < i, cmpB v[i - 1].a v[i].a < 0 := by
  have hat := idAt_lt v hi
  unfold chkAt
  rw [hat]
  cases ha : authF v[i].a
  · simp
  · by_cases hn : v[i].n < 1
    · simp [hn]; omega
    · have hn' : 1 ≤ v[i].n := by omega
      by_cases h0 : 0 < i
      · have hjt := idAt_lt v (show i - 1 < v.length by omega)
        rw [hjt, lbeq, blt]
        by_cases h1 : v[i].a = v[i - 1].a
        · have : ¬ cmpB v[i - 1].a v[i].a < 0 := by rw [h1]; exact cB_irr _
          simp [hn, h0, h1]
          exact fun _ => by have := cB_irr v[i - 1].a; omega
        · by_cases h2 : cmpB v[i].a v[i - 1].a < 0
          · have := cB_as h2
            simp [hn, h0, h1, h2]
            omega
          · have := cB_tri h2 h1
            simp [hn, h0, h1, h2, this, hn']
      · simp [hn, h0, hn']
theorem val_of_chk {v : List Idt} (h : chkF v = 0) : Val v := by
  have hall : ∀ j (hj : j < v.length), authF v[j].a = true ∧ 1 ≤ v[j].n ∧ ∀ h : 0 < j, cmpB v[j - 1].a v[j].a < 0 := fun j hj => (chkAt_iff hj).1 (chkFrom_all v.length 0 h j (by omega) (by omega))
  refine ⟨fun x hx => ?_, ?_⟩
  · obtain ⟨j, hj, rfl⟩ := List.getElem_of_mem hx
    exact ⟨(hall j hj).1, (hall j hj).2.1⟩
  · rw [List.pairwise_iff_getElem]
    intro i j hi hj hij
    induction j with
    | zero => omega
    | succ j ih =>
      have h1 := (hall (j + 1) hj).2.2 (by omega)
      simp only [Nat.add_sub_cancel] at h1
      by_cases he : i = j
      · subst he; exact h1
      · exact cB_tr (ih (by omega) (by omega)) h1
theorem chk_of_val {v : List Idt} (h : Val v) : chkF v = 0 := by
  refine chkFrom_of v.length 0 fun j _ hj => (chkAt_iff (by omega)).2 ⟨(h.ok _ (List.getElem_mem _)).1, (h.ok _ (List.getElem_mem _)).2, fun h0 => ?_⟩
  exact (List.pairwise_iff_getElem.1 h.srt) (j - 1) j (by omega) (by omega) (by omega)
theorem up_cons (y : Idt) (v : List Idt) (a : ByteArray) : uptoF (y :: v) a = if y.a = a then y.n else uptoF v a := by
  rw [uptoF, lbeq]
  by_cases h : y.a = a <;> simp [h]
theorem up_none {a : ByteArray} : ∀ {v : List Idt}, (∀ x ∈ v, x.a ≠ a) → uptoF v a = 0
  | [], _ => rfl
  | y :: v, h => by rw [up_cons, if_neg (h y (by simp)), up_none fun x hx => h x (by simp [hx])]
theorem up_nonneg {v : List Idt} (h : Val v) (a : ByteArray) : 0 ≤ uptoF v a := by
  induction v with
  | nil => simp [uptoF]
  | cons y v ih =>
    rw [up_cons]
    split
    · have := (h.ok y (by simp)).2; omega
    · exact ih h.tail
theorem up_mem {v : List Idt} (h : Val v) : ∀ {x : Idt}, x ∈ v → uptoF v x.a = x.n := by
  induction v with
  | nil => intro x hx; simp at hx
  | cons y v ih =>
    intro x hx
    rw [up_cons]
    rcases List.mem_cons.1 hx with rfl | hx
    · rw [if_pos rfl]
    · rw [if_neg (cB_ne (h.head x hx)), ih h.tail hx]
theorem up_cases (v : List Idt) (a : ByteArray) : uptoF v a = 0 ∨ ∃ x ∈ v, x.a = a ∧ uptoF v a = x.n := by
  induction v with
  | nil => exact .inl rfl
  | cons y v ih =>
    rw [up_cons]
    by_cases h : y.a = a
    · exact .inr ⟨y, by simp, h, by rw [if_pos h]⟩
    · rw [if_neg h]
      rcases ih with h1 | ⟨x, h1, h2, h3⟩
      · exact .inl h1
      · exact .inr ⟨x, by simp [h1], h2, h3⟩
/-- Where the search ends. -/
theorem place_at {v : List Idt} (h : Val v) (a : ByteArray) : (∀ k (hk : k < v.length), k < plPos v a → cmpB v[k].a a < 0) ∧ (∀ k (hk : k < v.length), plPos v a ≤ k → ¬ cmpB v[k].a a < 0) := by
  have hs := List.pairwise_iff_getElem.1 h.srt
  have mono : ∀ k m, k ≤ m → m < v.length → cAt (fun x : Idt => cmpB x.a a) v m < 0 → cAt (fun x : Idt => cmpB x.a a) v k < 0 := by
    intro k m hkm hm hc
    rw [cAt_lt _ v hm] at hc
    rw [cAt_lt _ v (show k < v.length by omega)]
    by_cases he : k = m
    · subst he; exact hc
    · exact cB_tr (hs k m (by omega) hm (by omega)) hc
  obtain ⟨l1, l2⟩ := bsF_lb (cAt (fun x : Idt => cmpB x.a a) v) v.length mono v.length 0 v.length (by omega) (by omega) (by omega) (fun k hk => by omega) (fun k h1 h2 => by omega)
  refine ⟨fun k hk h1 => ?_, fun k hk h1 => ?_⟩
  · have := l1 k h1
    rwa [cAt_lt _ v hk] at this
  · have := l2 k h1 hk
    rwa [cAt_lt _ v hk] at this
theorem hit_iff (v : List Idt) (a : ByteArray) : plHit v a = true ↔ ∃ h : plPos v a < v.length, v[plPos v a].a = a := by
  have h1 : plHit v a = (decide (plPos v a < v.length) && decide (cAt (fun x : Idt => cmpB x.a a) v (plPos v a) = 0)) := rfl
  rw [h1, Bool.and_eq_true, decide_eq_true_eq, decide_eq_true_eq]
  constructor
  · rintro ⟨h2, h3⟩
    rw [cAt_lt _ v h2] at h3
    exact ⟨h2, (ordB.z _ _).1 h3⟩
  · rintro ⟨h2, h3⟩
    exact ⟨h2, by rw [cAt_lt _ v h2]; exact (ordB.z _ _).2 h3⟩
theorem cont_has {v : List Idt} (h : Val v) (x : Idt) : contF v x = hasF v x := by
  obtain ⟨l1, l2⟩ := place_at h x.a
  unfold contF hasF
  cases hh : plHit v x.a with
  | true =>
    obtain ⟨h1, h2⟩ := (hit_iff v x.a).1 hh
    rw [nAt_lt v h1]
    have := up_mem h (List.getElem_mem h1)
    rw [h2] at this
    rw [this]
    simp
  | false =>
    have hn : ∀ y ∈ v, y.a ≠ x.a := by
      intro y hy he
      obtain ⟨k, hk, rfl⟩ := List.getElem_of_mem hy
      have hlt : ¬ k < plPos v x.a := fun h1 => cB_ne (l1 k hk h1) he
      have : plHit v x.a = true := (hit_iff v x.a).2 ⟨by omega, by
        by_cases hkp : k = plPos v x.a
        · simp only [← hkp]; exact he
        · have h3 := (List.pairwise_iff_getElem.1 h.srt) (plPos v x.a) k (by omega) hk (by omega)
          rw [he] at h3
          exact absurd h3 (l2 _ (by omega) (Nat.le_refl _))⟩
      rw [this] at hh
      cases hh
    rw [up_none hn]
    by_cases h1 : 1 ≤ x.n
    · have : ¬ x.n ≤ 0 := by omega
      simp [this]
    · simp [h1]
end Go.Proofs.Ytgohmphhgglmbaa

set_option linter.unusedVariables false
set_option linter.unusedSimpArgs false
namespace Go.Proofs.Ytgohmphhgglmbaa
open Go Go.RowKit Am

theorem getF_first (y : Idt) (f : ByteArray) : ∀ (L : List Rgs) (p : Nat), p < L.length → (∀ k, k < p → keyB (rAt L k) y f = false) → keyB (rAt L p) y f = true → getF L y f = (rAt L p).w
  | [], p, h, _, _ => absurd h (Nat.not_lt_zero _)
  | x :: L, 0, _, _, h => by
    have h1 : keyB x y f = true := h
    rw [getF_cons, if_pos h1]
    rfl
  | x :: L, p + 1, h, h1, h2 => by
    have h3 : keyB x y f = false := h1 0 (Nat.zero_lt_succ _)
    rw [getF_cons, h3]
    exact getF_first y f L p (Nat.lt_of_succ_lt_succ h) (fun k hk => h1 (k + 1) (Nat.succ_lt_succ hk)) h2
theorem getF_none (y : Idt) (f : ByteArray) : ∀ L : List Rgs, (∀ k, k < L.length → keyB (rAt L k) y f = false) → getF L y f = []
  | [], _ => rfl
  | x :: L, h => by
    have h3 : keyB x y f = false := h 0 (Nat.zero_lt_succ _)
    rw [getF_cons, h3]
    exact getF_none y f L fun k hk => h (k + 1) (Nat.succ_lt_succ hk)
theorem keyB_cmp (x : Rgs) (e : Edt) : keyB x e.node e.field = true ↔ cmpReg x (tgt e) = 0 := by
  rw [keyB_eq, ordReg.z]
  obtain ⟨⟨a, n⟩, g, w⟩ := x
  simp only [tgt, Prod.mk.injEq]
  constructor
  · rintro ⟨h, h2⟩
    rw [← h, h2]
    exact ⟨⟨rfl, rfl⟩, rfl⟩
  · rintro ⟨⟨h1, h2⟩, h3⟩
    refine ⟨?_, h3⟩
    rw [h1, h2]
theorem keyB_ne {x : Rgs} {e : Edt} (h : ¬ cmpReg x (tgt e) = 0) : keyB x e.node e.field = false := by
  cases hb : keyB x e.node e.field
  · rfl
  · exact absurd ((keyB_cmp x e).1 hb) h
/-- Behind the place where an edit's register would go, and there, when it is not there, all registers come after it. -/
theorem srt_gt {L : List Rgs} (h : Srt L) {e : Edt} (hh : rHit L e = false) : ∀ k, rPos L e ≤ k → k < L.length → 0 < cmpReg (rAt L k) (tgt e) := by
  have hl := (srt_lb h e).2
  have hp : rPos L e < L.length → 0 < cmpReg (rAt L (rPos L e)) (tgt e) := by
    intro hlt
    have h1 := hl _ (Nat.le_refl _) hlt
    have h2 : ¬ cmpReg (rAt L (rPos L e)) (tgt e) = 0 := by
      intro h3
      have : rHit L e = true := by
        simp only [rHit, bsHit, Bool.and_eq_true, decide_eq_true_eq]
        refine ⟨hlt, ?_⟩
        rw [cAt_rAt _ (show bsF _ 0 L.length < L.length from hlt)]
        exact h3
      rw [this] at hh
      exact Bool.noConfusion hh
    omega
  intro k hk hkl
  rcases Nat.lt_or_ge (rPos L e) k with h1 | h1
  · have h2 := hp (by omega)
    have h3 := (ordReg.an _ _).2 h2
    have h4 := ordReg.tr _ _ _ h3 (h _ k h1 hkl)
    exact (ordReg.an _ _).1 h4
  · have : k = rPos L e := by omega
    subst this
    exact hp hkl
theorem getF_own {L : List Rgs} (h : Srt L) (e : Edt) (hk : (e.kind == 3) = true) : getF (stepF L e) e.node e.field = wrF (getF L e.node e.field) e := by
  have hp : rPos L e ≤ L.length := (bsF_le _ 0 L.length (Nat.zero_le _)).2
  obtain ⟨l1, l2⟩ := srt_lb h e
  cases hh : rHit L e
  · have hst : stepF L e = insAt L (rPos L e) (setW (tgt e) (wrF [] e)) := by simp [stepF, hk, hh]
    have hgt := srt_gt h hh
    have h0 : getF L e.node e.field = [] := getF_none _ _ L fun k hkl => keyB_ne (by
      rcases Nat.lt_or_ge k (rPos L e) with h1 | h1
      · have := l1 k h1; omega
      · have := hgt k h1 hkl; omega)
    rw [hst, h0, getF_first _ _ _ (rPos L e) (by rw [insAt_len]; omega) (fun k hkp => by
      rw [rAt_insL L _ hp hkp]
      exact keyB_ne (by have := l1 k hkp; omega)) (by
      rw [rAt_ins L _ _ hp]
      exact (keyB_cmp _ e).2 ((ordReg.z _ _).2 rfl)), rAt_ins L _ _ hp]
    rfl
  · have hst : stepF L e = L.set (rPos L e) (setW (rAt L (rPos L e)) (wrF (rAt L (rPos L e)).w e)) := by simp [stepF, hk, hh]
    simp only [rHit, bsHit, Bool.and_eq_true, decide_eq_true_eq] at hh
    have hlt : rPos L e < L.length := hh.1
    have h0 : cmpReg (rAt L (rPos L e)) (tgt e) = 0 := by
      have := hh.2
      rw [cAt_rAt _ hh.1] at this
      exact this
    have hset : ∀ k x, rAt (L.set (rPos L e) x) k = if k = rPos L e then x else rAt L k := by
      intro k x
      unfold rAt
      rw [List.getD_eq_getElem?_getD, List.getD_eq_getElem?_getD]
      by_cases hkk : k = rPos L e
      · subst hkk
        rw [List.getElem?_set_self hlt, if_pos rfl]
        rfl
      · rw [List.getElem?_set_ne (fun h5 => hkk h5.symm), if_neg hkk]
    have hL : getF L e.node e.field = (rAt L (rPos L e)).w := getF_first _ _ L _ hlt (fun k hkp => keyB_ne (by have := l1 k hkp; omega)) ((keyB_cmp _ e).2 h0)
    rw [hst, hL, getF_first _ _ _ (rPos L e) (by simpa using hlt) (fun k hkp => by
      rw [hset, if_neg (by omega)]
      exact keyB_ne (by have := l1 k hkp; omega)) (by
      rw [hset, if_pos rfl]
      exact (keyB_cmp _ e).2 h0), hset, if_pos rfl]
    rfl
theorem getF_at {L : List Rgs} (h : Srt L) {p : Nat} (hp : p < L.length) : getF L (rAt L p).id (rAt L p).f = (rAt L p).w := by
  refine getF_first _ _ L p hp (fun k hk => ?_) ((keyB_eq _ _ _).2 ⟨rfl, rfl⟩)
  cases hb : keyB (rAt L k) (rAt L p).id (rAt L p).f
  · rfl
  · have h1 := (keyB_eq _ _ _).1 hb
    have h2 : cmpReg (rAt L k) (rAt L p) = 0 := (ordReg.z _ _).2 (by rw [h1.1, h1.2])
    have := h k p hk hp
    omega
end Go.Proofs.Ytgohmphhgglmbaa

set_option linter.unusedVariables false
set_option linter.unusedSimpArgs false
namespace Go.Proofs.Ytgohmphhgglmbaa
open Go Go.RowKit Am

def idB (e : Edt) (m : Wrt) : Bool := (m.id.a.toList == e.id.a.toList) && (m.id.n == e.id.n)
theorem wr1_id (e : Edt) (m : Wrt) : wr1F e m = (idB e m || contF e.deps m.id) := rfl
theorem kept_noid {W : List Wrt} {e : Edt} {m : Wrt} (h : m ∈ keptF W e) : idB e m = false := by
  have h1 := (List.mem_filter.1 h).2
  rw [wr1_id] at h1
  cases hb : idB e m
  · rfl
  · rw [hb] at h1; simp at h1
theorem idB_mk (e : Edt) : idB e (mkW e) = true := by simp [idB, mkW]
theorem wr_own {W : List Wrt} {e : Edt} {m : Wrt} (h : m ∈ wrF W e) (hi : idB e m = true) : m = mkW e := by
  rw [wrF, insAt, List.mem_append, List.mem_append, List.mem_singleton] at h
  rcases h with (h | h) | h
  · rw [kept_noid (List.mem_of_mem_take h)] at hi; exact Bool.noConfusion hi
  · exact h
  · rw [kept_noid (List.mem_of_mem_drop h)] at hi; exact Bool.noConfusion hi
theorem filter_all {α : Type} (p : α → Bool) (l : List α) (h : ∀ x ∈ l, p x = true) : l.filter p = l := List.filter_eq_self.2 h
theorem filter_no {α : Type} (p : α → Bool) (l : List α) (h : ∀ x ∈ l, p x = false) : l.filter p = [] := List.filter_eq_nil_iff.2 fun x hx => by rw [h x hx]; decide
theorem wr_got (W : List Wrt) (e : Edt) : (wrF W e).filter (fun m => !idB e m) = keptF W e := by
  rw [wrF, insAt, List.filter_append, List.filter_append, filter_no _ [mkW e] (fun x hx => by rw [List.mem_singleton.1 hx, idB_mk]; rfl), List.append_nil, ← List.filter_append, List.take_append_drop]
  exact filter_all _ _ fun x hx => by rw [kept_noid hx]; rfl
theorem wr_one (W : List Wrt) (e : Edt) : ((wrF W e).filter (idB e)).length = 1 := by
  rw [wrF, insAt, List.filter_append, List.filter_append, filter_no _ (List.take _ _) (fun x hx => kept_noid (List.mem_of_mem_take hx)), filter_no _ (List.drop _ _) (fun x hx => kept_noid (List.mem_of_mem_drop hx)), filter_all _ [mkW e] (fun x hx => by rw [List.mem_singleton.1 hx]; exact idB_mk e)]
  rfl
theorem kept_want (W : List Wrt) (e : Edt) : W.filter (fun m => !contF e.deps m.id && !idB e m) = keptF W e := by
  unfold keptF
  congr 1
  funext m
  rw [wr1_id]
  cases idB e m <;> cases contF e.deps m.id <;> rfl
/-- The order of the writes, and no two of one Id. -/
def SrtW (w : List Wrt) : Prop := w.Pairwise (fun a b => cmpW a b < 0) ∧ w.Pairwise (fun a b => a.id ≠ b.id)
theorem ahead_cmp (a b : Wrt) : aheadF a b = decide (cmpW a b < 0) := by
  rw [aheadF, less_cmp, cmpW, or2]
  unfold cmpI
  by_cases h1 : a.c < b.c
  · simp [h1]
  · by_cases h2 : b.c < a.c
    · have : ¬ a.c = b.c := by omega
      simp [h1, h2, this]
    · have : a.c = b.c := by omega
      simp [this]
theorem eqI_iff (a b : Idt) : eqI a b = true ↔ a = b := by
  rw [eqI, lbeq]
  obtain ⟨a, n⟩ := a
  obtain ⟨b, m⟩ := b
  simp
theorem SrtW.kept {w : List Wrt} (h : SrtW w) (e : Edt) : SrtW (keptF w e) := ⟨h.1.filter _, h.2.filter _⟩
theorem wOk_srt {w : List Wrt} (h : wOkF w w.length 0 = true) : SrtW w ∧ ∀ m ∈ w, m.x.size ≤ 300 := by
  have hat := wOk_at w w.length 0 h
  have hadj : ∀ j, j + 1 < w.length → cmpW (wAt w j) (wAt w (j + 1)) < 0 := by
    intro j hj
    have := (hat (j + 1) (Nat.zero_le _) (by omega)).1
    rw [wBad, ahead_cmp] at this
    simp only [Bool.or_eq_false_iff, Bool.and_eq_false_iff, Bool.not_eq_false', decide_eq_false_iff_not, decide_eq_true_eq] at this
    obtain ⟨h1 | h1, _⟩ := this
    · omega
    · simpa using h1
  have hall : ∀ d i, i + d + 1 < w.length → cmpW (wAt w i) (wAt w (i + d + 1)) < 0 := by
    intro d
    induction d with
    | zero => intro i hi; exact hadj i hi
    | succ d ih =>
      intro i hi
      exact ordW.tr _ _ _ (ih i (by omega)) (hadj (i + d + 1) hi)
  refine ⟨⟨?_, ?_⟩, ?_⟩
  · rw [List.pairwise_iff_getElem]
    intro i j hi hj hij
    have := hall (j - i - 1) i (by omega)
    rw [show i + (j - i - 1) + 1 = j by omega, wAt_lt hi, wAt_lt hj] at this
    exact this
  · rw [List.pairwise_iff_getElem]
    intro i j hi hj hij heq
    have := (hat j (Nat.zero_le _) (by omega)).2
    rw [wDup, List.any_eq_false] at this
    have hm : w[i] ∈ w.take j := List.mem_take_iff_getElem.2 ⟨i, by omega, rfl⟩
    have h2 := this _ hm
    exact h2 ((eqI_iff _ _).2 (by rw [wAt_lt hj]; exact heq))
  · intro m hm
    obtain ⟨j, hj, rfl⟩ := List.getElem_of_mem hm
    have := (hat j (Nat.zero_le _) (by omega)).1
    rw [wBad, wAt_lt hj] at this
    simp only [Bool.or_eq_false_iff, decide_eq_false_iff_not] at this
    omega
end Go.Proofs.Ytgohmphhgglmbaa

set_option linter.unusedVariables false
set_option linter.unusedSimpArgs false
namespace Go.Proofs.Ytgohmphhgglmbaa
open Go Go.RowKit Am

theorem wOkF_of (w : List Wrt) : ∀ (n k : Nat), (∀ j, k ≤ j → j < k + n → wBad w j = false ∧ wDup w j = false) → wOkF w n k = true
  | 0, _, _ => rfl
  | n + 1, k, h => by
    have h0 := h k (Nat.le_refl _) (by omega)
    rw [wOkF, h0.1, h0.2, wOkF_of w n (k + 1) fun j h1 h2 => h j (by omega) (by omega)]
    rfl
theorem rOkF_of (l : List Rgs) : ∀ (n k : Nat), (∀ j, k ≤ j → j < k + n → rBad l j = false ∧ wOkF (rAt l j).w (rAt l j).w.length 0 = true) → rOkF l n k = true
  | 0, _, _ => rfl
  | n + 1, k, h => by
    have h0 := h k (Nat.le_refl _) (by omega)
    rw [rOkF, h0.1, h0.2, rOkF_of l n (k + 1) fun j h1 h2 => h j (by omega) (by omega)]
    rfl
theorem srtW_ok {w : List Wrt} (h : SrtW w) (hx : ∀ m ∈ w, m.x.size ≤ 300) : wOkF w w.length 0 = true := by
  refine wOkF_of w _ _ fun j _ hj => ?_
  have hj' : j < w.length := by omega
  have hxj := hx _ (List.getElem_mem hj')
  constructor
  · rw [wBad, ahead_cmp, wAt_lt hj']
    have h3 : decide (300 < (w[j].x.size : Int)) = false := by simp; omega
    rw [h3, Bool.or_false]
    by_cases h0 : 0 < (j : Int)
    · have h1 := List.pairwise_iff_getElem.1 h.1 (j - 1) j (by omega) hj' (by omega)
      rw [← wAt_lt (l := w) (i := j - 1) (by omega)] at h1
      simp [h1]
    · simp only [h0, decide_false, Bool.false_and]
  · rw [wDup, List.any_eq_false]
    intro x hxm hq
    obtain ⟨i, hi, rfl⟩ := List.mem_take_iff_getElem.1 hxm
    have h1 := List.pairwise_iff_getElem.1 h.2 i j (by omega) hj' (by omega)
    have h2 := (eqI_iff _ _).1 hq
    rw [wAt_lt hj'] at h2
    exact h1 h2
theorem lb_mem {α κ : Type} {key : α → κ} {c : α → α → Int} (o : OrdC key c) (v : List α) (hp : v.Pairwise (fun a b => c a b < 0)) (y : α) :
    (∀ a ∈ v.take (bsF (cAt (fun x => c x y) v) 0 v.length), c a y < 0) ∧ (∀ b ∈ v.drop (bsF (cAt (fun x => c x y) v) 0 v.length), ¬ c b y < 0) := by
  have hle := (bsF_le (cAt (fun x => c x y) v) 0 v.length (Nat.zero_le _)).2
  have := bsF_lb (cAt (fun x => c x y) v) v.length (fun k m hk hm hc => by
    rw [cAt_lt _ _ hm] at hc
    rw [cAt_lt _ _ (Nat.lt_of_le_of_lt hk hm)]
    rcases Nat.lt_or_ge k m with h1 | h1
    · exact o.tr _ _ _ (List.pairwise_iff_getElem.1 hp k m (by omega) hm h1) hc
    · have : k = m := by omega
      subst this; exact hc) v.length 0 v.length (by omega) (Nat.zero_le _) (Nat.le_refl _) (fun k hk => by omega) (fun k k1 k2 => by omega)
  constructor
  · intro a ha
    obtain ⟨i, hi, rfl⟩ := List.mem_take_iff_getElem.1 ha
    have h1 := this.1 i (by omega)
    rw [cAt_lt _ _ (by omega)] at h1
    exact h1
  · intro b hb
    obtain ⟨i, hi, rfl⟩ := List.mem_drop_iff_getElem.1 hb
    have h1 := this.2 _ (Nat.le_add_right _ i) (by omega)
    rw [cAt_lt _ _ (by omega)] at h1
    exact h1
theorem pw_ins {α : Type} {R : α → α → Prop} {v : List α} (h : v.Pairwise R) (i : Nat) (x : α) (h1 : ∀ a ∈ v.take i, R a x) (h2 : ∀ b ∈ v.drop i, R x b) : (insAt v i x).Pairwise R := by
  rw [← List.take_append_drop i v, List.pairwise_append] at h
  rw [insAt, List.append_assoc, List.singleton_append, List.pairwise_append, List.pairwise_cons]
  refine ⟨h.1, ⟨h2, h.2.1⟩, fun a ha b hb => ?_⟩
  rcases List.mem_cons.1 hb with rfl | hb
  · exact h1 a ha
  · exact h.2.2 a ha b hb
theorem wr_srt {W : List Wrt} (h : SrtW W) (e : Edt) : SrtW (wrF W e) := by
  have hk := h.kept e
  have hb := lb_mem ordW (keptF W e) hk.1 (mkW e)
  have hid : ∀ m ∈ keptF W e, m.id ≠ e.id := fun m hm heq => by
    have h1 := kept_noid hm
    have h2 : idB e m = true := (eqI_iff _ _).2 heq
    rw [h2] at h1
    exact Bool.noConfusion h1
  refine ⟨pw_ins hk.1 _ _ hb.1 fun b hbm => ?_, pw_ins hk.2 _ _ (fun a ha => hid a (List.mem_of_mem_take ha)) fun b hbm => (hid b (List.mem_of_mem_drop hbm)).symm⟩
  have h1 := hb.2 b hbm
  have h2 : ¬ cmpW b (mkW e) = 0 := fun h3 => by
    have h4 := (ordW.z _ _).1 h3
    simp only [mkW, Prod.mk.injEq] at h4
    have h5 := hid b (List.mem_of_mem_drop hbm)
    apply h5
    generalize b.id = u at h4 ⊢
    obtain ⟨a, n⟩ := u
    simp only at h4
    rw [h4.2.1, h4.2.2]
  exact (ordW.an _ _).2 (by omega)
theorem wr_size {W : List Wrt} (h : ∀ m ∈ W, m.x.size ≤ 300) {e : Edt} (he : e.value.size ≤ 300) : ∀ m ∈ wrF W e, m.x.size ≤ 300 := by
  intro m hm
  rw [wrF, insAt, List.mem_append, List.mem_append, List.mem_singleton] at hm
  rcases hm with (hm | hm) | hm
  · exact h m (List.mem_filter.1 (List.mem_of_mem_take hm)).1
  · subst hm; exact he
  · exact h m (List.mem_filter.1 (List.mem_of_mem_drop hm)).1
end Go.Proofs.Ytgohmphhgglmbaa

set_option linter.unusedVariables false
set_option linter.unusedSimpArgs false
namespace Go.Proofs.Ytgohmphhgglmbaa
open Go Go.RowKit Am

theorem rAt_set {L : List Rgs} {p : Nat} (hlt : p < L.length) (x : Rgs) (k : Nat) : rAt (L.set p x) k = if k = p then x else rAt L k := by
  unfold rAt
  rw [List.getD_eq_getElem?_getD, List.getD_eq_getElem?_getD]
  by_cases hkk : k = p
  · subst hkk
    rw [List.getElem?_set_self hlt, if_pos rfl]
    rfl
  · rw [List.getElem?_set_ne (fun h5 => hkk h5.symm), if_neg hkk]
theorem step_srt {L : List Rgs} (h : Srt L) (e : Edt) : Srt (stepF L e) := by
  have hp : rPos L e ≤ L.length := (bsF_le _ 0 L.length (Nat.zero_le _)).2
  cases hk : (e.kind == 3)
  · simpa [stepF, hk] using h
  · cases hh : rHit L e
    · have hst : stepF L e = insAt L (rPos L e) (setW (tgt e) (wrF [] e)) := by simp [stepF, hk, hh]
      have l1 := (srt_lb h e).1
      have l2 := srt_gt h hh
      rw [hst]
      generalize hx : setW (tgt e) (wrF [] e) = x
      have c1 : ∀ z, cmpReg z x = cmpReg z (tgt e) := by intro z; rw [← hx]; rfl
      have c2 : ∀ z, cmpReg x z = cmpReg (tgt e) z := by intro z; rw [← hx]; rfl
      generalize rPos L e = p at *
      intro i j hij hj
      rw [insAt_len] at hj
      rcases Nat.lt_trichotomy i p with hi | hi | hi
      · rw [rAt_insL L x hp hi]
        rcases Nat.lt_trichotomy j p with hj2 | hj2 | hj2
        · rw [rAt_insL L x hp hj2]
          exact h i j hij (by omega)
        · subst hj2
          rw [rAt_ins L _ x hp, c1]
          exact l1 i hi
        · rw [rAt_insR L x hp hj2]
          exact h i (j - 1) (by omega) (by omega)
      · subst hi
        rw [rAt_ins L _ x hp, rAt_insR L x hp hij, c2]
        exact (ordReg.an _ _).2 (l2 (j - 1) (by omega) (by omega))
      · rw [rAt_insR L x hp hi, rAt_insR L x hp (by omega)]
        exact h (i - 1) (j - 1) (by omega) (by omega)
    · have hst : stepF L e = L.set (rPos L e) (setW (rAt L (rPos L e)) (wrF (rAt L (rPos L e)).w e)) := by simp [stepF, hk, hh]
      simp only [rHit, bsHit, Bool.and_eq_true, decide_eq_true_eq] at hh
      have hlt : rPos L e < L.length := hh.1
      rw [hst]
      generalize rPos L e = p at *
      generalize wrF (rAt L p).w e = w
      intro i j hij hj
      rw [List.length_set] at hj
      rw [rAt_set hlt, rAt_set hlt]
      have hb := h i j hij hj
      by_cases hi : i = p
      · have hj2 : ¬ j = p := by omega
        rw [if_pos hi, if_neg hj2, cmp_set, ← hi]
        exact hb
      · rw [if_neg hi]
        by_cases hj2 : j = p
        · rw [if_pos hj2, ← hj2]
          exact hb
        · rw [if_neg hj2]
          exact hb
def goodR (x : Rgs) : Prop := x.w.length ≠ 0 ∧ x.w.length ≤ 30 ∧ x.f.size ≤ 300 ∧ wOkF x.w x.w.length 0 = true
theorem RightP.good {l : List Rgs} (h : RightP l) : ∀ x ∈ l, goodR x := by
  intro x hx
  obtain ⟨j, hj, rfl⟩ := List.getElem_of_mem hx
  have h1 := h.bad j hj
  have h2 := h.wok j hj
  rw [rBad, rAt_lt hj] at h1
  rw [rAt_lt hj] at h2
  simp only [Bool.or_eq_false_iff, decide_eq_false_iff_not, beq_eq_false_iff_ne] at h1
  exact ⟨by have := h1.1.1.2; omega, by have := h1.1.2; omega, by have := h1.2; omega, h2⟩
theorem right_of {l : List Rgs} (hl : l.length ≤ 30) (hs : Srt l) (hg : ∀ x ∈ l, goodR x) : rightF l = 1 := by
  have hr : rOkF l l.length 0 = true := by
    refine rOkF_of l _ _ fun j _ hj => ?_
    have hj' : j < l.length := by omega
    obtain ⟨g1, g2, g3, g4⟩ := hg _ (List.getElem_mem hj')
    rw [← rAt_lt hj'] at g1 g2 g3 g4
    refine ⟨?_, g4⟩
    rw [rBad, first_cmp]
    have a1 : (((rAt l j).w.length : Int) == 0) = false := by simpa using g1
    have a2 : decide (30 < ((rAt l j).w.length : Int)) = false := by simp; omega
    have a3 : decide (300 < ((rAt l j).f.size : Int)) = false := by simp; omega
    rw [a1, a2, a3, Bool.or_false, Bool.or_false, Bool.or_false]
    by_cases h0 : 0 < (j : Int)
    · have := hs (j - 1) j (by omega) hj'
      simp [this]
    · simp only [h0, decide_false, Bool.false_and]
  have h30 : ¬ 30 < (l.length : Int) := by omega
  simp [rightF, h30, hr]
theorem good_wr {W : List Wrt} {x : Rgs} {e : Edt} (hs : SrtW W) (hz : ∀ m ∈ W, m.x.size ≤ 300) (hl : (keptF W e).length ≤ 28) (hf : x.f.size ≤ 300) (hv : e.value.size ≤ 300) : goodR (setW x (wrF W e)) := by
  have h1 : (wrF W e).length = (keptF W e).length + 1 := insAt_len _ _ _
  exact ⟨by show (wrF W e).length ≠ 0; omega, by show (wrF W e).length ≤ 30; omega, hf, srtW_ok (wr_srt hs e) (wr_size hz hv)⟩
theorem right_step {l : List Rgs} (hR : RightP l) {e : Edt} (hk : (e.kind == 3) = true) (hl : l.length ≤ 28) (hw : (keptF (getF l e.node e.field) e).length ≤ 28) (hf : e.field.size ≤ 300) (hv : e.value.size ≤ 300) : rightF (stepF l e) = 1 := by
  have hg := hR.good
  have hs := hR.srt
  refine right_of ?_ (step_srt hs e) ?_
  · unfold stepF
    rw [hk, if_pos rfl]
    split
    · rw [List.length_set]; omega
    · rw [insAt_len]; omega
  · intro x hx
    cases hh : rHit l e
    · have hst : stepF l e = insAt l (rPos l e) (setW (tgt e) (wrF [] e)) := by simp [stepF, hk, hh]
      rw [hst, insAt, List.mem_append, List.mem_append, List.mem_singleton] at hx
      rcases hx with (hx | hx) | hx
      · exact hg x (List.mem_of_mem_take hx)
      · rw [hx]
        exact good_wr (W := []) ⟨List.Pairwise.nil, List.Pairwise.nil⟩ (fun m hm => by simp at hm) (by simp [keptF]) hf hv
      · exact hg x (List.mem_of_mem_drop hx)
    · have hst : stepF l e = l.set (rPos l e) (setW (rAt l (rPos l e)) (wrF (rAt l (rPos l e)).w e)) := by simp [stepF, hk, hh]
      simp only [rHit, bsHit, Bool.and_eq_true, decide_eq_true_eq] at hh
      have hlt : rPos l e < l.length := hh.1
      have h0 : cmpReg (rAt l (rPos l e)) (tgt e) = 0 := by
        have := hh.2
        rw [cAt_rAt _ hh.1] at this
        exact this
      rw [hst] at hx
      generalize rPos l e = p at *
      rcases List.mem_or_eq_of_mem_set hx with h1 | h1
      · exact hg x h1
      · have hkey := (keyB_eq _ _ _).1 ((keyB_cmp _ e).2 h0)
        have hga := getF_at hs hlt
        rw [hkey.1, hkey.2] at hga
        rw [hga] at hw
        have hgp := hg _ (List.getElem_mem hlt)
        rw [← rAt_lt hlt] at hgp
        have hws := wOk_srt hgp.2.2.2
        rw [h1]
        exact good_wr hws.1 hws.2 hw hgp.2.2.1 hv
end Go.Proofs.Ytgohmphhgglmbaa

set_option linter.unusedVariables false
set_option linter.unusedSimpArgs false
namespace Go.Proofs.Ytgohmphhgglmbaa
open Go Go.RowKit Am

/-- The reference's write lays a mark before the first one that comes after it. -/
def insL : List Wrt → Wrt → List Wrt
  | [], m => [m]
  | x :: l, m => if aheadF m x then m :: x :: l else x :: insL l m
theorem kept_cons (x : Wrt) (l : List Wrt) (e : Edt) : keptF (x :: l) e = if wr1F e x then keptF l e else x :: keptF l e := by
  unfold keptF
  rw [List.filter_cons]
  cases wr1F e x <;> rfl
theorem wr1_has {e : Edt} (hv : Val e.deps) (x : Wrt) : wr1F e x = (((x.id.a.toList == e.id.a.toList) && (x.id.n == e.id.n)) || hasF e.deps x.id) := by
  rw [← cont_has hv]
  rfl
theorem rwGo_t {e : Edt} (hv : Val e.deps) : ∀ l : List Wrt, rwGoF l e true = keptF l e
  | [] => rfl
  | x :: l => by
    rw [rwGoF, kept_cons, wr1_has hv, rwGo_t hv l]
    rfl
theorem rwGo_f {e : Edt} (hv : Val e.deps) : ∀ l : List Wrt, rwGoF l e false = insL (keptF l e) (mkW e)
  | [] => rfl
  | x :: l => by
    rw [rwGoF, kept_cons, wr1_has hv, rwGo_t hv l, rwGo_f hv l]
    split
    · rfl
    · rfl
theorem insL_at (m : Wrt) : ∀ (K : List Wrt) (p : Nat), p ≤ K.length → (∀ a ∈ K.take p, aheadF m a = false) → (∀ b ∈ K.drop p, aheadF m b = true) → insL K m = insAt K p m
  | [], p, h, _, _ => by have : p = 0 := by simpa using h
                         subst this; rfl
  | x :: K, 0, h, _, h2 => by
    rw [insL, h2 x (by simp)]
    rfl
  | x :: K, p + 1, h, h1, h2 => by
    rw [insL, h1 x (by simp)]
    simp only [Bool.false_eq_true, if_false]
    rw [insL_at m K p (by simpa using h) (fun a ha => h1 a (by simp [ha])) (fun b hb => h2 b (by simpa using hb))]
    rfl
theorem rwrite_wr {W : List Wrt} {e : Edt} (hs : SrtW W) (hv : Val e.deps) : rwriteF W e = wrF W e := by
  have h1 := (wr_srt hs e).1
  have hp := (bsF_le (cAt (fun m => cmpW m (mkW e)) (keptF W e)) 0 (keptF W e).length (Nat.zero_le _)).2
  unfold rwriteF
  rw [rwGo_f hv]
  unfold wrF at h1 ⊢
  generalize bsF (cAt (fun m => cmpW m (mkW e)) (keptF W e)) 0 (keptF W e).length = p at *
  rw [insAt, List.append_assoc, List.pairwise_append] at h1
  refine insL_at _ _ _ hp (fun a ha => ?_) (fun b hb => ?_)
  · have h2 := h1.2.2 a ha (mkW e) (by simp)
    have h3 := (ordW.an _ _).1 h2
    rw [ahead_cmp]
    simp; omega
  · have h2 := h1.2.1
    rw [List.singleton_append, List.pairwise_cons] at h2
    rw [ahead_cmp]
    simpa using h2.1 b hb
theorem fsK_key (x : Rgs) (y : Idt) (f : ByteArray) (w : List Wrt) (l : List Rgs) : fsK x ⟨y, f, w⟩ l = if keyB x y f then l else x :: l := rfl
theorem fs_true {r : Rgs} : ∀ {l : List Rgs}, (∀ x ∈ l, keyB x r.id r.f = false) → fsF l r true = l
  | [], _ => rfl
  | x :: l, h => by
    have h1 := h x (by simp)
    simp only [fsF, Bool.not_true, Bool.false_and, Bool.false_eq_true, if_false]
    rw [fs_true fun y hy => h y (by simp [hy])]
    obtain ⟨y, f, w⟩ := r
    rw [fsK_key, h1]
    rfl
theorem fs_at {r : Rgs} : ∀ (L : List Rgs) (p : Nat), (∀ x ∈ L.take p, firstF x r = true ∧ keyB x r.id r.f = false) → fsF L r false = L.take p ++ fsF (L.drop p) r false
  | [], p, _ => by simp
  | x :: L, 0, _ => rfl
  | x :: L, p + 1, h => by
    have h1 := h x (by simp)
    rw [fsF, h1.1]
    simp only [Bool.not_true, Bool.and_false, Bool.false_eq_true, if_false]
    rw [fs_at L p fun y hy => h y (by simp [hy])]
    obtain ⟨y, f, w⟩ := r
    rw [fsK_key, h1.2]
    rfl
theorem step_eq {L : List Rgs} {e : Edt} (hs : Srt L) (hw : ∀ x ∈ L, SrtW x.w) (hv : Val e.deps) : rstepF L e = stepF L e := by
  unfold rstepF
  cases hk : (e.kind == 3)
  · simp [stepF, hk]
  · rw [if_pos rfl]
    have l1 := (srt_lb hs e).1
    have hp : rPos L e ≤ L.length := (bsF_le _ 0 L.length (Nat.zero_le _)).2
    have hc : ∀ x, cmpReg x (rgE L e) = cmpReg x (tgt e) := fun x => rfl
    have htake : ∀ x ∈ L.take (rPos L e), firstF x (rgE L e) = true ∧ keyB x (rgE L e).id (rgE L e).f = false := by
      intro x hx
      obtain ⟨i, hi, rfl⟩ := List.mem_take_iff_getElem.1 hx
      have h1 := l1 i (by omega)
      rw [rAt_lt (by omega)] at h1
      refine ⟨?_, keyB_ne (by omega)⟩
      rw [first_cmp, hc]
      simpa using h1
    rw [fs_at L _ htake]
    cases hh : rHit L e
    · have l2 := srt_gt hs hh
      have hst : stepF L e = insAt L (rPos L e) (setW (tgt e) (wrF [] e)) := by simp [stepF, hk, hh]
      have hgn : getF L e.node e.field = [] := getF_none _ _ L fun k hkl => by
        rcases Nat.lt_or_ge k (rPos L e) with h1 | h1
        · have := l1 k h1
          exact keyB_ne (by omega)
        · have := l2 k h1 hkl
          exact keyB_ne (by omega)
      have hr : rgE L e = setW (tgt e) (wrF [] e) := by
        rw [rgE, hgn, rwrite_wr ⟨List.Pairwise.nil, List.Pairwise.nil⟩ hv]
        rfl
      have hdrop : ∀ x ∈ L.drop (rPos L e), firstF x (rgE L e) = false ∧ keyB x (rgE L e).id (rgE L e).f = false := by
        intro x hx
        obtain ⟨i, hi, rfl⟩ := List.mem_drop_iff_getElem.1 hx
        have h1 := l2 (rPos L e + i) (by omega) (by omega)
        rw [rAt_lt (by omega)] at h1
        refine ⟨?_, keyB_ne (by omega)⟩
        rw [first_cmp, hc]
        simp; omega
      rw [hst, insAt, ← hr, List.append_assoc]
      congr 1
      cases hd : L.drop (rPos L e) with
      | nil => rfl
      | cons x l =>
        rw [hd] at hdrop
        rw [fsF, (hdrop x (by simp)).1]
        simp only [Bool.not_false, Bool.and_true, if_true]
        rw [fs_true fun y hy => (hdrop y (by simp [hy])).2]
        have h2 := (hdrop x (by simp)).2
        generalize rgE L e = r at *
        obtain ⟨y, f, w⟩ := r
        rw [fsK_key, h2]
        rfl
    · have hst : stepF L e = L.set (rPos L e) (setW (rAt L (rPos L e)) (wrF (rAt L (rPos L e)).w e)) := by simp [stepF, hk, hh]
      simp only [rHit, bsHit, Bool.and_eq_true, decide_eq_true_eq] at hh
      have hlt : rPos L e < L.length := hh.1
      have h0 : cmpReg (rAt L (rPos L e)) (tgt e) = 0 := by
        have := hh.2
        rw [cAt_rAt _ hh.1] at this
        exact this
      have hkb := (keyB_cmp _ e).2 h0
      have hkey := (keyB_eq _ _ _).1 hkb
      have hga := getF_at hs hlt
      rw [hkey.1, hkey.2] at hga
      have hsw := hw _ (List.getElem_mem hlt)
      rw [← rAt_lt hlt] at hsw
      have hr : rgE L e = setW (rAt L (rPos L e)) (wrF (rAt L (rPos L e)).w e) := by
        rw [rgE, hga, rwrite_wr hsw hv, setW, hkey.1, hkey.2]
      have hrest : ∀ x ∈ L.drop (rPos L e + 1), keyB x (rgE L e).id (rgE L e).f = false := by
        intro x hx
        obtain ⟨i, hi, rfl⟩ := List.mem_drop_iff_getElem.1 hx
        have h1 := hs (rPos L e) (rPos L e + 1 + i) (by omega) (by omega)
        rw [rAt_lt (i := rPos L e + 1 + i) (by omega)] at h1
        refine keyB_ne fun h2 => ?_
        have h3 := (ordReg.z _ _).1 h2
        have h4 := (ordReg.z _ _).1 h0
        have h5 := (ordReg.z _ _).2 (h4.trans h3.symm)
        omega
      rw [hst, List.set_eq_take_append_cons_drop, if_pos hlt, ← hr]
      congr 1
      rw [List.drop_eq_getElem_cons hlt, fsF, first_cmp, hc, ← rAt_lt hlt, h0]
      simp only [Int.lt_irrefl, decide_false, Bool.not_false, Bool.and_true, if_true]
      rw [fs_true hrest]
      have h2 : keyB (rAt L (rPos L e)) (rgE L e).id (rgE L e).f = true := hkb
      generalize rgE L e = r at *
      obtain ⟨y, f, w⟩ := r
      rw [fsK_key, h2]
      rfl
theorem step_srtW {L : List Rgs} (e : Edt) (hw : ∀ x ∈ L, SrtW x.w) : ∀ x ∈ stepF L e, SrtW x.w := by
  unfold stepF
  split
  · split
    · intro x hx
      rcases List.mem_or_eq_of_mem_set hx with h1 | h1
      · exact hw x h1
      · subst h1
        rename_i hh
        simp only [rHit, bsHit, Bool.and_eq_true, decide_eq_true_eq] at hh
        have hlt : rPos L e < L.length := hh.1
        have := hw _ (List.getElem_mem hlt)
        rw [← rAt_lt hlt] at this
        exact wr_srt this e
    · intro x hx
      simp only [insAt, List.mem_append, List.mem_singleton] at hx
      rcases hx with (hx | hx) | hx
      · exact hw x (List.mem_of_mem_take hx)
      · subst hx
        exact wr_srt ⟨List.Pairwise.nil, List.Pairwise.nil⟩ e
      · exact hw x (List.mem_of_mem_drop hx)
  · exact hw
theorem rfold_app : ∀ (es : List Edt) {L : List Rgs}, Srt L → (∀ x ∈ L, SrtW x.w) → (∀ e ∈ es, Val e.deps) → rfoldF L es = appF L es
  | [], L, _, _, _ => rfl
  | e :: es, L, hs, hw, hv => by
    show rfoldF (rstepF L e) es = appF (stepF L e) es
    rw [step_eq hs hw (hv e (by simp))]
    exact rfold_app es (step_srt hs e) (step_srtW e hw) fun d hd => hv d (by simp [hd])
theorem RightP.srtW {l : List Rgs} (h : RightP l) : ∀ x ∈ l, SrtW x.w := fun x hx => (wOk_srt (h.good x hx).2.2.2).1
theorem fine_val {es : List Edt} (h : fineF es = true) : ∀ e ∈ es, Val e.deps := by
  simp only [fineF, fineE, Bool.and_eq_true, List.all_eq_true] at h
  intro e he
  exact val_of_chk (by simpa using (h.1 e he).2)
end Go.Proofs.Ytgohmphhgglmbaa
