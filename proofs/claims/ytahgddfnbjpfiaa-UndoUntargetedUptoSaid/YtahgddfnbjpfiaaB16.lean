/- Texts that the law's proof stands on: V21, V23, V24, V25, V22, V26, V37, V38. -/
import Derived.Test.YtahgddfnbjpfiaaB15
import Derived.Test.YtahgddfnbjpfiaaB13
import Derived.Lib.Bytealg
import Derived.Laws.Externs
set_option linter.unusedVariables false
set_option linter.unusedSimpArgs false
set_option maxRecDepth 100000
namespace Go.Proofs.Ytahgddfnbjpfiaa
open Go Go.RowKit Am

structure Idt where
  a : ByteArray
  n : Int
def encId (x : Idt) : List V := [.s (.string x.a), .s (.int .i64 x.n)]
def encIds (v : List Idt) : V := .sl (v.map encId)
theorem encId_len (x : Idt) : (encId x).length = 2 := rfl
theorem encId_rows (v : List Idt) : (∀ r ∈ v.map encId, r.length = 2) = True := rows_map _ _ _ encId_len
def uptoF : List Idt → ByteArray → Int
  | [], _ => 0
  | x :: v, a => if x.a.toList == a.toList then x.n else uptoF v a
def uptoS : Fspec := fun _ ds r => ∃ (v : List Idt) (a : ByteArray), v.length ≤ 1099511627776 ∧ ds = [encIds v, .s (.string a)] ∧ r = .s (.int .i64 (uptoF v a))

theorem upto_sound {plain : TypeId → Bool} {Γ : FuncId → Option Fspec} {Δ : FuncId → Option Pt} (hE : EnvOk ⟨Try.prog, plain, Γ, Δ, fun _ => none, 0⟩) : Sound Try.prog 25 uptoS := by
  refine sound_of_awp hE Try.func25 rfl (by kernel_rfl) ?_
  rintro Φ ds r ⟨v, a, hv, rfl, rfl⟩
  refine ⟨by simp [Try.f25], ?_⟩
  unfold st0 encIds
  refine W.out (E := ⟨Try.prog, plain, Γ, Δ, Φ, _⟩) ?_
  refine go trivial ?_
  refine x_loop (fun σ => ∃ i : Nat, i ≤ v.length ∧ σ.t 0 = .sl (v.map encId) ∧ σ.t 1 = .s (.string a) ∧ σ.t 5 = .s (.int .i64 i) ∧ uptoF (v.drop i) a = uptoF v a) (fun σ => v.length - ix (σ.t 5)) ⟨0, Nat.zero_le _, ?_, ?_, ?_, rfl⟩ ?_
  · exact sx trivial
  · exact sx trivial
  · exact sx trivial
  rintro t h n ⟨i, hi, h0, h1, h5, hf⟩
  simp only at h0 h1 h5
  refine go (And.intro h0 (And.intro h1 h5)) ?_
  refine x_condP (sv trivial) (fun hc => ?_) (fun hc => ?_)
  · have hi' : i < v.length := by omega
    have hr := encId_rows v
    rw [List.drop_eq_getElem_cons hi', uptoF] at hf
    refine go (And.intro h0 (And.intro h1 (And.intro h5 (And.intro hr @encId.eq_1)))) ?_
    refine x_cond (sv trivial) (fun hc => ?_) (fun hc => ?_)
    · refine go (And.intro h0 (And.intro h1 (And.intro h5 (And.intro hr @encId.eq_1)))) ?_
      rw [if_pos hc] at hf
      refine x_done (x_out (sr (And.intro @Try.f25.eq_1 (hf).symm)) (by simp) (by simp) rfl)
    · refine go (And.intro h0 (And.intro h1 (And.intro h5 (And.intro hr @encId.eq_1)))) ?_
      rw [if_neg (by simp [hc])] at hf
      refine ⟨⟨i + 1, by omega, ?_, ?_, ?_, hf⟩, ?_⟩
      · exact sx h0
      · exact sx h1
      · exact sx (And.intro h5 @cast_succ)
      · exact so h5
  · have e : i = v.length := by omega
    subst e
    rw [List.drop_length] at hf
    refine go (And.intro h0 (And.intro h1 h5)) ?_
    have hz : uptoF v a = 0 := by rw [← hf]; rfl
    refine x_done (x_out (sr (And.intro @Try.f25.eq_1 hz)) (by simp) (by simp) rfl)
end Go.Proofs.Ytahgddfnbjpfiaa

set_option linter.unusedVariables false
set_option linter.unusedSimpArgs false
set_option maxRecDepth 100000
namespace Go.Proofs.Ytahgddfnbjpfiaa
open Go Go.RowKit Am

def cmpB (a b : ByteArray) : Int := Lib.compareBytes a.data.toList b.data.toList
def cmpT : Pt := fun _ args σ K => ∃ a b : ByteArray, args = [.s (.string a), .s (.string b)] ∧ K (.s (.int .i64 (cmpB a b))) σ
theorem cmpT_sound : SoundT Try.prog 57 cmpT := by
  rintro c Φ h n μ w args vals t K hc hΦ H hl ha ⟨a, b, rfl, hK⟩
  have h0 := ha 0 (by simp)
  have h1 := ha 1 (by simp)
  have e0 : vals.getD 0 Go.undef = .string a := h0.s_eq.1
  have e1 : vals.getD 1 Go.undef = .string b := h1.s_eq.1
  have hv : vals = #[.string a, .string b] := by
    apply Array.ext
    · simpa using hl
    · intro i g1 g2
      have g3 : i < 2 := by simpa using g2
      have : i = 0 ∨ i = 1 := by omega
      rcases this with rfl | rfl
      · simpa [g1] using e0
      · simpa [g1] using e1
  subst hv
  refine .inr ⟨.int .i64 (cmpB a b), w, ?_, _, h, n, μ, hK, H, Ext.refl _ _ _ _, .s _ rfl⟩
  rw [run_callFunc_extern Try.func57 (by kernel_rfl) (by kernel_rfl) (by kernel_rfl) (e := Extern.BytealgCompare.compare) (by kernel_rfl), Lib.run_compareString]
  rfl
def compareS : Fspec := fun _ ds r => ∃ a b : ByteArray, ds = [.s (.string a), .s (.string b)] ∧ r = .s (.int .i64 (cmpB a b))
theorem compareString_sound {plain : TypeId → Bool} {Γ : FuncId → Option Fspec} {Δ : FuncId → Option Pt} (hE : EnvOk ⟨Try.prog, plain, Γ, Δ, fun _ => none, 0⟩) (hΔ : Δ 57 = some cmpT) : Sound Try.prog 52 compareS := by
  refine sound_of_awp hE Try.func52 rfl (by kernel_rfl) ?_
  rintro Φ ds r ⟨a, b, rfl, rfl⟩
  refine ⟨by simp [Try.f52], ?_⟩
  unfold st0
  refine W.out (E := ⟨Try.prog, plain, Γ, Δ, Φ, _⟩) ?_
  refine go trivial ?_
  refine x_callI rfl rfl rfl rfl (sv trivial) hΔ (sv trivial) ⟨a, b, rfl, ?_⟩
  refine go trivial ?_
  refine x_done (x_out (sr @Try.f52.eq_1) (by simp) (by simp) rfl)
theorem compare_sound {plain : TypeId → Bool} {Γ : FuncId → Option Fspec} {Δ : FuncId → Option Pt} (hE : EnvOk ⟨Try.prog, plain, Γ, Δ, fun _ => none, 0⟩) (g_compare : Γ 52 = some compareS) : Sound Try.prog 48 compareS := by
  refine sound_of_awp hE Try.func48 rfl (by kernel_rfl) ?_
  rintro Φ ds r ⟨a, b, rfl, rfl⟩
  refine ⟨by simp [Try.f48], ?_⟩
  unfold st0
  refine W.out (E := ⟨Try.prog, plain, Γ, Δ, Φ, _⟩) ?_
  refine go trivial ?_
  refine x_callN rfl rfl rfl rfl (sv trivial) g_compare (sv trivial) (se trivial) ⟨a, b, rfl, rfl⟩ rfl ?_
  refine go trivial ?_
  refine x_done (x_out (sr @Try.f48.eq_1) (by simp) (by simp) rfl)

def cmpI (x y : Int) : Int := if x < y then -1 else if y < x then 1 else 0
def orF : List Int → Int
  | [] => 0
  | x :: l => if x = 0 then orF l else x
end Go.Proofs.Ytahgddfnbjpfiaa

set_option linter.unusedVariables false
set_option linter.unusedSimpArgs false
set_option maxRecDepth 100000
set_option maxHeartbeats 4000000
namespace Go.Proofs.Ytahgddfnbjpfiaa
open Go Go.RowKit Am

theorem beq_eq_decide (a b : Int) : (a == b) = decide (a = b) := by by_cases h : a = b <;> simp [h]

def bsF (c : Nat → Int) (i j : Nat) : Nat := if i < j then (if c ((i + j) / 2) < 0 then bsF c ((i + j) / 2 + 1) j else bsF c i ((i + j) / 2)) else i
termination_by j - i
def cAt {α : Type} (cf : α → Int) (v : List α) (k : Nat) : Int := match v[k]? with
  | some x => cf x
  | none => 0
theorem cAt_lt {α : Type} (cf : α → Int) (v : List α) {k : Nat} (h : k < v.length) : cAt cf v k = cf v[k] := by simp [cAt, h]
def bsPos {α : Type} (cf : α → Int) (v : List α) : Nat := bsF (cAt cf v) 0 v.length
def bsHit {α : Type} (cf : α → Int) (v : List α) : Bool := decide (bsF (cAt cf v) 0 v.length < v.length) && decide (cAt cf v (bsF (cAt cf v) 0 v.length) = 0)
def bsS {α : Type} (enc : α → List V) : Fspec := fun Φ ds r => ∃ (v : List α) (tv : V) (cf : α → Int) (S : List V → Value → Prop), v.length ≤ 1099511627776 ∧ (∀ h, expoA h tv = some tv) ∧ ds = [.sl (v.map enc), tv, .fv 2] ∧ Φ 2 = some S ∧ (∀ x ∈ v, S [.agg (enc x), tv] (.int .i64 (cf x))) ∧ r = .tup [.s (.int .i64 (bsF (cAt cf v) 0 v.length)), .s (.bool (bsHit cf v))]

theorem bsI_sound {plain : TypeId → Bool} {Γ : FuncId → Option Fspec} {Δ : FuncId → Option Pt} (hE : EnvOk ⟨Try.prog, plain, Γ, Δ, fun _ => none, 0⟩) : Sound Try.prog 46 (bsS encId) := by
  refine sound_of_awp hE Try.func46 rfl (by kernel_rfl) ?_
  rintro Φ ds r ⟨v, tv, cf, S, hv, htv, rfl, hS, hcf, rfl⟩
  refine ⟨by simp [Try.f46], ?_⟩
  unfold st0
  refine W.out (E := ⟨Try.prog, plain, Γ, Δ, Φ, _⟩) ?_
  have hr := encId_rows v
  refine go trivial ?_
  refine x_loop (fun σ => ∃ i j : Nat, i ≤ j ∧ j ≤ v.length ∧ σ.t 0 = .sl (v.map encId) ∧ σ.t 1 = tv ∧ σ.t 2 = .fv 2 ∧ σ.t 8 = .s (.int .i64 v.length) ∧ σ.t 9 = .s (.int .i64 i) ∧ σ.t 10 = .s (.int .i64 j) ∧ bsF (cAt cf v) i j = bsF (cAt cf v) 0 v.length) (fun σ => ix (σ.t 10) - ix (σ.t 9)) ⟨0, v.length, Nat.zero_le _, Nat.le_refl _, (sc trivial), (sc trivial), (sc trivial), (sc trivial), (sc trivial), (sc trivial), rfl⟩ ?_
  rintro t h n ⟨i, j, hij, hj, h0, h1, h2, h8, h9, h10, hf⟩
  simp only at h0 h1 h2 h8 h9 h10
  refine go (And.intro h0 (And.intro h1 (And.intro h2 (And.intro h8 (And.intro h9 h10))))) ?_
  refine x_condP (sv trivial) (fun hc => ?_) (fun hc => ?_)
  · have hi' : i < j := by omega
    have hm : (i + j) / 2 < v.length := by omega
    rw [bsF, if_pos hi', cAt_lt cf v hm] at hf
    refine go (And.intro h0 (And.intro h1 (And.intro h2 (And.intro h8 (And.intro h9 (And.intro h10 (And.intro hr @encId.eq_1))))))) ?_
    refine x_callV rfl rfl rfl rfl (sv (And.intro @encId.eq_1 htv)) hS (sv (And.intro @encId.eq_1 htv)) (se (And.intro @encId.eq_1 htv)) rfl (hcf _ (List.getElem_mem hm)) ?_
    by_cases hz : cf v[(i + j) / 2] < 0
    · rw [if_pos hz] at hf
      refine go (And.intro h0 (And.intro h1 (And.intro h2 (And.intro h8 (And.intro h9 (And.intro h10 (And.intro hr (And.intro hz @encId.eq_1)))))))) ?_
      refine ⟨⟨(i + j) / 2 + 1, j, by omega, hj, (sc h0), (sc h1), (sc h2), (sc h8), (sc @cast_succ), (sc h10), hf⟩, ?_⟩
      exact so (And.intro h9 h10)
    · rw [if_neg hz] at hf
      refine go (And.intro h0 (And.intro h1 (And.intro h2 (And.intro h8 (And.intro h9 (And.intro h10 (And.intro hr (And.intro hz @encId.eq_1)))))))) ?_
      refine ⟨⟨i, (i + j) / 2, by omega, by omega, (sc h0), (sc h1), (sc h2), (sc h8), (sc h9), (sc trivial), hf⟩, ?_⟩
      exact so (And.intro h9 h10)
  · have e : i = j := by omega
    subst e
    rw [bsF, if_neg (by omega)] at hf
    by_cases hn : i < v.length
    · have hn' : (i : Int) < (v.length : Int) := by omega
      have hb : bsHit cf v = decide (cf v[i] = 0) := by simp [bsHit, ← hf, hn, cAt_lt cf v hn]
      refine go (And.intro h0 (And.intro h1 (And.intro h2 (And.intro h8 (And.intro h9 (And.intro h10 (And.intro hr (And.intro hn' @encId.eq_1)))))))) ?_
      refine x_callV rfl rfl rfl rfl (sv (And.intro @encId.eq_1 htv)) hS (sv (And.intro @encId.eq_1 htv)) (se (And.intro @encId.eq_1 htv)) rfl (hcf _ (List.getElem_mem hn)) ?_
      refine go (And.intro h0 (And.intro h1 (And.intro h2 (And.intro h8 (And.intro h9 (And.intro h10 (And.intro hr (And.intro hn' @encId.eq_1)))))))) ?_
      rw [hb, ← hf]
      refine x_done (x_outT (sr (And.intro @Try.f46.eq_1 @beq_eq_decide)) rfl)
    · have hn' : ¬ ((i : Int) < (v.length : Int)) := by omega
      have hb : bsHit cf v = false := by simp [bsHit, ← hf, hn]
      refine go (And.intro h0 (And.intro h1 (And.intro h2 (And.intro h8 (And.intro h9 (And.intro h10 (And.intro hr (And.intro hn' @encId.eq_1)))))))) ?_
      rw [hb, ← hf]
      refine x_done (x_outT (sr @Try.f46.eq_1) rfl)
end Go.Proofs.Ytahgddfnbjpfiaa

set_option linter.unusedVariables false
set_option linter.unusedSimpArgs false
set_option maxRecDepth 100000
set_option maxHeartbeats 4000000
namespace Go.Proofs.Ytahgddfnbjpfiaa
open Go Go.RowKit Am

def plac1S : Fspec := fun _ ds r => ∃ (x : Idt) (a : ByteArray), ds = [.agg (encId x), .s (.string a)] ∧ r = .s (.int .i64 (cmpB x.a a))
theorem plac1_sound {plain : TypeId → Bool} {Γ : FuncId → Option Fspec} {Δ : FuncId → Option Pt} (hE : EnvOk ⟨Try.prog, plain, Γ, Δ, fun _ => none, 0⟩) (g_compare : Γ 48 = some compareS) : Sound Try.prog 47 plac1S := by
  refine sound_of_awp hE Try.func47 rfl (by kernel_rfl) ?_
  rintro Φ ds r ⟨x, a, rfl, rfl⟩
  refine ⟨by simp [Try.f47], ?_⟩
  unfold st0 encId
  refine W.out (E := ⟨Try.prog, plain, Γ, Δ, Φ, _⟩) ?_
  refine go trivial ?_
  refine x_callN rfl rfl rfl rfl (sv trivial) g_compare (sv trivial) (se trivial) ⟨x.a, a, rfl, rfl⟩ rfl ?_
  refine go trivial ?_
  refine x_done (x_out (sr @Try.f47.eq_1) (by simp) (by simp) rfl)
def plPos (v : List Idt) (a : ByteArray) : Nat := bsF (cAt (fun x => cmpB x.a a) v) 0 v.length
def plHit (v : List Idt) (a : ByteArray) : Bool := bsHit (fun x => cmpB x.a a) v
def placS : Fspec := fun _ ds r => ∃ (v : List Idt) (a : ByteArray), v.length ≤ 1099511627776 ∧ ds = [encIds v, .s (.string a)] ∧ r = .tup [.s (.int .i64 (plPos v a)), .s (.bool (plHit v a))]
def bsIS : Fspec := bsS encId
theorem plac_sound {plain : TypeId → Bool} {Γ : FuncId → Option Fspec} {Δ : FuncId → Option Pt} (hE : EnvOk ⟨Try.prog, plain, Γ, Δ, fun _ => none, 0⟩) (g_plac1 : Γ 47 = some plac1S) (g_bs : Γ 46 = some (bsS encId)) : Sound Try.prog 42 placS := by
  refine sound_of_awp hE Try.func42 rfl (by kernel_rfl) ?_
  rintro Φ ds r ⟨v, a, hv, rfl, rfl⟩
  refine ⟨by simp [Try.f42], ?_⟩
  unfold st0 encIds
  refine W.out (E := ⟨Try.prog, plain, Γ, Δ, Φ, _⟩) ?_
  refine go trivial ?_
  refine x_callN rfl rfl rfl rfl (sv trivial) g_bs (sv trivial) (se trivial) ⟨v, .s (.string a), (fun x => cmpB x.a a), _, hv, fun _ => rfl, rfl, (by simp only [phi, closS, allO, List.getElem?_cons_zero, List.getElem?_cons_succ, g_plac1]; rfl), (by intro x _; exact ⟨x, a, rfl, rfl⟩), rfl⟩ rfl ?_
  refine go trivial ?_
  refine x_done (x_outT (sr (And.intro @Try.f42.eq_1 (And.intro @plPos.eq_1 @plHit.eq_1))) rfl)
end Go.Proofs.Ytahgddfnbjpfiaa

set_option linter.unusedVariables false
set_option linter.unusedSimpArgs false
set_option maxRecDepth 100000
namespace Go.Proofs.Ytahgddfnbjpfiaa
open Go Go.RowKit Am

def hasF (v : List Idt) (x : Idt) : Bool := decide (1 ≤ x.n) && decide (x.n ≤ uptoF v x.a)
def hasS : Fspec := fun _ ds r => ∃ (v : List Idt) (x : Idt), v.length ≤ 1099511627776 ∧ ds = [encIds v, .agg (encId x)] ∧ r = .s (.bool (hasF v x))
theorem has_sound {plain : TypeId → Bool} {Γ : FuncId → Option Fspec} {Δ : FuncId → Option Pt} (hE : EnvOk ⟨Try.prog, plain, Γ, Δ, fun _ => none, 0⟩) (g_upto : Γ 25 = some uptoS) : Sound Try.prog 15 hasS := by
  refine sound_of_awp hE Try.func15 rfl (by kernel_rfl) ?_
  rintro Φ ds r ⟨v, x, hv, rfl, rfl⟩
  refine ⟨by simp [Try.f15], ?_⟩
  unfold st0 encIds
  refine W.out (E := ⟨Try.prog, plain, Γ, Δ, Φ, _⟩) ?_
  by_cases hc : 1 ≤ x.n
  · refine go (And.intro hc @encId.eq_1) ?_
    refine x_callD rfl rfl rfl rfl rfl (sv trivial) g_upto (sv trivial) (se trivial) ⟨v, x.a, hv, rfl, rfl⟩ rfl ?_
    refine go (And.intro hc @encId.eq_1) ?_
    refine x_done (x_out (sr (And.intro @Try.f15.eq_1 (And.intro @hasF.eq_1 hc))) (by simp) (by simp) rfl)
  · refine go (And.intro hc @encId.eq_1) ?_
    refine x_done (x_out (sr (And.intro @Try.f15.eq_1 (And.intro @hasF.eq_1 hc))) (by simp) (by simp) rfl)
end Go.Proofs.Ytahgddfnbjpfiaa

set_option linter.unusedVariables false
set_option linter.unusedSimpArgs false
set_option maxRecDepth 100000
set_option maxHeartbeats 4000000
namespace Go.Proofs.Ytahgddfnbjpfiaa
open Go Go.RowKit Am

def nAt (v : List Idt) (k : Nat) : Int := match v[k]? with
  | some x => x.n
  | none => 0
theorem nAt_lt (v : List Idt) {k : Nat} (h : k < v.length) : nAt v k = v[k].n := by simp [nAt, h]
def contF (v : List Idt) (x : Idt) : Bool := plHit v x.a && (decide (1 ≤ x.n) && decide (x.n ≤ nAt v (plPos v x.a)))
def contS : Fspec := fun _ ds r => ∃ (v : List Idt) (x : Idt), v.length ≤ 1099511627776 ∧ ds = [encIds v, .agg (encId x)] ∧ r = .s (.bool (contF v x))
theorem cont_sound {plain : TypeId → Bool} {Γ : FuncId → Option Fspec} {Δ : FuncId → Option Pt} (hE : EnvOk ⟨Try.prog, plain, Γ, Δ, fun _ => none, 0⟩) (g_plac : Γ 42 = some placS) : Sound Try.prog 34 contS := by
  refine sound_of_awp hE Try.func34 rfl (by kernel_rfl) ?_
  rintro Φ ds r ⟨v, x, hv, rfl, rfl⟩
  refine ⟨by simp [Try.f34], ?_⟩
  unfold st0 encIds
  refine W.out (E := ⟨Try.prog, plain, Γ, Δ, Φ, _⟩) ?_
  have hr := encId_rows v
  refine go @encId.eq_1 ?_
  refine x_callN rfl rfl rfl rfl (sv trivial) g_plac (sv trivial) (se trivial) ⟨v, x.a, hv, rfl, rfl⟩ rfl ?_
  cases hb : plHit v x.a
  · refine go (And.intro hb @encId.eq_1) ?_
    refine x_done (x_out (sr (And.intro @Try.f34.eq_1 (And.intro @contF.eq_1 hb))) (by simp) (by simp) rfl)
  · have hp : plPos v x.a < v.length := by
      simp only [plHit, bsHit, Bool.and_eq_true, decide_eq_true_eq] at hb
      exact hb.1
    by_cases hc : 1 ≤ x.n
    · refine go (And.intro hb (And.intro hc (And.intro hr @encId.eq_1))) ?_
      refine x_done (x_out (sr (And.intro @Try.f34.eq_1 (And.intro @contF.eq_1 (And.intro hb (And.intro hc ((nAt_lt v hp))))))) (by simp) (by simp) rfl)
    · refine go (And.intro hb (And.intro hc (And.intro hr @encId.eq_1))) ?_
      refine x_done (x_out (sr (And.intro @Try.f34.eq_1 (And.intro @contF.eq_1 (And.intro hb hc)))) (by simp) (by simp) rfl)

end Go.Proofs.Ytahgddfnbjpfiaa

set_option linter.unusedVariables false
set_option linter.unusedSimpArgs false
set_option maxRecDepth 100000
set_option maxHeartbeats 8000000
namespace Go.Proofs.Ytahgddfnbjpfiaa
open Go Go.RowKit Am

theorem okRowsId (l : List Idt) : okRows 2 (l.map encId) := okRows_map encId l 2 fun a => ⟨rfl, by simp [encId, cellish]⟩
theorem deepId (l : List Idt) : ∀ r ∈ l.map encId, ∀ q ∈ r, deepc q = true := deep_map encId l fun a => by simp [encId, deepc]
/-- The reference's Add, from one place on. -/
def raF : List Idt → Idt → Bool → List Idt
  | [], x, laid => if laid then [] else [x]
  | y :: v, x, laid => if y.a.toList == x.a.toList then raF v (if x.n < y.n then y else x) laid
      else if (!(Op.bytesLess y.a.toList x.a.toList || (y.a.toList == x.a.toList))) && !laid then x :: y :: raF v x true
      else y :: raF v x laid
def raddF (v : List Idt) (x : Idt) : List Idt := raF v x false
def raddS : Fspec := fun _ ds r => ∃ (v : List Idt) (x : Idt), v.length ≤ 1048576 ∧ ds = [encIds v, .agg (encId x)] ∧ r = .sl ((raddF v x).map encId)
theorem encId_okRow (x : Idt) : okRows 2 [encId x] := okRowsId [x]
theorem map_snoc {α β : Type} (f : α → β) (l : List α) (x : α) : (l ++ [x]).map f = l.map f ++ [f x] := by simp
theorem radd_sound {plain : TypeId → Bool} {Γ : FuncId → Option Fspec} {Δ : FuncId → Option Pt} (hE : EnvOk ⟨Try.prog, plain, Γ, Δ, fun _ => none, 0⟩) : Sound Try.prog 36 raddS := by
  refine sound_of_awp hE Try.func36 rfl (by kernel_rfl) ?_
  rintro Φ ds r ⟨v, x, hv, rfl, rfl⟩
  refine ⟨by simp [Try.f36], ?_⟩
  unfold st0 encIds
  refine W.out (E := ⟨Try.prog, plain, Γ, Δ, Φ, _⟩) ?_
  have hr := encId_rows v
  refine go trivial ?_
  refine x_loop (fun σ => ∃ (i : Nat) (b : Nat) (cap : Nat) (out : List Idt) (sp : List (List Am.V)) (y : Idt) (laid : Bool), σ.t 0 = .sl (v.map encId) ∧ σ.t 3 = .ptr 0 0 0 ∧ σ.t 5 = .loc b 0 out.length cap ∧ σ.t 6 = .s (.bool laid) ∧ σ.t 7 = .s (.int .i64 i) ∧ σ.h 0 = some ⟨2, [encId y], true⟩ ∧ σ.h b = some ⟨2, out.map encId ++ sp, true⟩ ∧ b < σ.n ∧ 0 < b ∧ i ≤ v.length ∧ out.length ≤ cap ∧ cap ≤ out.length + sp.length ∧ out.length ≤ 2 * i ∧ out ++ raF (v.drop i) y laid = raddF v x) (fun σ => v.length - ix (σ.t 7)) ⟨0, 1, 0, [], [], x, false, (by first | assumption | exact sxa trivial), (by first | assumption | exact sxa trivial), (by first | assumption | exact sxa trivial), (by first | assumption | exact sxa trivial), (by first | assumption | exact sxa trivial), (by first | assumption | exact sxa trivial), (by first | assumption | exact sxa trivial), (by first | omega | (dsimp only; omega) | exact soa trivial | omega | (simp; done)), (by first | omega | (dsimp only; omega) | exact soa trivial | omega | (simp; done)), (by first | rfl | omega | assumption | (simp [*]; done)), (by first | rfl | omega | assumption | (simp [*]; done)), (by first | rfl | omega | assumption | (simp [*]; done)), (by first | rfl | omega | assumption | (simp [*]; done)), (by first | rfl | omega | assumption | (simp [*]; done))⟩ ?_
  rintro t h n ⟨i, b, cap, out, sp, y, laid, h0, h3, h5, h6, h7, hh0, hhb, hn1, hn2, hf0, hf1, hf2, hf3, hf4⟩
  simp only at h0 h3 h5 h6 h7 hh0 hhb hn1 hn2
  refine go (And.intro h0 (And.intro h3 (And.intro h5 (And.intro h6 h7)))) ?_
  refine x_condP (sv (And.intro h0 (And.intro h3 (And.intro h5 (And.intro h6 h7))))) (fun hc => ?_) (fun hc => ?_)
  · have hi : i < v.length := by omega
    rw [List.drop_eq_getElem_cons hi, raF] at hf4
    generalize hmm : v[i] = m at *
    have e1 : (b = n) = False := by simp <;> omega
    have e2 : (b = n + 1) = False := by simp <;> omega
    have e3 : (n = b) = False := by simp <;> omega
    have e4 : (n + 1 = b) = False := by simp <;> omega
    have e5 : (0 = n) = False := by simp <;> omega
    have e6 : (0 = n + 1) = False := by simp
    have e7 : (0 = b) = False := by simp <;> omega
    have e8 : (n + 1 + 1 = n + 1) = False := by simp
    have e9 : (n + 1 = n + 1 + 1) = False := by simp
    have d1 : (n + 1 = n + 1 + 1 + 1) = False := by simp <;> omega
    have d2 : (n + 1 + 1 + 1 = n + 1) = False := by simp <;> omega
    have d3 : (0 = n + 1 + 1) = False := by simp
    have d4 : (0 = n + 1 + 1 + 1) = False := by simp
    cases c1 : (m.a.toList == y.a.toList)
    · cases c2 : Op.bytesLess m.a.toList y.a.toList
      · cases laid
        · rw [c1, c2] at hf4
          simp only [Bool.or_false, Bool.not_false, Bool.true_and, if_true, Bool.false_eq_true, if_false] at hf4
          refine go (And.intro h0 (And.intro h3 (And.intro h5 (And.intro h6 (And.intro h7 (And.intro hh0 (And.intro hhb (And.intro hr (And.intro hmm (And.intro @encId.eq_1 (And.intro c1 (And.intro c2 (And.intro e1 (And.intro e2 (And.intro e3 (And.intro e4 (And.intro e5 (And.intro e6 e7)))))))))))))))))) ?_
          refine x_appendO rfl rfl rfl rfl rfl rfl (sv (And.intro h5 (And.intro hhb (And.intro @encId.eq_1 (And.intro e1 (And.intro e2 (And.intro e3 (And.intro e4 (And.intro e5 (And.intro e6 e7)))))))))) (by decide) (sc (And.intro h5 (And.intro hhb (And.intro @encId.eq_1 (And.intro e1 (And.intro e2 (And.intro e3 (And.intro e4 (And.intro e5 (And.intro e6 e7)))))))))) (sv (And.intro h5 (And.intro hhb (And.intro @encId.eq_1 (And.intro e1 (And.intro e2 (And.intro e3 (And.intro e4 (And.intro e5 (And.intro e6 e7)))))))))) (sx (And.intro h5 (And.intro hhb (And.intro @encId.eq_1 (And.intro e1 (And.intro e2 (And.intro e3 (And.intro e4 (And.intro e5 (And.intro e6 e7)))))))))) (by first | rfl | (simp; done) | (simp [spare_len]; omega)) (by first | omega | (simp; done) | (simp [spare_len]; omega)) (by first | omega | (simp; done) | (simp [spare_len]; omega)) (sx (And.intro h5 (And.intro hhb (And.intro @encId.eq_1 (And.intro e1 (And.intro e2 (And.intro e3 (And.intro e4 (And.intro e5 (And.intro e6 e7)))))))))) (encId_okRow y) (by first | omega | (simp; done) | (simp [spare_len]; omega)) (fun cap' hcap' => ?_)
          refine go (And.intro h0 (And.intro h3 (And.intro h5 (And.intro h6 (And.intro h7 (And.intro hh0 (And.intro hhb (And.intro hr (And.intro hmm (And.intro @encId.eq_1 (And.intro e1 (And.intro e2 (And.intro e3 (And.intro e4 (And.intro e5 (And.intro e6 (And.intro e7 (And.intro e8 e9)))))))))))))))))) ?_
          have hc2 : out.length + 1 ≤ cap' := hcap'
          have hfin : (out ++ [y] ++ [m]) ++ raF (v.drop (i + 1)) y true = raddF v x := by rw [List.append_assoc, List.append_assoc]; exact hf4
          have hl1 : (out ++ [y] ++ [m]).length = out.length + 1 + 1 := by simp
          have hs0 := spare_len 2 (cap' - (out.length + [encId y].length))
          clear hf4
          refine x_appendO rfl rfl rfl rfl rfl rfl (sv (And.intro @encId.eq_1 (And.intro e1 (And.intro e2 (And.intro e3 (And.intro e4 (And.intro e5 (And.intro e6 (And.intro e7 (And.intro e8 (And.intro e9 (And.intro d1 (And.intro d2 (And.intro d3 d4)))))))))))))) (by decide) (sc (And.intro @encId.eq_1 (And.intro e1 (And.intro e2 (And.intro e3 (And.intro e4 (And.intro e5 (And.intro e6 (And.intro e7 (And.intro e8 (And.intro e9 (And.intro d1 (And.intro d2 (And.intro d3 d4)))))))))))))) (sv (And.intro @encId.eq_1 (And.intro e1 (And.intro e2 (And.intro e3 (And.intro e4 (And.intro e5 (And.intro e6 (And.intro e7 (And.intro e8 (And.intro e9 (And.intro d1 (And.intro d2 (And.intro d3 d4)))))))))))))) (sx (And.intro @encId.eq_1 (And.intro e1 (And.intro e2 (And.intro e3 (And.intro e4 (And.intro e5 (And.intro e6 (And.intro e7 (And.intro e8 (And.intro e9 (And.intro d1 (And.intro d2 (And.intro d3 d4)))))))))))))) (by first | rfl | (simp; done) | (simp [spare_len]; omega)) (by first | omega | (simp; done) | (simp [spare_len]; omega)) (by first | omega | (simp; done) | (simp [spare_len]; omega)) (sx (And.intro @encId.eq_1 (And.intro e1 (And.intro e2 (And.intro e3 (And.intro e4 (And.intro e5 (And.intro e6 (And.intro e7 (And.intro e8 (And.intro e9 (And.intro d1 (And.intro d2 (And.intro d3 d4)))))))))))))) (encId_okRow m) (by first | omega | (simp; done) | (simp [spare_len]; omega)) (fun cap' hcap' => ?_)
          refine go (And.intro h0 (And.intro h3 (And.intro h5 (And.intro h6 (And.intro h7 (And.intro hh0 (And.intro hhb (And.intro hr (And.intro hmm (And.intro @encId.eq_1 (And.intro e1 (And.intro e2 (And.intro e3 (And.intro e4 (And.intro e5 (And.intro e6 (And.intro e7 (And.intro e8 (And.intro e9 (And.intro d1 (And.intro d2 (And.intro d3 d4)))))))))))))))))))))) ?_
          have hc3 : out.length + 1 + 1 ≤ cap' := hcap'
          have hs1 := spare_len 2 (cap' - (out.length + 1 + 1))
          (refine ⟨⟨i + 1, n + 1 + 1 + 1, cap', out ++ [y] ++ [m], spare 2 (cap' - (out.length + 1 + 1)), y, true, ?_, ?_, ?_, ?_, ?_, ?_, ?_, ?_, ?_, ?_, ?_, ?_, ?_, ?_⟩, ?_⟩ <;> (first | omega | (dsimp only; omega) | (first | omega | assumption | (simp [*]; done)) | exact sxa (And.intro @cast_succ (And.intro @encId.eq_1 (And.intro hl1 (And.intro @map_snoc (And.intro e1 (And.intro e2 (And.intro e3 (And.intro e4 (And.intro e5 (And.intro e6 (And.intro e7 (And.intro e8 (And.intro e9 (And.intro d1 (And.intro d2 (And.intro d3 d4)))))))))))))))) | exact soa trivial))
        · rw [c1, c2] at hf4
          simp only [Bool.or_false, Bool.not_false, Bool.not_true, Bool.and_false, if_true, Bool.false_eq_true, if_false] at hf4
          have hfin : (out ++ [m]) ++ raF (v.drop (i + 1)) y true = raddF v x := by rw [List.append_assoc]; exact hf4
          have hl1 : (out ++ [m]).length = out.length + 1 := by simp
          refine go (And.intro h0 (And.intro h3 (And.intro h5 (And.intro h6 (And.intro h7 (And.intro hh0 (And.intro hhb (And.intro hr (And.intro hmm (And.intro @encId.eq_1 (And.intro c1 (And.intro c2 (And.intro e1 (And.intro e2 (And.intro e3 (And.intro e4 (And.intro e5 (And.intro e6 e7)))))))))))))))))) ?_
          refine x_appendO rfl rfl rfl rfl rfl rfl (sv (And.intro h5 (And.intro hhb (And.intro @encId.eq_1 (And.intro e1 (And.intro e2 (And.intro e3 (And.intro e4 (And.intro e5 (And.intro e6 e7)))))))))) (by decide) (sc (And.intro h5 (And.intro hhb (And.intro @encId.eq_1 (And.intro e1 (And.intro e2 (And.intro e3 (And.intro e4 (And.intro e5 (And.intro e6 e7)))))))))) (sv (And.intro h5 (And.intro hhb (And.intro @encId.eq_1 (And.intro e1 (And.intro e2 (And.intro e3 (And.intro e4 (And.intro e5 (And.intro e6 e7)))))))))) (sx (And.intro h5 (And.intro hhb (And.intro @encId.eq_1 (And.intro e1 (And.intro e2 (And.intro e3 (And.intro e4 (And.intro e5 (And.intro e6 e7)))))))))) (by first | rfl | (simp; done) | (simp [spare_len]; omega)) (by first | omega | (simp; done) | (simp [spare_len]; omega)) (by first | omega | (simp; done) | (simp [spare_len]; omega)) (sx (And.intro h5 (And.intro hhb (And.intro @encId.eq_1 (And.intro e1 (And.intro e2 (And.intro e3 (And.intro e4 (And.intro e5 (And.intro e6 e7)))))))))) (encId_okRow m) (by first | omega | (simp; done) | (simp [spare_len]; omega)) (fun cap' hcap' => ?_)
          refine go (And.intro h0 (And.intro h3 (And.intro h5 (And.intro h6 (And.intro h7 (And.intro hh0 (And.intro hhb (And.intro hr (And.intro hmm (And.intro @encId.eq_1 (And.intro e1 (And.intro e2 (And.intro e3 (And.intro e4 (And.intro e5 (And.intro e6 e7)))))))))))))))) ?_
          have hc2 : out.length + 1 ≤ cap' := hcap'
          have hs1 := spare_len 2 (cap' - (out.length + 1))
          clear hf4
          (refine ⟨⟨i + 1, n + 1, cap', out ++ [m], spare 2 (cap' - (out.length + 1)), y, true, ?_, ?_, ?_, ?_, ?_, ?_, ?_, ?_, ?_, ?_, ?_, ?_, ?_, ?_⟩, ?_⟩ <;> (first | omega | (dsimp only; omega) | (first | omega | assumption | (simp [*]; done)) | exact sxa (And.intro @cast_succ (And.intro @encId.eq_1 (And.intro hl1 (And.intro @map_snoc (And.intro e1 (And.intro e2 (And.intro e3 (And.intro e4 (And.intro e5 (And.intro e6 e7)))))))))) | exact soa trivial))
      · rw [c1, c2] at hf4
        simp only [Bool.or_false, Bool.not_true, Bool.false_and, Bool.false_eq_true, if_false] at hf4
        have hfin : (out ++ [m]) ++ raF (v.drop (i + 1)) y laid = raddF v x := by rw [List.append_assoc]; exact hf4
        have hl1 : (out ++ [m]).length = out.length + 1 := by simp
        refine go (And.intro h0 (And.intro h3 (And.intro h5 (And.intro h6 (And.intro h7 (And.intro hh0 (And.intro hhb (And.intro hr (And.intro hmm (And.intro @encId.eq_1 (And.intro c1 (And.intro c2 (And.intro e1 (And.intro e2 (And.intro e3 (And.intro e4 (And.intro e5 (And.intro e6 e7)))))))))))))))))) ?_
        refine x_appendO rfl rfl rfl rfl rfl rfl (sv (And.intro h5 (And.intro hhb (And.intro @encId.eq_1 (And.intro e1 (And.intro e2 (And.intro e3 (And.intro e4 (And.intro e5 (And.intro e6 e7)))))))))) (by decide) (sc (And.intro h5 (And.intro hhb (And.intro @encId.eq_1 (And.intro e1 (And.intro e2 (And.intro e3 (And.intro e4 (And.intro e5 (And.intro e6 e7)))))))))) (sv (And.intro h5 (And.intro hhb (And.intro @encId.eq_1 (And.intro e1 (And.intro e2 (And.intro e3 (And.intro e4 (And.intro e5 (And.intro e6 e7)))))))))) (sx (And.intro h5 (And.intro hhb (And.intro @encId.eq_1 (And.intro e1 (And.intro e2 (And.intro e3 (And.intro e4 (And.intro e5 (And.intro e6 e7)))))))))) (by first | rfl | (simp; done) | (simp [spare_len]; omega)) (by first | omega | (simp; done) | (simp [spare_len]; omega)) (by first | omega | (simp; done) | (simp [spare_len]; omega)) (sx (And.intro h5 (And.intro hhb (And.intro @encId.eq_1 (And.intro e1 (And.intro e2 (And.intro e3 (And.intro e4 (And.intro e5 (And.intro e6 e7)))))))))) (encId_okRow m) (by first | omega | (simp; done) | (simp [spare_len]; omega)) (fun cap' hcap' => ?_)
        refine go (And.intro h0 (And.intro h3 (And.intro h5 (And.intro h6 (And.intro h7 (And.intro hh0 (And.intro hhb (And.intro hr (And.intro hmm (And.intro @encId.eq_1 (And.intro e1 (And.intro e2 (And.intro e3 (And.intro e4 (And.intro e5 (And.intro e6 e7)))))))))))))))) ?_
        have hc2 : out.length + 1 ≤ cap' := hcap'
        have hs1 := spare_len 2 (cap' - (out.length + 1))
        clear hf4
        (refine ⟨⟨i + 1, n + 1, cap', out ++ [m], spare 2 (cap' - (out.length + 1)), y, laid, ?_, ?_, ?_, ?_, ?_, ?_, ?_, ?_, ?_, ?_, ?_, ?_, ?_, ?_⟩, ?_⟩ <;> (first | omega | (dsimp only; omega) | (first | omega | assumption | (simp [*]; done)) | exact sxa (And.intro @cast_succ (And.intro @encId.eq_1 (And.intro hl1 (And.intro @map_snoc (And.intro e1 (And.intro e2 (And.intro e3 (And.intro e4 (And.intro e5 (And.intro e6 e7)))))))))) | exact soa trivial))
    · rw [c1] at hf4
      simp only [if_true] at hf4
      by_cases c3 : y.n < m.n
      · rw [if_pos c3] at hf4
        refine go (And.intro h0 (And.intro h3 (And.intro h5 (And.intro h6 (And.intro h7 (And.intro hh0 (And.intro hhb (And.intro hr (And.intro hmm (And.intro @encId.eq_1 (And.intro c1 (And.intro c3 (And.intro e1 (And.intro e2 (And.intro e3 (And.intro e4 (And.intro e5 (And.intro e6 e7)))))))))))))))))) ?_
        (refine ⟨⟨i + 1, b, cap, out, sp, m, laid, ?_, ?_, ?_, ?_, ?_, ?_, ?_, ?_, ?_, ?_, ?_, ?_, ?_, ?_⟩, ?_⟩ <;> (first | omega | (dsimp only; omega) | ((exact hf4)) | exact sxa (And.intro @cast_succ (And.intro @encId.eq_1 (And.intro e1 (And.intro e2 (And.intro e3 (And.intro e4 (And.intro e5 (And.intro e6 e7)))))))) | exact soa trivial))
      · rw [if_neg c3] at hf4
        refine go (And.intro h0 (And.intro h3 (And.intro h5 (And.intro h6 (And.intro h7 (And.intro hh0 (And.intro hhb (And.intro hr (And.intro hmm (And.intro @encId.eq_1 (And.intro c1 (And.intro c3 (And.intro e1 (And.intro e2 (And.intro e3 (And.intro e4 (And.intro e5 (And.intro e6 e7)))))))))))))))))) ?_
        (refine ⟨⟨i + 1, b, cap, out, sp, y, laid, ?_, ?_, ?_, ?_, ?_, ?_, ?_, ?_, ?_, ?_, ?_, ?_, ?_, ?_⟩, ?_⟩ <;> (first | omega | (dsimp only; omega) | ((exact hf4)) | exact sxa (And.intro @cast_succ (And.intro @encId.eq_1 (And.intro e1 (And.intro e2 (And.intro e3 (And.intro e4 (And.intro e5 (And.intro e6 e7)))))))) | exact soa trivial))
  · have e : i = v.length := by omega
    subst e
    rw [List.drop_length, raF] at hf4
    have e5 : (0 = n) = False := by simp <;> omega
    have e1 : (b = n) = False := by simp <;> omega
    have e2 : (b = n + 1) = False := by simp <;> omega
    have e3 : (n = b) = False := by simp <;> omega
    have e7 : (0 = b) = False := by simp <;> omega
    cases laid
    · refine go (And.intro h0 (And.intro h3 (And.intro h5 (And.intro h6 (And.intro h7 (And.intro hh0 (And.intro hhb (And.intro @encId.eq_1 (And.intro e1 (And.intro e2 (And.intro e3 (And.intro e5 e7)))))))))))) ?_
      refine x_appendO rfl rfl rfl rfl rfl rfl (sv (And.intro h5 (And.intro hhb (And.intro @encId.eq_1 (And.intro e1 (And.intro e2 (And.intro e3 (And.intro e5 e7)))))))) (by decide) (sc (And.intro h5 (And.intro hhb (And.intro @encId.eq_1 (And.intro e1 (And.intro e2 (And.intro e3 (And.intro e5 e7)))))))) (sv (And.intro h5 (And.intro hhb (And.intro @encId.eq_1 (And.intro e1 (And.intro e2 (And.intro e3 (And.intro e5 e7)))))))) (sx (And.intro h5 (And.intro hhb (And.intro @encId.eq_1 (And.intro e1 (And.intro e2 (And.intro e3 (And.intro e5 e7)))))))) (by first | rfl | (simp; done) | (simp [spare_len]; omega)) (by first | omega | (simp; done) | (simp [spare_len]; omega)) (by first | omega | (simp; done) | (simp [spare_len]; omega)) (sx (And.intro h5 (And.intro hhb (And.intro @encId.eq_1 (And.intro e1 (And.intro e2 (And.intro e3 (And.intro e5 e7)))))))) (encId_okRow y) (by first | omega | (simp; done) | (simp [spare_len]; omega)) (fun cap' hcap' => ?_)
      have hc2 : out.length + 1 ≤ cap' := hcap'
      refine go (And.intro h0 (And.intro h3 (And.intro h5 (And.intro h6 (And.intro h7 (And.intro hh0 (And.intro hhb (And.intro @encId.eq_1 (And.intro e1 (And.intro e2 (And.intro e3 (And.intro e5 e7)))))))))))) ?_
      simp only [Bool.false_eq_true, if_false] at hf4
      rw [← hf4, map_snoc]
      have hl : (out ++ [y]).length = out.length + 1 := by simp
      have hdp : ∀ r ∈ out.map encId ++ [encId y], ∀ q ∈ r, deepc q = true := by have := deepId (out ++ [y]); rwa [map_snoc] at this
      refine x_done (x_outL (sp := spare 2 (cap' - (out.length + 1))) (sr (And.intro @Try.f36.eq_1 (And.intro h5 @encId.eq_1))) (sx trivial) (by simp) hdp)
    · refine go (And.intro h0 (And.intro h3 (And.intro h5 (And.intro h6 (And.intro h7 (And.intro hh0 hhb)))))) ?_
      simp only [if_true, List.append_nil] at hf4
      rw [← hf4]
      refine x_done (x_outL (sp := sp) (sr (And.intro @Try.f36.eq_1 h5)) (sx hhb) (by simp) (deepId _))
end Go.Proofs.Ytahgddfnbjpfiaa

set_option linter.unusedVariables false
set_option linter.unusedSimpArgs false
set_option maxRecDepth 100000
set_option maxHeartbeats 8000000
namespace Go.Proofs.Ytahgddfnbjpfiaa
open Go Go.RowKit Am

theorem radd_len : ∀ (v : List Idt) (x : Idt) (laid : Bool), (raF v x laid).length ≤ v.length + 1
  | [], x, laid => by cases laid <;> simp [raF]
  | y :: v, x, laid => by
    rw [raF]
    split
    · have := radd_len v (if x.n < y.n then y else x) laid
      simp only [List.length_cons]; omega
    · split
      · have h2 : ∀ (v : List Idt) (x : Idt), (raF v x true).length ≤ v.length := by
          intro v
          induction v with
          | nil => intro x; simp [raF]
          | cons y v ih =>
            intro x
            rw [raF]
            split
            · have := ih (if x.n < y.n then y else x); simp only [List.length_cons]; omega
            · simp only [Bool.not_true, Bool.and_false, Bool.false_eq_true, if_false, List.length_cons]
              have := ih x
              omega
        have := h2 v x
        simp only [List.length_cons]; omega
      · have := radd_len v x laid
        simp only [List.length_cons]; omega
def rmaxF (a b : List Idt) : List Idt := b.foldl raddF a
def rmaxS : Fspec := fun _ ds r => ∃ a b : List Idt, a.length ≤ 500000 ∧ b.length ≤ 500000 ∧ ds = [encIds a, encIds b] ∧ r = .sl ((rmaxF a b).map encId)
theorem rmax_sound {plain : TypeId → Bool} {Γ : FuncId → Option Fspec} {Δ : FuncId → Option Pt} (hE : EnvOk ⟨Try.prog, plain, Γ, Δ, fun _ => none, 0⟩) (g_radd : Γ 36 = some raddS) : Sound Try.prog 24 rmaxS := by
  refine sound_of_awp hE Try.func24 rfl (by kernel_rfl) ?_
  rintro Φ ds r ⟨a, b, ha, hb, rfl, rfl⟩
  refine ⟨by simp [Try.f24], ?_⟩
  unfold st0 encIds
  refine W.out (E := ⟨Try.prog, plain, Γ, Δ, Φ, _⟩) ?_
  have hrb := encId_rows b
  refine go trivial ?_
  refine x_append rfl rfl rfl rfl rfl rfl (sv trivial) (by decide) (sc trivial) (sv trivial) (sx trivial) (okRowsId a) (sx trivial) (by first | rfl | (simp; done)) (by first | rfl | (simp; done)) (by first | omega | (simp; done) | (simp [spare_len]; omega)) (by first | omega | (simp; done) | (simp [spare_len]; omega)) (by first | omega | (simp; done) | (simp [spare_len]; omega)) (fun cap' hcap' => ?_)
  have hcap2 : a.length ≤ cap' := by simpa using hcap'
  have tk : (a.map encId ++ spare 2 (cap' - a.length)).take a.length = a.map encId := List.take_left' (by simp)
  have ln : (a.length ≤ (a.map encId ++ spare 2 (cap' - a.length)).length) = True := by simp
  have hx1 : ∀ h d, allO (allO (expo h d)) (a.map encId) = some (a.map encId) := fun h d => allO_rows h d (deepId a)
  refine go trivial ?_
  refine x_loopF 5 (.sl (a.map encId)) (fun σ => ∃ (i : Nat) (out : List Idt), σ.t 1 = .sl (b.map encId) ∧ σ.t 5 = .sl (out.map encId) ∧ σ.t 6 = .s (.int .i64 i) ∧ i ≤ b.length ∧ out.length ≤ 500000 + i ∧ rmaxF out (b.drop i) = rmaxF a b) (fun σ => b.length - ix (σ.t 6)) (se (And.intro tk (And.intro ln hx1))) (fun h2 hold => ⟨0, a, (by first | assumption | exact sxa trivial), (by first | assumption | exact sxa trivial), (by first | assumption | exact sxa trivial), (by first | rfl | omega | assumption | (simp [*]; done)), (by first | rfl | omega | assumption | (simp [*]; done)), (by first | rfl | omega | assumption | (simp [*]; done))⟩) ?_
  rintro t h n ⟨i, out, h1, h5, h6, hf0, hf1, hf2⟩
  simp only at h1 h5 h6
  refine go (And.intro h1 (And.intro h5 h6)) ?_
  refine x_condP (sv (And.intro h1 (And.intro h5 h6))) (fun hc => ?_) (fun hc => ?_)
  · have hi : i < b.length := by omega
    rw [List.drop_eq_getElem_cons hi, rmaxF, List.foldl_cons] at hf2
    have hl2 := radd_len out b[i] false
    generalize hmm : b[i] = m at *
    refine go (And.intro h1 (And.intro h5 (And.intro h6 (And.intro hrb (And.intro hmm @encId.eq_1))))) ?_
    refine x_callS rfl rfl rfl rfl (sv @encId.eq_1) g_radd (sv @encId.eq_1) (se @encId.eq_1) ⟨out, m, by omega, rfl, rfl⟩ (by simp) (by simp [touchA, touch]) ?_
    have hl3 : (raddF out m).length ≤ out.length + 1 := hl2
    refine go (And.intro h1 (And.intro h5 (And.intro h6 (And.intro hrb (And.intro hmm @encId.eq_1))))) ?_
    (refine ⟨⟨i + 1, raddF out m, ?_, ?_, ?_, ?_, ?_, ?_⟩, ?_⟩ <;> (first | omega | (dsimp only; omega) | (first | omega | assumption | (simp [*]; done)) | exact sxa @cast_succ | exact soa trivial))
  · have e : i = b.length := by omega
    subst e
    rw [List.drop_length] at hf2
    have hf' : out = rmaxF a b := hf2
    rw [← hf']
    refine go (And.intro h1 (And.intro h5 h6)) ?_
    refine x_done (x_outV (sr (And.intro @Try.f24.eq_1 h5)) (by simp) (by simp) rfl)
end Go.Proofs.Ytahgddfnbjpfiaa
